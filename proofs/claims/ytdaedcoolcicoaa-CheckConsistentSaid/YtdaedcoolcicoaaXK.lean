/- The closed evaluator, part K: functions are evaluated rightly. -/
import Derived.Test.YtdaedcoolcicoaaXJ
namespace Go.X
noncomputable section
open Go Go.RowKit
variable {w0 w w' : World} {φ φ' : Phi} {h h' : AH} {P : Program} {n : Nat} {t : T Value}

/-- The marks are come to. -/
def aLeave : List Nat → AH → Option AH
  | [], h => some h
  | d :: ds, h => match h.m.get d with
    | some .dfr => aLeave ds { h with m := h.m.set d none }
    | _ => none
def aRes1 (P : Program) (n : Nat) (t : T Value) (h : AH) : ResultVar → Option Value
  | .tmp k => if k < n then some ((t.get k).getD undef) else none
  | .cell k T => if k < n then (match t.get k with
    | some (.pointer (some a)) => aLoad P T a h
    | _ => none) else none
def aResL (P : Program) (n : Nat) (t : T Value) (h : AH) : List ResultVar → Option (List Value)
  | [] => some []
  | x :: l => match aRes1 P n t h x, aResL P n t h l with
    | some v, some m => some (v :: m)
    | _, _ => none
def aRes (P : Program) (n : Nat) (t : T Value) (h : AH) (l : List ResultVar) : Option Value := match aResL P n t h l with
  | some [v] => some v
  | some l => some (.tuple ⟨l⟩)
  | none => none
def resF (a : Array Value) : ResultVar → Sem Value
  | .tmp t => pure (a.getD t undef)
  | .cell b T => do loadVar T (← asAddr (a.getD b undef))
theorem res1_ok (r : R w0 φ h w) {a : Array Value} (f : FR φ n t a) {x : ResultVar} {v : Value} (hs : aRes1 P n t h x = some v) :
    ∃ v', (resF a x).run P w = .ok v' w ∧ VR φ v v' := by
  cases x with
  | tmp k =>
    simp only [aRes1] at hs
    split at hs
    · cases hs; exact ⟨_, rfl, f.at k ‹_›⟩
    · cases hs
  | cell k T =>
    simp only [aRes1] at hs
    split at hs
    · rename_i hk
      split at hs
      · rename_i ad hg
        have hv := f.at k hk
        rw [hg] at hv
        simp only [Option.getD_some] at hv
        obtain ⟨i, hi, _, e⟩ := hv.ptr_inv
        obtain ⟨v', h1, h2⟩ := run_loadVar_at (P := P) r hi hs
        refine ⟨v', ?_, h2⟩
        simp only [resF, e, asAddr, Sem.run_bind, Sem.run_pure, Result.andThen_ok]
        exact h1
      · cases hs
    · cases hs
theorem res_ok (r : R w0 φ h w) {fn : Func} {a : Array Value} (f : FR φ n t a) {v : Value} (hs : aRes P n t h fn.results.toList = some v) : ∃ v', (results fn a).run P w = .ok v' w ∧ VR φ v v' := by
  have key : ∀ (l : List ResultVar) {m : List Value}, aResL P n t h l = some m → ∃ m', (l.mapM (m := Sem) (resF a)).run P w = .ok m' w ∧ LR φ m m' := by
    intro l
    induction l with
    | nil => intro m hm; simp only [aResL] at hm; cases hm; exact ⟨[], by simp, .nil⟩
    | cons x l ih =>
      intro m hm
      simp only [aResL] at hm
      split at hm
      · rename_i v1 m1 h1 h2
        cases hm
        obtain ⟨v', h3, h4⟩ := res1_ok r f h1
        obtain ⟨m', h5, h6⟩ := ih h2
        refine ⟨v' :: m', ?_, .cons h4 h6⟩
        rw [List.mapM_cons]
        simp only [Sem.run_bind, h3, Result.andThen_ok, h5, Sem.run_pure]
      · cases hm
  unfold aRes at hs
  have hm : ∃ m, aResL P n t h fn.results.toList = some m := by
    cases hq : aResL P n t h fn.results.toList with
    | none => rw [hq] at hs; simp at hs
    | some m => exact ⟨m, rfl⟩
  obtain ⟨m, hm⟩ := hm
  obtain ⟨m', h1, h2⟩ := key _ hm
  have hrun : (fn.results.mapM (m := Sem) (resF a)).run P w = .ok ⟨m'⟩ w := by
    have e : fn.results = ⟨fn.results.toList⟩ := rfl
    rw [e]
    have e2 : (⟨fn.results.toList⟩ : Array ResultVar).mapM (m := Sem) (resF a) =
      List.toArray <$> (fn.results.toList.mapM (m := Sem) (resF a)) := List.mapM_toArray
    rw [e2]
    have e3 : ∀ (z : Sem (List Value)), (List.toArray <$> z : Sem (Array Value)) = z >>= fun l => pure l.toArray := fun z => rfl
    rw [e3, Sem.run_bind, h1, Result.andThen_ok]
    rfl
  rw [hm] at hs
  have hres : (results fn a).run P w = .ok (if hh : (⟨m'⟩ : Array Value).size = 1 then (⟨m'⟩ : Array Value)[0] else .tuple ⟨m'⟩) w := by
    have hdef : results fn a = ((fn.results.mapM (m := Sem) (resF a)) >>= fun vs => pure (if hh : vs.size = 1 then vs[0] else .tuple vs)) := by
      unfold results
      congr 1
    rw [hdef]
    rw [Sem.run_bind, hrun, Result.andThen_ok]
    rfl
  split at hs
  · rename_i v1 e
    cases e
    cases hs
    obtain ⟨u, rfl, hu⟩ := h2.one_inv
    exact ⟨u, by rw [hres]; rfl, hu⟩
  · rename_i l hne e
    cases e
    cases hs
    have hl := h2.length
    have : ¬ (⟨m'⟩ : Array Value).size = 1 := by
      intro h1
      have h1' : m'.length = 1 := h1
      rw [← hl] at h1'
      match m, h1' with
      | [x], _ => exact hne x rfl
    exact ⟨_, by rw [hres, dif_neg this], .tuple' h2⟩
  · rename_i e; cases e

def putLoop (h : AH) (b : Nat) (o : AObj) : AH := { h with m := h.m.set b (some o) }
/-- A call, if one knows how to make calls. -/
def aFun (P : Program) (LF : Nat) (call : Call1) : Call1 := fun an h => match an with
    | .enter f args => (match P.funcs[f]? with
      | some fn => (match fn.body with
        | some c => if args.length ≤ fn.ntmps ∧ fn.ntmps ≤ T.top then bindL (aCode P (call) fn.ntmps LF none c (T.fill args 0 .e) [] h) fun o => (match o.ex with
            | .exit _ => none
            | _ => (match aLeave o.ds o.h with
              | some h' => (match aRes P fn.ntmps o.t h' fn.results.toList with
                | some v => some [(v, h')]
                | none => none)
              | none => none)) else none
        | none => none)
      | none => none)
    | .round b ts sz asg body => bindL (aCode P (call) sz LF (some b) asg ts [] h) fun o => (match o.ex with
        | .normal => (match o.h.m.get b with
          | some (.loop .ready pend ts' sz' ps asg' body') => bindL (aCode P (call) sz LF (some b) body o.t o.ds (putLoop o.h b (.loop .busy pend ts' sz' ps asg' body'))) fun o2 => (match o2.h.m.get b with
            | some (.loop _ _ ts2 sz2 ps2 asg2 body2) => (match o2.ex with
              | .normal => some [(.bool true, putLoop o2.h b (.loop .ready none ts2 sz2 ps2 asg2 body2))]
              | .ret => some [(.bool false, putLoop o2.h b (.loop .done (some .ret) ts2 sz2 ps2 asg2 body2))]
              | .exit id => some [(.bool false, putLoop o2.h b (.loop .done (some (.exit id)) ts2 sz2 ps2 asg2 body2))])
            | _ => none)
          | _ => none)
        | _ => none)
    | _ => none
def aRun (P : Program) (LF : Nat) : Nat → Call1
  | 0 => fun _ _ => none
  | k + 1 => aFun P LF (aRun P LF k)
/-- The same with an override. -/
def aRunW (ov : Call1 → Call1) (P : Program) (LF : Nat) : Nat → Call1
  | 0 => fun _ _ => none
  | k + 1 => ov (aFun P LF (aRunW ov P LF k))
theorem leaves_ok {fn : Func} {tmps : Array Value} {l : List (Value × AH)} {φ0 : Phi} {h0 : AH} {t : T Value} : ∀ (ds : List Nat) {ds' : List Deferred} {h h' : AH} {φ : Phi} {w : World} {v : Value}, aLeave ds h = some h' → DR φ ds ds' → R w0 φ h w → FR φ n t tmps → Nx φ0 φ h0 h →
    aRes P n t h' fn.results.toList = some v → (v, h') ∈ l →
    LeavesInM Fence.wide 0 P fn tmps (fun e w' => ∃ v', e = .returned v' ∧ ∃ v h', (v, h') ∈ l ∧ ∃ φ', Nx φ0 φ' h0 h' ∧ R w0 φ' h' w' ∧ VR φ' v v') ds' .returning w
  | [], ds', h, h', φ, w, v, hs, hd, hr, hf, nx, hv, hm => by
    cases hd
    simp only [aLeave] at hs; cases hs
    obtain ⟨v', h1, h2⟩ := res_ok hr hf hv
    exact ⟨v', h1, v', rfl, v, _, hm, φ, nx, hr, h2⟩
  | d :: ds, ds', h, h', φ, w, v, hs, hd, hr, hf, nx, hv, hm => by
    cases hd with
    | @cons _ i _ l' hb ht =>
      simp only [aLeave] at hs
      split at hs
      · rename_i ho
        have hw : w.heap[i.c]? = some (.deferred (some [])) := hr.dom _ _ _ hb ho
        have hlt : d < T.top := Nat.lt_of_lt_of_le (hr.lt _ _ hb).2 hr.nx
        refine ⟨by simp, .inl ⟨i.c, w.putObj i.c (.deferred none), rfl, run_takeDeferred hw, ?_⟩⟩
        have hlow : w0.heap.size ≤ i.c := hr.low _ _ _ hb ho rfl
        have hother : ∀ k, k ≠ i.c → (w.putObj i.c (.deferred none)).heap[k]? = w.heap[k]? := fun k hk => putW_other hk
        have r2 : R w0 φ { h with m := h.m.set d none } (w.putObj i.c (.deferred none)) := by
          have rd := hr.drop d hlt
          have free : ∀ b j o', φ b = some j → (h.m.set d none).get b = some o' → j.c ≠ i.c := by
            intro b j o' hj hgo hc
            rw [T.get_set hlt] at hgo
            by_cases e : b = d
            · rw [if_pos e] at hgo; cases hgo
            · rw [if_neg e] at hgo; exact e (hr.inj _ _ _ _ _ _ hj hb hgo ho hc)
          have hsz : (w.putObj i.c (.deferred none)).heap.size = w.heap.size := by simp
          exact ⟨fun b j o hj ho => (rd.dom b j o hj ho).world (hother _ (free b j o hj ho)), rd.low, rd.inj, fun b j hj => by rw [hsz]; exact rd.lt b j hj, rd.nx,
            rd.below.trans ⟨rfl, rfl, rfl, by rw [hsz]; exact Nat.le_refl _, fun k hk => hother k (by omega)⟩⟩
        exact leaves_ok ds hs ht r2 hf (nx.trans (Nx.drop hb hlt)) hv hm
      · cases hs
theorem fun_ok (hN : NoCount P) (hM : P.follows .mixedOrders = true) (LF : Nat) {call : Call1} (ih : CallsOk w0 P call) : CallsOk w0 P (aFun P LF call) := by
  intro an h l φ w nx hs hr hnr
  cases hnr with
  | val hv => simp [aFun] at hs
  | skip => simp [aFun] at hs
  | @enter f args args' hl =>
    refine ⟨?_, fun _ _ _ _ _ e => by cases e⟩
    intro f' args2 e
    cases e
    simp only [aFun] at hs
    split at hs
    · rename_i fn hf
      split at hs
      · rename_i c hb
        split at hs
        · rename_i hsz
          obtain ⟨l0, h0, hall⟩ := bindL_spec hs
          refine (callsIn_wide (n := 0)).1 (callsIn_of_wp_marks hf hb trivial ?_ rfl)
          have hfr : FR φ fn.ntmps (T.fill args 0 .e) (⟨args'⟩ ++ Array.replicate (fn.ntmps - (⟨args'⟩ : Array Value).size) undef) := by
            have hle : args'.length ≤ fn.ntmps := by rw [← hl.length]; exact hsz.1
            refine ⟨by simp; omega, hsz.2, fun k u hk => ?_⟩
            rw [T.get_fill (by have := hsz.1; have := hsz.2; omega)]
            by_cases hlt : k < args.length
            · rw [if_pos (by omega)]
              have hlt' : k < args'.length := by rw [← hl.length]; exact hlt
              rw [Array.getElem?_append_left (by simpa using hlt')] at hk
              obtain ⟨v', h1, h2⟩ := hl.get (List.getElem?_eq_getElem hlt)
              have : args'[k]? = some u := by simpa using hk
              rw [h1] at this; cases this
              simp only [Nat.sub_zero, List.getElem?_eq_getElem hlt, Option.getD_some]
              exact h2
            · rw [if_neg (by omega)]
              have hge : ¬ k < args'.length := by rw [← hl.length]; exact hlt
              rw [Array.getElem?_append_right (by simpa using hge), Array.getElem?_replicate] at hk
              split at hk
              · cases hk; exact .undef
              · cases hk
          refine wpIn_mono (code_ok hN hM ih none LF c (q := none) 0 h0 hr hfr .nil rfl) ?_
          rintro e a' w' ⟨o, ho, hex, φ1, nx1, r1, f1, d1⟩
          obtain ⟨k2, hk, hsub⟩ := hall _ ho
          obtain ⟨ex, t1, ds1, h1⟩ := o
          have fin : (match aLeave ds1 h1 with
            | some h' => (match aRes P fn.ntmps t1 h' fn.results.toList with
              | some v => some [(v, h')]
              | none => none)
            | none => none) = some k2 → LeavesInM Fence.wide 0 P fn a'.tmps (fun e w' => ∃ v', e = .returned v' ∧ ∃ v h', (v, h') ∈ l ∧ ∃ φ', Nx φ φ' h h' ∧ R w0 φ' h' w' ∧ VR φ' v v') a'.defers .returning w' := by
            intro hk
            split at hk
            · rename_i h2 hlv
              split at hk
              · rename_i v hv
                cases hk
                exact leaves_ok ds1 hlv d1 r1 f1 nx1 hv (hsub _ (List.mem_singleton.2 rfl))
              · cases hk
            · cases hk
          cases hex with
          | normal => exact fin hk
          | exit id => cases hk
          | ret => exact fin hk
        · cases hs
      · cases hs
    · cases hs
  | @round b i ts sz asg body fn arr hb hfr =>
    refine ⟨fun _ _ e => (by cases e), ?_⟩
    intro b' f' tmps' asg' body' e m
    cases e
    simp only [aFun] at hs
    obtain ⟨l0, h0, hall⟩ := bindL_spec hs
    refine roundIn_of_wpIn trivial ?_
    refine wpIn_mono (code_ok hN hM ih (some b) LF asg (q := some i.c) m h0 hr hfr .nil ⟨i, hb, rfl⟩) ?_
    rintro e a1 w1 ⟨o, ho, hex, φ1, nx1, r1, f1, d1⟩
    obtain ⟨k2, hk, hsub⟩ := hall _ ho
    obtain ⟨ex, t1, ds1, h1⟩ := o
    cases hex with
    | exit id => cases hk
    | ret => cases hk
    | normal =>
      dsimp only at hk
      split at hk
      · rename_i pend ts' sz' ps asg2 body2 hget
        have hb1 := nx1.le _ _ hb
        obtain ⟨fn0, arr0, df0, hw0, hfr0⟩ := r1.dom _ _ _ hb1 hget
        refine ⟨_, run_beginRound hw0 rfl, ?_⟩
        have r2 : R w0 φ1 (putLoop h1 b (.loop .busy pend ts' sz' ps asg2 body2)) (w1.putObj i.c (.loop ⟨.busy, pend, fn0, arr0, ⟨ps⟩, asg2, body2, df0⟩)) := r1.put hb1 hget rfl (fun w' hw => ⟨fn0, arr0, df0, hw, hfr0⟩)
        have nx2 : Nx φ1 φ1 h1 (putLoop h1 b (.loop .busy pend ts' sz' ps asg2 body2)) := Nx.put hb1 (Nat.lt_of_lt_of_le (r1.lt _ _ hb1).2 r1.nx)
        obtain ⟨l3, h3, hall3⟩ := bindL_spec hk
        refine wpIn_mono (code_ok hN hM ih (some b) LF body (q := some i.c) m h3 r2 f1 d1 ⟨i, hb1, rfl⟩) ?_
        rintro e a2 w2 ⟨o2, ho2, hex2, φ3, nx3, r3, f3, d3⟩
        obtain ⟨k4, hk4, hsub4⟩ := hall3 _ ho2
        obtain ⟨ex2, t2, ds2, h2⟩ := o2
        dsimp only at hk4
        split at hk4
        · rename_i st2 pd2 ts2 sz2 ps2 asg3 body3 hget2
          have hb3 := nx3.le _ _ hb1
          obtain ⟨fn1, arr1, df1, hw1, hfr1⟩ := r3.dom _ _ _ hb3 hget2
          have nxx : ∀ (o : AObj), Nx φ φ3 h (putLoop h2 b o) := fun o => ((nx1.trans nx2).trans nx3).trans (Nx.put hb3 (Nat.lt_of_lt_of_le (r3.lt _ _ hb3).2 r3.nx))
          have rr : ∀ (st : LoopState) (pd : Option Code), R w0 φ3 (putLoop h2 b (.loop st pd ts2 sz2 ps2 asg3 body3)) (w2.putObj i.c (.loop ⟨st, pd, fn1, arr1, ⟨ps2⟩, asg3, body3, df1⟩)) := fun st pd => r3.put hb3 hget2 rfl (fun w' hw => ⟨fn1, arr1, df1, hw, hfr1⟩)
          cases hex2 with
          | normal =>
            cases hk4
            exact ⟨_, _, run_endRound none hw1, _, rfl, _, _, hsub _ (hsub4 _ (List.mem_singleton.2 rfl)), φ3, nxx _, rr .ready none, .bool _⟩
          | exit id =>
            cases hk4
            exact ⟨_, _, run_endRound (some (.exit id)) hw1, _, rfl, _, _, hsub _ (hsub4 _ (List.mem_singleton.2 rfl)), φ3, nxx _, rr .done (some (.exit id)), .bool _⟩
          | ret =>
            cases hk4
            exact ⟨_, _, run_endRound (some .ret) hw1, _, rfl, _, _, hsub _ (hsub4 _ (List.mem_singleton.2 rfl)), φ3, nxx _, rr .done (some .ret), .bool _⟩
        · cases hk4
      · cases hk
theorem run_callsOk (hN : NoCount P) (hM : P.follows .mixedOrders = true) (LF : Nat) : ∀ k, CallsOk w0 P (aRun P LF k)
  | 0 => by intro an h l φ w nx hs; simp [aRun] at hs
  | k + 1 => fun_ok hN hM LF (run_callsOk hN hM LF k)
theorem runW_callsOk (hN : NoCount P) (hM : P.follows .mixedOrders = true) (LF : Nat) {ov : Call1 → Call1} (hov : ∀ call, CallsOk w0 P call → CallsOk w0 P (ov call)) : ∀ k, CallsOk w0 P (aRunW ov P LF k)
  | 0 => by intro an h l φ w nx hs; simp [aRunW] at hs
  | k + 1 => hov _ (fun_ok hN hM LF (runW_callsOk hN hM LF hov k))
end
end Go.X
