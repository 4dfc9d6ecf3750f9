/- Parts of the closed evaluator. -/
import Derived.Test.YtjhbbdfbngbjcaaGreatDoorZc
import Derived.RecoverIn
namespace Go.X
noncomputable section
open Go Go.RowKit
variable {w0 w w' : World} {φ φ' : Phi} {h h' : AH} {P : Program} {n : Nat} {t : T Value} {bs : List Deferred}
def aClosure (P : Program) (call : Call1) (LF : Nat) (f : FuncId) (args : List Value) (x : Value) (h : AH) : Option AH := match P.funcs[f]? with
 | some fn => (match fn.body, fn.results.toList with
  | some (.seq (.region _ ⟨[o]⟩ false) rest), [] => (match o.op, o.dst, o.guard with
   | .call ⟨.builtin .recover, ⟨[]⟩, _⟩, some d, none => (match Nat.ble args.length fn.ntmps, aPut fn.ntmps (T.fill args 0 .e) (some d) x with
    | true, some t1 => (match aCode P call fn.ntmps LF none rest t1 [] h with
     | some [⟨.normal, _, [], h2⟩] => some h2
     | some [⟨.ret, _, [], h2⟩] => some h2
     | _ => none)
    | _, _ => none)
   | _, _, _ => none)
  | _, _ => none)
 | none => none
theorem run_recover {ρ : Operand → Value} {o : Oper} {ts : Array TypeId} (h : o.op = .call ⟨.builtin .recover, ⟨[]⟩, ts⟩) (w : World) : (execOp ρ o).run P w = .ok .recover w := by
 simp only [execOp, h, resolve, Sem.run_bind, Sem.run_pure, Result.andThen_ok]
 rfl
theorem closure_ok (hN : NoCount P) (hM : P.follows .mixedOrders = true) {call : Call1} (hc : CallsOk w0 P call) (LF : Nat) {f : FuncId} {args args' : List Value} {x x' : Value} {u u2 : FrameMode} {h2 : AH} (hx : VR φ x x')
   (hu : (u = .returning ∧ u2 = .returning ∧ x' = .nilIface) ∨ (u = .panicking [{ v := x', recovered := false }] ∧ u2 = .panicking [{ v := x', recovered := true }]))
   (hs : aClosure P call LF f args x h = some h2) (hr : R w0 φ h w) (hl : LR φ args args') :
   CallsDIn Fence.wide 0 P f ⟨args'⟩ u w (fun e u' w' => (∃ v, e = .returned v) ∧ u' = u2 ∧ ∃ φ', Nx φ φ' h h2 ∧ R w0 φ' h2 w') := by
 unfold aClosure at hs
 split at hs
 · rename_i fn hf
   split at hs
   · rename_i id o rest hb hres
     split at hs
     · rename_i ts d hop hd hg
       split at hs
       · rename_i t1 hsz ht1
         have hcode : ∃ ex t2, (ex = .normal ∨ ex = .ret) ∧ aCode P call fn.ntmps LF none rest t1 [] h = some [⟨ex, t2, [], h2⟩] := by
           split at hs
           · rename_i t2 h3 e; cases hs; exact ⟨_, t2, .inl rfl, e⟩
           · rename_i t2 h3 e; cases hs; exact ⟨_, t2, .inr rfl, e⟩
           · cases hs
         obtain ⟨ex, t2, hex2, hcode⟩ := hcode
         refine callsDIn_of_wpSIn hf hb trivial (fun c₀ cs hc0 => ?_)
         refine wpSIn_seq (wpSIn_region ?_)
         show wpOpsSIn _ _ _ _ _ [0] _ _ _
         simp only [wpOpsSIn, show (⟨[o]⟩ : Array Oper)[0]? = some o from rfl]
         refine ⟨fun g _ => trivial, ?_⟩
         have hw : ∀ y, Region.wanted o y = true := fun y => by unfold Region.wanted; rw [hg]
         rw [if_pos (hw _), run_recover hop]
         dsimp only
         have f0 := FR.entry (φ := φ) (m := fn.ntmps) hl (Nat.le_of_ble_eq_true hsz)
         have key : ∀ x0 cs0, VR φ x x0 → cs0 = { c₀ with mode := u2 } :: cs → rest.wpSIn Fence.wide 0 P (bodyPostS P fn c₀ cs (fun e u' w' => (∃ v, e = .returned v) ∧ u' = u2 ∧ ∃ φ', Nx φ φ' h h2 ∧ R w0 φ' h2 w'))
             (Act.put { tmps := ⟨args'⟩ ++ Array.replicate (fn.ntmps - (⟨args'⟩ : Array Value).size) undef, defers := [] } o.dst x0) cs0 w := by
           intro x0 cs0 hx0 e
           subst e
           obtain ⟨f1, d1⟩ := put_ok (a := { tmps := ⟨args'⟩ ++ Array.replicate (fn.ntmps - (⟨args'⟩ : Array Value).size) undef, defers := [] }) f0 ht1 hx0
           rw [hd]
           refine wpSIn_of_wpIn rfl (wpIn_mono (code_ok hN hM hc none LF rest (q := none) 0 hcode hr f1 (bs := []) (by rw [d1]; exact .nil) rfl) ?_)
           rintro e a1 w1 ⟨o2, hm, hex, φ1, nx1, r1, ff1, dd1⟩
           cases List.mem_singleton.1 hm
           have hdef : a1.defers = [] := by generalize a1.defers = z at dd1; cases dd1; rfl
           obtain ⟨v, hv, _⟩ := res_okS (n := fn.ntmps) (t := .e) (a := a1.tmps) r1 (fn := fn) (v := .tuple ⟨[]⟩) (fun y hy => by rw [hres] at hy; cases hy) (by rw [hres]; rfl)
           have fin : a1.defers = [] ∧ ∃ u', ({ c₀ with mode := u2 } : Frame) :: cs = { c₀ with mode := u' } :: cs ∧ ∃ v, (results fn a1.tmps).run P w1 = .ok v w1 ∧ ((∃ v', Ending.returned v = .returned v') ∧ u' = u2 ∧ ∃ φ', Nx φ φ' h h2 ∧ R w0 φ' h2 w1) :=
             ⟨hdef, u2, rfl, v, hv, ⟨v, rfl⟩, rfl, φ1, nx1, r1⟩
           rcases hex2 with rfl | rfl
           · cases hex; exact fin
           · cases hex; exact fin
         rcases hu with ⟨h1, h3, h4⟩ | ⟨h1, h3⟩
         · have hrec : recoverD (c₀ :: cs) = none := by simp [recoverD, hc0, h1]
           rw [hrec]
           dsimp only
           refine key .nilIface _ (h4 ▸ hx) ?_
           rw [h3, ← h1, ← hc0]
         · have hrec : recoverD (c₀ :: cs) = some (x', { c₀ with mode := u2 } :: cs) := by simp [recoverD, hc0, h1, h3]
           rw [hrec]
           exact key x' _ hx rfl
       · cases hs
     · cases hs
   · cases hs
 · cases hs
structure DC (φ : Phi) (g : FuncId) (as : List Value) (bs : List Deferred) : Prop where
 ex : ∃ cap as1 as', bs = [{ target := .fn (.func g) cap, args := as1 }] ∧ as1 ++ cap = ⟨as'⟩ ∧ LR φ as as'
theorem DC.mono (le : Le φ φ') {g : FuncId} {as : List Value} (d : DC φ g as bs) : DC φ' g as bs := by
 obtain ⟨cap, as1, as', h1, h2, h3⟩ := d.ex
 exact ⟨cap, as1, as', h1, h2, h3.mono le⟩
theorem closure_body {call : Call1} {LF : Nat} {f : FuncId} {args : List Value} {x : Value} {h2 : AH} (hs : aClosure P call LF f args x h = some h2) : ∃ fn c, P.funcs[f]? = some fn ∧ fn.body = some c := by
 unfold aClosure at hs
 split at hs
 · rename_i fn hf
   split at hs
   · rename_i hb _
     exact ⟨fn, _, hf, hb⟩
   · cases hs
 · cases hs
theorem run_enter (hN : NoCount P) {f : FuncId} {fn : Func} {c : Code} (hf : P.funcs[f]? = some fn) (hb : fn.body = some c) (args : Array Value) (w : World) : (callFunc f args).run P w = .ok (.enter f args) w := by
 have := hN f fn hf (by rw [hb]; rfl)
 have this : fn.name ≠ "runtime.NumGoroutine" := by simpa using this
 simp [callFunc, hf, this, hb]
theorem last_ok (hN : NoCount P) (hM : P.follows .mixedOrders = true) {call : Call1} (hc : CallsOk w0 P call) (LF : Nat) {fn : Func} {tmps : Array Value} {g : FuncId} {as : List Value} {x x' : Value} {u : FrameMode} {h2 : AH} {v : Value} (hx : VR φ x x')
   (hu : (u = .returning ∧ x' = .nilIface) ∨ u = .panicking [{ v := x', recovered := false }])
   (hs : aClosure P call LF g as x h = some h2) (hr : R w0 φ h w) (hd : DC φ g as bs) (hf : SR φ n t tmps fn.results.toList) (hv : aRes P n t h2 fn.results.toList = some v) :
   LeavesInM Fence.wide 0 P fn tmps (fun e w' => ∃ v', e = .returned v' ∧ ∃ φ', Nx φ φ' h h2 ∧ R w0 φ' h2 w' ∧ VR φ' v v') bs u w := by
 obtain ⟨cap, as1, as', rfl, has, hl⟩ := hd.ex
 obtain ⟨gf, c, hgf, hgb⟩ := closure_body hs
 have hrun : u ≠ .run := by rcases hu with ⟨h1, _⟩ | h1 <;> rw [h1] <;> simp
 refine ⟨hrun, .inr ⟨fun e => (by cases e), .func g, cap, g, ⟨as'⟩, rfl, ?_, fun _ _ => trivial, ?_⟩⟩
 · show (callFunc g (as1 ++ cap)).run P w = _
   rw [has]
   exact run_enter hN hgf hgb _ w
 · have hu2 : ∃ u2, ((u = .returning ∧ u2 = .returning ∧ x' = .nilIface) ∨ (u = .panicking [{ v := x', recovered := false }] ∧ u2 = .panicking [{ v := x', recovered := true }])) ∧ settle u2 = .returning := by
    rcases hu with ⟨h1, h3⟩ | h1
    · exact ⟨.returning, .inl ⟨h1, rfl, h3⟩, rfl⟩
    · exact ⟨_, .inr ⟨h1, rfl⟩, rfl⟩
   obtain ⟨u2, hu2, hset⟩ := hu2
   refine CallsDIn.mono (closure_ok hN hM hc LF hx hu2 hs hr hl) ?_
   rintro e u' w' ⟨⟨v0, rfl⟩, rfl, φ', nx, r'⟩
   show LeavesInM Fence.wide 0 P fn tmps _ [] (settle u') w'
   rw [hset]
   obtain ⟨v', h3, h4⟩ := res_okS r' (fun y hy hk => (hf y hy hk).mono nx.le) hv
   exact ⟨v', h3, v', rfl, φ', nx, r', h4⟩
theorem LeavesInM.mono {fn : Func} {tmps : Array Value} {R R' : Ending → World → Prop} (hR : ∀ e w, R e w → R' e w) : ∀ (ds : List Deferred) {u : FrameMode} {w : World}, LeavesInM Fence.wide 0 P fn tmps R ds u w → LeavesInM Fence.wide 0 P fn tmps R' ds u w
 | [], u, w, h => by
  cases u with
  | returning => obtain ⟨v, h1, h2⟩ := h; exact ⟨v, h1, hR _ _ h2⟩
  | panicking ch => exact hR _ _ h
  | run => exact h
 | d :: ds, u, w, h => by
  obtain ⟨h1, h2⟩ := h
  refine ⟨h1, ?_⟩
  rcases h2 with ⟨r, w', a1, a2, a3⟩ | ⟨a0, fv, cap, f, args, a1, a2, a3, a4⟩
  · exact .inl ⟨r, w', a1, a2, LeavesInM.mono hR ds a3⟩
  · refine .inr ⟨a0, fv, cap, f, args, a1, a2, a3, CallsDIn.mono a4 ?_⟩
    intro e u' w' hh
    cases e with
    | returned v => exact LeavesInM.mono hR ds hh
    | panicked ch => exact LeavesInM.mono hR ds hh
    | outgrown => exact hR _ _ hh
theorem marks_ok {fn : Func} {tmps : Array Value} {Rr : Ending → World → Prop} {h2 : AH} {u : FrameMode} (hu : u ≠ .run) : ∀ (ds : List Nat) {ds' : List Deferred} {h : AH} {φ : Phi} {w : World}, aLeave ds h = some h2 → DR bs φ ds ds' → R w0 φ h w →
  (∀ w', Nx φ φ h h2 → R w0 φ h2 w' → LeavesInM Fence.wide 0 P fn tmps Rr bs u w') → LeavesInM Fence.wide 0 P fn tmps Rr ds' u w
 | [], ds', h, φ, w, hs, hd, hr, hK => by
  cases hd
  simp only [aLeave] at hs; cases hs
  exact hK w (.refl φ _) hr
 | d :: ds, ds', h, φ, w, hs, hd, hr, hK => by
  cases hd with
  | @cons _ i _ l' hb ht =>
   simp only [aLeave] at hs
   split at hs
   · rename_i ho
     have hw : w.heap[i.c]? = some (.deferred (some [])) := hr.dom _ _ _ hb ho
     have hlt : T.Ok (d) := trivial
     refine ⟨hu, .inl ⟨i.c, w.putObj i.c (.deferred none), rfl, run_takeDeferred hw, ?_⟩⟩
     have hlow : w0.heap.size ≤ i.c := hr.low _ _ _ hb ho rfl
     have hother : ∀ k, k ≠ i.c → (w.putObj i.c (.deferred none)).heap[k]? = w.heap[k]? := fun k hk => putW_other hk
     have r2 : R w0 φ { h with m := h.m.set d none } (w.putObj i.c (.deferred none)) := by
      have rd := hr.drop d hlt
      have free : ∀ b j o', φ b = some j → (h.m.set d none).get b = some o' → j.c ≠ i.c := by
       intro b j o' hj hgo hc
       rw [T.get_set] at hgo
       by_cases e : b = d
       · rw [if_pos e] at hgo; cases hgo
       · rw [if_neg e] at hgo; exact e (hr.inj _ _ _ _ _ _ hb hj ho hgo rfl hc.symm).symm
      have hsz : (w.putObj i.c (.deferred none)).heap.size = w.heap.size := by simp
      exact ⟨fun b j o hj ho => (rd.dom b j o hj ho).world (hother _ (free b j o hj ho)), rd.low, rd.inj, fun b j hj => by rw [hsz]; exact rd.lt b j hj, rd.nx,
       rd.below.trans ⟨rfl, rfl, rfl, by rw [hsz]; exact Nat.le_refl _, fun k hk => hother k (by omega)⟩⟩
     exact marks_ok hu ds hs ht r2 (fun w' nx r' => hK w' ((Nx.drop hb hlt).trans nx) r')
   · cases hs
end
end Go.X
namespace Go.X
noncomputable section
open Go Go.RowKit
variable {w0 w w' : World} {φ φ' : Phi} {h h' : AH} {P : Program} {n : Nat} {t : T Value} {bs : List Deferred}
theorem spine_ok (hN : NoCount P) (hM : P.follows .mixedOrders = true) {call : Call1} (hc : CallsOk w0 P call) (LF : Nat) {Q : Exit → Act → World → Prop} : ∀ (k : Nat) {c : Code} {t t' : T Value} {ds ds' : List Nat} {h h' : AH} {φ : Phi} {a : Act} {w : World},
  aSpine P call n LF k c t ds h = some (t', ds', h') → R w0 φ h w → FR φ n t a.tmps → DR bs φ ds a.defers →
  (∀ φ' a' w', Nx φ φ' h h' → R w0 φ' h' w' → FR φ' n t' a'.tmps → DR bs φ' ds' a'.defers → (back k c).wpIn Fence.wide 0 P Q a' w') → c.wpIn Fence.wide 0 P Q a w
 | 0, c, t, t', ds, ds', h, h', φ, a, w, hs, r, f, d, hQ => by
  simp only [aSpine] at hs; cases hs
  exact hQ φ a w (.refl φ _) r f d
 | k + 1, c, t, t', ds, ds', h, h', φ, a, w, hs, r, f, d, hQ => by
  cases c with
  | seq x y =>
   simp only [aSpine] at hs
   split at hs
   · rename_i t1 ds1 h1 hx
     refine wpIn_seq (wpIn_mono (code_ok hN hM hc none LF x (q := none) 0 hx r f d rfl) ?_)
     rintro e a1 w1 ⟨o, ho, hex, φ1, nx1, r1, f1, d1⟩
     cases List.mem_singleton.1 ho
     cases hex
     exact spine_ok hN hM hc LF k hs r1 f1 d1 (fun φ' a' w' nx r' f' d' => hQ φ' a' w' (nx1.trans nx) r' f' d')
   · cases hs
  | _ => simp [aSpine] at hs
def aPre (P : Program) (call : Call1) (n LF k : Nat) (c : Code) (t : T Value) (h : AH) : Option (T Value × AH × FuncId × List Value × Code) :=
 match aSpine P call n LF k c t [] h with
 | some (t1, [], h1) => (match back k c with
  | .seq (.region _ ⟨[o1, o2]⟩ false) rest => (match aWant n t1 ⟨[o1, o2]⟩ o1, aStep P call n t1 h1 o1.op with
   | true, some [(v1, h2)] => (match aPut n t1 o1.dst v1 with
    | some t2 => (match aWant n t2 ⟨[o1, o2]⟩ o2, o2.op, o2.dst with
     | true, .defer ⟨.value fv, ⟨[]⟩, _⟩, none => (match aO n t2 fv with
      | some (.func (.func g) ⟨first⟩ ⟨cap⟩) => some (t2, h2, g, first ++ cap, rest)
      | _ => none)
     | _, _, _ => none)
    | none => none)
   | _, _ => none)
  | _ => none)
 | _ => none
theorem pre_ok (hN : NoCount P) (hM : P.follows .mixedOrders = true) {call : Call1} (hc : CallsOk w0 P call) (LF : Nat) {Q : Exit → Act → World → Prop} {k : Nat} {c rest : Code} {t t2 : T Value} {h h2 : AH} {g : FuncId} {as : List Value} {a : Act}
   (hs : aPre P call n LF k c t h = some (t2, h2, g, as, rest)) (r : R w0 φ h w) (f : FR φ n t a.tmps) (d : a.defers = [])
   (hQ : ∀ φ' a' w', Nx φ φ' h h2 → R w0 φ' h2 w' → FR φ' n t2 a'.tmps → DC φ' g as a'.defers → rest.wpIn Fence.wide 0 P Q a' w') : c.wpIn Fence.wide 0 P Q a w := by
 unfold aPre at hs
 split at hs
 · rename_i t1 h1 hsp
   refine spine_ok (bs := []) hN hM hc LF k hsp r f (by rw [d]; exact .nil) ?_
   intro φ1 a1 w1 nx1 r1 f1 d1
   have d1 : a1.defers = [] := by generalize a1.defers = z at d1; cases d1; rfl
   split at hs
   · rename_i id o1 o2 rest' hbk
     rw [hbk]
     split at hs
     · rename_i v1 h3 hw1 hst
       split at hs
       · rename_i t3 hput
         split at hs
         · rename_i fv ts hw2 hop hdst
           split at hs
           · rename_i g' first cap hfv
             cases hs
             refine wpIn_seq (wpIn_region ?_)
             show wpOpsIn _ _ _ _ _ [0, 1] _ _
             simp only [wpOpsIn, show (⟨[o1, o2]⟩ : Array Oper)[0]? = some o1 from rfl, show (⟨[o1, o2]⟩ : Array Oper)[1]? = some o2 from rfl]
             rw [want_ok f1, if_pos hw1]
             refine step_ok (q := none) hN hc r1 f1 hst ?_
             intro v2 h4 v' w2 φ2 hm nx2 r2 hv
             cases List.mem_singleton.1 hm
             obtain ⟨f2, d2⟩ := put_ok (f1.mono nx2.le) hput hv
             rw [want_ok f2, if_pos hw2]
             refine ⟨fun _ _ => trivial, ?_⟩
             have h5 := aO_ok f2 hfv
             generalize hev : (a1.put o1.dst v').eval fv = u at h5
             cases h5 with
             | @func _ fn' _ _ first' cap' hfn ha hb h6 h7 =>
              cases hfn with
              | same hne =>
               have hrun : (o2.semAt (FW none).round (a1.put o1.dst v').eval).run P w2 = .ok (.defer { target := .fn (.func g) ⟨cap'⟩, args := ⟨first'⟩ }) w2 := by
                rw [FW_round, Oper.semAt_none]
                simp only [execOp, hop, resolve, hev, Deferred.ofValue, Sem.run_bind, Sem.run_pure, Result.andThen_ok]
                simp
               show Oper.uponIn _ _ _ _ _ _ _ ((o2.semAt (FW none).round (a1.put o1.dst v').eval).run P w2)
               rw [hrun, Oper.uponIn_defer, hdst]
               refine hQ φ2 _ w2 (nx1.trans nx2) r2 f2 ⟨⟨cap'⟩, ⟨first'⟩, first' ++ cap', ?_, by apply Array.ext'; simp, (LR.of ha h6).append (LR.of hb h7)⟩
               show _ :: (a1.put o1.dst v').defers = _
               rw [d2, d1]
           · cases hs
         · cases hs
       · cases hs
     · cases hs
   · cases hs
 · cases hs
def aFunD (P : Program) (LF k : Nat) (call : Call1) : Call1 := fun an h => match an with
 | .enter f args => (match P.funcs[f]? with
  | some fn => (match fn.body with
   | some c => (match Nat.ble args.length fn.ntmps, aPre P call fn.ntmps LF k c (T.fill args 0 .e) h with
    | true, some (t, h1, g, as, rest) => (match aCode P call fn.ntmps LF none rest t [] h1 with
     | some [⟨.ret, t2, ds, h2⟩] => (match aLeave ds h2 with
      | some h3 => (match aClosure P call LF g as .nilIface h3 with
       | some h4 => (match aRes P fn.ntmps t2 h4 fn.results.toList with
        | some v => some [(v, h4)]
        | none => none)
       | none => none)
      | none => none)
     | _ => none)
    | _, _ => none)
   | none => none)
  | none => none)
 | _ => none
theorem funD_ok (hN : NoCount P) (hM : P.follows .mixedOrders = true) (LF k : Nat) {call : Call1} (ih : CallsOk w0 P call) : CallsOk w0 P (aFunD P LF k call) := by
 intro an h l φ w nx hs hr hnr
 unfold aFunD at hs
 split at hs
 · rename_i f args
   cases hnr with
   | @enter _ _ args' hl =>
    refine ⟨?_, fun _ _ _ _ _ e => by cases e⟩
    intro f' args2 e
    cases e
    split at hs
    · rename_i fn hf
      split at hs
      · rename_i c hb
        split at hs
        · rename_i t h1 g as rest hsz hpre
          split at hs
          · rename_i t2 ds h2 hcode
            split at hs
            · rename_i h3 hlv
              split at hs
              · rename_i h4 hcl
                split at hs
                · rename_i v hres
                  cases hs
                  refine (callsIn_wide (n := 0)).1 (callsIn_of_wp_marks hf hb trivial ?_ rfl)
                  refine pre_ok hN hM ih LF hpre hr (FR.entry hl (Nat.le_of_ble_eq_true hsz)) rfl ?_
                  intro φ1 a1 w1 nx1 r1 f1 dc
                  refine wpIn_mono (code_ok hN hM ih none LF rest (q := none) 0 hcode r1 f1 (bs := a1.defers) .nil rfl) ?_
                  rintro e a2 w2 ⟨o, hm, hex, φ2, nx2, r2, f2, d2⟩
                  cases List.mem_singleton.1 hm
                  cases hex
                  refine marks_ok (by simp) ds hlv d2 r2 (fun w3 nx3 r3 => ?_)
                  refine LeavesInM.mono ?_ _ (last_ok hN hM ih LF (x' := .nilIface) (pfv_refl _ rfl) (.inl ⟨rfl, rfl⟩) hcl r3 (dc.mono nx2.le) (f2.sr _) hres)
                  rintro e w4 ⟨v', rfl, φ4, nx4, r4, hv⟩
                  exact ⟨v', rfl, v, h4, List.mem_singleton.2 rfl, φ4, ((nx1.trans nx2).trans nx3).trans nx4, r4, hv⟩
                · cases hs
              · cases hs
            · cases hs
          · cases hs
        · cases hs
      · cases hs
    · cases hs
 · cases hs
end
end Go.X
namespace Go.X
noncomputable section
open Go Go.RowKit
variable {w0 w : World} {φ : Phi} {h h' : AH} {P : Program}
def sameVH (p q : Value × AH) : Bool := veq 9 p.1 q.1 && sameH p.2 q.2
def nub1 (x : Value × AH) (r : List (Value × AH)) : List (Value × AH) := match r.any (sameVH x) with
 | true => r
 | false => x :: r
def nubVH (l : List (Value × AH)) : List (Value × AH) := l.foldr nub1 []
def bagCall (fs : List FuncId) (call : Call1) : Call1 := fun an h => match an with
 | .enter g args => (match memN g fs with
  | true => (match call (.enter g args) h with
   | some l => some (nubVH (l.map fun p => (p.1, bagH h.next (dropNew (reachF p.2 h.next 10000 (blocksV 9 p.1) []) h p.2))))
   | none => none)
  | false => call (.enter g args) h)
 | an => call an h
def knownD (P : Program) (LF k : Nat) (f : FuncId) (call : Call1) : Call1 := fun an h => match an with
 | .enter g args => (match Nat.beq g f with
  | true => aFunD P LF k call (.enter g args) h
  | false => call (.enter g args) h)
 | an => call an h
theorem knownD_ok (hN : NoCount P) (hM : P.follows .mixedOrders = true) (LF k : Nat) {f : FuncId} {call : Call1} (hc : CallsOk w0 P call) : CallsOk w0 P (knownD P LF k f call) := by
 intro an h l φ w nx hs hr hnr
 unfold knownD at hs
 split at hs
 · split at hs
   · exact funD_ok hN hM LF k hc _ _ _ _ _ _ hs hr hnr
   · exact hc _ _ _ _ _ _ hs hr hnr
 · exact hc _ _ _ _ _ _ hs hr hnr
end
end Go.X
