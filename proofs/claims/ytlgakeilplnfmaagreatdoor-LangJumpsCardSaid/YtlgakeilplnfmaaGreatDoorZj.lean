/- sum.operations at (4, 1). -/
import Derived.Test.YtlgakeilplnfmaaGreatDoorZg
import Derived.Test.YtlgakeilplnfmaaGreatDoorProg
import Derived.ProofKit
namespace Go.Proofs.YtlgakeilplnfmaaGreatDoor
noncomputable section
open Go Go.X Go.RowKit
theorem so_noCount : NoCount Tryz.prog := noCount_of (by decide +kernel)
theorem so_mixed : Tryz.prog.follows .mixedOrders = true := by kernel_rfl
abbrev soC : Call1 := aRunW ov0 Tryz.prog 100 10
theorem soC_ok (W : World) : CallsOk W Tryz.prog soC := runW_callsOk so_noCount so_mixed 100 (fun _ h => ov0_ok h) 10
abbrev top : Value := .chan none
abbrev kv (a b : Int) : Value := .agg ⟨[.int .i64 a, .int .i64 b]⟩
abbrev fnA : Value := .func (.func 221) ⟨[]⟩ ⟨[]⟩
abbrev fT (b : Nat) : Value := .func (.func 248) ⟨[]⟩ ⟨[.pointer (some ⟨b, 0, none⟩)]⟩
abbrev fB (b : Nat) : Value := .func (.func 246) ⟨[]⟩ ⟨[.pointer (some ⟨b, 0, none⟩)]⟩
def bx (v : Value) : AObj := .cells (T.fill [v] 0 .e) 1 0 false
def isFnO (l : Option (List (Value × AH))) : Bool := match l with
 | some [(.func _ _ _, _)] => true
 | _ => false
theorem junk_call {g : FuncId} (hg : isFnO (soC (.enter g [top]) ah0) = true) {x : Value} (h1 : x.oneCell' = true) (h2 : notBool x = true) (w : World) :
   Calls Tryz.prog g ⟨[x]⟩ w fun e w' => ∃ v, e = .returned v ∧ v.oneCell' = true ∧ notBool v = true ∧ Below w.heap.size w w' := by
 unfold isFnO at hg
 split at hg
 · rename_i f a b h' hl
   have hc := (soC_ok w _ _ _ none0 w (.enter g ⟨[x]⟩) hl (R.first w) (.enter (.cons (.top x h1 h2) .nil))).1 _ _ rfl
   refine Calls.mono hc fun e w' he => ?_
   obtain ⟨v', rfl, v, h2, hm, φ', _, hr, hv⟩ := he
   cases List.mem_singleton.1 hm
   exact ⟨v', rfl, hv.one.trans rfl, hv.nb.trans rfl, hr.below⟩
 · cases hg
theorem so_junk : ([217, 220, 222, 226, 230, 232].all fun g => isFnO (soC (.enter g [top]) ah0)) = true := by kernel_rfl
def isJunk (g : FuncId) : Bool := [217, 220, 222, 226, 230, 232].contains g
theorem tur_is : soC (.enter 222 [fnA]) ah0 = some [(fT 0, ⟨T.set .e 0 (some (bx fnA)), 1⟩)] := by kernel_rfl
theorem bet_is : soC (.enter 220 [fT 0]) ⟨.e, 1⟩ = some [(fB 1, ⟨T.set .e 1 (some (bx (fT 0))), 2⟩)] := by kernel_rfl
theorem adoptAt {w0 w : World} {φ : Phi} {h : AH} (rg : R w0 φ h w) {i : Im} {o : AObj} (hfr : ∀ k j, φ k = some j → j.c ≠ i.c) (hc : w0.heap.size ≤ i.c) (hl : i.c < w.heap.size) (hx : ∀ φ', Le φ φ' → OR φ' i w o) :
   ∃ φ', Nx φ φ' h ⟨h.m.set h.next (some o), h.next + 1⟩ ∧ φ' h.next = some i ∧ R w0 φ' ⟨h.m.set h.next (some o), h.next + 1⟩ w ∧ ∀ k j, φ' k = some j → k ≠ h.next → φ k = some j := by
 have le : Le φ (fun b => if b = h.next then some i else φ b) := by
   intro b j hj
   have := (rg.lt b j hj).2
   show (if b = h.next then some i else φ b) = some j
   rw [if_neg (by omega)]; exact hj
 refine ⟨fun b => if b = h.next then some i else φ b, ⟨le, Nat.le_succ _, fun b hb hlt => ⟨by show (if b = h.next then some i else φ b) = none; rw [if_neg (by omega)]; exact hb, by show (h.m.set h.next (some o)).get b = _; rw [T.get_set, if_neg (by omega)]⟩⟩, if_pos rfl, ?_, fun k j hj hk => by
   have hj : (if k = h.next then some i else φ k) = some j := hj
   rw [if_neg hk] at hj; exact hj⟩
 have hget : ∀ k, (h.m.set h.next (some o)).get k = if k = h.next then some o else h.m.get k := fun k => T.get_set k
 refine ⟨fun k j o2 hj hk => ?_, fun k j o2 hj hk hr => ?_, fun k k' j j' o2 o3 hj hj' hk hk' hr hcc => ?_, fun k j hj => ?_, trivial, rg.below⟩
 · rw [hget] at hk
   by_cases e : k = h.next
   · subst e; rw [if_pos rfl] at hk; cases hk
     rw [if_pos rfl] at hj; cases hj
     exact hx _ le
   · rw [if_neg e] at hk hj
     exact (rg.dom k j o2 hj hk).mono le
 · rw [hget] at hk
   by_cases e : k = h.next
   · subst e
     rw [if_pos rfl] at hj; cases hj
     exact hc
   · rw [if_neg e] at hk hj
     exact rg.low k j o2 hj hk hr
 · rw [hget] at hk hk'
   by_cases e : k = h.next
   · by_cases e' : k' = h.next
     · rw [e, e']
     · subst e
       rw [if_pos rfl] at hj; cases hj
       rw [if_neg e'] at hj'
       exact (hfr k' j' hj' hcc.symm).elim
   · by_cases e' : k' = h.next
     · subst e'
       rw [if_pos rfl] at hj'; cases hj'
       rw [if_neg e] at hj
       exact (hfr k j hj hcc).elim
     · rw [if_neg e] at hk hj
       rw [if_neg e'] at hk' hj'
       exact rg.inj k k' j j' o2 o3 hj hj' hk hk' hr hcc
 · by_cases e : k = h.next
   · subst e; rw [if_pos rfl] at hj; cases hj
     exact ⟨hl, Nat.lt_succ_self _⟩
   · rw [if_neg e] at hj
     have := rg.lt k j hj
     exact ⟨this.1, Nat.lt_succ_of_lt this.2⟩
theorem adoptLe {w0 w w' : World} {φ : Phi} {h : AH} (r : R w0 φ h w) (bl : Below w.heap.size w w') {i : Im} {o : AObj} (hc : w.heap.size ≤ i.c) (hl : i.c < w'.heap.size) (hx : ∀ φ', Le φ φ' → OR φ' i w' o) :
  ∃ φ', Nx φ φ' h ⟨h.m.set h.next (some o), h.next + 1⟩ ∧ φ' h.next = some i ∧ R w0 φ' ⟨h.m.set h.next (some o), h.next + 1⟩ w' ∧ ∀ k j, φ' k = some j → k ≠ h.next → φ k = some j :=
 adoptAt (r.grown bl) (fun k j hj => by have := (r.lt k j hj).1; omega) (Nat.le_trans r.below.size hc) hl hx
theorem bx_plain {φ : Phi} {i : Im} {w : World} (k : OR φ i w (bx fnA)) : ∀ φ', OR φ' i w (bx fnA) := by
 intro φ'
 obtain ⟨h1, h2, h3, arr, el, h4, h5, h6, h7⟩ := k
 refine ⟨h1, h2, h3, arr, el, h4, h5, h6, fun k hk => ?_⟩
 obtain ⟨v, v', e1, e2, e3⟩ := h7 k hk
 have hk0 : k = 0 := by omega
 subst hk0
 have : v = fnA := (Option.some.inj e1).symm
 subst this
 have := pfv_same (v := fnA) rfl e3
 subst this
 exact ⟨_, _, e1, e2, pfv_refl φ' rfl⟩
theorem fn_inv {φ : Phi} {q : FuncId} {p x' : Value} (h : VR φ (.func (.func q) ⟨[]⟩ ⟨[p]⟩) x') : ∃ p', x' = .func (.func q) ⟨[]⟩ ⟨[p']⟩ ∧ VR φ p p' := by
 cases h with
 | @func _ f' _ _ a' b' hf ha hb h1 h2 =>
  cases hf with
  | same _ =>
   cases a' with
   | cons _ _ => cases ha
   | nil => cases b' with
    | nil => cases hb
    | cons y m => cases m with
     | cons _ _ => cases hb
     | nil => exact ⟨y, rfl, h2 0 _ _ rfl rfl⟩
theorem bx_ptr {φ φ' : Phi} {i j : Im} {w : World} {b : Nat} {b0 : Nat} (hj : φ b0 = some j) (hj' : φ' b = some j) (k : OR φ i w (bx (fT b0))) : OR φ' i w (bx (fT b)) := by
 obtain ⟨h1, h2, h3, arr, el, h4, h5, h6, h7⟩ := k
 refine ⟨h1, h2, h3, arr, el, h4, h5, h6, fun k hk => ?_⟩
 obtain ⟨v, v', e1, e2, e3⟩ := h7 k hk
 have hk0 : k = 0 := by omega
 subst hk0
 have : v = fT b0 := (Option.some.inj e1).symm
 subst this
 refine ⟨fT b, v', rfl, e2, ?_⟩
 obtain ⟨p, rfl, hp⟩ := fn_inv e3
 obtain ⟨i2, hi2, hs2, rfl⟩ := hp.ptr_inv
 have : φ b0 = some i2 := hi2
 rw [hj] at this
 cases this
 exact .func' (.same (fun l e => by cases e)) .nil (.cons (.ptr (a := ⟨b, 0, none⟩) j hj' rfl) .nil)
def soT (g : FuncId) (x : Value) (h : AH) : Option (List (Value × AH)) := match x with
 | .func (.func q) ⟨[]⟩ ⟨[]⟩ => if g = 222 ∧ q = 221 then some [(fT h.next, ⟨h.m.set h.next (some (bx fnA)), h.next + 1⟩)] else none
 | .func (.func q) ⟨[]⟩ ⟨[.pointer (some ⟨b, 0, none⟩)]⟩ => if g = 220 ∧ q = 248 then some [(fB h.next, ⟨h.m.set h.next (some (bx (fT b))), h.next + 1⟩)] else none
 | _ => none
def soJ : Call1 := fun an h => match an with
 | .enter g [x] => (match soT g x h with
  | some l => some l
  | none => if isJunk g && topOk x then some [(top, h)] else none)
 | _ => none
theorem soT_ok {w0 w : World} {φ : Phi} {h : AH} {g : FuncId} {x x' : Value} {l : List (Value × AH)} (hs : soT g x h = some l) (r : R w0 φ h w) (hx : VR φ x x') :
   Calls Tryz.prog g ⟨[x']⟩ w fun e w' => ∃ v', e = .returned v' ∧ ∃ v h', (v, h') ∈ l ∧ ∃ φ', Nx φ φ' h h' ∧ R w0 φ' h' w' ∧ VR φ' v v' := by
 unfold soT at hs
 split at hs
 · rename_i q
   split at hs
   · rename_i hq
     obtain ⟨rfl, rfl⟩ := hq
     cases hs
     have ex := pfv_same (v := fnA) rfl hx
     subst ex
     have hc := (soC_ok w _ _ _ none0 w (.enter 222 ⟨[fnA]⟩) tur_is (R.first w) (.enter (.cons (pfv_refl _ rfl) .nil))).1 _ _ rfl
     refine Calls.mono hc fun e w' he => ?_
     obtain ⟨v', rfl, v, h2, hm, φ2, _, hr, hv⟩ := he
     cases List.mem_singleton.1 hm
     obtain ⟨p, rfl, hp⟩ := fn_inv hv
     obtain ⟨i, hi, _, rfl⟩ := hp.ptr_inv
     have hor := hr.dom 0 i _ hi rfl
     obtain ⟨φ3, nx, h3, r3, _⟩ := adoptLe r hr.below (i := i) (o := bx fnA) (hr.low 0 i _ hi rfl rfl) (hr.lt 0 i hi).1 (fun φ' _ => bx_plain hor φ')
     refine ⟨_, rfl, _, _, List.mem_singleton.2 rfl, φ3, nx, r3, .func' (.same (fun l e => by cases e)) .nil (.cons (.ptr (a := ⟨h.next, 0, none⟩) i h3 rfl) .nil)⟩
   · cases hs
 · rename_i q b
   split at hs
   · rename_i hq
     obtain ⟨rfl, rfl⟩ := hq
     cases hs
     obtain ⟨p, rfl, hp⟩ := fn_inv hx
     obtain ⟨j, hj, _, rfl⟩ := hp.ptr_inv
     have r1 : R w (fun k => if k = 0 then some j else none) ⟨.e, 1⟩ w := by
      refine ⟨fun b i o _ ho => (by cases ho), fun b i o _ ho => (by cases ho), fun b b' i i' o o' _ _ ho => (by cases ho), fun b' i hi => ?_, trivial, Below.refl _ _⟩
      by_cases e : b' = 0
      · subst e
        rw [if_pos rfl] at hi
        cases hi
        exact ⟨(r.lt b j hj).1, Nat.zero_lt_one⟩
      · rw [if_neg e] at hi; cases hi
     have hc := (soC_ok w _ _ _ _ w (.enter 220 ⟨[.func (.func 248) ⟨[]⟩ ⟨[.pointer (some ⟨j.c, 0 + j.d, none⟩)]⟩]⟩) bet_is r1 (.enter (.cons (.func' (.same (fun l e => by cases e)) .nil (.cons (.ptr (a := ⟨0, 0, none⟩) j rfl rfl) .nil)) .nil))).1 _ _ rfl
     refine Calls.mono hc fun e w' he => ?_
     obtain ⟨v', rfl, v, h2, hm, φ2, nx2, hr, hv⟩ := he
     cases List.mem_singleton.1 hm
     obtain ⟨p, rfl, hp⟩ := fn_inv hv
     obtain ⟨i, hi, _, rfl⟩ := hp.ptr_inv
     have h0 : φ2 0 = some j := nx2.le 0 j rfl
     have hor := hr.dom 1 i _ hi rfl
     obtain ⟨φ3, nx, h3, r3, _⟩ := adoptLe r hr.below (i := i) (o := bx (fT b)) (hr.low 1 i _ hi rfl rfl) (hr.lt 1 i hi).1 (fun φ' le => bx_ptr h0 (le b j hj) hor)
     refine ⟨_, rfl, _, _, List.mem_singleton.2 rfl, φ3, nx, r3, .func' (.same (fun l e => by cases e)) .nil (.cons (.ptr (a := ⟨h.next, 0, none⟩) i h3 rfl) .nil)⟩
   · cases hs
 · cases hs
theorem soJ_ok (w0 : World) : CallsOk w0 Tryz.prog soJ := by
 intro an h l φ w nx hs hr hnr
 unfold soJ at hs
 split at hs
 · rename_i g x
   cases hnr with
   | enter hl =>
    refine ⟨?_, fun _ _ _ _ _ e => by cases e⟩
    intro f' args' e
    cases e
    obtain ⟨x', rfl, hx⟩ := hl.one_inv
    split at hs
    · rename_i l' hl'
      cases hs
      exact soT_ok hl' hr hx
    · split at hs
      · rename_i hb
        cases hs
        rw [Bool.and_eq_true] at hb
        have hg := List.all_eq_true.1 so_junk g (by simpa [isJunk] using hb.1)
        have ht := hb.2
        unfold topOk at ht
        rw [Bool.and_eq_true] at ht
        refine Calls.mono (junk_call hg (hx.one.trans ht.1) (hx.nb.trans ht.2) w) fun e w' he => ?_
        obtain ⟨v, rfl, h1, h2, hb⟩ := he
        exact ⟨v, rfl, top, h, List.mem_singleton.2 rfl, φ, .refl φ h, hr.grown hb, .top v h1 h2⟩
      · cases hs
 · cases hs
def kvp (x : Int × Int) : Value := kv x.1 x.2
def keyL : List (Int × Int) := [(1, 1), (2, 1), (3, 1), (4, 1), (5, 1), (6, 1), (7, 1), (8, 1), (9, 1), (1, 2), (3, 2), (4, 2), (10, 3), (11, 3)]
theorem eq_tab : (keyL.all fun x => keyL.all fun y => (match pureRun Tryz.prog (Op.equal 321 (kvp x) (kvp y)) with
 | some b => b == decide (x = y)
 | none => false)) = true := by kernel_rfl
theorem eq_at {x y : Int × Int} (hx : x ∈ keyL) (hy : y ∈ keyL) : pureRun Tryz.prog (Op.equal 321 (kvp x) (kvp y)) = some (decide (x = y)) := by
 have h := List.all_eq_true.1 (List.all_eq_true.1 eq_tab x hx) y hy
 split at h
 · rename_i b hb
   rw [hb, eq_of_beq h]
 · cases h
theorem pr_bind {P : Program} {α β : Type} {x : Sem α} {f : α → Sem β} {b : α} (hx : pureRun P x = some b) : pureRun P (x >>= f) = pureRun P (f b) := by
 show pureRun P (x.bind f) = _
 induction x with
 | pure a => simp only [pureRun] at hx; cases hx; rfl
 | program k ih => exact ih P hx
 | mark m k ih => exact ih hx
 | _ => simp [pureRun] at hx
theorem kvp_inj {x y : Int × Int} (h : kvp x = kvp y) : x = y := by
 unfold kvp kv at h
 simp at h
 exact Prod.ext h.1 h.2
theorem ask_kv {k : Int × Int} (hk : k ∈ keyL) : ∀ (es : List (Value × Value × Nat)) (i : Nat), (∀ e, e ∈ es → ∃ c, c ∈ keyL ∧ e.1 = kvp c) →
  ((∀ e, e ∈ es → e.1 ≠ kvp k) ∧ pureRun Tryz.prog (Instr.findAsking 321 (kvp k) (keysOf es) i) = some none) ∨
  ∃ j e, es[j]? = some e ∧ e.1 = kvp k ∧ pureRun Tryz.prog (Instr.findAsking 321 (kvp k) (keysOf es) i) = some (some (i + j, .nilIface))
 | [], i, _ => .inl ⟨fun e h => (by cases h), rfl⟩
 | e :: es, i, hs => by
  obtain ⟨c, hc, he⟩ := hs e List.mem_cons_self
  have h1 := eq_at hk hc
  rw [← he] at h1
  have hstep : pureRun Tryz.prog (Instr.findAsking 321 (kvp k) (keysOf (e :: es)) i) = if decide (k = c) then some (some (i, .nilIface)) else pureRun Tryz.prog (Instr.findAsking 321 (kvp k) (keysOf es) (i + 1)) := by
    show pureRun Tryz.prog (Op.equal 321 (kvp k) e.1 >>= _) = _
    rw [pr_bind h1]
    cases decide (k = c) <;> rfl
  by_cases hkc : k = c
  · rw [hstep, if_pos (by simpa using hkc)]
    exact .inr ⟨0, e, rfl, by rw [he, hkc], rfl⟩
  · rw [hstep, if_neg (by simpa using hkc)]
    rcases ask_kv hk es (i + 1) (fun x hx => hs x (List.mem_cons_of_mem _ hx)) with ⟨h2, h3⟩ | ⟨j, e2, h2, h3, h4⟩
    · refine .inl ⟨fun x hx => ?_, h3⟩
      rcases List.mem_cons.1 hx with rfl | hx
      · rw [he]; exact fun h => hkc (kvp_inj h).symm
      · exact h2 x hx
    · exact .inr ⟨j + 1, e2, h2, h3, h4.trans (by rw [show i + 1 + j = i + (j + 1) from by omega])⟩
theorem kt_struct : (match Tryz.prog.underlying 321 with
 | some (.struct _) => true
 | _ => false) = true := by kernel_rfl
set_option maxRecDepth 100000 in
theorem find_kv {k : Int × Int} (hk : k ∈ keyL) {es : List (Value × Value × Nat)} (hs : ∀ e, e ∈ es → ∃ c, c ∈ keyL ∧ e.1 = kvp c) :
   ((∀ e, e ∈ es → e.1 ≠ kvp k) ∧ aFind Tryz.prog 321 (kvp k) es = some none) ∨ ∃ j e, es[j]? = some e ∧ e.1 = kvp k ∧ aFind Tryz.prog 321 (kvp k) es = some (some j) := by
 have hp : (pfv (kvp k) && es.all fun e => pfv e.1) = true := by
   rw [Bool.and_eq_true]
   refine ⟨rfl, List.all_eq_true.2 (fun e he => ?_)⟩
   obtain ⟨c, _, h⟩ := hs e he
   rw [h]; rfl
 have hfk : pureRun Tryz.prog (Instr.findKey 321 (kvp k) (keysOf es)) = pureRun Tryz.prog (Instr.findAsking 321 (kvp k) (keysOf es) 0) := by
   have hst := kt_struct
   split at hst
   · rename_i fs hu
     have h1 : pureRun Tryz.prog (underlying 321) = some (.struct fs) := by
      show (match Tryz.prog.underlying 321 with | some d => some d | none => none) = _
      rw [hu]
     unfold Instr.findKey
     rw [pr_bind h1]
     cases es with
     | nil => rfl
     | cons e es => rfl
   · cases hst
 unfold aFind
 rw [if_pos hp, hfk]
 rcases ask_kv hk es 0 hs with ⟨h1, h2⟩ | ⟨j, e, h1, h2, h3⟩
 · exact .inl ⟨h1, by rw [h2]; rfl⟩
 · exact .inr ⟨j, e, h1, h2, by rw [h3, Nat.zero_add]; rfl⟩
end
end Go.Proofs.YtlgakeilplnfmaaGreatDoor
namespace Go.Proofs.YtlgakeilplnfmaaGreatDoor
noncomputable section
open Go Go.X Go.RowKit
noncomputable abbrev soFn : Func := Tryz.f210
noncomputable def soBody : Code := match soFn.body with
 | some c => c
 | none => .ret
noncomputable def soOps0 : Array Oper := match soBody with
 | .seq (.region _ o _) _ => o
 | _ => #[]
noncomputable def soOps : Array Oper := match soBody with
 | .seq _ (.seq (.region _ o _) _) => o
 | _ => #[]
theorem so_fn : Tryz.prog.funcs[210]? = some soFn := by kernel_rfl
theorem so_body : soFn.body = some (.seq (.region 0 soOps0 false) (.seq (.region 1 soOps true) .ret)) := by kernel_rfl
theorem so_size : soOps.size = 55 := by kernel_rfl
noncomputable def opAt (i : Nat) : Op := match soOps[i]? with
 | some o => o.op
 | none => .assign (.const .nilFunc)
noncomputable def gOk (i : Nat) : Bool := match soOps[i]? with
 | some o => o.guard.isNone
 | none => false
theorem so_guard : ((List.range 55).all gOk) = true := by kernel_rfl
def F (b c d : Nat) : Nat → Value
 | 0 => .int .i64 4
 | 1 => .int .i64 1
 | 4 => fB d
 | 5 => .map (some b)
 | 6 => kvp (1, 1)
 | 8 => kvp (2, 1)
 | 10 => kvp (3, 1)
 | 12 => kvp (4, 1)
 | 13 => fT c
 | 14 => fB d
 | 15 => kvp (5, 1)
 | 17 => kvp (6, 1)
 | 19 => kvp (7, 1)
 | 21 => kvp (8, 1)
 | 23 => kvp (9, 1)
 | 25 => kvp (1, 2)
 | 27 => kvp (3, 2)
 | 30 => kvp (4, 2)
 | 34 => kvp (10, 3)
 | 37 => kvp (11, 3)
 | 40 => .map (some b)
 | 41 => .int .i64 4
 | 42 => .int .i64 1
 | 43 => kvp (4, 1)
 | 44 => fB d
 | _ => top
structure IV (lst : Nat → Prop) (t : T Value) (h : AH) (b c d : Nat) : Prop where
 v0 : vt t 0 = .int .i64 4
 v1 : vt t 1 = .int .i64 1
 sl : ∀ i s, lst i → dstAt soOps i = some s → vt t s = F b c d s
 mp : lst 0 → ∃ es cl, h.m.get b = some (.map es cl false) ∧ (∀ e, e ∈ es → ∃ k, k ∈ keyL ∧ e.1 = kvp k) ∧ (∀ e, e ∈ es → e.1 = kvp (4, 1) → e.2.1 = fB d) ∧ (lst 13 ↔ ∃ e, e ∈ es ∧ e.1 = kvp (4, 1))
 bl : lst 0 → b < h.next
 bc : lst 11 → h.m.get c = some (bx fnA) ∧ c < h.next
 bd : lst 12 → h.m.get d = some (bx (fT c)) ∧ d < h.next
theorem vt_set (t : T Value) (s j : Nat) (v : Value) : vt (t.set s (some v)) j = if j = s then v else vt t j := by
 unfold vt
 rw [T.get_set]
 by_cases e : j = s
 · rw [if_pos e, if_pos e]; rfl
 · rw [if_neg e, if_neg e]
def plus (lst : Nat → Prop) (i : Nat) : Nat → Prop := fun j => lst j ∨ j = i
theorem IV.val {lst : Nat → Prop} {t : T Value} {h : AH} {b c d i s : Nat} {v : Value} (I : IV lst t h b c d) (hi : dstAt soOps i = some s) (hv : v = F b c d s) (hs : 2 ≤ s) (hne : i ≠ 0 ∧ i ≠ 11 ∧ i ≠ 12 ∧ i ≠ 13) : IV (plus lst i) (t.set s (some v)) h b c d := by
 have back : ∀ {k}, plus lst i k → k ≠ i → lst k := fun hk hne => hk.resolve_right hne
 refine ⟨?_, ?_, ?_, ?_, ?_, ?_, ?_⟩
 · rw [vt_set, if_neg (by omega)]; exact I.v0
 · rw [vt_set, if_neg (by omega)]; exact I.v1
 · intro j s' hj hd
   rw [vt_set]
   by_cases e : s' = s
   · rw [if_pos e, e, hv]
   · rw [if_neg e]
     refine I.sl j s' (hj.resolve_right ?_) hd
     rintro rfl
     rw [hi] at hd; cases hd; exact e rfl
 · intro h0
   obtain ⟨es, cl, h1, h2, h3, h4⟩ := I.mp (back h0 hne.1.symm)
   exact ⟨es, cl, h1, h2, h3, ⟨fun h5 => h4.1 (back h5 hne.2.2.2.symm), fun h5 => .inl (h4.2 h5)⟩⟩
 · exact fun h0 => I.bl (back h0 hne.1.symm)
 · exact fun h0 => I.bc (back h0 hne.2.1.symm)
 · exact fun h0 => I.bd (back h0 hne.2.2.1.symm)
theorem grow_get {h : AH} {o : AObj} {b : Nat} (hb : b < h.next) : (⟨h.m.set h.next (some o), h.next + 1⟩ : AH).m.get b = h.m.get b := by
 show (h.m.set h.next (some o)).get b = _
 rw [T.get_set, if_neg (by omega)]
theorem IV.grow {lst : Nat → Prop} {t : T Value} {h : AH} {b c d : Nat} (o : AObj) (I : IV lst t h b c d) : IV lst t ⟨h.m.set h.next (some o), h.next + 1⟩ b c d := by
 refine ⟨I.v0, I.v1, I.sl, ?_, ?_, ?_, ?_⟩
 · intro h0
   rw [grow_get (I.bl h0)]
   exact I.mp h0
 · exact fun h0 => Nat.lt_succ_of_lt (I.bl h0)
 · intro h0
   obtain ⟨h1, h2⟩ := I.bc h0
   exact ⟨by rw [grow_get h2]; exact h1, Nat.lt_succ_of_lt h2⟩
 · intro h0
   obtain ⟨h1, h2⟩ := I.bd h0
   exact ⟨by rw [grow_get h2]; exact h1, Nat.lt_succ_of_lt h2⟩
theorem only (s i : Nat) (hs : ((List.range 55).all fun j => dstAt soOps j != some s || j == i) = true) : ∀ j, dstAt soOps j = some s → j = i := by
 intro j hj
 have hlt : j < 55 := by
   rw [← so_size]
   unfold dstAt at hj
   cases hg : soOps[j]? with
   | none => rw [hg] at hj; cases hj
   | some o => exact (Array.getElem?_eq_some_iff.1 hg).1
 have := List.all_eq_true.1 hs j (List.mem_range.2 hlt)
 rw [Bool.or_eq_true] at this
 rcases this with h | h
 · rw [hj] at h; simp at h
 · exact eq_of_beq h
theorem only5 : ∀ j, dstAt soOps j = some 5 → j = 0 := only 5 0 (by kernel_rfl)
theorem only40 : ∀ j, dstAt soOps j = some 40 → j = 49 := only 40 49 (by kernel_rfl)
theorem only13 : ∀ j, dstAt soOps j = some 13 → j = 11 := only 13 11 (by kernel_rfl)
theorem only14 : ∀ j, dstAt soOps j = some 14 → j = 12 := only 14 12 (by kernel_rfl)
theorem only44 : ∀ j, dstAt soOps j = some 44 → j = 53 := only 44 53 (by kernel_rfl)
theorem only4 : ∀ j, dstAt soOps j = some 4 → j = 54 := only 4 54 (by kernel_rfl)
theorem reB {lst : Nat → Prop} {t : T Value} {b c d b' : Nat} (h5 : ¬ lst 0) (h40 : ¬ lst 49) (h : ∀ i s, lst i → dstAt soOps i = some s → vt t s = F b c d s) : ∀ i s, lst i → dstAt soOps i = some s → vt t s = F b' c d s := by
 intro i s hi hd
 rw [h i s hi hd]
 by_cases e5 : s = 5
 · subst e5; rw [only5 i hd] at hi; exact (h5 hi).elim
 by_cases e40 : s = 40
 · subst e40; rw [only40 i hd] at hi; exact (h40 hi).elim
 unfold F
 split <;> first | rfl | contradiction
theorem reC {lst : Nat → Prop} {t : T Value} {b c d c' : Nat} (h13 : ¬ lst 11) (h : ∀ i s, lst i → dstAt soOps i = some s → vt t s = F b c d s) : ∀ i s, lst i → dstAt soOps i = some s → vt t s = F b c' d s := by
 intro i s hi hd
 rw [h i s hi hd]
 by_cases e13 : s = 13
 · subst e13; rw [only13 i hd] at hi; exact (h13 hi).elim
 unfold F
 split <;> first | rfl | contradiction
theorem reD {lst : Nat → Prop} {t : T Value} {b c d d' : Nat} (h14 : ¬ lst 12) (h44 : ¬ lst 53) (h4 : ¬ lst 54) (h : ∀ i s, lst i → dstAt soOps i = some s → vt t s = F b c d s) : ∀ i s, lst i → dstAt soOps i = some s → vt t s = F b c d' s := by
 intro i s hi hd
 rw [h i s hi hd]
 by_cases e14 : s = 14
 · subst e14; rw [only14 i hd] at hi; exact (h14 hi).elim
 by_cases e44 : s = 44
 · subst e44; rw [only44 i hd] at hi; exact (h44 hi).elim
 by_cases e4 : s = 4
 · subst e4; rw [only4 i hd] at hi; exact (h4 hi).elim
 unfold F
 split <;> first | rfl | contradiction
end
end Go.Proofs.YtlgakeilplnfmaaGreatDoor
namespace Go.Proofs.YtlgakeilplnfmaaGreatDoor
noncomputable section
open Go Go.X Go.RowKit
theorem mem_setV {k v : Value} {e : Value × Value × Nat} : ∀ {es : List (Value × Value × Nat)} {j : Nat}, e ∈ setV es j k v → e ∈ es ∨ (e.1 = k ∧ e.2.1 = v)
 | [], j, h => .inl (by cases j <;> exact h)
 | x :: es, 0, h => by
  rcases List.mem_cons.1 h with rfl | h
  · exact .inr ⟨rfl, rfl⟩
  · exact .inl (List.mem_cons_of_mem _ h)
 | x :: es, j + 1, h => by
  rcases List.mem_cons.1 h with rfl | h
  · exact .inl List.mem_cons_self
  · rcases mem_setV h with h | h
    · exact .inl (List.mem_cons_of_mem _ h)
    · exact .inr h
theorem setV_has {k v : Value} {e : Value × Value × Nat} : ∀ {es : List (Value × Value × Nat)} {j : Nat}, es[j]? = some e → ∃ e', e' ∈ setV es j k v ∧ e'.1 = k
 | [], j, h => by cases h
 | x :: es, 0, h => ⟨(k, v, x.2.2), List.mem_cons_self, rfl⟩
 | x :: es, j + 1, h => by
  obtain ⟨e', h1, h2⟩ := setV_has (k := k) (v := v) (j := j) (es := es) h
  exact ⟨e', List.mem_cons_of_mem _ h1, h2⟩
theorem setV_keep {k v : Value} {e : Value × Value × Nat} : ∀ {es : List (Value × Value × Nat)} {j : Nat}, es[j]? = some e → e.1 = k → ∀ x, x ∈ es → ∃ e', e' ∈ setV es j k v ∧ e'.1 = x.1
 | [], j, h, _, x, hx => by cases hx
 | y :: es, 0, h, hk, x, hx => by
  have : y = e := Option.some.inj h
  subst this
  rcases List.mem_cons.1 hx with rfl | hx
  · exact ⟨(k, v, x.2.2), List.mem_cons_self, hk.symm⟩
  · exact ⟨x, List.mem_cons_of_mem _ hx, rfl⟩
 | y :: es, j + 1, h, hk, x, hx => by
  rcases List.mem_cons.1 hx with rfl | hx
  · exact ⟨x, List.mem_cons_self, rfl⟩
  · obtain ⟨e', h1, h2⟩ := setV_keep (k := k) (v := v) (j := j) (es := es) h hk x hx
    exact ⟨e', List.mem_cons_of_mem _ h1, h2⟩
theorem und_is : (match Tryz.prog.underlying 331 with
 | some (.map k _) => k == 321
 | _ => false) = true := by kernel_rfl
theorem und_ex : ∃ el, Tryz.prog.underlying 331 = some (.map 321 el) := by
 have h := und_is
 split at h
 · rename_i k el hu
   exact ⟨el, by rw [hu, eq_of_beq h]⟩
 · cases h
theorem ck_tab : (keyL.all fun k => aCheckKey Tryz.prog false 321 (kvp k) && aCheckKey Tryz.prog true 321 (kvp k) && stays (kvp k) (kvp k)) = true := by kernel_rfl
theorem ck_at {k : Int × Int} (hk : k ∈ keyL) : (∀ e, aCheckKey Tryz.prog e 321 (kvp k) = true) ∧ stays (kvp k) (kvp k) = true := by
 have h := List.all_eq_true.1 ck_tab k hk
 rw [Bool.and_eq_true, Bool.and_eq_true] at h
 exact ⟨fun e => by cases e; exact h.1.1; exact h.1.2, h.2⟩
theorem ins_kv {k : Int × Int} (hk : k ∈ keyL) {es : List (Value × Value × Nat)} {cl b : Nat} {h : AH} (v : Value) (hg : h.m.get b = some (.map es cl false)) (hs : ∀ e, e ∈ es → ∃ c, c ∈ keyL ∧ e.1 = kvp c) :
   ∃ es' cl', aUpdate Tryz.prog 331 (.map (some b)) (kvp k) v h = some (aSetMap h b es' cl') ∧ (∀ e, e ∈ es' → e ∈ es ∨ (e.1 = kvp k ∧ e.2.1 = v)) ∧ (∀ e, e ∈ es → ∃ e', e' ∈ es' ∧ e'.1 = e.1) ∧ ∃ e', e' ∈ es' ∧ e'.1 = kvp k := by
 obtain ⟨el, hu⟩ := und_ex
 obtain ⟨hc, hst⟩ := ck_at hk
 rcases find_kv hk hs with ⟨_, hf⟩ | ⟨j, e, h1, h2, hf⟩
 · refine ⟨es ++ [(kvp k, v, cl)], cl + 1, ?_, fun e he => ?_, fun e he => ⟨e, List.mem_append_left _ he, rfl⟩, ⟨_, List.mem_append_right _ List.mem_cons_self, rfl⟩⟩
   · unfold aUpdate
     simp only [hu, hg, hc false, if_true, hf]
   · rcases List.mem_append.1 he with he | he
     · exact .inl he
     · cases List.mem_singleton.1 he
       exact .inr ⟨rfl, rfl⟩
 · refine ⟨setV es j (kvp k) v, cl, ?_, fun e he => mem_setV he, setV_keep h1 h2, setV_has h1⟩
   unfold aUpdate
   simp only [hu, hg, hc false, if_true, hf, h1, h2, hst]
theorem look_kv {k : Int × Int} (hk : k ∈ keyL) {es : List (Value × Value × Nat)} {cl b : Nat} {h : AH} {v : Value} (hg : h.m.get b = some (.map es cl false)) (hs : ∀ e, e ∈ es → ∃ c, c ∈ keyL ∧ e.1 = kvp c)
  (hv : ∀ e, e ∈ es → e.1 = kvp k → e.2.1 = v) (hx : ∃ e, e ∈ es ∧ e.1 = kvp k) : aLookupX Tryz.prog 331 (.map (some b)) (kvp k) false h = some v := by
 obtain ⟨el, hu⟩ := und_ex
 obtain ⟨hc, hst⟩ := ck_at hk
 have : aLookup Tryz.prog 331 (.map (some b)) (kvp k) false h = some v := by
  rcases find_kv hk hs with ⟨hn, hf⟩ | ⟨j, e, h1, h2, hf⟩
  · obtain ⟨e, he, hek⟩ := hx
    exact (hn e he hek).elim
  · unfold aLookup
    simp only [hu, hg, hc, if_true, hf, h1]
    rw [hv e (List.mem_of_getElem? h1) h2]
    rfl
 unfold aLookupX
 rw [this]
def Step1 (i : Nat) : Prop := ∀ (lst : Nat → Prop) (t : T Value) (h : AH) (b c d : Nat), ¬ lst i → (∀ j, edgeTo soOps i j = true → lst j) → (∀ k j, lst k → edgeTo soOps k j = true → lst j) → IV lst t h b c d →
 ∃ l, aStep Tryz.prog soJ 45 t h (opAt i) = some l ∧ ∀ v h', (v, h') ∈ l → ∃ t' b' c' d', aPut 45 t (dstAt soOps i) v = some t' ∧ IV (plus lst i) t' h' b' c' d'
theorem put_is {t : T Value} {v : Value} {s : Nat} (hs : s < 45) : aPut 45 t (some s) v = some (t.set s (some v)) := by
 rw [aPut_eq]
 show (if s < 45 then some (t.set s (some v)) else none) = _
 rw [if_pos hs]
theorem step_val {i s : Nat} {v : T Value → Value} (hst : ∀ t h, aStep Tryz.prog soJ 45 t h (opAt i) = some [(v t, h)]) (hd : dstAt soOps i = some s) (hlt : s < 45) (hs : 2 ≤ s) (hne : i ≠ 0 ∧ i ≠ 11 ∧ i ≠ 12 ∧ i ≠ 13)
  (hv : ∀ (lst : Nat → Prop) (t : T Value) (h : AH) (b c d : Nat), (∀ j, edgeTo soOps i j = true → lst j) → IV lst t h b c d → v t = F b c d s) : Step1 i := by
 intro lst t h b c d hn he hc I
 refine ⟨_, hst t h, fun v' h' hm => ?_⟩
 cases List.mem_singleton.1 hm
 exact ⟨_, b, c, d, by rw [hd]; exact put_is hlt, I.val hd (hv lst t h b c d he I) hs hne⟩
theorem step_valH {i s : Nat} (hd : dstAt soOps i = some s) (hlt : s < 45) (hs : 2 ≤ s) (hne : i ≠ 0 ∧ i ≠ 11 ∧ i ≠ 12 ∧ i ≠ 13)
  (hst : ∀ (lst : Nat → Prop) (t : T Value) (h : AH) (b c d : Nat), (∀ j, edgeTo soOps i j = true → lst j) → IV lst t h b c d → aStep Tryz.prog soJ 45 t h (opAt i) = some [(F b c d s, h)]) : Step1 i := by
 intro lst t h b c d hn he hc I
 refine ⟨_, hst lst t h b c d he I, fun v' h' hm => ?_⟩
 cases List.mem_singleton.1 hm
 exact ⟨_, b, c, d, by rw [hd]; exact put_is hlt, I.val hd rfl hs hne⟩
theorem step_ins {i m k x : Nat} {kk : Int × Int} (hk : kk ∈ keyL) (hst : ∀ t h h', aUpdate Tryz.prog 331 (vt t m) (vt t k) (vt t x) h = some h' → aStep Tryz.prog soJ 45 t h (opAt i) = some [(undef, h')]) (hd : dstAt soOps i = none)
   (hne : i ≠ 0 ∧ i ≠ 11 ∧ i ≠ 12) (hj : edgeTo soOps i 0 = true)
   (hm : ∀ (lst : Nat → Prop) (t : T Value) (h : AH) (b c d : Nat), (∀ j, edgeTo soOps i j = true → lst j) → IV lst t h b c d → vt t m = .map (some b) ∧ vt t k = kvp kk ∧ (kk = (4, 1) → vt t x = fB d)) (hT : i = 13 ↔ kk = (4, 1)) : Step1 i := by
 intro lst t h b c d hn he hc I
 obtain ⟨h1, h2, h3⟩ := hm lst t h b c d he I
 obtain ⟨es, cl, hg, hs, hv, hx⟩ := I.mp (he _ hj)
 obtain ⟨es', cl', hu, k1, k2, k3⟩ := ins_kv hk (vt t x) hg hs
 refine ⟨_, hst t h _ (by rw [h1, h2]; exact hu), fun v' h' hmem => ?_⟩
 cases List.mem_singleton.1 hmem
 have back : ∀ {k}, plus lst i k → k ≠ i → lst k := fun hk hne => hk.resolve_right hne
 have hget : ∀ q, (aSetMap h b es' cl').m.get q = if q = b then some (.map es' cl' false) else h.m.get q := fun q => T.get_set q
 refine ⟨t, b, c, d, by rw [hd]; rfl, I.v0, I.v1, ?_, ?_, ?_, ?_, ?_⟩
 · intro j s hjl hds
   refine I.sl j s (hjl.resolve_right ?_) hds
   rintro rfl
   rw [hd] at hds; cases hds
 · intro _
   refine ⟨es', cl', by rw [hget, if_pos rfl], fun e hee => ?_, fun e hee hek => ?_, fun hti => ?_, fun hti => ?_⟩
   · rcases k1 e hee with h5 | ⟨h5, _⟩
     · exact hs e h5
     · exact ⟨kk, hk, h5⟩
   · rcases k1 e hee with h5 | ⟨h5, h6⟩
     · exact hv e h5 hek
     · rw [h6]
       exact h3 (kvp_inj (h5.symm.trans hek))
   · rcases hti with hti | hti
     · obtain ⟨e, h5, h6⟩ := hx.1 hti
       obtain ⟨e', h7, h8⟩ := k2 e h5
       exact ⟨e', h7, h8.trans h6⟩
     · obtain ⟨e', h7, h8⟩ := k3
       exact ⟨e', h7, by rw [h8, hT.1 hti.symm]⟩
   · obtain ⟨e, h5, h6⟩ := hti
     rcases k1 e h5 with h7 | ⟨h7, _⟩
     · exact .inl (hx.2 ⟨e, h7, h6⟩)
     · exact .inr (hT.2 (kvp_inj (h7.symm.trans h6))).symm
 · exact fun h0 => I.bl (back h0 hne.1.symm)
 · intro h0
   obtain ⟨h5, h6⟩ := I.bc (back h0 hne.2.1.symm)
   refine ⟨?_, h6⟩
   rw [hget, if_neg]
   · exact h5
   · rintro rfl
     rw [hg] at h5; cases h5
 · intro h0
   obtain ⟨h5, h6⟩ := I.bd (back h0 hne.2.2.symm)
   refine ⟨?_, h6⟩
   rw [hget, if_neg]
   · exact h5
   · rintro rfl
     rw [hg] at h5; cases h5
theorem as_0 (t : T Value) (h : AH) : aStep Tryz.prog soJ 45 t h (opAt 0) = some [(.map (some h.next), ⟨h.m.set h.next (some (.map [] 0 false)), h.next + 1⟩)] := by kernel_rfl
theorem st_0 : Step1 0 := by
 intro lst t h b c d hn he hc I
 refine ⟨_, as_0 t h, fun v' h' hm => ?_⟩
 cases List.mem_singleton.1 hm
 have hd : dstAt soOps 0 = some 5 := by kernel_rfl
 have n2 : ¬ lst 49 := fun h0 => hn (hc 49 0 h0 (by kernel_rfl))
 have n3 : ¬ lst 13 := fun h0 => hn (hc 13 0 h0 (by kernel_rfl))
 have sl := reB (b' := h.next) hn n2 I.sl
 have back : ∀ {k}, plus lst 0 k → k ≠ 0 → lst k := fun hk hne => hk.resolve_right hne
 have G := I.grow (.map [] 0 false)
 refine ⟨_, h.next, c, d, by rw [hd]; exact put_is (by decide), ?_, ?_, ?_, ?_, ?_, ?_, ?_⟩
 · rw [vt_set, if_neg (by decide)]; exact I.v0
 · rw [vt_set, if_neg (by decide)]; exact I.v1
 · intro j s' hj hds
   rw [vt_set]
   by_cases e : s' = 5
   · rw [if_pos e, e]; rfl
   · rw [if_neg e]
     refine sl j s' (hj.resolve_right ?_) hds
     rintro rfl
     rw [hd] at hds; cases hds; exact e rfl
 · intro _
   refine ⟨[], 0, ?_, fun e he => (by cases he), fun e he => (by cases he), fun h5 => (n3 (back h5 (by decide))).elim, fun ⟨e, h5, _⟩ => (by cases h5)⟩
   show (h.m.set h.next _).get h.next = _
   rw [T.get_set, if_pos rfl]
 · exact fun _ => Nat.lt_succ_self _
 · exact fun h0 => G.bc (back h0 (by decide))
 · exact fun h0 => G.bd (back h0 (by decide))
theorem as_1 (t : T Value) (h : AH) : aStep Tryz.prog soJ 45 t h (opAt 1) = some [(kvp (1, 1), h)] := by kernel_rfl
theorem st_1 : Step1 1 := step_val (s := 6) (v := fun _ => kvp (1, 1)) as_1 (by kernel_rfl) (by decide) (by decide) ⟨by decide, by decide, by decide, by decide⟩ (fun _ _ _ _ _ _ _ _ => rfl)
theorem as_2 (t : T Value) (h : AH) : aStep Tryz.prog soJ 45 t h (opAt 2) = some [(top, h)] := by kernel_rfl
theorem st_2 : Step1 2 := step_val (s := 7) (v := fun _ => top) as_2 (by kernel_rfl) (by decide) (by decide) ⟨by decide, by decide, by decide, by decide⟩ (fun _ _ _ _ _ _ _ _ => rfl)
theorem as_3 (t : T Value) (h h2 : AH) (e : aUpdate Tryz.prog 331 (vt t 5) (vt t 6) (vt t 7) h = some h2) : aStep Tryz.prog soJ 45 t h (opAt 3) = some [(undef, h2)] := by
 have h1 : aStep Tryz.prog soJ 45 t h (opAt 3) = bindL (osk (aUpdate Tryz.prog 331 (vt t 5) (vt t 6) (vt t 7) h)) (fun p => match p with
  | (.val v, h3) => some [(v, h3)]
  | (.skip, h3) => some [(undef, h3)]
  | (an, h3) => soJ an h3) := by kernel_rfl
 rw [h1, e]; rfl
theorem st_3 : Step1 3 := step_ins (m := 5) (k := 6) (x := 7) (kk := (1, 1)) (by decide) as_3 (by kernel_rfl) ⟨by decide, by decide, by decide⟩ (by kernel_rfl) (fun lst t h b c d he I => ⟨I.sl 0 5 (he 0 (by kernel_rfl)) (by kernel_rfl), I.sl 1 6 (he 1 (by kernel_rfl)) (by kernel_rfl), fun e => (by simp at e)⟩) (by decide)
theorem as_4 (t : T Value) (h : AH) : aStep Tryz.prog soJ 45 t h (opAt 4) = some [(kvp (2, 1), h)] := by kernel_rfl
theorem st_4 : Step1 4 := step_val (s := 8) (v := fun _ => kvp (2, 1)) as_4 (by kernel_rfl) (by decide) (by decide) ⟨by decide, by decide, by decide, by decide⟩ (fun _ _ _ _ _ _ _ _ => rfl)
theorem as_5 (t : T Value) (h : AH) : aStep Tryz.prog soJ 45 t h (opAt 5) = some [(top, h)] := by kernel_rfl
theorem st_5 : Step1 5 := step_val (s := 9) (v := fun _ => top) as_5 (by kernel_rfl) (by decide) (by decide) ⟨by decide, by decide, by decide, by decide⟩ (fun _ _ _ _ _ _ _ _ => rfl)
theorem as_6 (t : T Value) (h h2 : AH) (e : aUpdate Tryz.prog 331 (vt t 5) (vt t 8) (vt t 9) h = some h2) : aStep Tryz.prog soJ 45 t h (opAt 6) = some [(undef, h2)] := by
 have h1 : aStep Tryz.prog soJ 45 t h (opAt 6) = bindL (osk (aUpdate Tryz.prog 331 (vt t 5) (vt t 8) (vt t 9) h)) (fun p => match p with
  | (.val v, h3) => some [(v, h3)]
  | (.skip, h3) => some [(undef, h3)]
  | (an, h3) => soJ an h3) := by kernel_rfl
 rw [h1, e]; rfl
theorem st_6 : Step1 6 := step_ins (m := 5) (k := 8) (x := 9) (kk := (2, 1)) (by decide) as_6 (by kernel_rfl) ⟨by decide, by decide, by decide⟩ (by kernel_rfl) (fun lst t h b c d he I => ⟨I.sl 0 5 (he 0 (by kernel_rfl)) (by kernel_rfl), I.sl 4 8 (he 4 (by kernel_rfl)) (by kernel_rfl), fun e => (by simp at e)⟩) (by decide)
theorem as_7 (t : T Value) (h : AH) : aStep Tryz.prog soJ 45 t h (opAt 7) = some [(kvp (3, 1), h)] := by kernel_rfl
theorem st_7 : Step1 7 := step_val (s := 10) (v := fun _ => kvp (3, 1)) as_7 (by kernel_rfl) (by decide) (by decide) ⟨by decide, by decide, by decide, by decide⟩ (fun _ _ _ _ _ _ _ _ => rfl)
theorem as_8 (t : T Value) (h : AH) : aStep Tryz.prog soJ 45 t h (opAt 8) = some [(top, h)] := by kernel_rfl
theorem st_8 : Step1 8 := step_val (s := 11) (v := fun _ => top) as_8 (by kernel_rfl) (by decide) (by decide) ⟨by decide, by decide, by decide, by decide⟩ (fun _ _ _ _ _ _ _ _ => rfl)
theorem as_9 (t : T Value) (h h2 : AH) (e : aUpdate Tryz.prog 331 (vt t 5) (vt t 10) (vt t 11) h = some h2) : aStep Tryz.prog soJ 45 t h (opAt 9) = some [(undef, h2)] := by
 have h1 : aStep Tryz.prog soJ 45 t h (opAt 9) = bindL (osk (aUpdate Tryz.prog 331 (vt t 5) (vt t 10) (vt t 11) h)) (fun p => match p with
  | (.val v, h3) => some [(v, h3)]
  | (.skip, h3) => some [(undef, h3)]
  | (an, h3) => soJ an h3) := by kernel_rfl
 rw [h1, e]; rfl
theorem st_9 : Step1 9 := step_ins (m := 5) (k := 10) (x := 11) (kk := (3, 1)) (by decide) as_9 (by kernel_rfl) ⟨by decide, by decide, by decide⟩ (by kernel_rfl) (fun lst t h b c d he I => ⟨I.sl 0 5 (he 0 (by kernel_rfl)) (by kernel_rfl), I.sl 7 10 (he 7 (by kernel_rfl)) (by kernel_rfl), fun e => (by simp at e)⟩) (by decide)
theorem as_10 (t : T Value) (h : AH) : aStep Tryz.prog soJ 45 t h (opAt 10) = some [(kvp (4, 1), h)] := by kernel_rfl
theorem st_10 : Step1 10 := step_val (s := 12) (v := fun _ => kvp (4, 1)) as_10 (by kernel_rfl) (by decide) (by decide) ⟨by decide, by decide, by decide, by decide⟩ (fun _ _ _ _ _ _ _ _ => rfl)
theorem as_11 (t : T Value) (h : AH) : aStep Tryz.prog soJ 45 t h (opAt 11) = some [(fT h.next, ⟨h.m.set h.next (some (bx fnA)), h.next + 1⟩)] := by kernel_rfl
theorem st_11 : Step1 11 := by
 intro lst t h b c d hn he hc I
 refine ⟨_, as_11 t h, fun v' h' hm => ?_⟩
 cases List.mem_singleton.1 hm
 have hd : dstAt soOps 11 = some 13 := by kernel_rfl
 have n13 : ¬ lst 13 := fun h0 => hn (hc 12 11 (hc 13 12 h0 (by kernel_rfl)) (by kernel_rfl))
 have n53 : ¬ lst 53 := fun h0 => n13 (hc 49 13 (hc 53 49 h0 (by kernel_rfl)) (by kernel_rfl))
 have n54 : ¬ lst 54 := fun h0 => n53 (hc 54 53 h0 (by kernel_rfl))
 have sl := reC (c' := h.next) hn I.sl
 have back : ∀ {k}, plus lst 11 k → k ≠ 11 → lst k := fun hk hne => hk.resolve_right hne
 have G := I.grow (bx fnA)
 refine ⟨_, b, h.next, d, by rw [hd]; exact put_is (by decide), ?_, ?_, ?_, ?_, ?_, ?_, ?_⟩
 · rw [vt_set, if_neg (by decide)]; exact I.v0
 · rw [vt_set, if_neg (by decide)]; exact I.v1
 · intro j s' hj hds
   rw [vt_set]
   by_cases e : s' = 13
   · rw [if_pos e, e]; rfl
   · rw [if_neg e]
     refine sl j s' (hj.resolve_right ?_) hds
     rintro rfl
     rw [hd] at hds; cases hds; exact e rfl
 · intro h0
   obtain ⟨es, cl, h1, h2, h3, h4⟩ := G.mp (back h0 (by decide))
   refine ⟨es, cl, h1, h2, fun e h5 h6 => (n13 (h4.2 ⟨e, h5, h6⟩)).elim, fun h5 => (n13 (back h5 (by decide))).elim, fun h5 => (n13 (h4.2 h5)).elim⟩
 · exact fun h0 => G.bl (back h0 (by decide))
 · intro _; exact ⟨by show (h.m.set h.next _).get h.next = _; rw [T.get_set, if_pos rfl], Nat.lt_succ_self _⟩
 · exact fun h0 => (hn (hc 12 11 (back h0 (by decide)) (by kernel_rfl))).elim
theorem as_12 (t : T Value) (h : AH) : aStep Tryz.prog soJ 45 t h (opAt 12) = soJ (.enter 220 [vt t 13]) h := by kernel_rfl
theorem bet_at (c : Nat) (h : AH) : soJ (.enter 220 [fT c]) h = some [(fB h.next, ⟨h.m.set h.next (some (bx (fT c))), h.next + 1⟩)] := by kernel_rfl
theorem st_12 : Step1 12 := by
 intro lst t h b c d hn he hc I
 have e : vt t 13 = fT c := I.sl 11 13 (he 11 (by kernel_rfl)) (by kernel_rfl)
 refine ⟨_, by rw [as_12, e]; exact bet_at c h, fun v' h' hm => ?_⟩
 cases List.mem_singleton.1 hm
 have hd : dstAt soOps 12 = some 14 := by kernel_rfl
 have n13 : ¬ lst 13 := fun h0 => hn (hc 13 12 h0 (by kernel_rfl))
 have n53 : ¬ lst 53 := fun h0 => n13 (hc 49 13 (hc 53 49 h0 (by kernel_rfl)) (by kernel_rfl))
 have n54 : ¬ lst 54 := fun h0 => n53 (hc 54 53 h0 (by kernel_rfl))
 have sl := reD (d' := h.next) hn n53 n54 I.sl
 have back : ∀ {k}, plus lst 12 k → k ≠ 12 → lst k := fun hk hne => hk.resolve_right hne
 have G := I.grow (bx (fT c))
 refine ⟨_, b, c, h.next, by rw [hd]; exact put_is (by decide), ?_, ?_, ?_, ?_, ?_, ?_, ?_⟩
 · rw [vt_set, if_neg (by decide)]; exact I.v0
 · rw [vt_set, if_neg (by decide)]; exact I.v1
 · intro j s' hj hds
   rw [vt_set]
   by_cases e : s' = 14
   · rw [if_pos e, e]; rfl
   · rw [if_neg e]
     refine sl j s' (hj.resolve_right ?_) hds
     rintro rfl
     rw [hd] at hds; cases hds; exact e rfl
 · intro h0
   obtain ⟨es, cl, h1, h2, h3, h4⟩ := G.mp (back h0 (by decide))
   refine ⟨es, cl, h1, h2, fun e h5 h6 => (n13 (h4.2 ⟨e, h5, h6⟩)).elim, fun h5 => (n13 (back h5 (by decide))).elim, fun h5 => (n13 (h4.2 h5)).elim⟩
 · exact fun h0 => G.bl (back h0 (by decide))
 · exact fun h0 => G.bc (back h0 (by decide))
 · intro _; exact ⟨by show (h.m.set h.next _).get h.next = _; rw [T.get_set, if_pos rfl], Nat.lt_succ_self _⟩
theorem as_13 (t : T Value) (h h2 : AH) (e : aUpdate Tryz.prog 331 (vt t 5) (vt t 12) (vt t 14) h = some h2) : aStep Tryz.prog soJ 45 t h (opAt 13) = some [(undef, h2)] := by
 have h1 : aStep Tryz.prog soJ 45 t h (opAt 13) = bindL (osk (aUpdate Tryz.prog 331 (vt t 5) (vt t 12) (vt t 14) h)) (fun p => match p with
  | (.val v, h3) => some [(v, h3)]
  | (.skip, h3) => some [(undef, h3)]
  | (an, h3) => soJ an h3) := by kernel_rfl
 rw [h1, e]; rfl
theorem st_13 : Step1 13 := step_ins (m := 5) (k := 12) (x := 14) (kk := (4, 1)) (by decide) as_13 (by kernel_rfl) ⟨by decide, by decide, by decide⟩ (by kernel_rfl) (fun lst t h b c d he I => ⟨I.sl 0 5 (he 0 (by kernel_rfl)) (by kernel_rfl), I.sl 10 12 (he 10 (by kernel_rfl)) (by kernel_rfl), fun _ => I.sl 12 14 (he 12 (by kernel_rfl)) (by kernel_rfl)⟩) (by decide)
theorem as_14 (t : T Value) (h : AH) : aStep Tryz.prog soJ 45 t h (opAt 14) = some [(kvp (5, 1), h)] := by kernel_rfl
theorem st_14 : Step1 14 := step_val (s := 15) (v := fun _ => kvp (5, 1)) as_14 (by kernel_rfl) (by decide) (by decide) ⟨by decide, by decide, by decide, by decide⟩ (fun _ _ _ _ _ _ _ _ => rfl)
theorem as_15 (t : T Value) (h : AH) : aStep Tryz.prog soJ 45 t h (opAt 15) = some [(top, h)] := by kernel_rfl
theorem st_15 : Step1 15 := step_val (s := 16) (v := fun _ => top) as_15 (by kernel_rfl) (by decide) (by decide) ⟨by decide, by decide, by decide, by decide⟩ (fun _ _ _ _ _ _ _ _ => rfl)
theorem as_16 (t : T Value) (h h2 : AH) (e : aUpdate Tryz.prog 331 (vt t 5) (vt t 15) (vt t 16) h = some h2) : aStep Tryz.prog soJ 45 t h (opAt 16) = some [(undef, h2)] := by
 have h1 : aStep Tryz.prog soJ 45 t h (opAt 16) = bindL (osk (aUpdate Tryz.prog 331 (vt t 5) (vt t 15) (vt t 16) h)) (fun p => match p with
  | (.val v, h3) => some [(v, h3)]
  | (.skip, h3) => some [(undef, h3)]
  | (an, h3) => soJ an h3) := by kernel_rfl
 rw [h1, e]; rfl
theorem st_16 : Step1 16 := step_ins (m := 5) (k := 15) (x := 16) (kk := (5, 1)) (by decide) as_16 (by kernel_rfl) ⟨by decide, by decide, by decide⟩ (by kernel_rfl) (fun lst t h b c d he I => ⟨I.sl 0 5 (he 0 (by kernel_rfl)) (by kernel_rfl), I.sl 14 15 (he 14 (by kernel_rfl)) (by kernel_rfl), fun e => (by simp at e)⟩) (by decide)
theorem as_17 (t : T Value) (h : AH) : aStep Tryz.prog soJ 45 t h (opAt 17) = some [(kvp (6, 1), h)] := by kernel_rfl
theorem st_17 : Step1 17 := step_val (s := 17) (v := fun _ => kvp (6, 1)) as_17 (by kernel_rfl) (by decide) (by decide) ⟨by decide, by decide, by decide, by decide⟩ (fun _ _ _ _ _ _ _ _ => rfl)
theorem as_18 (t : T Value) (h : AH) : aStep Tryz.prog soJ 45 t h (opAt 18) = some [(top, h)] := by kernel_rfl
theorem st_18 : Step1 18 := step_val (s := 18) (v := fun _ => top) as_18 (by kernel_rfl) (by decide) (by decide) ⟨by decide, by decide, by decide, by decide⟩ (fun _ _ _ _ _ _ _ _ => rfl)
theorem as_19 (t : T Value) (h h2 : AH) (e : aUpdate Tryz.prog 331 (vt t 5) (vt t 17) (vt t 18) h = some h2) : aStep Tryz.prog soJ 45 t h (opAt 19) = some [(undef, h2)] := by
 have h1 : aStep Tryz.prog soJ 45 t h (opAt 19) = bindL (osk (aUpdate Tryz.prog 331 (vt t 5) (vt t 17) (vt t 18) h)) (fun p => match p with
  | (.val v, h3) => some [(v, h3)]
  | (.skip, h3) => some [(undef, h3)]
  | (an, h3) => soJ an h3) := by kernel_rfl
 rw [h1, e]; rfl
theorem st_19 : Step1 19 := step_ins (m := 5) (k := 17) (x := 18) (kk := (6, 1)) (by decide) as_19 (by kernel_rfl) ⟨by decide, by decide, by decide⟩ (by kernel_rfl) (fun lst t h b c d he I => ⟨I.sl 0 5 (he 0 (by kernel_rfl)) (by kernel_rfl), I.sl 17 17 (he 17 (by kernel_rfl)) (by kernel_rfl), fun e => (by simp at e)⟩) (by decide)
theorem as_20 (t : T Value) (h : AH) : aStep Tryz.prog soJ 45 t h (opAt 20) = some [(kvp (7, 1), h)] := by kernel_rfl
theorem st_20 : Step1 20 := step_val (s := 19) (v := fun _ => kvp (7, 1)) as_20 (by kernel_rfl) (by decide) (by decide) ⟨by decide, by decide, by decide, by decide⟩ (fun _ _ _ _ _ _ _ _ => rfl)
theorem as_21 (t : T Value) (h : AH) : aStep Tryz.prog soJ 45 t h (opAt 21) = some [(top, h)] := by kernel_rfl
theorem st_21 : Step1 21 := step_val (s := 20) (v := fun _ => top) as_21 (by kernel_rfl) (by decide) (by decide) ⟨by decide, by decide, by decide, by decide⟩ (fun _ _ _ _ _ _ _ _ => rfl)
theorem as_22 (t : T Value) (h h2 : AH) (e : aUpdate Tryz.prog 331 (vt t 5) (vt t 19) (vt t 20) h = some h2) : aStep Tryz.prog soJ 45 t h (opAt 22) = some [(undef, h2)] := by
 have h1 : aStep Tryz.prog soJ 45 t h (opAt 22) = bindL (osk (aUpdate Tryz.prog 331 (vt t 5) (vt t 19) (vt t 20) h)) (fun p => match p with
  | (.val v, h3) => some [(v, h3)]
  | (.skip, h3) => some [(undef, h3)]
  | (an, h3) => soJ an h3) := by kernel_rfl
 rw [h1, e]; rfl
theorem st_22 : Step1 22 := step_ins (m := 5) (k := 19) (x := 20) (kk := (7, 1)) (by decide) as_22 (by kernel_rfl) ⟨by decide, by decide, by decide⟩ (by kernel_rfl) (fun lst t h b c d he I => ⟨I.sl 0 5 (he 0 (by kernel_rfl)) (by kernel_rfl), I.sl 20 19 (he 20 (by kernel_rfl)) (by kernel_rfl), fun e => (by simp at e)⟩) (by decide)
theorem as_23 (t : T Value) (h : AH) : aStep Tryz.prog soJ 45 t h (opAt 23) = some [(kvp (8, 1), h)] := by kernel_rfl
theorem st_23 : Step1 23 := step_val (s := 21) (v := fun _ => kvp (8, 1)) as_23 (by kernel_rfl) (by decide) (by decide) ⟨by decide, by decide, by decide, by decide⟩ (fun _ _ _ _ _ _ _ _ => rfl)
theorem as_24 (t : T Value) (h : AH) : aStep Tryz.prog soJ 45 t h (opAt 24) = some [(top, h)] := by kernel_rfl
theorem st_24 : Step1 24 := step_val (s := 22) (v := fun _ => top) as_24 (by kernel_rfl) (by decide) (by decide) ⟨by decide, by decide, by decide, by decide⟩ (fun _ _ _ _ _ _ _ _ => rfl)
theorem as_25 (t : T Value) (h h2 : AH) (e : aUpdate Tryz.prog 331 (vt t 5) (vt t 21) (vt t 22) h = some h2) : aStep Tryz.prog soJ 45 t h (opAt 25) = some [(undef, h2)] := by
 have h1 : aStep Tryz.prog soJ 45 t h (opAt 25) = bindL (osk (aUpdate Tryz.prog 331 (vt t 5) (vt t 21) (vt t 22) h)) (fun p => match p with
  | (.val v, h3) => some [(v, h3)]
  | (.skip, h3) => some [(undef, h3)]
  | (an, h3) => soJ an h3) := by kernel_rfl
 rw [h1, e]; rfl
theorem st_25 : Step1 25 := step_ins (m := 5) (k := 21) (x := 22) (kk := (8, 1)) (by decide) as_25 (by kernel_rfl) ⟨by decide, by decide, by decide⟩ (by kernel_rfl) (fun lst t h b c d he I => ⟨I.sl 0 5 (he 0 (by kernel_rfl)) (by kernel_rfl), I.sl 23 21 (he 23 (by kernel_rfl)) (by kernel_rfl), fun e => (by simp at e)⟩) (by decide)
theorem as_26 (t : T Value) (h : AH) : aStep Tryz.prog soJ 45 t h (opAt 26) = some [(kvp (9, 1), h)] := by kernel_rfl
theorem st_26 : Step1 26 := step_val (s := 23) (v := fun _ => kvp (9, 1)) as_26 (by kernel_rfl) (by decide) (by decide) ⟨by decide, by decide, by decide, by decide⟩ (fun _ _ _ _ _ _ _ _ => rfl)
theorem as_27 (t : T Value) (h : AH) : aStep Tryz.prog soJ 45 t h (opAt 27) = some [(top, h)] := by kernel_rfl
theorem st_27 : Step1 27 := step_val (s := 24) (v := fun _ => top) as_27 (by kernel_rfl) (by decide) (by decide) ⟨by decide, by decide, by decide, by decide⟩ (fun _ _ _ _ _ _ _ _ => rfl)
theorem as_28 (t : T Value) (h h2 : AH) (e : aUpdate Tryz.prog 331 (vt t 5) (vt t 23) (vt t 24) h = some h2) : aStep Tryz.prog soJ 45 t h (opAt 28) = some [(undef, h2)] := by
 have h1 : aStep Tryz.prog soJ 45 t h (opAt 28) = bindL (osk (aUpdate Tryz.prog 331 (vt t 5) (vt t 23) (vt t 24) h)) (fun p => match p with
  | (.val v, h3) => some [(v, h3)]
  | (.skip, h3) => some [(undef, h3)]
  | (an, h3) => soJ an h3) := by kernel_rfl
 rw [h1, e]; rfl
theorem st_28 : Step1 28 := step_ins (m := 5) (k := 23) (x := 24) (kk := (9, 1)) (by decide) as_28 (by kernel_rfl) ⟨by decide, by decide, by decide⟩ (by kernel_rfl) (fun lst t h b c d he I => ⟨I.sl 0 5 (he 0 (by kernel_rfl)) (by kernel_rfl), I.sl 26 23 (he 26 (by kernel_rfl)) (by kernel_rfl), fun e => (by simp at e)⟩) (by decide)
theorem as_29 (t : T Value) (h : AH) : aStep Tryz.prog soJ 45 t h (opAt 29) = some [(kvp (1, 2), h)] := by kernel_rfl
theorem st_29 : Step1 29 := step_val (s := 25) (v := fun _ => kvp (1, 2)) as_29 (by kernel_rfl) (by decide) (by decide) ⟨by decide, by decide, by decide, by decide⟩ (fun _ _ _ _ _ _ _ _ => rfl)
theorem as_30 (t : T Value) (h : AH) : aStep Tryz.prog soJ 45 t h (opAt 30) = some [(top, h)] := by kernel_rfl
theorem st_30 : Step1 30 := step_val (s := 26) (v := fun _ => top) as_30 (by kernel_rfl) (by decide) (by decide) ⟨by decide, by decide, by decide, by decide⟩ (fun _ _ _ _ _ _ _ _ => rfl)
theorem as_31 (t : T Value) (h h2 : AH) (e : aUpdate Tryz.prog 331 (vt t 5) (vt t 25) (vt t 26) h = some h2) : aStep Tryz.prog soJ 45 t h (opAt 31) = some [(undef, h2)] := by
 have h1 : aStep Tryz.prog soJ 45 t h (opAt 31) = bindL (osk (aUpdate Tryz.prog 331 (vt t 5) (vt t 25) (vt t 26) h)) (fun p => match p with
  | (.val v, h3) => some [(v, h3)]
  | (.skip, h3) => some [(undef, h3)]
  | (an, h3) => soJ an h3) := by kernel_rfl
 rw [h1, e]; rfl
theorem st_31 : Step1 31 := step_ins (m := 5) (k := 25) (x := 26) (kk := (1, 2)) (by decide) as_31 (by kernel_rfl) ⟨by decide, by decide, by decide⟩ (by kernel_rfl) (fun lst t h b c d he I => ⟨I.sl 0 5 (he 0 (by kernel_rfl)) (by kernel_rfl), I.sl 29 25 (he 29 (by kernel_rfl)) (by kernel_rfl), fun e => (by simp at e)⟩) (by decide)
theorem as_32 (t : T Value) (h : AH) : aStep Tryz.prog soJ 45 t h (opAt 32) = some [(kvp (3, 2), h)] := by kernel_rfl
theorem st_32 : Step1 32 := step_val (s := 27) (v := fun _ => kvp (3, 2)) as_32 (by kernel_rfl) (by decide) (by decide) ⟨by decide, by decide, by decide, by decide⟩ (fun _ _ _ _ _ _ _ _ => rfl)
theorem as_33 (t : T Value) (h : AH) : aStep Tryz.prog soJ 45 t h (opAt 33) = some [(top, h)] := by kernel_rfl
theorem st_33 : Step1 33 := step_val (s := 28) (v := fun _ => top) as_33 (by kernel_rfl) (by decide) (by decide) ⟨by decide, by decide, by decide, by decide⟩ (fun _ _ _ _ _ _ _ _ => rfl)
theorem as_34 (t : T Value) (h : AH) : aStep Tryz.prog soJ 45 t h (opAt 34) = soJ (.enter 230 [vt t 28]) h := by kernel_rfl
theorem jk_34 (h : AH) : soJ (.enter 230 [top]) h = some [(top, h)] := by kernel_rfl
theorem st_34 : Step1 34 := step_valH (s := 29) (by kernel_rfl) (by decide) (by decide) ⟨by decide, by decide, by decide, by decide⟩ (fun lst t h b c d he I => by
 have e : vt t 28 = top := I.sl 33 28 (he 33 (by kernel_rfl)) (by kernel_rfl)
 rw [as_34, e]; exact jk_34 h)
theorem as_35 (t : T Value) (h h2 : AH) (e : aUpdate Tryz.prog 331 (vt t 5) (vt t 27) (vt t 29) h = some h2) : aStep Tryz.prog soJ 45 t h (opAt 35) = some [(undef, h2)] := by
 have h1 : aStep Tryz.prog soJ 45 t h (opAt 35) = bindL (osk (aUpdate Tryz.prog 331 (vt t 5) (vt t 27) (vt t 29) h)) (fun p => match p with
  | (.val v, h3) => some [(v, h3)]
  | (.skip, h3) => some [(undef, h3)]
  | (an, h3) => soJ an h3) := by kernel_rfl
 rw [h1, e]; rfl
theorem st_35 : Step1 35 := step_ins (m := 5) (k := 27) (x := 29) (kk := (3, 2)) (by decide) as_35 (by kernel_rfl) ⟨by decide, by decide, by decide⟩ (by kernel_rfl) (fun lst t h b c d he I => ⟨I.sl 0 5 (he 0 (by kernel_rfl)) (by kernel_rfl), I.sl 32 27 (he 32 (by kernel_rfl)) (by kernel_rfl), fun e => (by simp at e)⟩) (by decide)
theorem as_36 (t : T Value) (h : AH) : aStep Tryz.prog soJ 45 t h (opAt 36) = some [(kvp (4, 2), h)] := by kernel_rfl
theorem st_36 : Step1 36 := step_val (s := 30) (v := fun _ => kvp (4, 2)) as_36 (by kernel_rfl) (by decide) (by decide) ⟨by decide, by decide, by decide, by decide⟩ (fun _ _ _ _ _ _ _ _ => rfl)
theorem as_37 (t : T Value) (h : AH) : aStep Tryz.prog soJ 45 t h (opAt 37) = some [(top, h)] := by kernel_rfl
theorem st_37 : Step1 37 := step_val (s := 31) (v := fun _ => top) as_37 (by kernel_rfl) (by decide) (by decide) ⟨by decide, by decide, by decide, by decide⟩ (fun _ _ _ _ _ _ _ _ => rfl)
theorem as_38 (t : T Value) (h : AH) : aStep Tryz.prog soJ 45 t h (opAt 38) = soJ (.enter 220 [vt t 31]) h := by kernel_rfl
theorem jk_38 (h : AH) : soJ (.enter 220 [top]) h = some [(top, h)] := by kernel_rfl
theorem st_38 : Step1 38 := step_valH (s := 32) (by kernel_rfl) (by decide) (by decide) ⟨by decide, by decide, by decide, by decide⟩ (fun lst t h b c d he I => by
 have e : vt t 31 = top := I.sl 37 31 (he 37 (by kernel_rfl)) (by kernel_rfl)
 rw [as_38, e]; exact jk_38 h)
theorem as_39 (t : T Value) (h : AH) : aStep Tryz.prog soJ 45 t h (opAt 39) = soJ (.enter 230 [vt t 32]) h := by kernel_rfl
theorem jk_39 (h : AH) : soJ (.enter 230 [top]) h = some [(top, h)] := by kernel_rfl
theorem st_39 : Step1 39 := step_valH (s := 33) (by kernel_rfl) (by decide) (by decide) ⟨by decide, by decide, by decide, by decide⟩ (fun lst t h b c d he I => by
 have e : vt t 32 = top := I.sl 38 32 (he 38 (by kernel_rfl)) (by kernel_rfl)
 rw [as_39, e]; exact jk_39 h)
theorem as_40 (t : T Value) (h h2 : AH) (e : aUpdate Tryz.prog 331 (vt t 5) (vt t 30) (vt t 33) h = some h2) : aStep Tryz.prog soJ 45 t h (opAt 40) = some [(undef, h2)] := by
 have h1 : aStep Tryz.prog soJ 45 t h (opAt 40) = bindL (osk (aUpdate Tryz.prog 331 (vt t 5) (vt t 30) (vt t 33) h)) (fun p => match p with
  | (.val v, h3) => some [(v, h3)]
  | (.skip, h3) => some [(undef, h3)]
  | (an, h3) => soJ an h3) := by kernel_rfl
 rw [h1, e]; rfl
theorem st_40 : Step1 40 := step_ins (m := 5) (k := 30) (x := 33) (kk := (4, 2)) (by decide) as_40 (by kernel_rfl) ⟨by decide, by decide, by decide⟩ (by kernel_rfl) (fun lst t h b c d he I => ⟨I.sl 0 5 (he 0 (by kernel_rfl)) (by kernel_rfl), I.sl 36 30 (he 36 (by kernel_rfl)) (by kernel_rfl), fun e => (by simp at e)⟩) (by decide)
theorem as_41 (t : T Value) (h : AH) : aStep Tryz.prog soJ 45 t h (opAt 41) = some [(kvp (10, 3), h)] := by kernel_rfl
theorem st_41 : Step1 41 := step_val (s := 34) (v := fun _ => kvp (10, 3)) as_41 (by kernel_rfl) (by decide) (by decide) ⟨by decide, by decide, by decide, by decide⟩ (fun _ _ _ _ _ _ _ _ => rfl)
theorem as_42 (t : T Value) (h : AH) : aStep Tryz.prog soJ 45 t h (opAt 42) = some [(top, h)] := by kernel_rfl
theorem st_42 : Step1 42 := step_val (s := 35) (v := fun _ => top) as_42 (by kernel_rfl) (by decide) (by decide) ⟨by decide, by decide, by decide, by decide⟩ (fun _ _ _ _ _ _ _ _ => rfl)
theorem as_43 (t : T Value) (h : AH) : aStep Tryz.prog soJ 45 t h (opAt 43) = soJ (.enter 220 [vt t 35]) h := by kernel_rfl
theorem jk_43 (h : AH) : soJ (.enter 220 [top]) h = some [(top, h)] := by kernel_rfl
theorem st_43 : Step1 43 := step_valH (s := 36) (by kernel_rfl) (by decide) (by decide) ⟨by decide, by decide, by decide, by decide⟩ (fun lst t h b c d he I => by
 have e : vt t 35 = top := I.sl 42 35 (he 42 (by kernel_rfl)) (by kernel_rfl)
 rw [as_43, e]; exact jk_43 h)
theorem as_44 (t : T Value) (h h2 : AH) (e : aUpdate Tryz.prog 331 (vt t 5) (vt t 34) (vt t 36) h = some h2) : aStep Tryz.prog soJ 45 t h (opAt 44) = some [(undef, h2)] := by
 have h1 : aStep Tryz.prog soJ 45 t h (opAt 44) = bindL (osk (aUpdate Tryz.prog 331 (vt t 5) (vt t 34) (vt t 36) h)) (fun p => match p with
  | (.val v, h3) => some [(v, h3)]
  | (.skip, h3) => some [(undef, h3)]
  | (an, h3) => soJ an h3) := by kernel_rfl
 rw [h1, e]; rfl
theorem st_44 : Step1 44 := step_ins (m := 5) (k := 34) (x := 36) (kk := (10, 3)) (by decide) as_44 (by kernel_rfl) ⟨by decide, by decide, by decide⟩ (by kernel_rfl) (fun lst t h b c d he I => ⟨I.sl 0 5 (he 0 (by kernel_rfl)) (by kernel_rfl), I.sl 41 34 (he 41 (by kernel_rfl)) (by kernel_rfl), fun e => (by simp at e)⟩) (by decide)
theorem as_45 (t : T Value) (h : AH) : aStep Tryz.prog soJ 45 t h (opAt 45) = some [(kvp (11, 3), h)] := by kernel_rfl
theorem st_45 : Step1 45 := step_val (s := 37) (v := fun _ => kvp (11, 3)) as_45 (by kernel_rfl) (by decide) (by decide) ⟨by decide, by decide, by decide, by decide⟩ (fun _ _ _ _ _ _ _ _ => rfl)
theorem as_46 (t : T Value) (h : AH) : aStep Tryz.prog soJ 45 t h (opAt 46) = some [(top, h)] := by kernel_rfl
theorem st_46 : Step1 46 := step_val (s := 38) (v := fun _ => top) as_46 (by kernel_rfl) (by decide) (by decide) ⟨by decide, by decide, by decide, by decide⟩ (fun _ _ _ _ _ _ _ _ => rfl)
theorem as_47 (t : T Value) (h : AH) : aStep Tryz.prog soJ 45 t h (opAt 47) = soJ (.enter 220 [vt t 38]) h := by kernel_rfl
theorem jk_47 (h : AH) : soJ (.enter 220 [top]) h = some [(top, h)] := by kernel_rfl
theorem st_47 : Step1 47 := step_valH (s := 39) (by kernel_rfl) (by decide) (by decide) ⟨by decide, by decide, by decide, by decide⟩ (fun lst t h b c d he I => by
 have e : vt t 38 = top := I.sl 46 38 (he 46 (by kernel_rfl)) (by kernel_rfl)
 rw [as_47, e]; exact jk_47 h)
theorem as_48 (t : T Value) (h h2 : AH) (e : aUpdate Tryz.prog 331 (vt t 5) (vt t 37) (vt t 39) h = some h2) : aStep Tryz.prog soJ 45 t h (opAt 48) = some [(undef, h2)] := by
 have h1 : aStep Tryz.prog soJ 45 t h (opAt 48) = bindL (osk (aUpdate Tryz.prog 331 (vt t 5) (vt t 37) (vt t 39) h)) (fun p => match p with
  | (.val v, h3) => some [(v, h3)]
  | (.skip, h3) => some [(undef, h3)]
  | (an, h3) => soJ an h3) := by kernel_rfl
 rw [h1, e]; rfl
theorem st_48 : Step1 48 := step_ins (m := 5) (k := 37) (x := 39) (kk := (11, 3)) (by decide) as_48 (by kernel_rfl) ⟨by decide, by decide, by decide⟩ (by kernel_rfl) (fun lst t h b c d he I => ⟨I.sl 0 5 (he 0 (by kernel_rfl)) (by kernel_rfl), I.sl 45 37 (he 45 (by kernel_rfl)) (by kernel_rfl), fun e => (by simp at e)⟩) (by decide)
theorem as_49 (t : T Value) (h : AH) : aStep Tryz.prog soJ 45 t h (opAt 49) = some [(vt t 5, h)] := by kernel_rfl
theorem st_49 : Step1 49 := step_val (s := 40) (v := fun t => vt t 5) as_49 (by kernel_rfl) (by decide) (by decide) ⟨by decide, by decide, by decide, by decide⟩ (fun lst t h b c d he I => I.sl 0 5 (he 0 (by kernel_rfl)) (by kernel_rfl))
theorem as_50 (t : T Value) (h : AH) : aStep Tryz.prog soJ 45 t h (opAt 50) = some [(vt t 0, h)] := by kernel_rfl
theorem st_50 : Step1 50 := step_val (s := 41) (v := fun t => vt t 0) as_50 (by kernel_rfl) (by decide) (by decide) ⟨by decide, by decide, by decide, by decide⟩ (fun lst t h b c d he I => I.v0)
theorem as_51 (t : T Value) (h : AH) : aStep Tryz.prog soJ 45 t h (opAt 51) = some [(vt t 1, h)] := by kernel_rfl
theorem st_51 : Step1 51 := step_val (s := 42) (v := fun t => vt t 1) as_51 (by kernel_rfl) (by decide) (by decide) ⟨by decide, by decide, by decide, by decide⟩ (fun lst t h b c d he I => I.v1)
theorem lk_52 (h : AH) : bindL (match aBuild Tryz.prog 321 [(0, .int .i64 4), (1, .int .i64 1)] with
 | some v => some [(AN.val v, h)]
 | none => none) (fun p => match p with
 | (.val v, h3) => some [(v, h3)]
 | (.skip, h3) => some [(undef, h3)]
 | (an, h3) => soJ an h3) = some [(kvp (4, 1), h)] := by kernel_rfl
theorem as_52 (t : T Value) (h : AH) (e1 : vt t 41 = .int .i64 4) (e2 : vt t 42 = .int .i64 1) : aStep Tryz.prog soJ 45 t h (opAt 52) = some [(kvp (4, 1), h)] := by
 have h1 : aStep Tryz.prog soJ 45 t h (opAt 52) = bindL (match aBuild Tryz.prog 321 [(0, vt t 41), (1, vt t 42)] with
  | some v => some [(AN.val v, h)]
  | none => none) (fun p => match p with
  | (.val v, h3) => some [(v, h3)]
  | (.skip, h3) => some [(undef, h3)]
  | (an, h3) => soJ an h3) := by kernel_rfl
 rw [h1, e1, e2]; exact lk_52 h
theorem st_52 : Step1 52 := step_valH (s := 43) (by kernel_rfl) (by decide) (by decide) ⟨by decide, by decide, by decide, by decide⟩ (fun lst t h b c d he I => as_52 t h (I.sl 50 41 (he 50 (by kernel_rfl)) (by kernel_rfl)) (I.sl 51 42 (he 51 (by kernel_rfl)) (by kernel_rfl)))
theorem as_53 (t : T Value) (h : AH) (v : Value) (e : aLookupX Tryz.prog 331 (vt t 40) (vt t 43) false h = some v) : aStep Tryz.prog soJ 45 t h (opAt 53) = some [(v, h)] := by
 have h1 : aStep Tryz.prog soJ 45 t h (opAt 53) = bindL (match aLookupX Tryz.prog 331 (vt t 40) (vt t 43) false h with
  | some v => some [(AN.val v, h)]
  | none => none) (fun p => match p with
  | (.val v, h3) => some [(v, h3)]
  | (.skip, h3) => some [(undef, h3)]
  | (an, h3) => soJ an h3) := by kernel_rfl
 rw [h1, e]; rfl
theorem edge_49 : ((List.range 49).all fun j => edgeTo soOps 49 j) = true := by kernel_rfl
theorem st_53 : Step1 53 := by
 intro lst t h b c d hn he hc I
 have h0 : lst 49 := he 49 (by kernel_rfl)
 have hall : ∀ j, j < 49 → lst j := fun j hj => hc 49 j h0 (List.all_eq_true.1 edge_49 j (List.mem_range.2 hj))
 obtain ⟨es, cl, hg, hs, hv, hx⟩ := I.mp (hall 0 (by decide))
 have e1 : vt t 40 = .map (some b) := I.sl 49 40 (he 49 (by kernel_rfl)) (by kernel_rfl)
 have e2 : vt t 43 = kvp (4, 1) := I.sl 52 43 (he 52 (by kernel_rfl)) (by kernel_rfl)
 have e3 := look_kv (k := (4, 1)) (by decide) hg hs hv (hx.1 (hall 13 (by decide)))
 refine ⟨_, as_53 t h (fB d) (by rw [e1, e2]; exact e3), fun v' h' hm => ?_⟩
 cases List.mem_singleton.1 hm
 have hd : dstAt soOps 53 = some 44 := by kernel_rfl
 exact ⟨_, b, c, d, by rw [hd]; exact put_is (by decide), I.val hd rfl (by decide) ⟨by decide, by decide, by decide, by decide⟩⟩
theorem as_54 (t : T Value) (h : AH) : aStep Tryz.prog soJ 45 t h (opAt 54) = some [(vt t 44, h)] := by kernel_rfl
theorem st_54 : Step1 54 := step_val (s := 4) (v := fun t => vt t 44) as_54 (by kernel_rfl) (by decide) (by decide) ⟨by decide, by decide, by decide, by decide⟩ (fun lst t h b c d he I => I.sl 53 44 (he 53 (by kernel_rfl)) (by kernel_rfl))
end
end Go.Proofs.YtlgakeilplnfmaaGreatDoor
namespace Go.Proofs.YtlgakeilplnfmaaGreatDoor
noncomputable section
open Go Go.X Go.RowKit
theorem so_all : ∀ i, i < 55 → Step1 i
 | 0, _ => st_0
 | 1, _ => st_1
 | 2, _ => st_2
 | 3, _ => st_3
 | 4, _ => st_4
 | 5, _ => st_5
 | 6, _ => st_6
 | 7, _ => st_7
 | 8, _ => st_8
 | 9, _ => st_9
 | 10, _ => st_10
 | 11, _ => st_11
 | 12, _ => st_12
 | 13, _ => st_13
 | 14, _ => st_14
 | 15, _ => st_15
 | 16, _ => st_16
 | 17, _ => st_17
 | 18, _ => st_18
 | 19, _ => st_19
 | 20, _ => st_20
 | 21, _ => st_21
 | 22, _ => st_22
 | 23, _ => st_23
 | 24, _ => st_24
 | 25, _ => st_25
 | 26, _ => st_26
 | 27, _ => st_27
 | 28, _ => st_28
 | 29, _ => st_29
 | 30, _ => st_30
 | 31, _ => st_31
 | 32, _ => st_32
 | 33, _ => st_33
 | 34, _ => st_34
 | 35, _ => st_35
 | 36, _ => st_36
 | 37, _ => st_37
 | 38, _ => st_38
 | 39, _ => st_39
 | 40, _ => st_40
 | 41, _ => st_41
 | 42, _ => st_42
 | 43, _ => st_43
 | 44, _ => st_44
 | 45, _ => st_45
 | 46, _ => st_46
 | 47, _ => st_47
 | 48, _ => st_48
 | 49, _ => st_49
 | 50, _ => st_50
 | 51, _ => st_51
 | 52, _ => st_52
 | 53, _ => st_53
 | 54, _ => st_54
 | n + 55, h => absurd h (by omega)
theorem lr_two {φ : Phi} {a b : Value} {l : List Value} (h : LR φ [a, b] l) : ∃ x y, l = [x, y] ∧ VR φ a x ∧ VR φ b y := by
 cases h with
 | cons h1 h2 => cases h2 with
  | cons h3 h4 => cases h4; exact ⟨_, _, rfl, h1, h3⟩
theorem so_edges2 : ((List.range 55).all fun i => match soOps[i]? with
 | some o => (edgesOf o).all fun j => Nat.blt j i
 | none => true) = true := by kernel_rfl
theorem so_edge (i : Nat) (o : Oper) (j : Nat) (ho : soOps[i]? = some o) (hj : j ∈ edgesOf o) : j < i := by
 have hi : i < 55 := by rw [← so_size]; exact (Array.getElem?_eq_some_iff.1 ho).1
 have h := List.all_eq_true.1 so_edges2 i (List.mem_range.2 hi)
 rw [ho] at h
 have := List.all_eq_true.1 h j hj
 exact Nat.lt_of_lt_of_le (Nat.lt_succ_self j) (Nat.le_of_ble_eq_true this)
def t0 : T Value := T.fill [.int .i64 4, .int .i64 1] 0 .e
def t1 : T Value := t0.set 4 (some .nilFunc)
theorem so_first : aCode Tryz.prog soC 45 100 none (.region 0 soOps0 false) t0 [] ah0 = some [⟨.normal, t1, [], ah0⟩] := by kernel_rfl
theorem t1_0 : vt t1 0 = .int .i64 4 := by kernel_rfl
theorem t1_1 : vt t1 1 = .int .i64 1 := by kernel_rfl
theorem so_asg : dstAt soOps 54 = some 4 := by kernel_rfl
theorem so_res (t : T Value) (h : AH) : aRes Tryz.prog soFn.ntmps t h soFn.results.toList = some (vt t 4) := by kernel_rfl
theorem ops_calls (W : World) : Calls Tryz.prog 210 ⟨[.int .i64 4, .int .i64 1]⟩ W fun e w' => ∃ v' φ' h' c d, e = .returned v' ∧ R W φ' h' w' ∧ h'.m.get c = some (bx fnA) ∧ h'.m.get d = some (bx (fT c)) ∧ VR φ' (fB d) v' := by
 refine (callsIn_wide (n := 0)).1 (callsIn_of_wp_marks so_fn so_body trivial ?_ rfl)
 have f0 : FR none0 45 t0 _ := FR.entry (m := 45) (LR.refl_of (l := [.int .i64 4, .int .i64 1]) none0 rfl) (by decide)
 refine wpIn_seq (wpIn_mono (code_ok so_noCount so_mixed (soC_ok W) none 100 (.region 0 soOps0 false) (q := none) 0 so_first (R.first W) f0 .nil rfl) ?_)
 rintro e a1 w1 ⟨o, ho, hex, φ1, nx1, r1, f1, d1⟩
 cases List.mem_singleton.1 ho
 cases hex
 have d1' : a1.defers = [] := by generalize a1.defers = z at d1; cases d1; rfl
 refine wpIn_seq (any_inv (q := none) so_mixed (Inv := fun lst a w => ∃ φ t h b c d, R W φ h w ∧ FR φ 45 t a.tmps ∧ a.defers = [] ∧ IV lst t h b c d) so_edge ?_ ?_ ?_)
 · rintro lst a w i o ho hun hrd hcl ⟨φ, t, h, b, c, d, r, f, hd, I⟩ K hK
   have hi : i < 55 := by rw [← so_size]; exact (Array.getElem?_eq_some_iff.1 ho).1
   have hed : ∀ {i j}, edgeTo soOps i j = true → ∃ o, soOps[i]? = some o ∧ j ∈ edgesOf o := by
    intro i j he
    unfold edgeTo at he
    cases hg : soOps[i]? with
    | none => rw [hg] at he; cases he
    | some o => rw [hg] at he; exact ⟨o, rfl, List.contains_iff_mem.1 he⟩
   obtain ⟨l, hs, hl⟩ := so_all i hi lst t h b c d hun (fun j he => by
    obtain ⟨o', h1, h2⟩ := hed he
    rw [ho] at h1; cases h1; exact hrd j h2) (fun k j hk he => by
    obtain ⟨o', h1, h2⟩ := hed he
    exact hcl k o' hk h1 j h2) I
   have hop : opAt i = o.op := by unfold opAt; rw [ho]
   rw [hop] at hs
   have hgd : o.guard = none := by
    have := List.all_eq_true.1 so_guard i (List.mem_range.2 hi)
    unfold gOk at this
    rw [ho] at this
    exact Option.isNone_iff_eq_none.1 this
   have hw : Region.wanted o (yielded soOps a.tmps) = true := by unfold Region.wanted; rw [hgd]
   unfold wpOpIn
   rw [ho]
   dsimp only
   rw [if_pos hw]
   refine step_ok so_noCount (soJ_ok W) r f hs ?_
   intro v h' v' w' φ' hm nx r' hv
   obtain ⟨t', b', c', d', hp, I'⟩ := hl v h' hm
   rw [dstAt_eq ho] at hp
   obtain ⟨f', hdf⟩ := put_ok (f.mono nx.le) hp hv
   exact hK _ _ ⟨φ', t', h', b', c', d', r', f', hdf.trans hd, I'⟩
 · rintro lst a w hall ⟨φ, t, h, b, c, d, r, f, hd, I⟩
   refine wpIn_ret ?_
   show LeavesInM Fence.wide 0 Tryz.prog soFn a.tmps _ a.defers .returning w
   rw [so_size] at hall
   have hv : aRes Tryz.prog soFn.ntmps t h soFn.results.toList = some (fB d) := by
    rw [so_res, I.sl 54 4 (hall _ (by decide)) so_asg]; rfl
   have dr : DR [] φ [] a.defers := by rw [hd]; exact .nil
   refine LeavesInM.mono ?_ _ (leaves_ok [] (l := [(fB d, h)]) (h := h) (φ := φ) rfl dr r f (.refl φ h) hv (List.mem_singleton.2 rfl))
   rintro e w' ⟨v', rfl, v, h', hm, φ', nx, r', hv'⟩
   cases List.mem_singleton.1 hm
   exact ⟨v', φ', h, c, d, rfl, r', (I.bc (hall _ (by decide))).1, (I.bd (hall _ (by decide))).1, hv'⟩
 · exact ⟨φ1, t1, ah0, 0, 0, 0, r1.drew, f1, d1', t1_0, t1_1, fun _ _ h => h.elim, fun h => h.elim, fun h => h.elim, fun h => h.elim, fun h => h.elim⟩
def knownOps (call : Call1) : Call1 := fun an h => match an with
 | .enter f args => (match Nat.beq f 210, args with
  | true, [.int .i64 4, .int .i64 1] => some [(fB (h.next + 1), ⟨(h.m.set h.next (some (bx fnA))).set (h.next + 1) (some (bx (fT h.next))), h.next + 1 + 1⟩)]
  | _, _ => call (.enter f args) h)
 | an => call an h
theorem knownOps_ok {w0 : World} {call : Call1} (hc : CallsOk w0 Tryz.prog call) : CallsOk w0 Tryz.prog (knownOps call) := by
 intro an h l φ w nx hs hr hnr
 unfold knownOps at hs
 split at hs
 · rename_i f args
   split at hs
   · rename_i hb
     cases hs
     have hf : f = 210 := Nat.eq_of_beq_eq_true hb
     subst hf
     cases hnr with
     | enter hl =>
      refine ⟨?_, fun _ _ _ _ _ e => by cases e⟩
      intro f' args' e
      cases e
      obtain ⟨x1, x2, rfl, hx1, hx2⟩ := lr_two hl
      have := pfv_same (v := .int .i64 4) rfl hx1
      subst this
      have := pfv_same (v := .int .i64 1) rfl hx2
      subst this
      refine Calls.mono (ops_calls w) fun e w' he => ?_
      obtain ⟨v', φ2, h2, c, d, rfl, r2, h3, h4, hv⟩ := he
      obtain ⟨p, rfl, hp⟩ := fn_inv hv
      obtain ⟨i, hi, _, rfl⟩ := hp.ptr_inv
      have hord := r2.dom d i _ hi h4
      -- the block of what was turned
      obtain ⟨j, hj⟩ : ∃ j, φ2 c = some j := by
       obtain ⟨h5, h6, h7, arr, el, h8, h9, h10, h11⟩ := hord
       obtain ⟨u, u', e1, e2, e3⟩ := h11 0 Nat.zero_lt_one
       have : u = fT c := (Option.some.inj e1).symm
       subst this
       obtain ⟨p, rfl, hp⟩ := fn_inv e3
       obtain ⟨i2, hi2, hs2, rfl⟩ := hp.ptr_inv
       exact ⟨i2, hi2⟩
      have horc := r2.dom c j _ hj h3
      have hcd : j.c ≠ i.c := fun e => by
       have := r2.inj c d j i _ _ hj hi h3 h4 rfl e
       subst this
       rw [h3] at h4; cases h4
      obtain ⟨φ3, nx3, k3, r3, q3⟩ := adoptLe hr r2.below (i := j) (o := bx fnA) (r2.low c j _ hj h3 rfl) (r2.lt c j hj).1 (fun φ' _ => bx_plain horc φ')
      obtain ⟨φ4, nx4, k4, r4, _⟩ := adoptAt r3 (i := i) (o := bx (fT h.next)) (fun k j' hj' e => by
       by_cases hk : k = h.next
       · subst hk
         rw [k3] at hj'; cases hj'
         exact hcd e
       · have h5 := (hr.lt k j' (q3 k j' hj' hk)).1
         have h6 := r2.low d i _ hi h4 rfl
         omega) (Nat.le_trans hr.below.size (r2.low d i _ hi h4 rfl)) (r2.lt d i hi).1 (fun φ' le => bx_ptr hj (le h.next j k3) hord)
      exact ⟨_, rfl, _, _, List.mem_singleton.2 rfl, φ4, nx3.trans nx4, r4, .func' (.same (fun l e => by cases e)) .nil (.cons (.ptr (a := ⟨h.next + 1, 0, none⟩) i k4 rfl) .nil)⟩
   · exact hc _ _ _ _ _ _ hs hr hnr
 · exact hc _ _ _ _ _ _ hs hr hnr
end
end Go.Proofs.YtlgakeilplnfmaaGreatDoor
