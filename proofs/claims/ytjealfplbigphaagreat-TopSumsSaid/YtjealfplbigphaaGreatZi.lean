/- Worlds of the program and walks of its functions. -/
import Derived.Test.YtjealfplbigphaaGreatZf
import Derived.Test.YtjealfplbigphaaGreatProg
import Derived.ProofKit
import Derived.Test.YtjealfplbigphaaGreatZh
import Derived.WalkKit
import Derived.OpenShut
import Derived.Deep.Slices
import Derived.Carry
import Derived.Test.YtjealfplbigphaaGreatZg
namespace Go.Proofs.YtjealfplbigphaaGreat
noncomputable section
open Go Go.X Go.RowKit
theorem qy9 : NoCount Tryz.prog := xy8 (by decide +kernel)
theorem qw7 : Tryz.prog.follows .mixedOrders = true := by kernel_rfl
abbrev soC : Call1 := aRunW ov0 Tryz.prog 100 10
theorem xq9 (W : World) : CallsOk W Tryz.prog soC := qx1 qy9 qw7 100 (fun _ h => ov0_ok h) 10
abbrev top : Value := .chan none
abbrev kv (a b : Int) : Value := .agg ⟨[.int .i64 a, .int .i64 b]⟩
abbrev fnA : Value := .func (.func 72) ⟨[]⟩ ⟨[]⟩
abbrev fT (b : Nat) : Value := .func (.func 86) ⟨[]⟩ ⟨[.pointer (some ⟨b, 0, none⟩)]⟩
abbrev fB (b : Nat) : Value := .func (.func 86) ⟨[]⟩ ⟨[.pointer (some ⟨b, 0, none⟩)]⟩
def bx (v : Value) : AObj := .cells (T.fill [v] 0 .e) 1 0 false
def isFnO (l : Option (List (Value × AH))) : Bool := match l with
 | some [(.func _ _ _, _)] => true
 | _ => false
theorem jx8 {g : FuncId} (hg : isFnO (soC (.enter g [top]) ah0) = true) {x : Value} (h1 : x.oneCell' = true) (h2 : notBool x = true) (w : World) :
   Calls Tryz.prog g ⟨[x]⟩ w fun e w' => ∃ v, e = .returned v /\ v.oneCell' = true /\ notBool v = true /\ Below w.heap.size w w' := by
 unfold isFnO at hg
 split at hg
 . rename_i f a b h' hl
   have hc := (xq9 w _ _ _ none0 w (.enter g ⟨[x]⟩) hl (R.first w) (.enter (.cons (.top x h1 h2) .nil))).1 _ _ rfl
   refine Calls.mono hc fun e w' he => ?_
   obtain ⟨v', rfl, v, h2, hm, φ', _, hr, hv⟩ := he
   cases List.mem_singleton.1 hm
   exact ⟨v', rfl, hv.one.trans rfl, hv.nb.trans rfl, hr.below⟩
 . cases hg
theorem ug1 : ([60, 63, 65, 69, 73, 75].all fun g => isFnO (soC (.enter g [top]) ah0)) = true := by kernel_rfl
def isJunk (g : FuncId) : Bool := [60, 63, 65, 69, 73, 75].contains g
theorem tur_is : soC (.enter 60 [fnA]) ah0 = some [(fT 0, ⟨T.set .e 0 (some (bx fnA)), 1⟩)] := by kernel_rfl
theorem adoptAt {w0 w : World} {φ : Phi} {h : AH} (rg : R w0 φ h w) {i : Im} {o : AObj} (hfr : ∀ k j, φ k = some j -> j.c ≠ i.c) (hc : w0.heap.size ≤ i.c) (hl : i.c < w.heap.size) (hx : ∀ φ', Le φ φ' -> OR φ' i w o) :
   ∃ φ', Nx φ φ' h ⟨h.m.set h.next (some o), h.next + 1⟩ /\ φ' h.next = some i /\ R w0 φ' ⟨h.m.set h.next (some o), h.next + 1⟩ w /\ ∀ k j, φ' k = some j -> k ≠ h.next -> φ k = some j := by
 have le : Le φ (fun b => if b = h.next then some i else φ b) := by
   intro b j hj
   have := (rg.lt b j hj).2
   show (if b = h.next then some i else φ b) = some j
   rw [if_neg (by omega)]; exact hj
 refine ⟨fun b => if b = h.next then some i else φ b, ⟨le, Nat.le_succ _, fun b hb hlt => ⟨by show (if b = h.next then some i else φ b) = none; rw [if_neg (by omega)]; exact hb, by show (h.m.set h.next (some o)).get b = _; rw [T.get_set, if_neg (by omega)]⟩⟩, if_pos rfl, ?_, fun k j hj hk => by
   have hj : (if k = h.next then some i else φ k) = some j := hj
   rw [if_neg hk] at hj; exact hj⟩
 have hget : ∀ k, (h.m.set h.next (some o)).get k = if k = h.next then some o else h.m.get k := fun k => T.get_set k
 refine ⟨fun k j o2 hj hk => ?_, fun k j o2 hj hk hr => ?_, fun k k' j j' o2 o3 hj hj' hk hk' hr hcc => ?_, fun k j hj => ?_, trivial, rg.below⟩
 . rw [hget] at hk
   by_cases e : k = h.next
   . subst e; rw [if_pos rfl] at hk; cases hk
     rw [if_pos rfl] at hj; cases hj
     exact hx _ le
   . rw [if_neg e] at hk hj
     exact (rg.dom k j o2 hj hk).mono le
 . rw [hget] at hk
   by_cases e : k = h.next
   . subst e
     rw [if_pos rfl] at hj; cases hj
     exact hc
   . rw [if_neg e] at hk hj
     exact rg.low k j o2 hj hk hr
 . rw [hget] at hk hk'
   by_cases e : k = h.next
   . by_cases e' : k' = h.next
     . rw [e, e']
     . subst e
       rw [if_pos rfl] at hj; cases hj
       rw [if_neg e'] at hj'
       exact (hfr k' j' hj' hcc.symm).elim
   . by_cases e' : k' = h.next
     . subst e'
       rw [if_pos rfl] at hj'; cases hj'
       rw [if_neg e] at hj
       exact (hfr k j hj hcc).elim
     . rw [if_neg e] at hk hj
       rw [if_neg e'] at hk' hj'
       exact rg.inj k k' j j' o2 o3 hj hj' hk hk' hr hcc
 . by_cases e : k = h.next
   . subst e; rw [if_pos rfl] at hj; cases hj
     exact ⟨hl, Nat.lt_succ_self _⟩
   . rw [if_neg e] at hj
     have := rg.lt k j hj
     exact ⟨this.1, Nat.lt_succ_of_lt this.2⟩
theorem adoptLe {w0 w w' : World} {φ : Phi} {h : AH} (r : R w0 φ h w) (bl : Below w.heap.size w w') {i : Im} {o : AObj} (hc : w.heap.size ≤ i.c) (hl : i.c < w'.heap.size) (hx : ∀ φ', Le φ φ' -> OR φ' i w' o) :
  ∃ φ', Nx φ φ' h ⟨h.m.set h.next (some o), h.next + 1⟩ /\ φ' h.next = some i /\ R w0 φ' ⟨h.m.set h.next (some o), h.next + 1⟩ w' /\ ∀ k j, φ' k = some j -> k ≠ h.next -> φ k = some j :=
 adoptAt (r.grown bl) (fun k j hj => by have := (r.lt k j hj).1; omega) (Nat.le_trans r.below.size hc) hl hx
theorem yw8 {φ : Phi} {i : Im} {w : World} (k : OR φ i w (bx fnA)) : ∀ φ', OR φ' i w (bx fnA) := by
 intro φ'
 obtain ⟨h1, h2, h3, arr, el, h4, h5, h6, h7⟩ := k
 refine ⟨h1, h2, h3, arr, el, h4, h5, h6, fun k hk => ?_⟩
 obtain ⟨v, v', e1, e2, e3⟩ := h7 k hk
 have hk0 : k = 0 := by omega
 subst hk0
 have : v = fnA := (Option.some.inj e1).symm
 subst this
 have := U4 (v := fnA) rfl e3
 subst this
 exact ⟨_, _, e1, e2, Z9 φ' rfl⟩
theorem ux7 {φ : Phi} {q : FuncId} {p x' : Value} (h : VR φ (.func (.func q) ⟨[]⟩ ⟨[p]⟩) x') : ∃ p', x' = .func (.func q) ⟨[]⟩ ⟨[p']⟩ /\ VR φ p p' := by
 cases h with
 | @func _ f' _ _ a' b' hf ha hb h1 h2 =>
  cases hf with
  | same _ =>
   cases a' with
   | cons _ _ => cases ha
   | nil => cases b' with
    | nil => cases hb
    | cons y m => cases m with
     | cons _ _ => cases hb
     | nil => exact ⟨y, rfl, h2 0 _ _ rfl rfl⟩
def soT (g : FuncId) (x : Value) (h : AH) : Option (List (Value × AH)) := match x with
 | .func (.func q) ⟨[]⟩ ⟨[]⟩ => if g = 60 /\ q = 72 then some [(fT h.next, ⟨h.m.set h.next (some (bx fnA)), h.next + 1⟩)] else none
 | _ => none
def soJ : Call1 := fun an h => match an with
 | .enter g [x] => (match soT g x h with
  | some l => some l
  | none => if isJunk g && topOk x then some [(top, h)] else none)
 | _ => none
theorem soT_ok {w0 w : World} {φ : Phi} {h : AH} {g : FuncId} {x x' : Value} {l : List (Value × AH)} (hs : soT g x h = some l) (r : R w0 φ h w) (hx : VR φ x x') :
   Calls Tryz.prog g ⟨[x']⟩ w fun e w' => ∃ v', e = .returned v' /\ ∃ v h', (v, h') ∈ l /\ ∃ φ', Nx φ φ' h h' /\ R w0 φ' h' w' /\ VR φ' v v' := by
 unfold soT at hs
 split at hs
 . rename_i q
   split at hs
   . rename_i hq
     obtain ⟨rfl, rfl⟩ := hq
     cases hs
     have ex := U4 (v := fnA) rfl hx
     subst ex
     have hc := (xq9 w _ _ _ none0 w (.enter 60 ⟨[fnA]⟩) tur_is (R.first w) (.enter (.cons (Z9 _ rfl) .nil))).1 _ _ rfl
     refine Calls.mono hc fun e w' he => ?_
     obtain ⟨v', rfl, v, h2, hm, φ2, _, hr, hv⟩ := he
     cases List.mem_singleton.1 hm
     obtain ⟨p, rfl, hp⟩ := ux7 hv
     obtain ⟨i, hi, _, rfl⟩ := hp.ptr_inv
     have hor := hr.dom 0 i _ hi rfl
     obtain ⟨φ3, nx, h3, r3, _⟩ := adoptLe r hr.below (i := i) (o := bx fnA) (hr.low 0 i _ hi rfl rfl) (hr.lt 0 i hi).1 (fun φ' _ => yw8 hor φ')
     refine ⟨_, rfl, _, _, List.mem_singleton.2 rfl, φ3, nx, r3, .func' (.same (fun l e => by cases e)) .nil (.cons (.ptr (a := ⟨h.next, 0, none⟩) i h3 rfl) .nil)⟩
   . cases hs
 . cases hs
theorem soJ_ok (w0 : World) : CallsOk w0 Tryz.prog soJ := by
 intro an h l φ w nx hs hr hnr
 unfold soJ at hs
 split at hs
 . rename_i g x
   cases hnr with
   | enter hl =>
    refine ⟨?_, fun _ _ _ _ _ e => by cases e⟩
    intro f' args' e
    cases e
    obtain ⟨x', rfl, hx⟩ := hl.one_inv
    split at hs
    . rename_i l' hl'
      cases hs
      exact soT_ok hl' hr hx
    . split at hs
      . rename_i hb
        cases hs
        rw [Bool.and_eq_true] at hb
        have hg := List.all_eq_true.1 ug1 g (by simpa [isJunk] using hb.1)
        have ht := hb.2
        unfold topOk at ht
        rw [Bool.and_eq_true] at ht
        refine Calls.mono (jx8 hg (hx.one.trans ht.1) (hx.nb.trans ht.2) w) fun e w' he => ?_
        obtain ⟨v, rfl, h1, h2, hb⟩ := he
        exact ⟨v, rfl, top, h, List.mem_singleton.2 rfl, φ, .refl φ h, hr.grown hb, .top v h1 h2⟩
      . cases hs
 . cases hs
def kvp (x : Int × Int) : Value := kv x.1 x.2
def keyL : List (Int × Int) := [(1, 1), (2, 1), (3, 1), (4, 1), (5, 1), (6, 1), (7, 1), (8, 1), (9, 1), (1, 2), (3, 2), (4, 2), (10, 3), (11, 3)]
theorem eq_tab : (keyL.all fun x => keyL.all fun y => (match pureRun Tryz.prog (Op.equal 139 (kvp x) (kvp y)) with
 | some b => b == decide (x = y)
 | none => false)) = true := by kernel_rfl
theorem eq_at {x y : Int × Int} (hx : x ∈ keyL) (hy : y ∈ keyL) : pureRun Tryz.prog (Op.equal 139 (kvp x) (kvp y)) = some (decide (x = y)) := by
 have h := List.all_eq_true.1 (List.all_eq_true.1 eq_tab x hx) y hy
 split at h
 . rename_i b hb
   rw [hb, eq_of_beq h]
 . cases h
theorem xv6 {P : Program} {α β : Type} {x : Sem α} {f : α -> Sem β} {b : α} (hx : pureRun P x = some b) : pureRun P (x >>= f) = pureRun P (f b) := by
 show pureRun P (x.bind f) = _
 induction x with
 | pure a => simp only [pureRun] at hx; cases hx; rfl
 | program k ih => exact ih P hx
 | mark m k ih => exact ih hx
 | _ => simp [pureRun] at hx
theorem yz6 {x y : Int × Int} (h : kvp x = kvp y) : x = y := by
 unfold kvp kv at h
 simp at h
 exact Prod.ext h.1 h.2
theorem uv3 {k : Int × Int} (hk : k ∈ keyL) : ∀ (es : List (Value × Value × Nat)) (i : Nat), (∀ e, e ∈ es -> ∃ c, c ∈ keyL /\ e.1 = kvp c) ->
  ((∀ e, e ∈ es -> e.1 ≠ kvp k) /\ pureRun Tryz.prog (Instr.findAsking 139 (kvp k) (keysOf es) i) = some none) ∨
  ∃ j e, es[j]? = some e /\ e.1 = kvp k /\ pureRun Tryz.prog (Instr.findAsking 139 (kvp k) (keysOf es) i) = some (some (i + j, .nilIface))
 | [], i, _ => .inl ⟨fun e h => (by cases h), rfl⟩
 | e :: es, i, hs => by
  obtain ⟨c, hc, he⟩ := hs e List.mem_cons_self
  have h1 := eq_at hk hc
  rw [<- he] at h1
  have hstep : pureRun Tryz.prog (Instr.findAsking 139 (kvp k) (keysOf (e :: es)) i) = if decide (k = c) then some (some (i, .nilIface)) else pureRun Tryz.prog (Instr.findAsking 139 (kvp k) (keysOf es) (i + 1)) := by
    show pureRun Tryz.prog (Op.equal 139 (kvp k) e.1 >>= _) = _
    rw [xv6 h1]
    cases decide (k = c) <;> rfl
  by_cases hkc : k = c
  . rw [hstep, if_pos (by simpa using hkc)]
    exact .inr ⟨0, e, rfl, by rw [he, hkc], rfl⟩
  . rw [hstep, if_neg (by simpa using hkc)]
    rcases uv3 hk es (i + 1) (fun x hx => hs x (List.mem_cons_of_mem _ hx)) with ⟨h2, h3⟩ | ⟨j, e2, h2, h3, h4⟩
    . refine .inl ⟨fun x hx => ?_, h3⟩
      rcases List.mem_cons.1 hx with rfl | hx
      . rw [he]; exact fun h => hkc (yz6 h).symm
      . exact h2 x hx
    . exact .inr ⟨j + 1, e2, h2, h3, h4.trans (by rw [show i + 1 + j = i + (j + 1) from by omega])⟩
theorem jx3 : (match Tryz.prog.underlying 139 with
 | some (.struct _) => true
 | _ => false) = true := by kernel_rfl
set_option maxRecDepth 100000 in
theorem xw2 {k : Int × Int} (hk : k ∈ keyL) {es : List (Value × Value × Nat)} (hs : ∀ e, e ∈ es -> ∃ c, c ∈ keyL /\ e.1 = kvp c) :
   ((∀ e, e ∈ es -> e.1 ≠ kvp k) /\ aFind Tryz.prog 139 (kvp k) es = some none) ∨ ∃ j e, es[j]? = some e /\ e.1 = kvp k /\ aFind Tryz.prog 139 (kvp k) es = some (some j) := by
 have hp : (pfv (kvp k) && es.all fun e => pfv e.1) = true := by
   rw [Bool.and_eq_true]
   refine ⟨rfl, List.all_eq_true.2 (fun e he => ?_)⟩
   obtain ⟨c, _, h⟩ := hs e he
   rw [h]; rfl
 have hfk : pureRun Tryz.prog (Instr.findKey 139 (kvp k) (keysOf es)) = pureRun Tryz.prog (Instr.findAsking 139 (kvp k) (keysOf es) 0) := by
   have hst := jx3
   split at hst
   . rename_i fs hu
     have h1 : pureRun Tryz.prog (underlying 139) = some (.struct fs) := by
      show (match Tryz.prog.underlying 139 with | some d => some d | none => none) = _
      rw [hu]
     unfold Instr.findKey
     rw [xv6 h1]
     cases es with
     | nil => rfl
     | cons e es => rfl
   . cases hst
 unfold aFind
 rw [if_pos hp, hfk]
 rcases uv3 hk es 0 hs with ⟨h1, h2⟩ | ⟨j, e, h1, h2, h3⟩
 . exact .inl ⟨h1, by rw [h2]; rfl⟩
 . exact .inr ⟨j, e, h1, h2, by rw [h3, Nat.zero_add]; rfl⟩
end
end Go.Proofs.YtjealfplbigphaaGreat
namespace Go.Proofs.YtjealfplbigphaaGreat
noncomputable section
open Go Go.X Go.RowKit
noncomputable abbrev soFn : Func := Tryz.f43
noncomputable def soBody : Code := match soFn.body with
 | some c => c
 | none => .ret
noncomputable def soOps0 : Array Oper := match soBody with
 | .seq (.region _ o _) _ => o
 | _ => #[]
noncomputable def soOps : Array Oper := match soBody with
 | .seq _ (.seq (.region _ o _) _) => o
 | _ => #[]
theorem so_fn : Tryz.prog.funcs[43]? = some soFn := by kernel_rfl
theorem ug3 : soFn.body = some (.seq (.region 0 soOps0 false) (.seq (.region 1 soOps true) .ret)) := by kernel_rfl
theorem zx0 : soOps.size = 55 := by kernel_rfl
noncomputable def opAt (i : Nat) : Op := match soOps[i]? with
 | some o => o.op
 | none => .assign (.const .nilFunc)
noncomputable def gOk (i : Nat) : Bool := match soOps[i]? with
 | some o => o.guard.isNone
 | none => false
theorem jk7 : ((List.range 55).all gOk) = true := by kernel_rfl
def F (b _c d : Nat) : Nat -> Value
 | 0 => .int .i64 1
 | 1 => .int .i64 2
 | 4 => fB d
 | 5 => .map (some b)
 | 6 => kvp (1, 1)
 | 8 => kvp (2, 1)
 | 10 => kvp (3, 1)
 | 12 => kvp (4, 1)
 | 15 => kvp (5, 1)
 | 17 => kvp (6, 1)
 | 19 => kvp (7, 1)
 | 21 => kvp (8, 1)
 | 23 => kvp (9, 1)
 | 25 => kvp (1, 2)
 | 26 => fB d
 | 27 => kvp (3, 2)
 | 30 => kvp (4, 2)
 | 34 => kvp (10, 3)
 | 37 => kvp (11, 3)
 | 40 => .map (some b)
 | 41 => .int .i64 1
 | 42 => .int .i64 2
 | 43 => kvp (1, 2)
 | 44 => fB d
 | _ => top
structure IV (lst : Nat -> Prop) (t : T Value) (h : AH) (b c d : Nat) : Prop where
 v0 : vt t 0 = .int .i64 1
 v1 : vt t 1 = .int .i64 2
 sl : ∀ i s, lst i -> dstAt soOps i = some s -> vt t s = F b c d s
 mp : lst 0 -> ∃ es cl, h.m.get b = some (.map es cl false) /\ (∀ e, e ∈ es -> ∃ k, k ∈ keyL /\ e.1 = kvp k) /\ (∀ e, e ∈ es -> e.1 = kvp (1, 2) -> e.2.1 = fB d) /\ (lst 31 ↔ ∃ e, e ∈ es /\ e.1 = kvp (1, 2))
 bl : lst 0 -> b < h.next
 bc : lst 999 -> True
 bd : lst 30 -> h.m.get d = some (bx fnA) /\ d < h.next
theorem qy8 (t : T Value) (s j : Nat) (v : Value) : vt (t.set s (some v)) j = if j = s then v else vt t j := by
 unfold vt
 rw [T.get_set]
 by_cases e : j = s
 . rw [if_pos e, if_pos e]; rfl
 . rw [if_neg e, if_neg e]
def plus (lst : Nat -> Prop) (i : Nat) : Nat -> Prop := fun j => lst j ∨ j = i
theorem IV.val {lst : Nat -> Prop} {t : T Value} {h : AH} {b c d i s : Nat} {v : Value} (I : IV lst t h b c d) (hi : dstAt soOps i = some s) (hv : v = F b c d s) (hs : 2 ≤ s) (hne : i ≠ 0 /\ i ≠ 999 /\ i ≠ 30 /\ i ≠ 31) : IV (plus lst i) (t.set s (some v)) h b c d := by
 have back : ∀ {k}, plus lst i k -> k ≠ i -> lst k := fun hk hne => hk.resolve_right hne
 refine ⟨?_, ?_, ?_, ?_, ?_, ?_, ?_⟩
 . rw [qy8, if_neg (by omega)]; exact I.v0
 . rw [qy8, if_neg (by omega)]; exact I.v1
 . intro j s' hj hd
   rw [qy8]
   by_cases e : s' = s
   . rw [if_pos e, e, hv]
   . rw [if_neg e]
     refine I.sl j s' (hj.resolve_right ?_) hd
     rintro rfl
     rw [hi] at hd; cases hd; exact e rfl
 . intro h0
   obtain ⟨es, cl, h1, h2, h3, h4⟩ := I.mp (back h0 hne.1.symm)
   exact ⟨es, cl, h1, h2, h3, ⟨fun h5 => h4.1 (back h5 hne.2.2.2.symm), fun h5 => .inl (h4.2 h5)⟩⟩
 . exact fun h0 => I.bl (back h0 hne.1.symm)
 . exact fun h0 => I.bc (back h0 hne.2.1.symm)
 . exact fun h0 => I.bd (back h0 hne.2.2.1.symm)
theorem yk3 {h : AH} {o : AObj} {b : Nat} (hb : b < h.next) : (⟨h.m.set h.next (some o), h.next + 1⟩ : AH).m.get b = h.m.get b := by
 show (h.m.set h.next (some o)).get b = _
 rw [T.get_set, if_neg (by omega)]
theorem IV.grow {lst : Nat -> Prop} {t : T Value} {h : AH} {b c d : Nat} (o : AObj) (I : IV lst t h b c d) : IV lst t ⟨h.m.set h.next (some o), h.next + 1⟩ b c d := by
 refine ⟨I.v0, I.v1, I.sl, ?_, ?_, ?_, ?_⟩
 . intro h0
   rw [yk3 (I.bl h0)]
   exact I.mp h0
 . exact fun h0 => Nat.lt_succ_of_lt (I.bl h0)
 . exact fun h0 => I.bc h0
 . intro h0
   obtain ⟨h1, h2⟩ := I.bd h0
   exact ⟨by rw [yk3 h2]; exact h1, Nat.lt_succ_of_lt h2⟩
theorem only (s i : Nat) (hs : ((List.range 55).all fun j => dstAt soOps j != some s || j == i) = true) : ∀ j, dstAt soOps j = some s -> j = i := by
 intro j hj
 have hlt : j < 55 := by
   rw [<- zx0]
   unfold dstAt at hj
   cases hg : soOps[j]? with
   | none => rw [hg] at hj; cases hj
   | some o => exact (Array.getElem?_eq_some_iff.1 hg).1
 have := List.all_eq_true.1 hs j (List.mem_range.2 hlt)
 rw [Bool.or_eq_true] at this
 rcases this with h | h
 . rw [hj] at h; simp at h
 . exact eq_of_beq h
theorem only5 : ∀ j, dstAt soOps j = some 5 -> j = 0 := only 5 0 (by kernel_rfl)
theorem only40 : ∀ j, dstAt soOps j = some 40 -> j = 49 := only 40 49 (by kernel_rfl)
theorem only26 : ∀ j, dstAt soOps j = some 26 -> j = 30 := only 26 30 (by kernel_rfl)
theorem only44 : ∀ j, dstAt soOps j = some 44 -> j = 53 := only 44 53 (by kernel_rfl)
theorem only4 : ∀ j, dstAt soOps j = some 4 -> j = 54 := only 4 54 (by kernel_rfl)
theorem reB {lst : Nat -> Prop} {t : T Value} {b c d b' : Nat} (h5 : ¬ lst 0) (h40 : ¬ lst 49) (h : ∀ i s, lst i -> dstAt soOps i = some s -> vt t s = F b c d s) : ∀ i s, lst i -> dstAt soOps i = some s -> vt t s = F b' c d s := by
 intro i s hi hd
 rw [h i s hi hd]
 by_cases e5 : s = 5
 . subst e5; rw [only5 i hd] at hi; exact (h5 hi).elim
 by_cases e40 : s = 40
 . subst e40; rw [only40 i hd] at hi; exact (h40 hi).elim
 unfold F
 split <;> first | rfl | contradiction
theorem reD {lst : Nat -> Prop} {t : T Value} {b c d d' : Nat} (h26 : ¬ lst 30) (h44 : ¬ lst 53) (h4 : ¬ lst 54) (h : ∀ i s, lst i -> dstAt soOps i = some s -> vt t s = F b c d s) : ∀ i s, lst i -> dstAt soOps i = some s -> vt t s = F b c d' s := by
 intro i s hi hd
 rw [h i s hi hd]
 by_cases e26 : s = 26
 . subst e26; rw [only26 i hd] at hi; exact (h26 hi).elim
 by_cases e44 : s = 44
 . subst e44; rw [only44 i hd] at hi; exact (h44 hi).elim
 by_cases e4 : s = 4
 . subst e4; rw [only4 i hd] at hi; exact (h4 hi).elim
 unfold F
 split <;> first | rfl | contradiction
end
end Go.Proofs.YtjealfplbigphaaGreat
namespace Go.Proofs.YtjealfplbigphaaGreat
noncomputable section
open Go Go.X Go.RowKit
theorem yv5 {k v : Value} {e : Value × Value × Nat} : ∀ {es : List (Value × Value × Nat)} {j : Nat}, e ∈ setV es j k v -> e ∈ es ∨ (e.1 = k /\ e.2.1 = v)
 | [], j, h => .inl (by cases j <;> exact h)
 | x :: es, 0, h => by
  rcases List.mem_cons.1 h with rfl | h
  . exact .inr ⟨rfl, rfl⟩
  . exact .inl (List.mem_cons_of_mem _ h)
 | x :: es, j + 1, h => by
  rcases List.mem_cons.1 h with rfl | h
  . exact .inl List.mem_cons_self
  . rcases yv5 h with h | h
    . exact .inl (List.mem_cons_of_mem _ h)
    . exact .inr h
theorem yu4 {k v : Value} {e : Value × Value × Nat} : ∀ {es : List (Value × Value × Nat)} {j : Nat}, es[j]? = some e -> ∃ e', e' ∈ setV es j k v /\ e'.1 = k
 | [], j, h => by cases h
 | x :: es, 0, h => ⟨(k, v, x.2.2), List.mem_cons_self, rfl⟩
 | x :: es, j + 1, h => by
  obtain ⟨e', h1, h2⟩ := yu4 (k := k) (v := v) (j := j) (es := es) h
  exact ⟨e', List.mem_cons_of_mem _ h1, h2⟩
theorem zw3 {k v : Value} {e : Value × Value × Nat} : ∀ {es : List (Value × Value × Nat)} {j : Nat}, es[j]? = some e -> e.1 = k -> ∀ x, x ∈ es -> ∃ e', e' ∈ setV es j k v /\ e'.1 = x.1
 | [], j, h, _, x, hx => by cases hx
 | y :: es, 0, h, hk, x, hx => by
  have : y = e := Option.some.inj h
  subst this
  rcases List.mem_cons.1 hx with rfl | hx
  . exact ⟨(k, v, x.2.2), List.mem_cons_self, hk.symm⟩
  . exact ⟨x, List.mem_cons_of_mem _ hx, rfl⟩
 | y :: es, j + 1, h, hk, x, hx => by
  rcases List.mem_cons.1 hx with rfl | hx
  . exact ⟨x, List.mem_cons_self, rfl⟩
  . obtain ⟨e', h1, h2⟩ := zw3 (k := k) (v := v) (j := j) (es := es) h hk x hx
    exact ⟨e', List.mem_cons_of_mem _ h1, h2⟩
theorem und_is : (match Tryz.prog.underlying 149 with
 | some (.map k _) => k == 139
 | _ => false) = true := by kernel_rfl
theorem jk1 : ∃ el, Tryz.prog.underlying 149 = some (.map 139 el) := by
 have h := und_is
 split at h
 . rename_i k el hu
   exact ⟨el, by rw [hu, eq_of_beq h]⟩
 . cases h
theorem ck_tab : (keyL.all fun k => aCheckKey Tryz.prog false 139 (kvp k) && aCheckKey Tryz.prog true 139 (kvp k) && stays (kvp k) (kvp k)) = true := by kernel_rfl
theorem ck_at {k : Int × Int} (hk : k ∈ keyL) : (∀ e, aCheckKey Tryz.prog e 139 (kvp k) = true) /\ stays (kvp k) (kvp k) = true := by
 have h := List.all_eq_true.1 ck_tab k hk
 rw [Bool.and_eq_true, Bool.and_eq_true] at h
 exact ⟨fun e => by cases e; exact h.1.1; exact h.1.2, h.2⟩
theorem ins_kv {k : Int × Int} (hk : k ∈ keyL) {es : List (Value × Value × Nat)} {cl b : Nat} {h : AH} (v : Value) (hg : h.m.get b = some (.map es cl false)) (hs : ∀ e, e ∈ es -> ∃ c, c ∈ keyL /\ e.1 = kvp c) :
   ∃ es' cl', aUpdate Tryz.prog 149 (.map (some b)) (kvp k) v h = some (aSetMap h b es' cl') /\ (∀ e, e ∈ es' -> e ∈ es ∨ (e.1 = kvp k /\ e.2.1 = v)) /\ (∀ e, e ∈ es -> ∃ e', e' ∈ es' /\ e'.1 = e.1) /\ ∃ e', e' ∈ es' /\ e'.1 = kvp k := by
 obtain ⟨el, hu⟩ := jk1
 obtain ⟨hc, hst⟩ := ck_at hk
 rcases xw2 hk hs with ⟨_, hf⟩ | ⟨j, e, h1, h2, hf⟩
 . refine ⟨es ++ [(kvp k, v, cl)], cl + 1, ?_, fun e he => ?_, fun e he => ⟨e, List.mem_append_left _ he, rfl⟩, ⟨_, List.mem_append_right _ List.mem_cons_self, rfl⟩⟩
   . unfold aUpdate
     simp only [hu, hg, hc false, if_true, hf]
   . rcases List.mem_append.1 he with he | he
     . exact .inl he
     . cases List.mem_singleton.1 he
       exact .inr ⟨rfl, rfl⟩
 . refine ⟨setV es j (kvp k) v, cl, ?_, fun e he => yv5 he, zw3 h1 h2, yu4 h1⟩
   unfold aUpdate
   simp only [hu, hg, hc false, if_true, hf, h1, h2, hst]
theorem Qy7 {k : Int × Int} (hk : k ∈ keyL) {es : List (Value × Value × Nat)} {cl b : Nat} {h : AH} {v : Value} (hg : h.m.get b = some (.map es cl false)) (hs : ∀ e, e ∈ es -> ∃ c, c ∈ keyL /\ e.1 = kvp c)
  (hv : ∀ e, e ∈ es -> e.1 = kvp k -> e.2.1 = v) (hx : ∃ e, e ∈ es /\ e.1 = kvp k) : aLookupX Tryz.prog 149 (.map (some b)) (kvp k) false h = some v := by
 obtain ⟨el, hu⟩ := jk1
 obtain ⟨hc, hst⟩ := ck_at hk
 have : aLookup Tryz.prog 149 (.map (some b)) (kvp k) false h = some v := by
  rcases xw2 hk hs with ⟨hn, hf⟩ | ⟨j, e, h1, h2, hf⟩
  . obtain ⟨e, he, hek⟩ := hx
    exact (hn e he hek).elim
  . unfold aLookup
    simp only [hu, hg, hc, if_true, hf, h1]
    rw [hv e (List.mem_of_getElem? h1) h2]
    rfl
 unfold aLookupX
 rw [this]
def Step1 (i : Nat) : Prop := ∀ (lst : Nat -> Prop) (t : T Value) (h : AH) (b c d : Nat), ¬ lst i -> (∀ j, edgeTo soOps i j = true -> lst j) -> (∀ k j, lst k -> edgeTo soOps k j = true -> lst j) -> IV lst t h b c d ->
 ∃ l, aStep Tryz.prog soJ 45 t h (opAt i) = some l /\ ∀ v h', (v, h') ∈ l -> ∃ t' b' c' d', aPut 45 t (dstAt soOps i) v = some t' /\ IV (plus lst i) t' h' b' c' d'
theorem zu4 {t : T Value} {v : Value} {s : Nat} (hs : s < 45) : aPut 45 t (some s) v = some (t.set s (some v)) := by
 rw [zx9]
 show (if s < 45 then some (t.set s (some v)) else none) = _
 rw [if_pos hs]
theorem Q8 {i s : Nat} {v : T Value -> Value} (hst : ∀ t h, aStep Tryz.prog soJ 45 t h (opAt i) = some [(v t, h)]) (hd : dstAt soOps i = some s) (hlt : s < 45) (hs : 2 ≤ s) (hne : i ≠ 0 /\ i ≠ 999 /\ i ≠ 30 /\ i ≠ 31)
  (hv : ∀ (lst : Nat -> Prop) (t : T Value) (h : AH) (b c d : Nat), (∀ j, edgeTo soOps i j = true -> lst j) -> IV lst t h b c d -> v t = F b c d s) : Step1 i := by
 intro lst t h b c d hn he hc I
 refine ⟨_, hst t h, fun v' h' hm => ?_⟩
 cases List.mem_singleton.1 hm
 exact ⟨_, b, c, d, by rw [hd]; exact zu4 hlt, I.val hd (hv lst t h b c d he I) hs hne⟩
theorem E7 {i s : Nat} (hd : dstAt soOps i = some s) (hlt : s < 45) (hs : 2 ≤ s) (hne : i ≠ 0 /\ i ≠ 999 /\ i ≠ 30 /\ i ≠ 31)
  (hst : ∀ (lst : Nat -> Prop) (t : T Value) (h : AH) (b c d : Nat), (∀ j, edgeTo soOps i j = true -> lst j) -> IV lst t h b c d -> aStep Tryz.prog soJ 45 t h (opAt i) = some [(F b c d s, h)]) : Step1 i := by
 intro lst t h b c d hn he hc I
 refine ⟨_, hst lst t h b c d he I, fun v' h' hm => ?_⟩
 cases List.mem_singleton.1 hm
 exact ⟨_, b, c, d, by rw [hd]; exact zu4 hlt, I.val hd rfl hs hne⟩
theorem V0 {i m k x : Nat} {kk : Int × Int} (hk : kk ∈ keyL) (hst : ∀ t h h', aUpdate Tryz.prog 149 (vt t m) (vt t k) (vt t x) h = some h' -> aStep Tryz.prog soJ 45 t h (opAt i) = some [(undef, h')]) (hd : dstAt soOps i = none)
   (hne : i ≠ 0 /\ i ≠ 999 /\ i ≠ 30) (hj : edgeTo soOps i 0 = true)
   (hm : ∀ (lst : Nat -> Prop) (t : T Value) (h : AH) (b c d : Nat), (∀ j, edgeTo soOps i j = true -> lst j) -> IV lst t h b c d -> vt t m = .map (some b) /\ vt t k = kvp kk /\ (kk = (1, 2) -> vt t x = fB d)) (hT : i = 31 ↔ kk = (1, 2)) : Step1 i := by
 intro lst t h b c d hn he hc I
 obtain ⟨h1, h2, h3⟩ := hm lst t h b c d he I
 obtain ⟨es, cl, hg, hs, hv, hx⟩ := I.mp (he _ hj)
 obtain ⟨es', cl', hu, k1, k2, k3⟩ := ins_kv hk (vt t x) hg hs
 refine ⟨_, hst t h _ (by rw [h1, h2]; exact hu), fun v' h' hmem => ?_⟩
 cases List.mem_singleton.1 hmem
 have back : ∀ {k}, plus lst i k -> k ≠ i -> lst k := fun hk hne => hk.resolve_right hne
 have hget : ∀ q, (aSetMap h b es' cl').m.get q = if q = b then some (.map es' cl' false) else h.m.get q := fun q => T.get_set q
 refine ⟨t, b, c, d, by rw [hd]; rfl, I.v0, I.v1, ?_, ?_, ?_, ?_, ?_⟩
 . intro j s hjl hds
   refine I.sl j s (hjl.resolve_right ?_) hds
   rintro rfl
   rw [hd] at hds; cases hds
 . intro _
   refine ⟨es', cl', by rw [hget, if_pos rfl], fun e hee => ?_, fun e hee hek => ?_, fun hti => ?_, fun hti => ?_⟩
   . rcases k1 e hee with h5 | ⟨h5, _⟩
     . exact hs e h5
     . exact ⟨kk, hk, h5⟩
   . rcases k1 e hee with h5 | ⟨h5, h6⟩
     . exact hv e h5 hek
     . rw [h6]
       exact h3 (yz6 (h5.symm.trans hek))
   . rcases hti with hti | hti
     . obtain ⟨e, h5, h6⟩ := hx.1 hti
       obtain ⟨e', h7, h8⟩ := k2 e h5
       exact ⟨e', h7, h8.trans h6⟩
     . obtain ⟨e', h7, h8⟩ := k3
       exact ⟨e', h7, by rw [h8, hT.1 hti.symm]⟩
   . obtain ⟨e, h5, h6⟩ := hti
     rcases k1 e h5 with h7 | ⟨h7, _⟩
     . exact .inl (hx.2 ⟨e, h7, h6⟩)
     . exact .inr (hT.2 (yz6 (h7.symm.trans h6))).symm
 . exact fun h0 => I.bl (back h0 hne.1.symm)
 . exact fun h0 => I.bc (back h0 hne.2.1.symm)
 . intro h0
   obtain ⟨h5, h6⟩ := I.bd (back h0 hne.2.2.symm)
   refine ⟨?_, h6⟩
   rw [hget, if_neg]
   . exact h5
   . rintro rfl
     rw [hg] at h5; cases h5
theorem as_0 (t : T Value) (h : AH) : aStep Tryz.prog soJ 45 t h (opAt 0) = some [(.map (some h.next), ⟨h.m.set h.next (some (.map [] 0 false)), h.next + 1⟩)] := by kernel_rfl
theorem st_0 : Step1 0 := by
 intro lst t h b c d hn he hc I
 refine ⟨_, as_0 t h, fun v' h' hm => ?_⟩
 cases List.mem_singleton.1 hm
 have hd : dstAt soOps 0 = some 5 := by kernel_rfl
 have n2 : ¬ lst 49 := fun h0 => hn (hc 49 0 h0 (by kernel_rfl))
 have n3 : ¬ lst 31 := fun h0 => hn (hc 31 0 h0 (by kernel_rfl))
 have sl := reB (b' := h.next) hn n2 I.sl
 have back : ∀ {k}, plus lst 0 k -> k ≠ 0 -> lst k := fun hk hne => hk.resolve_right hne
 have G := I.grow (.map [] 0 false)
 refine ⟨_, h.next, c, d, by rw [hd]; exact zu4 (by decide), ?_, ?_, ?_, ?_, ?_, ?_, ?_⟩
 . rw [qy8, if_neg (by decide)]; exact I.v0
 . rw [qy8, if_neg (by decide)]; exact I.v1
 . intro j s' hj hds
   rw [qy8]
   by_cases e : s' = 5
   . rw [if_pos e, e]; rfl
   . rw [if_neg e]
     refine sl j s' (hj.resolve_right ?_) hds
     rintro rfl
     rw [hd] at hds; cases hds; exact e rfl
 . intro _
   refine ⟨[], 0, ?_, fun e he => (by cases he), fun e he => (by cases he), fun h5 => (n3 (back h5 (by decide))).elim, fun ⟨e, h5, _⟩ => (by cases h5)⟩
   show (h.m.set h.next _).get h.next = _
   rw [T.get_set, if_pos rfl]
 . exact fun _ => Nat.lt_succ_self _
 . exact fun h0 => G.bc (back h0 (by decide))
 . exact fun h0 => G.bd (back h0 (by decide))
theorem as_1 (t : T Value) (h : AH) : aStep Tryz.prog soJ 45 t h (opAt 1) = some [(kvp (1, 1), h)] := by kernel_rfl
theorem st_1 : Step1 1 := Q8 (s := 6) (v := fun _ => kvp (1, 1)) as_1 (by kernel_rfl) (by decide) (by decide) ⟨by decide, by decide, by decide, by decide⟩ (fun _ _ _ _ _ _ _ _ => rfl)
theorem as_2 (t : T Value) (h : AH) : aStep Tryz.prog soJ 45 t h (opAt 2) = some [(top, h)] := by kernel_rfl
theorem st_2 : Step1 2 := Q8 (s := 7) (v := fun _ => top) as_2 (by kernel_rfl) (by decide) (by decide) ⟨by decide, by decide, by decide, by decide⟩ (fun _ _ _ _ _ _ _ _ => rfl)
theorem as_3 (t : T Value) (h h2 : AH) (e : aUpdate Tryz.prog 149 (vt t 5) (vt t 6) (vt t 7) h = some h2) : aStep Tryz.prog soJ 45 t h (opAt 3) = some [(undef, h2)] := by
 have h1 : aStep Tryz.prog soJ 45 t h (opAt 3) = bindL (osk (aUpdate Tryz.prog 149 (vt t 5) (vt t 6) (vt t 7) h)) (fun p => match p with
  | (.val v, h3) => some [(v, h3)]
  | (.skip, h3) => some [(undef, h3)]
  | (an, h3) => soJ an h3) := by kernel_rfl
 rw [h1, e]; rfl
theorem st_3 : Step1 3 := V0 (m := 5) (k := 6) (x := 7) (kk := (1, 1)) (by decide) as_3 (by kernel_rfl) ⟨by decide, by decide, by decide⟩ (by kernel_rfl) (fun lst t h b c d he I => ⟨I.sl 0 5 (he 0 (by kernel_rfl)) (by kernel_rfl), I.sl 1 6 (he 1 (by kernel_rfl)) (by kernel_rfl), fun e => (by simp at e)⟩) (by decide)
theorem as_4 (t : T Value) (h : AH) : aStep Tryz.prog soJ 45 t h (opAt 4) = some [(kvp (2, 1), h)] := by kernel_rfl
theorem st_4 : Step1 4 := Q8 (s := 8) (v := fun _ => kvp (2, 1)) as_4 (by kernel_rfl) (by decide) (by decide) ⟨by decide, by decide, by decide, by decide⟩ (fun _ _ _ _ _ _ _ _ => rfl)
theorem as_5 (t : T Value) (h : AH) : aStep Tryz.prog soJ 45 t h (opAt 5) = some [(top, h)] := by kernel_rfl
theorem st_5 : Step1 5 := Q8 (s := 9) (v := fun _ => top) as_5 (by kernel_rfl) (by decide) (by decide) ⟨by decide, by decide, by decide, by decide⟩ (fun _ _ _ _ _ _ _ _ => rfl)
theorem as_6 (t : T Value) (h h2 : AH) (e : aUpdate Tryz.prog 149 (vt t 5) (vt t 8) (vt t 9) h = some h2) : aStep Tryz.prog soJ 45 t h (opAt 6) = some [(undef, h2)] := by
 have h1 : aStep Tryz.prog soJ 45 t h (opAt 6) = bindL (osk (aUpdate Tryz.prog 149 (vt t 5) (vt t 8) (vt t 9) h)) (fun p => match p with
  | (.val v, h3) => some [(v, h3)]
  | (.skip, h3) => some [(undef, h3)]
  | (an, h3) => soJ an h3) := by kernel_rfl
 rw [h1, e]; rfl
theorem st_6 : Step1 6 := V0 (m := 5) (k := 8) (x := 9) (kk := (2, 1)) (by decide) as_6 (by kernel_rfl) ⟨by decide, by decide, by decide⟩ (by kernel_rfl) (fun lst t h b c d he I => ⟨I.sl 0 5 (he 0 (by kernel_rfl)) (by kernel_rfl), I.sl 4 8 (he 4 (by kernel_rfl)) (by kernel_rfl), fun e => (by simp at e)⟩) (by decide)
theorem as_7 (t : T Value) (h : AH) : aStep Tryz.prog soJ 45 t h (opAt 7) = some [(kvp (3, 1), h)] := by kernel_rfl
theorem st_7 : Step1 7 := Q8 (s := 10) (v := fun _ => kvp (3, 1)) as_7 (by kernel_rfl) (by decide) (by decide) ⟨by decide, by decide, by decide, by decide⟩ (fun _ _ _ _ _ _ _ _ => rfl)
theorem as_8 (t : T Value) (h : AH) : aStep Tryz.prog soJ 45 t h (opAt 8) = some [(top, h)] := by kernel_rfl
theorem st_8 : Step1 8 := Q8 (s := 11) (v := fun _ => top) as_8 (by kernel_rfl) (by decide) (by decide) ⟨by decide, by decide, by decide, by decide⟩ (fun _ _ _ _ _ _ _ _ => rfl)
theorem as_9 (t : T Value) (h h2 : AH) (e : aUpdate Tryz.prog 149 (vt t 5) (vt t 10) (vt t 11) h = some h2) : aStep Tryz.prog soJ 45 t h (opAt 9) = some [(undef, h2)] := by
 have h1 : aStep Tryz.prog soJ 45 t h (opAt 9) = bindL (osk (aUpdate Tryz.prog 149 (vt t 5) (vt t 10) (vt t 11) h)) (fun p => match p with
  | (.val v, h3) => some [(v, h3)]
  | (.skip, h3) => some [(undef, h3)]
  | (an, h3) => soJ an h3) := by kernel_rfl
 rw [h1, e]; rfl
theorem st_9 : Step1 9 := V0 (m := 5) (k := 10) (x := 11) (kk := (3, 1)) (by decide) as_9 (by kernel_rfl) ⟨by decide, by decide, by decide⟩ (by kernel_rfl) (fun lst t h b c d he I => ⟨I.sl 0 5 (he 0 (by kernel_rfl)) (by kernel_rfl), I.sl 7 10 (he 7 (by kernel_rfl)) (by kernel_rfl), fun e => (by simp at e)⟩) (by decide)
theorem as_10 (t : T Value) (h : AH) : aStep Tryz.prog soJ 45 t h (opAt 10) = some [(kvp (4, 1), h)] := by kernel_rfl
theorem st_10 : Step1 10 := Q8 (s := 12) (v := fun _ => kvp (4, 1)) as_10 (by kernel_rfl) (by decide) (by decide) ⟨by decide, by decide, by decide, by decide⟩ (fun _ _ _ _ _ _ _ _ => rfl)
theorem as_11 (t : T Value) (h : AH) : aStep Tryz.prog soJ 45 t h (opAt 11) = some [(top, h)] := by kernel_rfl
theorem st_11 : Step1 11 := Q8 (s := 13) (v := fun _ => top) as_11 (by kernel_rfl) (by decide) (by decide) ⟨by decide, by decide, by decide, by decide⟩ (fun _ _ _ _ _ _ _ _ => rfl)
theorem as_12 (t : T Value) (h : AH) : aStep Tryz.prog soJ 45 t h (opAt 12) = soJ (.enter 63 [vt t 13]) h := by kernel_rfl
theorem jk_12 (h : AH) : soJ (.enter 63 [top]) h = some [(top, h)] := by kernel_rfl
theorem st_12 : Step1 12 := E7 (s := 14) (by kernel_rfl) (by decide) (by decide) ⟨by decide, by decide, by decide, by decide⟩ (fun lst t h b c d he I => by
 have e : vt t 13 = top := I.sl 11 13 (he 11 (by kernel_rfl)) (by kernel_rfl)
 rw [as_12, e]; exact jk_12 h)
theorem as_13 (t : T Value) (h h2 : AH) (e : aUpdate Tryz.prog 149 (vt t 5) (vt t 12) (vt t 14) h = some h2) : aStep Tryz.prog soJ 45 t h (opAt 13) = some [(undef, h2)] := by
 have h1 : aStep Tryz.prog soJ 45 t h (opAt 13) = bindL (osk (aUpdate Tryz.prog 149 (vt t 5) (vt t 12) (vt t 14) h)) (fun p => match p with
  | (.val v, h3) => some [(v, h3)]
  | (.skip, h3) => some [(undef, h3)]
  | (an, h3) => soJ an h3) := by kernel_rfl
 rw [h1, e]; rfl
theorem st_13 : Step1 13 := V0 (m := 5) (k := 12) (x := 14) (kk := (4, 1)) (by decide) as_13 (by kernel_rfl) ⟨by decide, by decide, by decide⟩ (by kernel_rfl) (fun lst t h b c d he I => ⟨I.sl 0 5 (he 0 (by kernel_rfl)) (by kernel_rfl), I.sl 10 12 (he 10 (by kernel_rfl)) (by kernel_rfl), fun e => (by simp at e)⟩) (by decide)
theorem as_14 (t : T Value) (h : AH) : aStep Tryz.prog soJ 45 t h (opAt 14) = some [(kvp (5, 1), h)] := by kernel_rfl
theorem st_14 : Step1 14 := Q8 (s := 15) (v := fun _ => kvp (5, 1)) as_14 (by kernel_rfl) (by decide) (by decide) ⟨by decide, by decide, by decide, by decide⟩ (fun _ _ _ _ _ _ _ _ => rfl)
theorem as_15 (t : T Value) (h : AH) : aStep Tryz.prog soJ 45 t h (opAt 15) = some [(top, h)] := by kernel_rfl
theorem st_15 : Step1 15 := Q8 (s := 16) (v := fun _ => top) as_15 (by kernel_rfl) (by decide) (by decide) ⟨by decide, by decide, by decide, by decide⟩ (fun _ _ _ _ _ _ _ _ => rfl)
theorem as_16 (t : T Value) (h h2 : AH) (e : aUpdate Tryz.prog 149 (vt t 5) (vt t 15) (vt t 16) h = some h2) : aStep Tryz.prog soJ 45 t h (opAt 16) = some [(undef, h2)] := by
 have h1 : aStep Tryz.prog soJ 45 t h (opAt 16) = bindL (osk (aUpdate Tryz.prog 149 (vt t 5) (vt t 15) (vt t 16) h)) (fun p => match p with
  | (.val v, h3) => some [(v, h3)]
  | (.skip, h3) => some [(undef, h3)]
  | (an, h3) => soJ an h3) := by kernel_rfl
 rw [h1, e]; rfl
theorem st_16 : Step1 16 := V0 (m := 5) (k := 15) (x := 16) (kk := (5, 1)) (by decide) as_16 (by kernel_rfl) ⟨by decide, by decide, by decide⟩ (by kernel_rfl) (fun lst t h b c d he I => ⟨I.sl 0 5 (he 0 (by kernel_rfl)) (by kernel_rfl), I.sl 14 15 (he 14 (by kernel_rfl)) (by kernel_rfl), fun e => (by simp at e)⟩) (by decide)
theorem as_17 (t : T Value) (h : AH) : aStep Tryz.prog soJ 45 t h (opAt 17) = some [(kvp (6, 1), h)] := by kernel_rfl
theorem st_17 : Step1 17 := Q8 (s := 17) (v := fun _ => kvp (6, 1)) as_17 (by kernel_rfl) (by decide) (by decide) ⟨by decide, by decide, by decide, by decide⟩ (fun _ _ _ _ _ _ _ _ => rfl)
theorem as_18 (t : T Value) (h : AH) : aStep Tryz.prog soJ 45 t h (opAt 18) = some [(top, h)] := by kernel_rfl
theorem st_18 : Step1 18 := Q8 (s := 18) (v := fun _ => top) as_18 (by kernel_rfl) (by decide) (by decide) ⟨by decide, by decide, by decide, by decide⟩ (fun _ _ _ _ _ _ _ _ => rfl)
theorem as_19 (t : T Value) (h h2 : AH) (e : aUpdate Tryz.prog 149 (vt t 5) (vt t 17) (vt t 18) h = some h2) : aStep Tryz.prog soJ 45 t h (opAt 19) = some [(undef, h2)] := by
 have h1 : aStep Tryz.prog soJ 45 t h (opAt 19) = bindL (osk (aUpdate Tryz.prog 149 (vt t 5) (vt t 17) (vt t 18) h)) (fun p => match p with
  | (.val v, h3) => some [(v, h3)]
  | (.skip, h3) => some [(undef, h3)]
  | (an, h3) => soJ an h3) := by kernel_rfl
 rw [h1, e]; rfl
theorem st_19 : Step1 19 := V0 (m := 5) (k := 17) (x := 18) (kk := (6, 1)) (by decide) as_19 (by kernel_rfl) ⟨by decide, by decide, by decide⟩ (by kernel_rfl) (fun lst t h b c d he I => ⟨I.sl 0 5 (he 0 (by kernel_rfl)) (by kernel_rfl), I.sl 17 17 (he 17 (by kernel_rfl)) (by kernel_rfl), fun e => (by simp at e)⟩) (by decide)
theorem as_20 (t : T Value) (h : AH) : aStep Tryz.prog soJ 45 t h (opAt 20) = some [(kvp (7, 1), h)] := by kernel_rfl
theorem st_20 : Step1 20 := Q8 (s := 19) (v := fun _ => kvp (7, 1)) as_20 (by kernel_rfl) (by decide) (by decide) ⟨by decide, by decide, by decide, by decide⟩ (fun _ _ _ _ _ _ _ _ => rfl)
theorem as_21 (t : T Value) (h : AH) : aStep Tryz.prog soJ 45 t h (opAt 21) = some [(top, h)] := by kernel_rfl
theorem st_21 : Step1 21 := Q8 (s := 20) (v := fun _ => top) as_21 (by kernel_rfl) (by decide) (by decide) ⟨by decide, by decide, by decide, by decide⟩ (fun _ _ _ _ _ _ _ _ => rfl)
theorem as_22 (t : T Value) (h h2 : AH) (e : aUpdate Tryz.prog 149 (vt t 5) (vt t 19) (vt t 20) h = some h2) : aStep Tryz.prog soJ 45 t h (opAt 22) = some [(undef, h2)] := by
 have h1 : aStep Tryz.prog soJ 45 t h (opAt 22) = bindL (osk (aUpdate Tryz.prog 149 (vt t 5) (vt t 19) (vt t 20) h)) (fun p => match p with
  | (.val v, h3) => some [(v, h3)]
  | (.skip, h3) => some [(undef, h3)]
  | (an, h3) => soJ an h3) := by kernel_rfl
 rw [h1, e]; rfl
theorem st_22 : Step1 22 := V0 (m := 5) (k := 19) (x := 20) (kk := (7, 1)) (by decide) as_22 (by kernel_rfl) ⟨by decide, by decide, by decide⟩ (by kernel_rfl) (fun lst t h b c d he I => ⟨I.sl 0 5 (he 0 (by kernel_rfl)) (by kernel_rfl), I.sl 20 19 (he 20 (by kernel_rfl)) (by kernel_rfl), fun e => (by simp at e)⟩) (by decide)
theorem as_23 (t : T Value) (h : AH) : aStep Tryz.prog soJ 45 t h (opAt 23) = some [(kvp (8, 1), h)] := by kernel_rfl
theorem st_23 : Step1 23 := Q8 (s := 21) (v := fun _ => kvp (8, 1)) as_23 (by kernel_rfl) (by decide) (by decide) ⟨by decide, by decide, by decide, by decide⟩ (fun _ _ _ _ _ _ _ _ => rfl)
theorem as_24 (t : T Value) (h : AH) : aStep Tryz.prog soJ 45 t h (opAt 24) = some [(top, h)] := by kernel_rfl
theorem st_24 : Step1 24 := Q8 (s := 22) (v := fun _ => top) as_24 (by kernel_rfl) (by decide) (by decide) ⟨by decide, by decide, by decide, by decide⟩ (fun _ _ _ _ _ _ _ _ => rfl)
theorem as_25 (t : T Value) (h h2 : AH) (e : aUpdate Tryz.prog 149 (vt t 5) (vt t 21) (vt t 22) h = some h2) : aStep Tryz.prog soJ 45 t h (opAt 25) = some [(undef, h2)] := by
 have h1 : aStep Tryz.prog soJ 45 t h (opAt 25) = bindL (osk (aUpdate Tryz.prog 149 (vt t 5) (vt t 21) (vt t 22) h)) (fun p => match p with
  | (.val v, h3) => some [(v, h3)]
  | (.skip, h3) => some [(undef, h3)]
  | (an, h3) => soJ an h3) := by kernel_rfl
 rw [h1, e]; rfl
theorem st_25 : Step1 25 := V0 (m := 5) (k := 21) (x := 22) (kk := (8, 1)) (by decide) as_25 (by kernel_rfl) ⟨by decide, by decide, by decide⟩ (by kernel_rfl) (fun lst t h b c d he I => ⟨I.sl 0 5 (he 0 (by kernel_rfl)) (by kernel_rfl), I.sl 23 21 (he 23 (by kernel_rfl)) (by kernel_rfl), fun e => (by simp at e)⟩) (by decide)
theorem as_26 (t : T Value) (h : AH) : aStep Tryz.prog soJ 45 t h (opAt 26) = some [(kvp (9, 1), h)] := by kernel_rfl
theorem st_26 : Step1 26 := Q8 (s := 23) (v := fun _ => kvp (9, 1)) as_26 (by kernel_rfl) (by decide) (by decide) ⟨by decide, by decide, by decide, by decide⟩ (fun _ _ _ _ _ _ _ _ => rfl)
theorem as_27 (t : T Value) (h : AH) : aStep Tryz.prog soJ 45 t h (opAt 27) = some [(top, h)] := by kernel_rfl
theorem st_27 : Step1 27 := Q8 (s := 24) (v := fun _ => top) as_27 (by kernel_rfl) (by decide) (by decide) ⟨by decide, by decide, by decide, by decide⟩ (fun _ _ _ _ _ _ _ _ => rfl)
theorem as_28 (t : T Value) (h h2 : AH) (e : aUpdate Tryz.prog 149 (vt t 5) (vt t 23) (vt t 24) h = some h2) : aStep Tryz.prog soJ 45 t h (opAt 28) = some [(undef, h2)] := by
 have h1 : aStep Tryz.prog soJ 45 t h (opAt 28) = bindL (osk (aUpdate Tryz.prog 149 (vt t 5) (vt t 23) (vt t 24) h)) (fun p => match p with
  | (.val v, h3) => some [(v, h3)]
  | (.skip, h3) => some [(undef, h3)]
  | (an, h3) => soJ an h3) := by kernel_rfl
 rw [h1, e]; rfl
theorem st_28 : Step1 28 := V0 (m := 5) (k := 23) (x := 24) (kk := (9, 1)) (by decide) as_28 (by kernel_rfl) ⟨by decide, by decide, by decide⟩ (by kernel_rfl) (fun lst t h b c d he I => ⟨I.sl 0 5 (he 0 (by kernel_rfl)) (by kernel_rfl), I.sl 26 23 (he 26 (by kernel_rfl)) (by kernel_rfl), fun e => (by simp at e)⟩) (by decide)
theorem as_29 (t : T Value) (h : AH) : aStep Tryz.prog soJ 45 t h (opAt 29) = some [(kvp (1, 2), h)] := by kernel_rfl
theorem st_29 : Step1 29 := Q8 (s := 25) (v := fun _ => kvp (1, 2)) as_29 (by kernel_rfl) (by decide) (by decide) ⟨by decide, by decide, by decide, by decide⟩ (fun _ _ _ _ _ _ _ _ => rfl)
theorem as_30 (t : T Value) (h : AH) : aStep Tryz.prog soJ 45 t h (opAt 30) = some [(fB h.next, ⟨h.m.set h.next (some (bx fnA)), h.next + 1⟩)] := by kernel_rfl
theorem st_30 : Step1 30 := by
 intro lst t h b c d hn he hc I
 refine ⟨_, as_30 t h, fun v' h' hm => ?_⟩
 cases List.mem_singleton.1 hm
 have hd : dstAt soOps 30 = some 26 := by kernel_rfl
 have n31 : ¬ lst 31 := fun h0 => hn (hc 31 30 h0 (by kernel_rfl))
 have n53 : ¬ lst 53 := fun h0 => n31 (hc 49 31 (hc 53 49 h0 (by kernel_rfl)) (by kernel_rfl))
 have n54 : ¬ lst 54 := fun h0 => n53 (hc 54 53 h0 (by kernel_rfl))
 have sl := reD (d' := h.next) hn n53 n54 I.sl
 have back : ∀ {k}, plus lst 30 k -> k ≠ 30 -> lst k := fun hk hne => hk.resolve_right hne
 have G := I.grow (bx fnA)
 refine ⟨_, b, c, h.next, by rw [hd]; exact zu4 (by decide), ?_, ?_, ?_, ?_, ?_, ?_, ?_⟩
 . rw [qy8, if_neg (by decide)]; exact I.v0
 . rw [qy8, if_neg (by decide)]; exact I.v1
 . intro j s' hj hds
   rw [qy8]
   by_cases e : s' = 26
   . rw [if_pos e, e]; rfl
   . rw [if_neg e]
     refine sl j s' (hj.resolve_right ?_) hds
     rintro rfl
     rw [hd] at hds; cases hds; exact e rfl
 . intro h0
   obtain ⟨es, cl, h1, h2, h3, h4⟩ := G.mp (back h0 (by decide))
   refine ⟨es, cl, h1, h2, fun e h5 h6 => (n31 (h4.2 ⟨e, h5, h6⟩)).elim, fun h5 => (n31 (back h5 (by decide))).elim, fun h5 => (n31 (h4.2 h5)).elim⟩
 . exact fun h0 => G.bl (back h0 (by decide))
 . exact fun _ => trivial
 . intro _; exact ⟨by show (h.m.set h.next _).get h.next = _; rw [T.get_set, if_pos rfl], Nat.lt_succ_self _⟩
theorem as_31 (t : T Value) (h h2 : AH) (e : aUpdate Tryz.prog 149 (vt t 5) (vt t 25) (vt t 26) h = some h2) : aStep Tryz.prog soJ 45 t h (opAt 31) = some [(undef, h2)] := by
 have h1 : aStep Tryz.prog soJ 45 t h (opAt 31) = bindL (osk (aUpdate Tryz.prog 149 (vt t 5) (vt t 25) (vt t 26) h)) (fun p => match p with
  | (.val v, h3) => some [(v, h3)]
  | (.skip, h3) => some [(undef, h3)]
  | (an, h3) => soJ an h3) := by kernel_rfl
 rw [h1, e]; rfl
theorem st_31 : Step1 31 := V0 (m := 5) (k := 25) (x := 26) (kk := (1, 2)) (by decide) as_31 (by kernel_rfl) ⟨by decide, by decide, by decide⟩ (by kernel_rfl) (fun lst t h b c d he I => ⟨I.sl 0 5 (he 0 (by kernel_rfl)) (by kernel_rfl), I.sl 29 25 (he 29 (by kernel_rfl)) (by kernel_rfl), fun _ => I.sl 30 26 (he 30 (by kernel_rfl)) (by kernel_rfl)⟩) (by decide)
theorem as_32 (t : T Value) (h : AH) : aStep Tryz.prog soJ 45 t h (opAt 32) = some [(kvp (3, 2), h)] := by kernel_rfl
theorem st_32 : Step1 32 := Q8 (s := 27) (v := fun _ => kvp (3, 2)) as_32 (by kernel_rfl) (by decide) (by decide) ⟨by decide, by decide, by decide, by decide⟩ (fun _ _ _ _ _ _ _ _ => rfl)
theorem as_33 (t : T Value) (h : AH) : aStep Tryz.prog soJ 45 t h (opAt 33) = some [(top, h)] := by kernel_rfl
theorem st_33 : Step1 33 := Q8 (s := 28) (v := fun _ => top) as_33 (by kernel_rfl) (by decide) (by decide) ⟨by decide, by decide, by decide, by decide⟩ (fun _ _ _ _ _ _ _ _ => rfl)
theorem as_34 (t : T Value) (h : AH) : aStep Tryz.prog soJ 45 t h (opAt 34) = soJ (.enter 73 [vt t 28]) h := by kernel_rfl
theorem jk_34 (h : AH) : soJ (.enter 73 [top]) h = some [(top, h)] := by kernel_rfl
theorem st_34 : Step1 34 := E7 (s := 29) (by kernel_rfl) (by decide) (by decide) ⟨by decide, by decide, by decide, by decide⟩ (fun lst t h b c d he I => by
 have e : vt t 28 = top := I.sl 33 28 (he 33 (by kernel_rfl)) (by kernel_rfl)
 rw [as_34, e]; exact jk_34 h)
theorem as_35 (t : T Value) (h h2 : AH) (e : aUpdate Tryz.prog 149 (vt t 5) (vt t 27) (vt t 29) h = some h2) : aStep Tryz.prog soJ 45 t h (opAt 35) = some [(undef, h2)] := by
 have h1 : aStep Tryz.prog soJ 45 t h (opAt 35) = bindL (osk (aUpdate Tryz.prog 149 (vt t 5) (vt t 27) (vt t 29) h)) (fun p => match p with
  | (.val v, h3) => some [(v, h3)]
  | (.skip, h3) => some [(undef, h3)]
  | (an, h3) => soJ an h3) := by kernel_rfl
 rw [h1, e]; rfl
theorem st_35 : Step1 35 := V0 (m := 5) (k := 27) (x := 29) (kk := (3, 2)) (by decide) as_35 (by kernel_rfl) ⟨by decide, by decide, by decide⟩ (by kernel_rfl) (fun lst t h b c d he I => ⟨I.sl 0 5 (he 0 (by kernel_rfl)) (by kernel_rfl), I.sl 32 27 (he 32 (by kernel_rfl)) (by kernel_rfl), fun e => (by simp at e)⟩) (by decide)
theorem as_36 (t : T Value) (h : AH) : aStep Tryz.prog soJ 45 t h (opAt 36) = some [(kvp (4, 2), h)] := by kernel_rfl
theorem st_36 : Step1 36 := Q8 (s := 30) (v := fun _ => kvp (4, 2)) as_36 (by kernel_rfl) (by decide) (by decide) ⟨by decide, by decide, by decide, by decide⟩ (fun _ _ _ _ _ _ _ _ => rfl)
theorem as_37 (t : T Value) (h : AH) : aStep Tryz.prog soJ 45 t h (opAt 37) = some [(top, h)] := by kernel_rfl
theorem st_37 : Step1 37 := Q8 (s := 31) (v := fun _ => top) as_37 (by kernel_rfl) (by decide) (by decide) ⟨by decide, by decide, by decide, by decide⟩ (fun _ _ _ _ _ _ _ _ => rfl)
theorem as_38 (t : T Value) (h : AH) : aStep Tryz.prog soJ 45 t h (opAt 38) = soJ (.enter 63 [vt t 31]) h := by kernel_rfl
theorem jk_38 (h : AH) : soJ (.enter 63 [top]) h = some [(top, h)] := by kernel_rfl
theorem st_38 : Step1 38 := E7 (s := 32) (by kernel_rfl) (by decide) (by decide) ⟨by decide, by decide, by decide, by decide⟩ (fun lst t h b c d he I => by
 have e : vt t 31 = top := I.sl 37 31 (he 37 (by kernel_rfl)) (by kernel_rfl)
 rw [as_38, e]; exact jk_38 h)
theorem as_39 (t : T Value) (h : AH) : aStep Tryz.prog soJ 45 t h (opAt 39) = soJ (.enter 73 [vt t 32]) h := by kernel_rfl
theorem jk_39 (h : AH) : soJ (.enter 73 [top]) h = some [(top, h)] := by kernel_rfl
theorem st_39 : Step1 39 := E7 (s := 33) (by kernel_rfl) (by decide) (by decide) ⟨by decide, by decide, by decide, by decide⟩ (fun lst t h b c d he I => by
 have e : vt t 32 = top := I.sl 38 32 (he 38 (by kernel_rfl)) (by kernel_rfl)
 rw [as_39, e]; exact jk_39 h)
theorem as_40 (t : T Value) (h h2 : AH) (e : aUpdate Tryz.prog 149 (vt t 5) (vt t 30) (vt t 33) h = some h2) : aStep Tryz.prog soJ 45 t h (opAt 40) = some [(undef, h2)] := by
 have h1 : aStep Tryz.prog soJ 45 t h (opAt 40) = bindL (osk (aUpdate Tryz.prog 149 (vt t 5) (vt t 30) (vt t 33) h)) (fun p => match p with
  | (.val v, h3) => some [(v, h3)]
  | (.skip, h3) => some [(undef, h3)]
  | (an, h3) => soJ an h3) := by kernel_rfl
 rw [h1, e]; rfl
theorem st_40 : Step1 40 := V0 (m := 5) (k := 30) (x := 33) (kk := (4, 2)) (by decide) as_40 (by kernel_rfl) ⟨by decide, by decide, by decide⟩ (by kernel_rfl) (fun lst t h b c d he I => ⟨I.sl 0 5 (he 0 (by kernel_rfl)) (by kernel_rfl), I.sl 36 30 (he 36 (by kernel_rfl)) (by kernel_rfl), fun e => (by simp at e)⟩) (by decide)
theorem as_41 (t : T Value) (h : AH) : aStep Tryz.prog soJ 45 t h (opAt 41) = some [(kvp (10, 3), h)] := by kernel_rfl
theorem st_41 : Step1 41 := Q8 (s := 34) (v := fun _ => kvp (10, 3)) as_41 (by kernel_rfl) (by decide) (by decide) ⟨by decide, by decide, by decide, by decide⟩ (fun _ _ _ _ _ _ _ _ => rfl)
theorem as_42 (t : T Value) (h : AH) : aStep Tryz.prog soJ 45 t h (opAt 42) = some [(top, h)] := by kernel_rfl
theorem st_42 : Step1 42 := Q8 (s := 35) (v := fun _ => top) as_42 (by kernel_rfl) (by decide) (by decide) ⟨by decide, by decide, by decide, by decide⟩ (fun _ _ _ _ _ _ _ _ => rfl)
theorem as_43 (t : T Value) (h : AH) : aStep Tryz.prog soJ 45 t h (opAt 43) = soJ (.enter 63 [vt t 35]) h := by kernel_rfl
theorem jk_43 (h : AH) : soJ (.enter 63 [top]) h = some [(top, h)] := by kernel_rfl
theorem st_43 : Step1 43 := E7 (s := 36) (by kernel_rfl) (by decide) (by decide) ⟨by decide, by decide, by decide, by decide⟩ (fun lst t h b c d he I => by
 have e : vt t 35 = top := I.sl 42 35 (he 42 (by kernel_rfl)) (by kernel_rfl)
 rw [as_43, e]; exact jk_43 h)
theorem as_44 (t : T Value) (h h2 : AH) (e : aUpdate Tryz.prog 149 (vt t 5) (vt t 34) (vt t 36) h = some h2) : aStep Tryz.prog soJ 45 t h (opAt 44) = some [(undef, h2)] := by
 have h1 : aStep Tryz.prog soJ 45 t h (opAt 44) = bindL (osk (aUpdate Tryz.prog 149 (vt t 5) (vt t 34) (vt t 36) h)) (fun p => match p with
  | (.val v, h3) => some [(v, h3)]
  | (.skip, h3) => some [(undef, h3)]
  | (an, h3) => soJ an h3) := by kernel_rfl
 rw [h1, e]; rfl
theorem st_44 : Step1 44 := V0 (m := 5) (k := 34) (x := 36) (kk := (10, 3)) (by decide) as_44 (by kernel_rfl) ⟨by decide, by decide, by decide⟩ (by kernel_rfl) (fun lst t h b c d he I => ⟨I.sl 0 5 (he 0 (by kernel_rfl)) (by kernel_rfl), I.sl 41 34 (he 41 (by kernel_rfl)) (by kernel_rfl), fun e => (by simp at e)⟩) (by decide)
theorem as_45 (t : T Value) (h : AH) : aStep Tryz.prog soJ 45 t h (opAt 45) = some [(kvp (11, 3), h)] := by kernel_rfl
theorem st_45 : Step1 45 := Q8 (s := 37) (v := fun _ => kvp (11, 3)) as_45 (by kernel_rfl) (by decide) (by decide) ⟨by decide, by decide, by decide, by decide⟩ (fun _ _ _ _ _ _ _ _ => rfl)
theorem as_46 (t : T Value) (h : AH) : aStep Tryz.prog soJ 45 t h (opAt 46) = some [(top, h)] := by kernel_rfl
theorem st_46 : Step1 46 := Q8 (s := 38) (v := fun _ => top) as_46 (by kernel_rfl) (by decide) (by decide) ⟨by decide, by decide, by decide, by decide⟩ (fun _ _ _ _ _ _ _ _ => rfl)
theorem as_47 (t : T Value) (h : AH) : aStep Tryz.prog soJ 45 t h (opAt 47) = soJ (.enter 63 [vt t 38]) h := by kernel_rfl
theorem jk_47 (h : AH) : soJ (.enter 63 [top]) h = some [(top, h)] := by kernel_rfl
theorem st_47 : Step1 47 := E7 (s := 39) (by kernel_rfl) (by decide) (by decide) ⟨by decide, by decide, by decide, by decide⟩ (fun lst t h b c d he I => by
 have e : vt t 38 = top := I.sl 46 38 (he 46 (by kernel_rfl)) (by kernel_rfl)
 rw [as_47, e]; exact jk_47 h)
theorem as_48 (t : T Value) (h h2 : AH) (e : aUpdate Tryz.prog 149 (vt t 5) (vt t 37) (vt t 39) h = some h2) : aStep Tryz.prog soJ 45 t h (opAt 48) = some [(undef, h2)] := by
 have h1 : aStep Tryz.prog soJ 45 t h (opAt 48) = bindL (osk (aUpdate Tryz.prog 149 (vt t 5) (vt t 37) (vt t 39) h)) (fun p => match p with
  | (.val v, h3) => some [(v, h3)]
  | (.skip, h3) => some [(undef, h3)]
  | (an, h3) => soJ an h3) := by kernel_rfl
 rw [h1, e]; rfl
theorem st_48 : Step1 48 := V0 (m := 5) (k := 37) (x := 39) (kk := (11, 3)) (by decide) as_48 (by kernel_rfl) ⟨by decide, by decide, by decide⟩ (by kernel_rfl) (fun lst t h b c d he I => ⟨I.sl 0 5 (he 0 (by kernel_rfl)) (by kernel_rfl), I.sl 45 37 (he 45 (by kernel_rfl)) (by kernel_rfl), fun e => (by simp at e)⟩) (by decide)
theorem as_49 (t : T Value) (h : AH) : aStep Tryz.prog soJ 45 t h (opAt 49) = some [(vt t 5, h)] := by kernel_rfl
theorem st_49 : Step1 49 := Q8 (s := 40) (v := fun t => vt t 5) as_49 (by kernel_rfl) (by decide) (by decide) ⟨by decide, by decide, by decide, by decide⟩ (fun lst t h b c d he I => I.sl 0 5 (he 0 (by kernel_rfl)) (by kernel_rfl))
theorem as_50 (t : T Value) (h : AH) : aStep Tryz.prog soJ 45 t h (opAt 50) = some [(vt t 0, h)] := by kernel_rfl
theorem st_50 : Step1 50 := Q8 (s := 41) (v := fun t => vt t 0) as_50 (by kernel_rfl) (by decide) (by decide) ⟨by decide, by decide, by decide, by decide⟩ (fun lst t h b c d he I => I.v0)
theorem as_51 (t : T Value) (h : AH) : aStep Tryz.prog soJ 45 t h (opAt 51) = some [(vt t 1, h)] := by kernel_rfl
theorem st_51 : Step1 51 := Q8 (s := 42) (v := fun t => vt t 1) as_51 (by kernel_rfl) (by decide) (by decide) ⟨by decide, by decide, by decide, by decide⟩ (fun lst t h b c d he I => I.v1)
theorem lk_52 (h : AH) : bindL (match aBuild Tryz.prog 139 [(0, .int .i64 1), (1, .int .i64 2)] with
 | some v => some [(AN.val v, h)]
 | none => none) (fun p => match p with
 | (.val v, h3) => some [(v, h3)]
 | (.skip, h3) => some [(undef, h3)]
 | (an, h3) => soJ an h3) = some [(kvp (1, 2), h)] := by kernel_rfl
theorem as_52 (t : T Value) (h : AH) (e1 : vt t 41 = .int .i64 1) (e2 : vt t 42 = .int .i64 2) : aStep Tryz.prog soJ 45 t h (opAt 52) = some [(kvp (1, 2), h)] := by
 have h1 : aStep Tryz.prog soJ 45 t h (opAt 52) = bindL (match aBuild Tryz.prog 139 [(0, vt t 41), (1, vt t 42)] with
  | some v => some [(AN.val v, h)]
  | none => none) (fun p => match p with
  | (.val v, h3) => some [(v, h3)]
  | (.skip, h3) => some [(undef, h3)]
  | (an, h3) => soJ an h3) := by kernel_rfl
 rw [h1, e1, e2]; exact lk_52 h
theorem st_52 : Step1 52 := E7 (s := 43) (by kernel_rfl) (by decide) (by decide) ⟨by decide, by decide, by decide, by decide⟩ (fun lst t h b c d he I => as_52 t h (I.sl 50 41 (he 50 (by kernel_rfl)) (by kernel_rfl)) (I.sl 51 42 (he 51 (by kernel_rfl)) (by kernel_rfl)))
theorem as_53 (t : T Value) (h : AH) (v : Value) (e : aLookupX Tryz.prog 149 (vt t 40) (vt t 43) false h = some v) : aStep Tryz.prog soJ 45 t h (opAt 53) = some [(v, h)] := by
 have h1 : aStep Tryz.prog soJ 45 t h (opAt 53) = bindL (match aLookupX Tryz.prog 149 (vt t 40) (vt t 43) false h with
  | some v => some [(AN.val v, h)]
  | none => none) (fun p => match p with
  | (.val v, h3) => some [(v, h3)]
  | (.skip, h3) => some [(undef, h3)]
  | (an, h3) => soJ an h3) := by kernel_rfl
 rw [h1, e]; rfl
theorem Qj3 : ((List.range 49).all fun j => edgeTo soOps 49 j) = true := by kernel_rfl
theorem st_53 : Step1 53 := by
 intro lst t h b c d hn he hc I
 have h0 : lst 49 := he 49 (by kernel_rfl)
 have hall : ∀ j, j < 49 -> lst j := fun j hj => hc 49 j h0 (List.all_eq_true.1 Qj3 j (List.mem_range.2 hj))
 obtain ⟨es, cl, hg, hs, hv, hx⟩ := I.mp (hall 0 (by decide))
 have e1 : vt t 40 = .map (some b) := I.sl 49 40 (he 49 (by kernel_rfl)) (by kernel_rfl)
 have e2 : vt t 43 = kvp (1, 2) := I.sl 52 43 (he 52 (by kernel_rfl)) (by kernel_rfl)
 have e3 := Qy7 (k := (1, 2)) (by decide) hg hs hv (hx.1 (hall 31 (by decide)))
 refine ⟨_, as_53 t h (fB d) (by rw [e1, e2]; exact e3), fun v' h' hm => ?_⟩
 cases List.mem_singleton.1 hm
 have hd : dstAt soOps 53 = some 44 := by kernel_rfl
 exact ⟨_, b, c, d, by rw [hd]; exact zu4 (by decide), I.val hd rfl (by decide) ⟨by decide, by decide, by decide, by decide⟩⟩
theorem as_54 (t : T Value) (h : AH) : aStep Tryz.prog soJ 45 t h (opAt 54) = some [(vt t 44, h)] := by kernel_rfl
theorem st_54 : Step1 54 := Q8 (s := 4) (v := fun t => vt t 44) as_54 (by kernel_rfl) (by decide) (by decide) ⟨by decide, by decide, by decide, by decide⟩ (fun lst t h b c d he I => I.sl 53 44 (he 53 (by kernel_rfl)) (by kernel_rfl))
end
end Go.Proofs.YtjealfplbigphaaGreat
namespace Go.Proofs.YtjealfplbigphaaGreat
noncomputable section
open Go Go.X Go.RowKit
theorem so_all : ∀ i, i < 55 -> Step1 i
 | 0, _ => st_0
 | 1, _ => st_1
 | 2, _ => st_2
 | 3, _ => st_3
 | 4, _ => st_4
 | 5, _ => st_5
 | 6, _ => st_6
 | 7, _ => st_7
 | 8, _ => st_8
 | 9, _ => st_9
 | 10, _ => st_10
 | 11, _ => st_11
 | 12, _ => st_12
 | 13, _ => st_13
 | 14, _ => st_14
 | 15, _ => st_15
 | 16, _ => st_16
 | 17, _ => st_17
 | 18, _ => st_18
 | 19, _ => st_19
 | 20, _ => st_20
 | 21, _ => st_21
 | 22, _ => st_22
 | 23, _ => st_23
 | 24, _ => st_24
 | 25, _ => st_25
 | 26, _ => st_26
 | 27, _ => st_27
 | 28, _ => st_28
 | 29, _ => st_29
 | 30, _ => st_30
 | 31, _ => st_31
 | 32, _ => st_32
 | 33, _ => st_33
 | 34, _ => st_34
 | 35, _ => st_35
 | 36, _ => st_36
 | 37, _ => st_37
 | 38, _ => st_38
 | 39, _ => st_39
 | 40, _ => st_40
 | 41, _ => st_41
 | 42, _ => st_42
 | 43, _ => st_43
 | 44, _ => st_44
 | 45, _ => st_45
 | 46, _ => st_46
 | 47, _ => st_47
 | 48, _ => st_48
 | 49, _ => st_49
 | 50, _ => st_50
 | 51, _ => st_51
 | 52, _ => st_52
 | 53, _ => st_53
 | 54, _ => st_54
 | n + 55, h => absurd h (by omega)
theorem lr_two {φ : Phi} {a b : Value} {l : List Value} (h : LR φ [a, b] l) : ∃ x y, l = [x, y] /\ VR φ a x /\ VR φ b y := by
 cases h with
 | cons h1 h2 => cases h2 with
  | cons h3 h4 => cases h4; exact ⟨_, _, rfl, h1, h3⟩
theorem jq6 : ((List.range 55).all fun i => match soOps[i]? with
 | some o => (edgesOf o).all fun j => Nat.blt j i
 | none => true) = true := by kernel_rfl
theorem ug2 (i : Nat) (o : Oper) (j : Nat) (ho : soOps[i]? = some o) (hj : j ∈ edgesOf o) : j < i := by
 have hi : i < 55 := by rw [<- zx0]; exact (Array.getElem?_eq_some_iff.1 ho).1
 have h := List.all_eq_true.1 jq6 i (List.mem_range.2 hi)
 rw [ho] at h
 have := List.all_eq_true.1 h j hj
 exact Nat.lt_of_lt_of_le (Nat.lt_succ_self j) (Nat.le_of_ble_eq_true this)
def t0 : T Value := T.fill [.int .i64 1, .int .i64 2] 0 .e
def t1 : T Value := t0.set 4 (some .nilFunc)
theorem jk8 : aCode Tryz.prog soC 45 100 none (.region 0 soOps0 false) t0 [] ah0 = some [⟨.normal, t1, [], ah0⟩] := by kernel_rfl
theorem t1_0 : vt t1 0 = .int .i64 1 := by kernel_rfl
theorem t1_1 : vt t1 1 = .int .i64 2 := by kernel_rfl
theorem so_asg : dstAt soOps 54 = some 4 := by kernel_rfl
theorem so_res (t : T Value) (h : AH) : aRes Tryz.prog soFn.ntmps t h soFn.results.toList = some (vt t 4) := by kernel_rfl
theorem jx0 (W : World) : Calls Tryz.prog 43 ⟨[.int .i64 1, .int .i64 2]⟩ W fun e w' => ∃ v' φ' h' d, e = .returned v' /\ R W φ' h' w' /\ h'.m.get d = some (bx fnA) /\ VR φ' (fB d) v' := by
 refine (callsIn_wide (n := 0)).1 (callsIn_of_wp_marks so_fn ug3 trivial ?_ rfl)
 have f0 : FR none0 45 t0 _ := FR.entry (m := 45) (LR.refl_of (l := [.int .i64 1, .int .i64 2]) none0 rfl) (by decide)
 refine wpIn_seq (wpIn_mono (zx6 qy9 qw7 (xq9 W) none 100 (.region 0 soOps0 false) (q := none) 0 jk8 (R.first W) f0 .nil rfl) ?_)
 rintro e a1 w1 ⟨o, ho, hex, φ1, nx1, r1, f1, d1⟩
 cases List.mem_singleton.1 ho
 cases hex
 have d1' : a1.defers = [] := by generalize a1.defers = z at d1; cases d1; rfl
 refine wpIn_seq (Qu2 (q := none) qw7 (Inv := fun lst a w => ∃ φ t h b c d, R W φ h w /\ FR φ 45 t a.tmps /\ a.defers = [] /\ IV lst t h b c d) ug2 ?_ ?_ ?_)
 . rintro lst a w i o ho hun hrd hcl ⟨φ, t, h, b, c, d, r, f, hd, I⟩ K hK
   have hi : i < 55 := by rw [<- zx0]; exact (Array.getElem?_eq_some_iff.1 ho).1
   have hed : ∀ {i j}, edgeTo soOps i j = true -> ∃ o, soOps[i]? = some o /\ j ∈ edgesOf o := by
    intro i j he
    unfold edgeTo at he
    cases hg : soOps[i]? with
    | none => rw [hg] at he; cases he
    | some o => rw [hg] at he; exact ⟨o, rfl, List.contains_iff_mem.1 he⟩
   obtain ⟨l, hs, hl⟩ := so_all i hi lst t h b c d hun (fun j he => by
    obtain ⟨o', h1, h2⟩ := hed he
    rw [ho] at h1; cases h1; exact hrd j h2) (fun k j hk he => by
    obtain ⟨o', h1, h2⟩ := hed he
    exact hcl k o' hk h1 j h2) I
   have hop : opAt i = o.op := by unfold opAt; rw [ho]
   rw [hop] at hs
   have hgd : o.guard = none := by
    have := List.all_eq_true.1 jk7 i (List.mem_range.2 hi)
    unfold gOk at this
    rw [ho] at this
    exact Option.isNone_iff_eq_none.1 this
   have hw : Region.wanted o (yielded soOps a.tmps) = true := by unfold Region.wanted; rw [hgd]
   unfold wpOpIn
   rw [ho]
   dsimp only
   rw [if_pos hw]
   refine yq5 qy9 (soJ_ok W) r f hs ?_
   intro v h' v' w' φ' hm nx r' hv
   obtain ⟨t', b', c', d', hp, I'⟩ := hl v h' hm
   rw [qq7 ho] at hp
   obtain ⟨f', hdf⟩ := E8 (f.mono nx.le) hp hv
   exact hK _ _ ⟨φ', t', h', b', c', d', r', f', hdf.trans hd, I'⟩
 . rintro lst a w hall ⟨φ, t, h, b, c, d, r, f, hd, I⟩
   refine wpIn_ret ?_
   show LeavesInM Fence.wide 0 Tryz.prog soFn a.tmps _ a.defers .returning w
   rw [zx0] at hall
   have hv : aRes Tryz.prog soFn.ntmps t h soFn.results.toList = some (fB d) := by
    rw [so_res, I.sl 54 4 (hall _ (by decide)) so_asg]; rfl
   have dr : DR [] φ [] a.defers := by rw [hd]; exact .nil
   refine LeavesInM.mono ?_ _ (zz1 [] (l := [(fB d, h)]) (h := h) (φ := φ) rfl dr r f (.refl φ h) hv (List.mem_singleton.2 rfl))
   rintro e w' ⟨v', rfl, v, h', hm, φ', nx, r', hv'⟩
   cases List.mem_singleton.1 hm
   exact ⟨v', φ', h, d, rfl, r', (I.bd (hall _ (by decide))).1, hv'⟩
 . exact ⟨φ1, t1, ah0, 0, 0, 0, r1.drew, f1, d1', t1_0, t1_1, fun _ _ h => h.elim, fun h => h.elim, fun h => h.elim, fun h => h.elim, fun h => h.elim⟩
end
end Go.Proofs.YtjealfplbigphaaGreat
namespace Go.Proofs.YtjealfplbigphaaGreat
noncomputable section
open Go Go.X Go.RowKit
def knG (k : FuncId) (args : List Value) (h : AH) : Option (List (Value × AH)) := match Nat.beq k 43, args with
 | true, [.int .i64 1, .int .i64 2] => some [(fT h.next, ⟨h.m.set h.next (some (bx fnA)), h.next + 1⟩)]
 | _, _ => none
theorem knG_ok (k : FuncId) (args : List Value) (h : AH) (l : List (Value × AH)) (hs : knG k args h = some l) (w0 : World) (φ : Phi) (w : World) (args' : List Value) (hr : R w0 φ h w) (hl : LR φ args args') :
   Calls Tryz.prog k ⟨args'⟩ w (fun e w' => ∃ v', e = .returned v' /\ ∃ v h', (v, h') ∈ l /\ ∃ φ', Nx φ φ' h h' /\ R w0 φ' h' w' /\ VR φ' v v') := by
 unfold knG at hs
 split at hs
 . rename_i hb
   cases hs
   have hf : k = 43 := Nat.eq_of_beq_eq_true hb
   subst hf
   obtain ⟨x1, x2, rfl, hx1, hx2⟩ := lr_two hl
   have := U4 (v := .int .i64 1) rfl hx1
   subst this
   have := U4 (v := .int .i64 2) rfl hx2
   subst this
   refine Calls.mono (jx0 w) fun e w' he => ?_
   obtain ⟨v', φ2, h2, d, rfl, r2, h4, hv⟩ := he
   obtain ⟨p, rfl, hp⟩ := ux7 hv
   obtain ⟨i, hi, _, rfl⟩ := hp.ptr_inv
   have hord := r2.dom d i _ hi h4
   obtain ⟨φ3, nx3, k3, r3, _⟩ := adoptLe hr r2.below (i := i) (o := bx fnA) (r2.low d i _ hi h4 rfl) (r2.lt d i hi).1 (fun φ' _ => yw8 hord φ')
   exact ⟨_, rfl, _, _, List.mem_singleton.2 rfl, φ3, nx3, r3, .func' (.same (fun l e => by cases e)) .nil (.cons (.ptr (a := ⟨h.next, 0, none⟩) i k3 rfl) .nil)⟩
 . cases hs
end
end Go.Proofs.YtjealfplbigphaaGreat
namespace Go.Proofs.YtjealfplbigphaaGreat
noncomputable section
open Go Go.X Go.Arm
theorem noCount : NoCount Tryz.prog := qy9
theorem mixed : Tryz.prog.follows .mixedOrders = true := qw7
instance kn : Kn Tryz.prog := ⟨none, (fun g e W => by cases e), knG, knG_ok⟩
theorem kr {p : Prop} (h : p := by kernel_rfl) : p := h
end
end Go.Proofs.YtjealfplbigphaaGreat
namespace Go.Arm
noncomputable section
open Go Go.X
def ups {ρ α : Type} [DecidableEq ρ] (f : ρ -> α) (r : ρ) (x : α) : ρ -> α := fun r' => if r' = r then x else f r'
theorem j0 {ρ α : Type} [DecidableEq ρ] (f : ρ -> α) (r : ρ) (x : α) : ups f r x r = x := by unfold ups; rw [if_pos rfl]
theorem z7 {ρ α : Type} [DecidableEq ρ] (f : ρ -> α) {r r' : ρ} (x : α) (h : r' ≠ r) : ups f r x r' = f r' := by unfold ups; rw [if_neg h]
theorem zq3 {ρ α : Type} [DecidableEq ρ] (f : ρ -> α) (r : ρ) : ups f r (f r) = f := by
 funext r'
 unfold ups
 split
 . rename_i e; rw [e]
 . rfl
def Ws (h : AH) (k : Nat) (v : Value) (n : Nat) (cs : List Value) : Prop :=
 cs.length = n * k /\ ((n = 0 /\ ∃ a c, v = .slice a 0 c /\ (a = none -> c = 0) /\ ∀ q, a = some q -> q.block < h.next) ∨
  ∃ b o c cc nn op, 0 < n /\ c ≠ 0 /\ v = .slice (some ⟨b, o, none⟩) n c /\ b < h.next /\ h.m.get b = some (.cells cc nn op false) /\ o + n * k ≤ nn /\ ∀ j, j < cs.length -> cc.get (o + j) = cs[j]?)
section
variable {P : Program} {h h' : AH} {S : Nat -> Prop} {k n b : Nat} {v : Value} {cs : List Value} {T el : TypeId}
theorem Ws.sd (H : Ws h k v n cs) : Sd h k v n cs := by
 refine ⟨H.1, ?_⟩
 rcases H.2 with hl | ⟨b, o, c, cc, nn, op, h0, h1, e, h2, h3, h4, h5⟩
 . exact .inl hl
 . exact .inr ⟨b, o, c, cc, nn, op, false, h0, h1, e, h2, h3, h4, h5⟩
theorem Ws.sm (H : Ws h k v n cs) (s : Sm S h h') (hb : ∀ b, vb v = some b -> ¬ S b) : Ws h' k v n cs := by
 obtain ⟨hl, hs⟩ := H
 refine ⟨hl, ?_⟩
 rcases hs with ⟨h0, a, c, e, h1, h2⟩ | ⟨b, o, c, cc, nn, op, h0, h1, rfl, h2, h3, h4, h5⟩
 . exact .inl ⟨h0, a, c, e, h1, fun q hq => Nat.lt_of_lt_of_le (h2 q hq) s.nx⟩
 . exact .inr ⟨b, o, c, cc, nn, op, h0, h1, rfl, Nat.lt_of_lt_of_le h2 s.nx, (s.get b h2 (hb b rfl)).trans h3, h4, h5⟩
theorem Ws.nil : Ws h k (.slice none 0 0) 0 [] := ⟨by simp, .inl ⟨rfl, none, 0, rfl, fun _ => rfl, (fun q hq => by cases hq)⟩⟩
theorem Cl.ws (hc : Cl h b cs) (hn : cs.length = n) : Ws h 1 (.slice (some ⟨b, 0, none⟩) n n) n cs := by
 refine ⟨by omega, ?_⟩
 obtain ⟨h1, c, op, h2, h3⟩ := hc
 by_cases h0 : n = 0
 . exact .inl ⟨h0, some ⟨b, 0, none⟩, n, by rw [h0], (fun e => by cases e), (fun q hq => by cases hq; exact h1)⟩
 . exact .inr ⟨b, 0, n, c, cs.length, op, by omega, h0, rfl, h1, h2, by omega, fun j hj => by rw [Nat.zero_add]; exact h3 j hj⟩
theorem Ws.elem {i : Nat} (hT : P.underlying T = some (.slice el)) (hk : szOf P el = some 1) (hs : scalT P el = true) (hg : Ws h 1 v n cs) (hi : i < n) (kd : IntKind) :
   ∃ p x, aIndex P T v (.int kd i) = some (.pointer (some p)) /\ cs[i]? = some x /\ aLoad P el p h = some x /\ vb v = some p.block /\
     ∀ u, cellsL u = [u] -> u.oneCell' = true -> ∃ h', aStore P el p u h = some h' /\ Ws h' 1 v n (cs.set i u) /\ Sm (fun b => vb v = some b) h h' /\ h'.next = h.next := by
 obtain ⟨hl, hg⟩ := hg
 rcases hg with ⟨h0, _⟩ | ⟨b, o, c, cc, nn, op, h0, h1, rfl, h2, h3, h5, h6⟩
 . omega
 . have hil : i < cs.length := by omega
   refine ⟨⟨b, o + i, none⟩, cs[i], ?_, List.getElem?_eq_getElem hil, ?_, rfl, fun u hu hu1 => ?_⟩
   . unfold aIndex
     simp only [hT, hk]
     rw [if_pos ⟨h1, by omega, by omega⟩]
     simp
   . unfold scalT at hs
     cases hu : P.underlying el with
     | none => rw [hu] at hs; cases hs
     | some d =>
       rw [hu] at hs
       have hs : isAg d = false := by simpa using hs
       unfold aLoad
       simp only [hu, hs]
       show h.cell _ = _
       unfold AH.cell
       simp only [h3]
       rw [if_pos (by omega), h6 i (by omega), List.getElem?_eq_getElem hil]
   . refine ⟨⟨h.m.set b (some (.cells (cc.set (o + i) (some u)) nn op false)), h.next⟩, ?_, ⟨by rw [List.length_set]; exact hl, .inr ⟨b, o, c, cc.set (o + i) (some u), nn, op, h0, h1, rfl, h2, ?_, h5, fun j hj => ?_⟩⟩, ⟨Nat.le_refl _, fun x hx hn => ?_⟩, rfl⟩
     . unfold aStore
       simp only [hk, hu, List.length_singleton, if_true]
       unfold AH.setcs
       rw [if_pos hu1]
       dsimp only
       rw [Nat.add_zero]
       unfold AH.setc
       simp only [h3]
       rw [if_pos (by omega)]
       rfl
     . show (h.m.set b _).get b = _
       rw [X.T.get_set, if_pos rfl]
     . rw [List.length_set] at hj
       rw [X.T.get_set, List.getElem?_set]
       by_cases e : j = i
       . subst e; rw [if_pos rfl, if_pos rfl, if_pos hil]
       . rw [if_neg (by omega), if_neg (fun e2 => e e2.symm)]; exact h6 j hj
     . show (h.m.set b _).get x = _
       rw [X.T.get_set, if_neg (fun e => hn (by rw [e]; rfl))]
end
section
variable {h h' : AH} {S : Nat -> Prop} {g : Bool} {k n : Nat} {v : Value} {cs : List Value}
end
section
variable {ρ : Type} [DecidableEq ρ] {h h' : AH} {S : Nat -> Prop} {g : ρ -> Bool} {k : ρ -> Nat} {V : ρ -> Value} {n : ρ -> Nat} {cs : ρ -> List Value}
end
section
variable {P : Program} {h h' : AH} {b o i n k : Nat} {cs : List Value} {v : Value} {T el : TypeId}
theorem K5 (hs : scalT P el = true) (hc : h.cell ⟨b, o, none⟩ = some v) : aLoad P el ⟨b, o, none⟩ h = some v := by
 unfold scalT at hs
 cases hu : P.underlying el with
 | none => rw [hu] at hs; cases hs
 | some d =>
  rw [hu] at hs
  have hs : isAg d = false := by simpa using hs
  unfold aLoad
  simp only [hu, hs]
  exact hc
theorem Gr.tailK (hT : P.underlying T = some (.slice el)) (hk : szOf P el = some k) (hg : Gr h k v (n + 1) cs) :
   ∃ v', aSl P T v (some (.int .i64 1)) none none h = some v' /\ Gr h k v' n (cs.drop k) /\ vb v' = vb v := by
 obtain ⟨hl, hg⟩ := hg
 rcases hg with ⟨h0, _⟩ | ⟨b, o, cc, nn, rfl, h2, h3, h4, h5, h6⟩
 . omega
 . have hkl : (n + 1) * k = n * k + k := Nat.succ_mul n k
   refine ⟨.slice (some ⟨b, o + k, none⟩) n u7, ?_, ⟨by rw [List.length_drop, hl, hkl]; omega, .inr ⟨b, o + k, cc, nn, rfl, h2, h3, h4, by omega, fun j hj => ?_⟩⟩, rfl⟩
   . have : aSlice P T (.slice (some ⟨b, o, none⟩) (n + 1) u7) (some (.int .i64 1)) none none h = some (.slice (some ⟨b, o + k, none⟩) n u7) := by
      unfold aSlice
      rw [if_pos (show mxOk none none = true from rfl)]
      simp only [hT, hk, if_true]
      have e1 : bnd none (n + 1) = some (n + 1) := rfl
      have e2 : bnd (some (.int .i64 1)) 0 = some 1 := rfl
      have e3 : opOf h b = some (nn, k) := by unfold opOf; rw [h3]
      simp only [e1, e2, e3]
      rw [if_pos ⟨by omega, trivial, .inl (Nat.le_refl _)⟩]
      simp
     unfold aSl
     rw [this]
   . rw [List.length_drop] at hj
     rw [show o + k + j = o + (k + j) by omega, h6 (k + j) (by omega), List.getElem?_drop]
end
end
end Go.Arm
namespace Go.Arm
structure TE where
 k : Int
 p : Int
 t : Int
 n : Int
 v : Int
 w : Bool
structure TS where
 b : Int
 e : Int
 w : Int
 y : Int
structure TC where
 s : Int
 c : Int
 r : Int
 m : Int
end Go.Arm
namespace Go.Arm
abbrev Lf := Nat -> List TE
abbrev Sf := Nat -> List TS
end Go.Arm



namespace Go.Arm
noncomputable section
open Go Go.X Go.RowKit
def First (h : AH) : Prop := ∀ b o, h.m.get b = some o -> o.ro = true
theorem first0 : First ah0 := fun b o h => by
 have : (T.e : T AObj).get b = some o := h
 rw [T.get_e] at this; cases this
end
end Go.Arm
namespace Go.X
noncomputable section
open Go Go.RowKit
structure HeldK (k : Nat) (w : World) (v : Value) (n : Nat) (cs : List Value) : Prop where
 len : cs.length = n * k
 fl : ∀ x, x ∈ cs -> ∀ φ, VR φ x x
 has : (v = .slice none 0 0 /\ n = 0) ∨ ∃ a cap, v = .slice (some a) n cap /\ n ≤ cap /\ cap ≤ maxLen /\ (0 < cap -> a.spot = none /\ a.block < w.heap.size) /\
  ∀ i, i < cs.length -> w.cell? ⟨a.block, a.off + i, none⟩ = cs[i]? /\ w.frozen? ⟨a.block, a.off + i, none⟩ = false
theorem yk5 {α : Type} (f : α -> List Value) {k : Nat} (hf : ∀ a, (f a).length = k) : ∀ (l : List α) (i j : Nat), j < k -> (l.flatMap f)[i * k + j]? = (l[i]?).bind fun a => (f a)[j]?
 | [], i, j, _ => by simp
 | a :: l, 0, j, hj => by
  rw [List.flatMap_cons, Nat.zero_mul, Nat.zero_add, List.getElem?_append_left (by rw [hf]; exact hj)]
  simp
 | a :: l, i + 1, j, hj => by
  have hk : (i + 1) * k + j = k + (i * k + j) := by rw [Nat.succ_mul]; omega
  rw [List.flatMap_cons, hk, List.getElem?_append_right (by rw [hf]; omega), hf, Nat.add_sub_cancel_left, yk5 f hf l i j hj]
  simp
theorem zv5 {α : Type} (f : α -> List Value) {k : Nat} (hf : ∀ a, (f a).length = k) : ∀ (l : List α), (l.flatMap f).length = l.length * k
 | [] => by simp
 | a :: l => by rw [List.flatMap_cons, List.length_append, hf, zv5 f hf l, List.length_cons, Nat.succ_mul, Nat.add_comm]
theorem heldK_of {P : Program} {t e : TypeId} {α : Type} {k : Nat} {f : α -> List Value} {ok : α -> Prop} (hk0 : 0 < k) (hf : ∀ a, (f a).length = k) (hfl : ∀ a x, x ∈ f a -> ∀ φ, VR φ x x) (ht : P.underlying t = some (.slice e)) (hc : P.cellsOf e = k) {H : Type} {enc : TypeId × Value -> H} {w : World} {held : Bool}
   (ho : ∀ (fuel : Nat) (cs : List Value) (x : DataW H × List MemPlace), DataW.trod enc P w 0 (fun _ => true) held fuel e cs = some x -> ∃ a : α, ok a /\ cs = f a)
   {b0 : Option Addr} {len0 cap0 : Nat} {d : DataW H} {ps : List MemPlace}
   (h : DataW.Trod enc P w 0 (fun _ => true) held t (.slice b0 len0 cap0) d ps) (hz : w.noneFrozen ps) : ∃ l : List α, (∀ x, x ∈ l -> ok x) /\ HeldK k w (.slice b0 len0 cap0) l.length (l.flatMap f) := by
 obtain ⟨fuel, h⟩ := h
 rcases Deep.open_slice ht h with ⟨e1, _⟩ | ⟨a, len, cap, m, n, D, Pl, e1, _, hlc, hcm, hm, hx, hall⟩
 . have e1 : [Value.slice b0 len0 cap0] = [.slice none 0 0] := e1
   cases e1
   exact ⟨[], fun x hx => by (cases hx), (by simp), fun x hx => by (cases hx), .inl ⟨rfl, rfl⟩⟩
 . have e1 : [Value.slice b0 len0 cap0] = [.slice (some a) len cap] := e1
   cases e1
   have hm : m = cap0 := by simpa using hm
   rw [hc] at hall hx
   have key : ∀ i, i < m -> ∃ x : α, ok x /\ w.cells? 0 (a.add (i * k)) k = some (f x) := by
     intro i hi
     obtain ⟨cs', h1, h2⟩ := hall i hi
     obtain ⟨x, h3, h4⟩ := ho n cs' _ h2
     subst h4
     exact ⟨x, h3, h1⟩
   obtain ⟨b, off, spot⟩ := a
   have hspot : 0 < cap0 -> spot = none /\ b < w.heap.size := by
     intro h0
     obtain ⟨x, _, h1⟩ := key 0 (by omega)
     obtain ⟨_, h2, h3⟩ := World.cells?_some h1
     have h4 := h3 0 (by omega)
     rw [List.getElem?_eq_getElem (by rw [hf]; omega)] at h4
     have hs : spot = none := by simpa [Addr.add] using World.cell?_spot h4
     refine ⟨hs, ?_⟩
     unfold World.cell? at h4
     split at h4
     . rename_i e5; have := (Array.getElem?_eq_some_iff.1 e5).1; simpa [Addr.add] using this
     . cases h4
   refine ⟨List.ofFn (fun i : Fin len0 => Classical.choose (key i.1 (by omega))), fun x hx => ?_, zv5 f hf _, fun x hx φ => ?_, .inr ⟨⟨b, off, spot⟩, cap0, by simp, by simpa using hlc, hcm, hspot, fun i hi => ?_⟩⟩
   . rw [List.mem_ofFn] at hx
     obtain ⟨i, rfl⟩ := hx
     exact (Classical.choose_spec (key i.1 (by omega))).1
   . obtain ⟨y, _, hy⟩ := List.mem_flatMap.1 hx
     exact hfl y x hy φ
   . rw [zv5 f hf, List.length_ofFn] at hi
     have hq : i / k < len0 := (Nat.div_lt_iff_lt_mul hk0).2 hi
     have hr : i % k < k := Nat.mod_lt _ hk0
     have hi2 : i / k * k + i % k = i := by rw [Nat.mul_comm]; exact Nat.div_add_mod i k
     have h0l : 0 < len0 := Nat.lt_of_le_of_lt (Nat.zero_le _) hq
     obtain ⟨hs, _⟩ := hspot (by omega)
     subst hs
     obtain ⟨_, h6⟩ := Classical.choose_spec (key (i / k) (by omega))
     obtain ⟨_, h2, h3⟩ := World.cells?_some h6
     have h4 := h3 (i % k) hr
     have h7 : w.cell? ⟨b, off + i, none⟩ = (f (Classical.choose (key (i / k) (by omega))))[i % k]? := by
       have e1 : ((⟨b, off, none⟩ : Addr).add (i / k * k)).add (i % k) = ⟨b, off + i, none⟩ := by
        rw [WideShapes.add_plain, WideShapes.add_plain, show off + i / k * k + i % k = off + i by omega]
       rw [<- e1]
       exact h4
     refine ⟨?_, ?_⟩
     . rw [h7]
       have := yk5 f hf (List.ofFn (fun i : Fin len0 => Classical.choose (key i.1 (by omega)))) (i / k) (i % k) hr
       rw [hi2] at this
       rw [this, List.getElem?_ofFn, dif_pos hq]
       rfl
     . have hps : MemPlace.cell b (off + i) ∈ ps := by
        have hx2 : ps = MemPlace.row ⟨b, off, none⟩ (m * k) ++ (List.range m).flatMap Pl := (Prod.mk.inj hx).2
        rw [hx2]
        refine List.mem_append_left _ ?_
        unfold MemPlace.row
        simp only [List.mem_map, List.mem_range]
        refine ⟨i, ?_, by simp⟩
        have : len0 * k ≤ m * k := Nat.mul_le_mul_right _ (by omega)
        omega
       exact hz b (off + i) hps
end
end Go.X
namespace Go.Arm
noncomputable section
open Go Go.X Go.RowKit
theorem holdK {W : World} {φ : Phi} {h : AH} (r : R W φ h W) (hf : First h) {k n : Nat} {v : Value} {l : List Value} (hk0 : 0 < k) (H : HeldK k W v n l) :
   ∃ v' φ' h', R W φ' h' W /\ First h' /\ Le φ φ' /\ VR φ' v' v /\ Sd h' k v' n l /\ Sm Nix h h' := by
 have bump : R W φ ⟨h.m, h.next + 1⟩ W := ⟨r.dom, r.low, r.inj, fun b i hi => ⟨(r.lt b i hi).1, Nat.lt_succ_of_lt (r.lt b i hi).2⟩, trivial, r.below⟩
 have smb : Sm Nix h ⟨h.m, h.next + 1⟩ := ⟨Nat.le_succ _, fun _ _ _ => rfl⟩
 rcases H.has with ⟨rfl, rfl⟩ | ⟨a, cap, rfl, hlc, hcm, hpos, hall⟩
 . have hl0 : l = [] := List.length_eq_zero_iff.1 (by rw [H.len]; simp)
   subst hl0
   exact ⟨.slice none 0 0, φ, _, bump, hf, Le.refl φ, .nils 0 0, Sd.nil, smb⟩
 . by_cases h0 : cap = 0
   . subst h0
     have hn0 : n = 0 := by omega
     subst hn0
     have hl0 : l = [] := List.length_eq_zero_iff.1 (by rw [H.len]; simp)
     subst hl0
     exact ⟨.slice (some ⟨h.next, 0, none⟩) 0 0, φ, _, bump, hf, Le.refl φ, .slice0 _ _ _, ⟨(by simp), .inl ⟨rfl, _, _, rfl, (fun e => by cases e), fun q hq => by cases hq; exact Nat.lt_succ_self _⟩⟩, smb⟩
   . obtain ⟨hs, hb⟩ := hpos (by omega)
     obtain ⟨bk, off, spot⟩ := a
     dsimp only at hs hb hall
     subst hs
     have hopen : cap ≠ u7 := by
       have : maxLen < u7 := by decide
       omega
     by_cases hn0 : n = 0
     . subst hn0
       have hl0 : l = [] := List.length_eq_zero_iff.1 (by rw [H.len]; simp)
       subst hl0
       have le : Le φ (fun b => if b = h.next then some (⟨bk, off, 0, 0, 0⟩ : Im) else φ b) := by
         intro b j hj
         have := (r.lt b j hj).2
         show (if b = h.next then _ else φ b) = some j
         rw [if_neg (by omega)]; exact hj
       have hget : ∀ b o, h.m.get b = some o -> ∀ i, (if b = h.next then some (⟨bk, off, 0, 0, 0⟩ : Im) else φ b) = some i -> h.m.get b = none ∨ φ b = some i ∨ b = h.next := by
         intro b o _ i hi
         by_cases e : b = h.next
         . exact .inr (.inr e)
         . rw [if_neg e] at hi; exact .inr (.inl hi)
       have hnone : h.m.get h.next = none ∨ ∃ o, h.m.get h.next = some o := by
         cases h.m.get h.next with
         | none => exact .inl rfl
         | some o => exact .inr ⟨o, rfl⟩
       have getm : ∀ b, (h.m.set h.next none).get b = if b = h.next then none else h.m.get b := fun b => T.get_set b
       refine ⟨.slice (some ⟨h.next, 0, none⟩) 0 cap, _, ⟨h.m.set h.next none, h.next + 1⟩, ⟨fun b i o hi ho => ?_, fun b i o hi ho hr => ?_, fun b b' i i' o o' hi hi' ho ho' hr hc => ?_, fun b i hi => ?_, trivial, r.below⟩, fun b o ho => ?_, le, ?_, ⟨(by simp), .inl ⟨rfl, _, _, rfl, (fun e => by cases e), fun q hq => by cases hq; exact Nat.lt_succ_self _⟩⟩, ⟨Nat.le_succ _, fun b hb _ => by show (h.m.set h.next none).get b = _; rw [getm, if_neg (by omega)]⟩⟩
       . rw [getm] at ho
         by_cases e : b = h.next
         . rw [if_pos e] at ho; cases ho
         . rw [if_neg e] at ho hi; exact (r.dom b i o hi ho).mono le
       . rw [getm] at ho
         by_cases e : b = h.next
         . rw [if_pos e] at ho; cases ho
         . rw [if_neg e] at ho hi; exact r.low b i o hi ho hr
       . rw [getm] at ho
         by_cases e : b = h.next
         . rw [if_pos e] at ho; cases ho
         . rw [if_neg e] at ho; have := hf b o ho; rw [hr] at this; cases this
       . by_cases e : b = h.next
         . rw [if_pos e] at hi; cases hi; exact ⟨hb, by subst e; exact Nat.lt_succ_self _⟩
         . rw [if_neg e] at hi; exact ⟨(r.lt b i hi).1, Nat.lt_succ_of_lt (r.lt b i hi).2⟩
       . rw [getm] at ho
         by_cases e : b = h.next
         . rw [if_pos e] at ho; cases ho
         . rw [if_neg e] at ho; exact hf b o ho
       . have := VR.slice (φ := fun b => if b = h.next then some (⟨bk, off, 0, 0, 0⟩ : Im) else φ b) (a := ⟨h.next, 0, none⟩) (l := 0) (c := cap) ⟨bk, off, 0, 0, 0⟩ (if_pos rfl) rfl hopen
         simpa using this
     . have hl1 : 0 < l.length := by rw [H.len]; exact Nat.mul_pos (by omega) hk0
       have hcell := (hall 0 hl1).1
       obtain ⟨arr, el, fz, hw⟩ : ∃ arr el fz, W.heap[bk]? = some (.cells arr el fz) := by
         unfold World.cell? at hcell
         split at hcell
         . rename_i e5; exact ⟨_, _, _, e5⟩
         . rw [List.getElem?_eq_getElem hl1] at hcell; cases hcell
       have hat : ∀ j, (hj : j < l.length) -> arr[j + off]? = some l[j] := by
         intro j hj
         have := (hall j hj).1
         unfold World.cell? at this
         rw [hw] at this
         rw [List.getElem?_eq_getElem hj] at this
         rw [Nat.add_comm]; simpa using this
       have hsz : l.length + off ≤ arr.size := by
         have := (Array.getElem?_eq_some_iff.1 (hat (l.length - 1) (by omega))).1
         omega
       have le : Le φ (fun b => if b = h.next then some (⟨bk, off, l.length, arr.size, 0⟩ : Im) else φ b) := by
         intro b j hj
         have := (r.lt b j hj).2
         show (if b = h.next then _ else φ b) = some j
         rw [if_neg (by omega)]; exact hj
       have getm : ∀ b, (h.m.set h.next (some (AObj.cells (T.fill l 0 .e) l.length 0 true))).get b = if b = h.next then some (AObj.cells (T.fill l 0 .e) l.length 0 true) else h.m.get b := fun b => T.get_set b
       refine ⟨.slice (some ⟨h.next, 0, none⟩) n cap, _, ⟨h.m.set h.next (some (AObj.cells (T.fill l 0 .e) l.length 0 true)), h.next + 1⟩, ⟨fun b i o hi ho => ?_, fun b i o hi ho hr => ?_, fun b b' i i' o o' hi hi' ho ho' hr hc => ?_, fun b i hi => ?_, trivial, r.below⟩, fun b o ho => ?_, le, ?_, ⟨H.len, .inr ⟨h.next, 0, cap, _, l.length, 0, true, by omega, h0, rfl, Nat.lt_succ_self _, by show (h.m.set h.next _).get h.next = _; rw [getm, if_pos rfl], by rw [<- H.len]; omega, fun j hj => ?_⟩⟩, ⟨Nat.le_succ _, fun b hb _ => by show (h.m.set h.next _).get b = _; rw [getm, if_neg (by omega)]⟩⟩
       . rw [getm] at ho
         by_cases e : b = h.next
         . rw [if_pos e] at ho hi; cases ho; cases hi
           refine ⟨rfl, rfl, trivial, arr, el, ⟨fz, hw, (fun e => by cases e), fun j hj => ?_⟩, rfl, hsz, fun j hj => ?_⟩
           . have := (hall j hj).2
             rw [Nat.add_comm] at this; exact this
           . refine ⟨l[j], l[j], ?_, hat j hj, H.fl _ (List.getElem_mem hj) _⟩
             rw [T.get_fill, if_pos (by omega)]
             simp [hj]
         . rw [if_neg e] at ho hi; exact (r.dom b i o hi ho).mono le
       . rw [getm] at ho
         by_cases e : b = h.next
         . rw [if_pos e] at ho; cases ho; cases hr
         . rw [if_neg e] at ho hi; exact r.low b i o hi ho hr
       . rw [getm] at ho
         by_cases e : b = h.next
         . rw [if_pos e] at ho; cases ho; cases hr
         . rw [if_neg e] at ho; have := hf b o ho; rw [hr] at this; cases this
       . by_cases e : b = h.next
         . rw [if_pos e] at hi; cases hi; exact ⟨hb, by subst e; exact Nat.lt_succ_self _⟩
         . rw [if_neg e] at hi; exact ⟨(r.lt b i hi).1, Nat.lt_succ_of_lt (r.lt b i hi).2⟩
       . rw [getm] at ho
         by_cases e : b = h.next
         . rw [if_pos e] at ho; cases ho; rfl
         . rw [if_neg e] at ho; exact hf b o ho
       . have := VR.slice (φ := fun b => if b = h.next then some (⟨bk, off, l.length, arr.size, 0⟩ : Im) else φ b) (a := ⟨h.next, 0, none⟩) (l := n) (c := cap) ⟨bk, off, l.length, arr.size, 0⟩ (if_pos rfl) rfl hopen
         simpa using this
       . rw [T.get_fill, if_pos (by omega)]
         simp
end
end Go.Arm
namespace Go.Arm
noncomputable section
open Go Go.X
def nv (x : Int) : Value := .int .i64 x
section
variable {P : Program} {h h' : AH} {S F : Nat -> Prop} {b o n k : Nat} {v : Value} {cs l : List Value} {T el : TypeId}
theorem xw9 : ∀ (l : List Value) (i : Nat), (∀ j, j < l.length -> h.cell ⟨b, o + (i + j), none⟩ = l[j]?) -> h.cells ⟨b, o, none⟩ i l.length = some l
 | [], i, _ => rfl
 | x :: l, i, hl => by
  have ih := xw9 l (i + 1) (fun j hj => by
   have := hl (j + 1) (by simpa using hj)
   rw [show i + 1 + j = i + (j + 1) by omega]
   simpa using this)
  have h0 : h.cell ⟨b, o + i, none⟩ = some x := hl 0 (by simp)
  show h.cells ⟨b, o, none⟩ i (l.length + 1) = _
  unfold AH.cells
  dsimp only
  rw [h0, ih]
theorem zk6 (hs : aggT P el l.length = true) (hl : ∀ j, j < l.length -> h.cell ⟨b, o + j, none⟩ = l[j]?) : aLoad P el ⟨b, o, none⟩ h = some (.agg ⟨l⟩) := by
 unfold aggT at hs
 cases hu : P.underlying el with
 | none => rw [hu] at hs; cases hs
 | some d =>
  rw [hu] at hs
  simp only [Bool.and_eq_true] at hs
  cases hz : szOf P el with
  | none => rw [hz] at hs; cases hs.2
  | some j =>
   rw [hz] at hs
   have : j = l.length := Nat.eq_of_beq_eq_true hs.2
   subst this
   unfold aLoad
   simp only [hu, hs.1, if_true, hz]
   rw [xw9 l 0 (fun j hj => by rw [Nat.zero_add]; exact hl j hj)]
end
section
variable {P : Program} {h h' : AH} {S F F' : Nat -> Prop} {V : Option Nat -> Value} {N : Nat} {L : Lf} {T el : TypeId} {p i : Nat} {x : TE}
end
section
variable {P : Program} {h h' h1 h2 : AH} {Q F F' : Nat -> Prop} {V : Option Nat -> Value} {N hi B : Nat} {S : Sf} {T el : TypeId} {p i : Nat} {s : TS} {v' : Value}
end
end
end Go.Arm
namespace Go.Arm
noncomputable section
open Go Go.X
section
variable {h h' : AH} {F Q : Nat -> Prop} {tb sb mb N : Nat} {VL : Option Nat -> Value} {sp : Value} {L : Lf} {C : TC} {mt : List (Int × List (Nat × Nat))}
theorem yy2 {P : Program} {h : AH} {n : Nat} {f : Fr} {a : Addr} {k j : Nat} {T : TypeId} {v w : Value} (hk : Nat.blt k n = true) (hj : Nat.blt j n = true) (hf : f k = .pointer (some a)) (hl : aLoad P T a h = some v) (h2 : f j = w) : evR P n f h [.cell k T, .tmp j] = some (.tuple ⟨[v, w]⟩) := by
 have e1 : evR1 P n f h (.cell k T) = some v := by unfold evR1; simp only [hk, hf]; exact hl
 have e3 : evR1 P n f h (.tmp j) = some w := by unfold evR1; simp only [hj, h2]
 unfold evR evRL evRL evRL
 rw [e1, e3]
theorem ldx {P : Program} {h h' : AH} {T : TypeId} {b o : Nat} {v : Value} (hv : aLoad P T ⟨b, o, none⟩ h = some v) (hb : b < h.next) (t : Sm Nix h h') : aLoad P T ⟨b, o, none⟩ h' = some v := by
 have hg := t.get b hb (fun x => x)
 have hc : ∀ k : Nat, h'.cell ⟨b, k, none⟩ = h.cell ⟨b, k, none⟩ := fun k => by unfold AH.cell; simp only [hg]
 have hcs : ∀ (m i : Nat), h'.cells ⟨b, o, none⟩ i m = h.cells ⟨b, o, none⟩ i m := by
  intro m
  induction m with
  | zero => intro i; rfl
  | succ m ih => intro i; unfold AH.cells; dsimp only; rw [hc, ih]
 unfold aLoad at hv ⊢
 simp only [hc, hcs]
 exact hv
theorem Rk_lk {P : Program} {n : Nat} {ops : Array Oper} {f : Fr} {h : AH} {i : Nat} {r : List Nat} {o : Oper} {T : TypeId} {x y : Operand} {a b : Value} {c : Bool} {d : Nat} (v : Value) (ho : ops[i]? = some o) (hop : o.op = .lookup T x y c) (hd : o.dst = some d) (ha : ev n f x = some a) (hb : ev n f y = some b) (hv : aLookup P T a b c h = some v) (hf : f d = v) (k : Rk P n ops f h r) : Rk P n ops f h (i :: r) :=
 V8 (v := v) ho hd (by rw [hop]; simp only [evVal, ha, hb]; exact qu7 hv) hf k
theorem Rk_ln {P : Program} {n : Nat} {ops : Array Oper} {f : Fr} {h : AH} {i : Nat} {r : List Nat} {o : Oper} {T : TypeId} {x : Operand} {a : Value} {d : Nat} (v : Value) (ho : ops[i]? = some o) (hop : o.op = .call ⟨.builtin .len, ⟨[x]⟩, ⟨[T]⟩⟩) (hd : o.dst = some d) (ha : ev n f x = some a) (hv : aLen P T a h = some v) (hf : f d = v) (k : Rk P n ops f h r) : Rk P n ops f h (i :: r) :=
 V8 (v := v) ho hd (by rw [hop]; simp only [evVal, ha]; exact hv) hf k
theorem Cl.all {P : Program} {h : AH} {b : Nat} {l : List Value} {T : TypeId} (hc : Cl h b l) (hT : aggT P T l.length = true) : aLoad P T ⟨b, 0, none⟩ h = some (.agg ⟨l⟩) := by
 have := hc.ldS (o := 0) hT (by omega)
 rw [List.drop_zero, List.take_length] at this
 exact this
theorem Cl.allN {P : Program} {h : AH} {b n : Nat} {l : List Value} {T : TypeId} (hc : Cl h b l) (hl : l.length = n) (hT : aggT P T n = true) : aLoad P T ⟨b, 0, none⟩ h = some (.agg ⟨l⟩) := hc.all (by rw [hl]; exact hT)
theorem Cl.storeN {P : Program} {h : AH} {b n : Nat} {l cs : List Value} {T : TypeId} {v : Value} (hc : Cl h b l) (hl : l.length = n) (hz : szOf P T = some n) (hv : cellsL v = cs) (hcs : cs.length = n) (h1 : ∀ v, v ∈ cs -> v.oneCell' = true) :
 ∃ h', aStore P T ⟨b, 0, none⟩ v h = some h' /\ Cl h' b cs /\ Sm (fun k => k = b) h h' /\ h'.next = h.next := hc.storeS (by rw [hl]; exact hz) hv (by rw [hl, hcs]) h1
end
end
end Go.Arm
