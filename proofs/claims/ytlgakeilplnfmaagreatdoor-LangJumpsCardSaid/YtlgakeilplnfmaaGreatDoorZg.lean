/- Parts of the closed evaluator. -/
import Derived.Test.YtlgakeilplnfmaaGreatDoorZf
import Derived.RecoverIn
namespace Go.X
noncomputable section
open Go Go.RowKit
variable {w0 : World} {P : Program}
def none0 : Phi := fun _ => none
def ah0 : AH := ⟨.e, 0⟩
theorem R.first (W : World) : R W none0 ah0 W :=
 ⟨fun _ _ _ h => (by cases h), fun _ _ _ h => (by cases h), fun _ _ _ _ _ _ h => (by cases h), fun _ _ h => (by cases h), trivial, Below.refl _ _⟩
def noCountB (P : Program) : Bool := P.funcs.toList.all fun fn => !(fn.name == "runtime.NumGoroutine")
theorem noCount_of (hb : noCountB P = true) : NoCount P := by
 intro f fn hf _
 have hm : fn ∈ P.funcs.toList := by
  rw [Array.mem_toList_iff]
  exact Array.mem_of_getElem? hf
 have := List.all_eq_true.1 hb fn hm
 simpa using this
end
end Go.X
namespace Go.X
noncomputable section
open Go Go.RowKit
variable {w0 w w' : World} {φ φ' : Phi} {h h' : AH} {P : Program} {n : Nat} {t : T Value}
def aSpine (P : Program) (call : Call1) (n LF : Nat) : Nat → Code → T Value → List Nat → AH → Option (T Value × List Nat × AH)
 | 0, _, t, ds, h => some (t, ds, h)
 | k + 1, .seq x y, t, ds, h => match aCode P call n LF none x t ds h with
  | some [⟨.normal, t', ds', h'⟩] => aSpine P call n LF k y t' ds' h'
  | _ => none
 | _ + 1, _, _, _, _ => none
def back : Nat → Code → Code
 | 0, c => c
 | k + 1, .seq _ y => back k y
 | _ + 1, c => c
end
end Go.X
namespace Go.X
noncomputable section
open Go Go.RowKit
variable {w0 w w' : World} {φ φ' : Phi} {h h' : AH} {P : Program} {n : Nat} {t : T Value}
def YesPost (W : World) : Ending → World → Prop := fun e w' => e = .returned (.bool true) ∧ Below W.heap.size W w'
end
end Go.X
namespace Go.X
noncomputable section
open Go Go.RowKit
variable {w0 w w' : World} {φ φ' : Phi} {h h' : AH} {P : Program} {n : Nat} {t : T Value}
def known (f : FuncId) (call : Call1) : Call1 := fun an h => match an with
 | .enter g [] => if g = f then some [(.bool true, h)] else call an h
 | _ => call an h
theorem known_ok {f : FuncId} {call : Call1} (hf : ∀ W, Calls P f #[] W (YesPost W)) (hc : CallsOk w0 P call) : CallsOk w0 P (known f call) := by
 intro an h l φ w nx hs hr hnr
 unfold known at hs
 split at hs
 · rename_i g
   split at hs
   · rename_i hg
     subst hg
     cases hs
     cases hnr with
     | enter hl =>
      cases hl
      refine ⟨?_, fun _ _ _ _ _ e => by cases e⟩
      intro f' args e
      cases e
      refine Calls.mono (hf w) fun e w' he => ?_
      obtain ⟨rfl, hb⟩ := he
      exact ⟨_, rfl, .bool true, h, List.mem_singleton.2 rfl, φ, .refl φ h, hr.grown hb, .bool true⟩
   · exact hc _ _ _ _ _ _ hs hr hnr
 · exact hc _ _ _ _ _ _ hs hr hnr
end
end Go.X

namespace Go.X
noncomputable section
open Go Go.RowKit
variable {w0 w w' : World} {φ φ' : Phi} {h h' : AH} {P : Program} {n : Nat} {t : T Value}
def ov0 (call : Call1) : Call1 := call
theorem ov0_ok {call : Call1} (hc : CallsOk w0 P call) : CallsOk w0 P (ov0 call) := hc
end
end Go.X
namespace Go.X
noncomputable section
open Go Go.RowKit
variable {w0 w w' : World} {φ φ' : Phi} {h h' : AH} {P : Program} {n : Nat} {t : T Value}
namespace T
variable {α : Type}
def smart (l : T α) (v : Option α) (r : T α) : T α := match l, v, r with
 | .e, none, .e => .e
 | l, v, r => .n l v r
theorem get_smart (l r : T α) (v : Option α) (k : Nat) : (smart l v r).get k = (T.n l v r).get k := by
 unfold smart
 split
 · rw [get_n]; split
   · rfl
   · split <;> rfl
 · rfl
def del (t : T α) : Nat → T α := T.rec (motive := fun _ => Nat → T α) (fun _ => .e)
 (fun l v r dl dr k => Bool.rec (Bool.rec (smart (dl (Nat.sub (Nat.div k (nat_lit 2)) (nat_lit 1))) v r) (smart l v (dr (Nat.div k (nat_lit 2)))) (Nat.beq (Nat.mod k (nat_lit 2)) (nat_lit 1))) (smart l none r) (Nat.beq k (nat_lit 0))) t
theorem del_n (l r : T α) (v : Option α) (k : Nat) : (T.n l v r).del k = if k = 0 then smart l none r else if k % 2 = 1 then smart l v (r.del (k / 2)) else smart (l.del (k / 2 - 1)) v r := by
 show Bool.rec (motive := fun _ => T α) (Bool.rec (motive := fun _ => T α) (smart (l.del (k / 2 - 1)) v r) (smart l v (r.del (k / 2))) (Nat.beq (k % 2) 1)) (smart l none r) (Nat.beq k 0) = _
 rw [beq_ite, beq_ite]
theorem get_del : ∀ (t : T α) (k j : Nat), (t.del k).get j = if j = k then none else t.get j
 | .e, k, j => by
  show (T.e : T α).get j = _
  rw [get_e]; simp
 | .n l v r, k, j => by
  have il := get_del l
  have ir := get_del r
  rw [del_n]
  by_cases hk : k = 0
  · subst hk
    rw [if_pos rfl, get_smart, get_n, get_n]
    by_cases hj : j = 0 <;> simp [hj]
  · rw [if_neg hk]
    by_cases ho : k % 2 = 1
    · rw [if_pos ho, get_smart, get_n, get_n, ir]
      by_cases hj : j = 0
      · subst hj; rw [if_pos rfl, if_pos rfl, if_neg (by omega)]
      · rw [if_neg hj, if_neg hj]
        by_cases hjo : j % 2 = 1
        · rw [if_pos hjo, if_pos hjo]
          by_cases e : j = k
          · subst e; simp
          · rw [if_neg e, if_neg (by omega)]
        · rw [if_neg hjo, if_neg hjo, if_neg (by intro e; subst e; exact hjo ho)]
    · rw [if_neg ho, get_smart, get_n, get_n, il]
      by_cases hj : j = 0
      · subst hj; rw [if_pos rfl, if_pos rfl, if_neg (by omega)]
      · rw [if_neg hj, if_neg hj]
        by_cases hjo : j % 2 = 1
        · rw [if_pos hjo, if_pos hjo, if_neg (by intro e; subst e; exact ho hjo)]
        · rw [if_neg hjo, if_neg hjo]
          by_cases e : j = k
          · subst e; simp
          · rw [if_neg e, if_neg (by omega)]
end T
def blocksV : Nat → Value → List Nat
 | _, .pointer (some a) => [a.block]
 | _, .slice (some a) _ _ => [a.block]
 | _, .map (some r) => [r]
 | k + 1, .iface _ v => blocksV k v
 | k + 1, .agg ⟨l⟩ => l.flatMap (blocksV k)
 | k + 1, .tuple ⟨l⟩ => l.flatMap (blocksV k)
 | k + 1, .func _ ⟨l⟩ ⟨m⟩ => l.flatMap (blocksV k) ++ m.flatMap (blocksV k)
 | _, _ => []
def blocksT : T Value → List Nat
 | .e => []
 | .n l v r => blocksT l ++ ((match v with
  | some v => blocksV 9 v
  | none => []) ++ blocksT r)
def blocksO : AObj → List Nat
 | .cells c _ _ _ => blocksT c
 | .tcells _ c _ _ => blocksT c
 | .map es _ _ => es.flatMap fun e => blocksV 9 e.1 ++ blocksV 9 e.2.1
 | .bag es => es.flatMap fun e => blocksV 9 e.2
 | _ => []
def memN (k : Nat) : List Nat → Bool
 | [] => false
 | x :: l => if Nat.beq k x then true else memN k l
def reachF (h : AH) (lo : Nat) : Nat → List Nat → List Nat → List Nat
 | 0, _, done => done
 | _, [], done => done
 | f + 1, b :: todo, done => if Nat.ble lo b then (if memN b done then reachF h lo f todo done else (match h.m.get b with
  | some o => reachF h lo f (blocksO o ++ todo) (b :: done)
  | none => reachF h lo f todo done)) else reachF h lo f todo done
def delN (keep : List Nat) (lo : Nat) (k : Nat) (t : T AObj) : T AObj := Nat.rec (motive := fun _ => T AObj) t (fun i ih => match memN (Nat.add lo i) keep with
 | true => ih
 | false => ih.del (Nat.add lo i)) k
theorem delN_get (keep : List Nat) (lo : Nat) : ∀ (k : Nat) (t : T AObj) (j : Nat), (∀ o, (delN keep lo k t).get j = some o → t.get j = some o) ∧ (j < lo → (delN keep lo k t).get j = t.get j)
 | 0, t, j => ⟨fun _ h => h, fun _ => rfl⟩
 | k + 1, t, j => by
  obtain ⟨h1, h2⟩ := delN_get keep lo k t j
  have e : delN keep lo (k + 1) t = match memN (lo + k) keep with
   | true => delN keep lo k t
   | false => (delN keep lo k t).del (lo + k) := rfl
  rw [e]
  cases memN (lo + k) keep with
  | true => exact ⟨h1, h2⟩
  | false =>
   dsimp only
   rw [T.get_del]
   refine ⟨fun o ho => ?_, fun hj => by rw [if_neg (by omega)]; exact h2 hj⟩
   split at ho
   · cases ho
   · exact h1 o ho
def dropNew (keep : List Nat) (h h' : AH) : AH := ⟨delN keep h.next (Nat.sub h'.next h.next) h'.m, h'.next⟩
theorem dropNew_get {keep : List Nat} {b : Nat} {o : AObj} (hb : (dropNew keep h h').m.get b = some o) : h'.m.get b = some o := (delN_get keep h.next (h'.next - h.next) h'.m b).1 o hb
theorem R.dropNew {keep : List Nat} (r : R w0 φ h' w) : R w0 φ (dropNew keep h h') w :=
 ⟨fun b i o hi ho => r.dom b i o hi (dropNew_get ho), fun b i o hi ho => r.low b i o hi (dropNew_get ho), fun b b' i i' o o' hi hi' ho ho' => r.inj b b' i i' o o' hi hi' (dropNew_get ho) (dropNew_get ho'), r.lt, r.nx, r.below⟩
def dropAt (lo : Nat) (p : Value × AH) : Value × AH := (p.1, ⟨delN (reachF p.2 lo 10000 (blocksV 9 p.1) []) lo (Nat.sub p.2.next lo) p.2.m, p.2.next⟩)
def dropR (lo : Nat) : Option (List (Value × AH)) → Option (List (Value × AH))
 | some l => some (l.map (dropAt lo))
 | none => none
theorem go_map {α β γ : Type} (f : α → β) (k : β → Option (List γ)) : ∀ (l : List α), bindL.go k (l.map f) = bindL.go (fun a => k (f a)) l
 | [] => rfl
 | [a] => rfl
 | a :: b :: l => by
  show joinL (k (f a)) (bindL.go k ((b :: l).map f)) = joinL (k (f a)) (bindL.go (fun a => k (f a)) (b :: l))
  rw [go_map f k (b :: l)]
theorem bindL_drop {β : Type} (lo : Nat) (x : Option (List (Value × AH))) (k : Value × AH → Option (List β)) : bindL (dropR lo x) k = bindL x (fun p => k (dropAt lo p)) := by
 cases x with
 | none => rfl
 | some l => exact go_map _ _ l
def low (m : Option Nat) (q : Value × AH) : Value × AH := match m with
 | some lo => dropAt lo q
 | none => q
def lowR (m : Option Nat) (x : Option (List (Value × AH))) : Option (List (Value × AH)) := match m with
 | some lo => dropR lo x
 | none => x
theorem low_fst (m : Option Nat) (q : Value × AH) : (low m q).1 = q.1 := by cases m <;> rfl
theorem bindL_low {β : Type} (m : Option Nat) (x : Option (List (Value × AH))) (k : Value × AH → Option (List β)) : bindL (lowR m x) k = bindL x (fun p => k (low m p)) := by
 cases m with
 | none => rfl
 | some lo => exact bindL_drop lo x k
def markOf (D : List FuncId) (g : FuncId) (h : AH) : Option Nat := match memN g D with
 | true => some h.next
 | false => none
end
end Go.X
namespace Go.X
noncomputable section
open Go Go.RowKit
variable {w0 w w' : World} {φ φ' : Phi} {h h' : AH} {P : Program} {n : Nat} {t : T Value}
theorem go_append {α β : Type} (f : α → Option (List β)) : ∀ (l m : List α), bindL.go f (l ++ m) = joinL (bindL.go f l) (bindL.go f m)
 | [], m => by
  show bindL.go f m = joinL (some []) (bindL.go f m)
  cases bindL.go f m <;> rfl
 | [a], [] => by
  show f a = joinL (f a) (some [])
  cases f a with
  | none => rfl
  | some x => simp [joinL]
 | [a], b :: m => rfl
 | a :: b :: l, m => by
  have ih := go_append f (b :: l) m
  show joinL (f a) (bindL.go f (b :: (l ++ m))) = joinL (joinL (f a) (bindL.go f (b :: l))) (bindL.go f m)
  rw [show b :: (l ++ m) = (b :: l) ++ m from rfl, ih]
  cases f a <;> cases bindL.go f (b :: l) <;> cases bindL.go f m <;> simp [joinL]
theorem bindL_go_assoc {α β γ : Type} (f : α → Option (List β)) (g : β → Option (List γ)) : ∀ (l : List α), bindL (bindL.go f l) g = bindL.go (fun a => bindL (f a) g) l
 | [] => rfl
 | [a] => rfl
 | a :: b :: l => by
  have ih := bindL_go_assoc f g (b :: l)
  show bindL (joinL (f a) (bindL.go f (b :: l))) g = joinL (bindL (f a) g) (bindL.go (fun a => bindL (f a) g) (b :: l))
  rw [← ih]
  cases f a with
  | none => cases bindL.go f (b :: l) <;> rfl
  | some x => cases bindL.go f (b :: l) with
   | none =>
    show none = joinL (bindL.go g x) none
    cases bindL.go g x <;> rfl
   | some y => exact go_append g x y
theorem bindL_assoc {α β γ : Type} (x : Option (List α)) (f : α → Option (List β)) (g : β → Option (List γ)) : bindL (bindL x f) g = bindL x (fun a => bindL (f a) g) := by
 cases x with
 | none => rfl
 | some l => exact bindL_go_assoc f g l
theorem bindL_one {α β : Type} (a : α) (f : α → Option (List β)) : bindL (some [a]) f = f a := rfl
def kid (i : Nat) : Code → Code
 | .seq x y => if i = 0 then x else y
 | .cond _ x y => if i = 0 then x else y
 | .block _ x => x
 | .loop x => x
 | _ => .skip
def bodyOf (P : Program) (f : FuncId) : Code := match P.funcs[f]? with
 | some fn => (match fn.body with | some c => c | none => .skip)
 | none => .skip
def codeAt (P : Program) (f : FuncId) : List Nat → Code
 | [] => bodyOf P f
 | i :: p => kid i (codeAt P f p)
def numT (P : Program) (f : FuncId) : Nat := match P.funcs[f]? with
 | some fn => fn.ntmps
 | none => 0
def resOf (P : Program) (f : FuncId) : List ResultVar := match P.funcs[f]? with
 | some fn => fn.results.toList
 | none => []
inductive K where
 | seq (p : List Nat)
 | loop (p : List Nat) (k : Nat)
 | block (id : Nat)
structure Susp where
 f : FuncId
 lv : Nat
 p : List Nat
 i : Nat
 ks : List K
 t : T Value
 ds : List Nat
 lo : Option Nat
inductive M where
 | code (f : FuncId) (lv : Nat) (p : List Nat) (ks : List K) (t : T Value) (ds : List Nat) (h : AH) (st : List Susp)
 | ops (f : FuncId) (lv : Nat) (p : List Nat) (i : Nat) (ks : List K) (t : T Value) (ds : List Nat) (h : AH) (st : List Susp)
 | exit (f : FuncId) (lv : Nat) (ex : Ex) (ks : List K) (t : T Value) (ds : List Nat) (h : AH) (st : List Susp)
 | ret (v : Value) (h : AH) (st : List Susp)
variable (P) in
def regionOps (c : Code) : Array Oper := match c with
 | .region _ ops _ => ops
 | _ => #[]
abbrev Res := Option (List (Value × AH))
section
variable (ov : Call1 → Call1) (P) (LF : Nat)
abbrev lvCall (lv : Nat) : Call1 := aRunW ov P LF lv
def finish (f : FuncId) (next : Value × AH → Res) (o : Out) : Res := match o.ex with
 | .exit _ => none
 | _ => (match aLeave o.ds o.h with
  | some h' => (match aRes P (numT P f) o.t h' (resOf P f) with
   | some v => next (v, h')
   | none => none)
  | none => none)
def semK (f : FuncId) (lv : Nat) (next : Value × AH → Res) : List K → Out → Res
 | [], o => finish P f next o
 | .seq p :: ks, o => bindL (thenX (aCode P (lvCall P ov LF lv) (numT P f) LF none (codeAt P f p)) o) (semK f lv next ks)
 | .loop p k :: ks, o => bindL (thenX (aLoop (aCode P (lvCall P ov LF lv) (numT P f) LF none (codeAt P f p)) k) o) (semK f lv next ks)
 | .block id :: ks, o => bindL (outX id o) (semK f lv next ks)
def semOps (f : FuncId) (lv : Nat) (p : List Nat) (i : Nat) (t : T Value) (ds : List Nat) (h : AH) (k : Out → Res) : Res :=
 bindL (aOps P (lvCall P ov LF lv) (numT P f) (regionOps (codeAt P f p)) ((regionOps (codeAt P f p)).toList.drop i) t h) fun q => k ⟨.normal, q.1, ds, q.2⟩
def dstOf (f : FuncId) (p : List Nat) (i : Nat) : Option Tmp := match (regionOps (codeAt P f p))[i]? with
 | some o => o.dst
 | none => none
def semR : List Susp → Value × AH → Res
 | [], q => some [q]
 | s :: st, q => (match aPut (numT P s.f) s.t (dstOf P s.f s.p s.i) q.1 with
  | some t' => semOps P ov LF s.f s.lv s.p (s.i + 1) t' s.ds (low s.lo q).2 (semK P ov LF s.f s.lv (semR st) s.ks)
  | none => none)
def semM : M → Res
 | .code f lv p ks t ds h st => bindL (aCode P (lvCall P ov LF lv) (numT P f) LF none (codeAt P f p) t ds h) (semK P ov LF f lv (semR P ov LF st) ks)
 | .ops f lv p i ks t ds h st => semOps P ov LF f lv p i t ds h (semK P ov LF f lv (semR P ov LF st) ks)
 | .exit f lv ex ks t ds h st => semK P ov LF f lv (semR P ov LF st) ks ⟨ex, t, ds, h⟩
 | .ret v h st => semR P ov LF st (v, h)
def enters (E : List FuncId) (l : Option (List (AN × AH))) : Option (FuncId × List Value × AH) := match l with
 | some [(.enter g args, h')] => if E.contains g then some (g, args, h') else none
 | _ => none
def canEnter (g : FuncId) (args : List Value) : Bool := match P.funcs[g]? with
 | some fn => (match fn.body with
  | some _ => decide (args.length ≤ fn.ntmps)
  | none => false)
 | none => false
def calm (E : List FuncId) (ops : Array Oper) : Bool := ops.toList.all fun o => match o.op with
 | .call ⟨.value (.func g), _, _⟩ => !E.contains g
 | .call ⟨.value _, _, _⟩ => E.isEmpty
 | .call ⟨.invoke _ _, _, _⟩ => E.isEmpty
 | _ => true
def step1op (D E : List FuncId) (f : FuncId) (lv : Nat) (p : List Nat) (i : Nat) (ks : List K) (t : T Value) (ds : List Nat) (h : AH) (st : List Susp) (o : Oper) : Option M :=
 match aWant (numT P f) t (regionOps (codeAt P f p)) o with
 | true => (match enters E (aOp P (numT P f) t h o.op) with
  | some (g, args, h') => (match lv with
   | lv' + 1 => if canEnter P g args then some (.code g lv' [] [] (T.fill args 0 .e) [] h' (⟨f, lv' + 1, p, i, ks, t, ds, markOf D g h'⟩ :: st)) else none
   | 0 => none)
  | none => (match aStep P (lvCall P ov LF lv) (numT P f) t h o.op with
   | some [(v, h')] => (match aPut (numT P f) t o.dst v with
    | some t' => some (.ops f lv p (i + 1) ks t' ds h' st)
    | none => none)
   | _ => none))
 | false => (match aPut (numT P f) t o.dst undef with
  | some t' => some (.ops f lv p (i + 1) ks t' ds h st)
  | none => none)
def oneOut (f : FuncId) (lv : Nat) (ks : List K) (st : List Susp) : COuts → Option M
 | some [o] => some (.exit f lv o.ex ks o.t o.ds o.h st)
 | _ => none
def step (D E : List FuncId) : M → Option M
 | .code f lv p ks t ds h st => (match codeAt P f p with
  | .seq _ _ => some (.code f lv (0 :: p) (.seq (1 :: p) :: ks) t ds h st)
  | .cond c _ _ => (match aO (numT P f) t c with
   | some (.bool true) => some (.code f lv (0 :: p) ks t ds h st)
   | some (.bool false) => some (.code f lv (1 :: p) ks t ds h st)
   | _ => none)
  | .block id c => (match isRange c with
   | true => oneOut f lv ks st (aCode P (lvCall P ov LF lv) (numT P f) LF none (.block id c) t ds h)
   | false => some (.code f lv (0 :: p) (.block id :: ks) t ds h st))
  | .loop _ => (match LF with
   | k + 1 => some (.code f lv (0 :: p) (.loop (0 :: p) k :: ks) t ds h st)
   | 0 => none)
  | .region _ ops false => if calm E ops then oneOut f lv ks st (cRegion P (lvCall P ov LF lv) (numT P f) ops false t ds h) else some (.ops f lv p 0 ks t ds h st)
  | c => oneOut f lv ks st (aCode P (lvCall P ov LF lv) (numT P f) LF none c t ds h))
 | .ops f lv p i ks t ds h st => (match (regionOps (codeAt P f p))[i]? with
  | some o => step1op P ov LF D E f lv p i ks t ds h st o
  | none => some (.exit f lv .normal ks t ds h st))
 | .exit f lv ex ks t ds h st => (match ks with
  | [] => (match ex with
   | .exit _ => none
   | _ => (match aLeave ds h with
    | some h' => (match aRes P (numT P f) t h' (resOf P f) with
     | some v => some (.ret v h' st)
     | none => none)
    | none => none))
  | .seq p :: ks => (match ex with
   | .normal => some (.code f lv p ks t ds h st)
   | ex => some (.exit f lv ex ks t ds h st))
  | .loop p k :: ks => (match ex, k with
   | .normal, k + 1 => some (.code f lv p (.loop p k :: ks) t ds h st)
   | .normal, 0 => none
   | ex, _ => some (.exit f lv ex ks t ds h st))
  | .block id :: ks => (match ex with
   | .exit k => if k = id then some (.exit f lv .normal ks t ds h st) else some (.exit f lv (.exit k) ks t ds h st)
   | ex => some (.exit f lv ex ks t ds h st)))
 | .ret v h st => (match st with
  | [] => none
  | s :: st => (match aPut (numT P s.f) s.t (dstOf P s.f s.p s.i) v with
   | some t' => some (.ops s.f s.lv s.p (s.i + 1) s.ks t' s.ds (low s.lo (v, h)).2 st)
   | none => none))
end
theorem loop_codeAt {P : Program} {f : FuncId} {p : List Nat} {x : Code} (hc : codeAt P f p = .loop x) (i : Nat) : codeAt P f (i :: p) = x := by
 show kid i (codeAt P f p) = x
 rw [hc]; rfl
theorem oneOut_ok {ov : Call1 → Call1} {LF : Nat} {f : FuncId} {lv : Nat} {ks : List K} {st : List Susp} {x : COuts} {m' : M} (hs : oneOut f lv ks st x = some m') :
   semM P ov LF m' = bindL x (semK P ov LF f lv (semR P ov LF st) ks) := by
 unfold oneOut at hs
 split at hs
 · cases hs; rfl
 · cases hs
theorem step_sem {ov : Call1 → Call1} {LF : Nat} {D E : List FuncId} (hE : ∀ g, E.contains g = true → ∀ c args h, ov c (.enter g args) h = lowR (markOf D g h) (c (.enter g args) h)) {m m' : M} (hs : step P ov LF D E m = some m') :
    semM P ov LF m = semM P ov LF m' := by
  cases m with
  | code f lv p ks t ds h st =>
    simp only [step] at hs
    split at hs
    · rename_i x y hc
      cases hs
      have e0 : codeAt P f (0 :: p) = x := by show kid 0 (codeAt P f p) = x; rw [hc]; rfl
      have e1 : codeAt P f (1 :: p) = y := by show kid 1 (codeAt P f p) = y; rw [hc]; rfl
      simp only [semM, semK, e0, e1, hc]
      exact bindL_assoc _ _ _
    · rename_i c x y hc
      have e0 : codeAt P f (0 :: p) = x := by show kid 0 (codeAt P f p) = x; rw [hc]; rfl
      have e1 : codeAt P f (1 :: p) = y := by show kid 1 (codeAt P f p) = y; rw [hc]; rfl
      split at hs
      · rename_i ho
        cases hs
        simp only [semM, hc, e0]
        congr 1
        show cCond _ c _ _ t ds h = _
        simp only [cCond, ho]
        rfl
      · rename_i ho
        cases hs
        simp only [semM, hc, e1]
        congr 1
        show cCond _ c _ _ t ds h = _
        simp only [cCond, ho]
        rfl
      · cases hs
    · rename_i id x hc
      split at hs
      · rw [oneOut_ok hs]
        simp only [semM, hc]
      · rename_i hr
        cases hs
        have e0 : codeAt P f (0 :: p) = x := by show kid 0 (codeAt P f p) = x; rw [hc]; rfl
        simp only [semM, semK, hc, e0]
        have e1 : ∀ (P : Program) (call : Call1) (n LF : Nat) (ro : Option Nat), aCode P call n LF ro (.block id x) = cBlock id (aCode P call n LF ro x) := by
          intro P call n LF ro
          show cBlockX x id (aCode P call n LF ro x) = _
          unfold cBlockX
          generalize aCode P call n LF ro x = y
          rw [hr]
        rw [e1]
        exact bindL_assoc _ _ _
    · rename_i x hc
      split at hs
      · rename_i k
        cases hs
        have e0 : codeAt P f (0 :: p) = x := loop_codeAt hc 0
        simp only [semM, semK, hc, e0]
        exact bindL_assoc _ _ _
      · cases hs
    · rename_i id ops hc
      split at hs
      · rw [oneOut_ok hs]
        simp only [semM, hc]
        rfl
      · cases hs
        simp only [semM, semOps, hc, regionOps, List.drop_zero]
        show bindL (cRegion _ _ _ ops false t ds h) _ = _
        unfold cRegion
        rw [bindL_assoc]
        rfl
    · rw [oneOut_ok hs]
      rfl
  | ops f lv p i ks t ds h st =>
    simp only [step] at hs
    split at hs
    · rename_i o ho
      have hdrop : (regionOps (codeAt P f p)).toList.drop i = o :: (regionOps (codeAt P f p)).toList.drop (i + 1) := by
        have h1 : (regionOps (codeAt P f p)).toList[i]? = some o := by rw [Array.getElem?_toList]; exact ho
        obtain ⟨hlt, he⟩ := List.getElem?_eq_some_iff.1 h1
        rw [List.drop_eq_getElem_cons hlt, he]
      have hsem : semM P ov LF (.ops f lv p i ks t ds h st) = bindL (opsStep P (lvCall P ov LF lv) (numT P f) (regionOps (codeAt P f p)) o (aOps P (lvCall P ov LF lv) (numT P f) (regionOps (codeAt P f p)) ((regionOps (codeAt P f p)).toList.drop (i + 1))) t h) (fun q => semK P ov LF f lv (semR P ov LF st) ks ⟨.normal, q.1, ds, q.2⟩) := by
        simp only [semM, semOps, hdrop]; rfl
      rw [hsem]
      unfold step1op at hs
      unfold opsStep
      split at hs
      · rename_i hw
        rw [hw]
        split at hs
        · rename_i g args h1 hen
          cases lv with
          | zero => cases hs
          | succ lv' =>
          dsimp only at hs
          split at hs
          · rename_i hce
            cases hs
            unfold enters at hen
            split at hen
            · rename_i g' args' h2 hao
              split at hen
              · rename_i hg
                simp only [Option.some.injEq, Prod.mk.injEq] at hen
                obtain ⟨rfl, rfl, rfl⟩ := hen
                have hst : aStep P (lvCall P ov LF (lv' + 1)) (numT P f) t h o.op = lowR (markOf D g' h2) (aFun P LF (lvCall P ov LF lv') (.enter g' args') h2) := by
                  unfold aStep
                  rw [hao]
                  exact hE g' hg _ args' h2
                rw [hst, bindL_low]
                generalize markOf D g' h2 = mk
                have hdst : dstOf P f p i = o.dst := by unfold dstOf; rw [ho]
                simp only [canEnter] at hce
                simp only [semM, codeAt, bodyOf, numT]
                unfold aFun
                split at hce
                · rename_i fn hfn
                  split at hce
                  · rename_i c hb
                    simp only [decide_eq_true_eq] at hce
                    dsimp only
                    rw [hfn]
                    simp only [hb]
                    rw [if_pos hce, bindL_assoc, bindL_assoc]
                    congr 1
                    funext o1
                    obtain ⟨ex, t1, ds1, h3⟩ := o1
                    simp only [semK, finish, numT, resOf, hfn]
                    have fin : ∀ (X : Option AH), bindL (bindL (match X with
                          | some h' => (match aRes P fn.ntmps t1 h' fn.results.toList with
                            | some v => some [(v, h')]
                            | none => none)
                          | none => none) (fun p1 => (Option.rec (motive := fun _ => Option (List (T Value × AH))) none (fun t' => aOps P (lvCall P ov LF (lv' + 1)) (match P.funcs[f]? with | some fn => fn.ntmps | none => 0) (regionOps (codeAt P f p)) ((regionOps (codeAt P f p)).toList.drop (i + 1)) t' (low mk p1).2) (aPut (match P.funcs[f]? with | some fn => fn.ntmps | none => 0) t o.dst (low mk p1).1)))) (fun q => semK P ov LF f (lv' + 1) (semR P ov LF st) ks ⟨.normal, q.1, ds, q.2⟩) = (match X with
                          | some h' => (match aRes P fn.ntmps t1 h' fn.results.toList with
                            | some v => semR P ov LF (⟨f, lv' + 1, p, i, ks, t, ds, mk⟩ :: st) (v, h')
                            | none => none)
                          | none => none) := by
                      intro X
                      cases X with
                      | none => rfl
                      | some h' =>
                        dsimp only
                        cases aRes P fn.ntmps t1 h' fn.results.toList with
                        | none => rfl
                        | some v =>
                          dsimp only
                          rw [bindL_one]
                          simp only [semR, hdst, numT, low_fst]
                          cases aPut (match P.funcs[f]? with | some fn => fn.ntmps | none => 0) t o.dst v with
                          | none => rfl
                          | some t' => rfl
                    cases ex with
                    | exit id => rfl
                    | normal => rw [← bindL_assoc]; exact fin _
                    | ret => rw [← bindL_assoc]; exact fin _
                  · cases hce
                · cases hce
              · cases hen
            · cases hen
          · cases hs
        · split at hs
          · rename_i v h1 hst
            split at hs
            · rename_i t' hp
              cases hs
              show bindL (bindL (aStep P (lvCall P ov LF lv) (numT P f) t h o.op) _) _ = _
              rw [hst, bindL_one]
              dsimp only
              rw [hp]
              rfl
            · cases hs
          · cases hs
      · rename_i hw
        rw [hw]
        split at hs
        · rename_i t' hp
          cases hs
          rw [hp]
          rfl
        · cases hs
    · rename_i ho
      cases hs
      have hdrop : (regionOps (codeAt P f p)).toList.drop i = [] := by
        have h1 : (regionOps (codeAt P f p)).toList[i]? = none := by rw [Array.getElem?_toList]; exact ho
        exact List.drop_eq_nil_of_le (List.getElem?_eq_none_iff.1 h1)
      simp only [semM, semOps, hdrop]
      rfl
  | exit f lv ex ks t ds h st =>
    simp only [step] at hs
    split at hs
    · split at hs
      · cases hs
      · rename_i hne
        split at hs
        · rename_i h1 hl
          split at hs
          · rename_i v hv
            cases hs
            cases ex with
            | exit id => exact (hne _ rfl).elim
            | normal => simp only [semM, semK, finish, hl, hv]
            | ret => simp only [semM, semK, finish, hl, hv]
          · cases hs
        · cases hs
    · rename_i p ks
      split at hs
      · cases hs; rfl
      · rename_i hne
        cases hs
        cases ex with
        | normal => exact (hne rfl).elim
        | exit id => rfl
        | ret => rfl
    · rename_i p k ks
      split at hs
      · cases hs
        simp only [semM, semK]
        exact bindL_assoc _ _ _
      · cases hs
      · rename_i hne1 hne0
        cases hs
        cases ex with
        | normal =>
          cases k with
          | zero => exact (hne0 rfl rfl).elim
          | succ k => exact (hne1 _ rfl rfl).elim
        | exit id => rfl
        | ret => rfl
    · rename_i id ks
      split at hs
      · rename_i k
        split at hs
        · rename_i he
          cases hs
          simp only [semM, semK, outX]
          subst he
          rw [beq_nat, if_pos rfl]; rfl
        · rename_i he
          cases hs
          simp only [semM, semK, outX]
          rw [beq_nat, if_neg he]; rfl
      · rename_i hne
        cases hs
        cases ex with
        | exit id' => exact (hne _ rfl).elim
        | normal => rfl
        | ret => rfl
  | ret v h st =>
    simp only [step] at hs
    split at hs
    · cases hs
    · rename_i s st
      split at hs
      · rename_i t' hp
        cases hs
        simp only [semM, semR, hp]
      · cases hs
section
variable (P : Program) (ov : Call1 → Call1) (LF : Nat) (D E : List FuncId)
def mrun (k : Nat) : M → Option M := Nat.rec (motive := fun _ => M → Option M) some (fun _ ih m => Option.rec (motive := fun _ => Option M) none ih (step P ov LF D E m)) k
end
theorem mrun_sem {ov : Call1 → Call1} {LF : Nat} {D E : List FuncId} (hE : ∀ g, E.contains g = true → ∀ c args h, ov c (.enter g args) h = lowR (markOf D g h) (c (.enter g args) h)) : ∀ (k : Nat) {m m' : M}, mrun P ov LF D E k m = some m' → semM P ov LF m = semM P ov LF m'
 | 0, m, m', hs => by cases hs; rfl
 | k + 1, m, m', hs => by
  cases h1 : step P ov LF D E m with
  | none =>
   have : (Option.rec (motive := fun _ => Option M) none (mrun P ov LF D E k) (step P ov LF D E m) : Option M) = some m' := hs
   rw [h1] at this; cases this
  | some m1 =>
   have : (Option.rec (motive := fun _ => Option M) none (mrun P ov LF D E k) (step P ov LF D E m) : Option M) = some m' := hs
   rw [h1] at this
   exact (step_sem hE h1).trans (mrun_sem hE k this)
def start (f : FuncId) (lv : Nat) (args : List Value) (h : AH) : M := .code f lv [] [] (T.fill args 0 .e) [] h []
theorem sem_start {ov : Call1 → Call1} {LF lv : Nat} {f : FuncId} {args : List Value} {h : AH} (hc : canEnter P f args = true) : semM P ov LF (start f lv args h) = aFun P LF (lvCall P ov LF lv) (.enter f args) h := by
 unfold canEnter at hc
 simp only [start, semM, codeAt, bodyOf, numT]
 unfold aFun
 split at hc
 · rename_i fn hfn
   split at hc
   · rename_i c hb
     simp only [decide_eq_true_eq] at hc
     dsimp only
     rw [hfn]
     simp only [hb]
     rw [if_pos hc]
     congr 1
     funext o
     simp only [semK, finish, numT, resOf, hfn]
     rfl
   · cases hc
 · cases hc
theorem yes_of_machine (hN : NoCount P) (hM : P.follows .mixedOrders = true) {ov : Call1 → Call1} (hov : ∀ w0 call, CallsOk w0 P call → CallsOk w0 P (ov call)) {LF lv : Nat} {f : FuncId} {h : AH} (hc : canEnter P f [] = true)
  (hs : semM P ov LF (start f lv [] ah0) = semM P ov LF (.ret (.bool true) h [])) (W : World) : Calls P f #[] W (YesPost W) := by
 rw [sem_start hc] at hs
 have hcc := (fun_ok (w0 := W) hN hM LF (runW_callsOk hN hM LF (hov W) lv) _ _ _ none0 W (.enter f ⟨[]⟩) hs (R.first W) (.enter .nil)).1 _ _ rfl
 refine Calls.mono hcc fun e w' he => ?_
 obtain ⟨v', rfl, v, h', hm, φ', _, hr, hv⟩ := he
 cases List.mem_singleton.1 hm
 cases hv
 exact ⟨rfl, hr.below⟩
end
end Go.X
namespace Go.X
noncomputable section
open Go Go.RowKit
variable {w0 w w' : World} {φ φ' : Phi} {h h' : AH} {P : Program} {n : Nat} {t : T Value}
def dropCall (fs : List FuncId) (call : Call1) : Call1 := fun an h => match an with
 | .enter g args => (match memN g fs with
  | true => (match call (.enter g args) h with
   | some l => some (l.map fun p => (p.1, dropNew (reachF p.2 h.next 10000 (blocksV 9 p.1) []) h p.2))
   | none => none)
  | false => call (.enter g args) h)
 | an => call an h
theorem dropCall_ok {fs : List FuncId} {call : Call1} (hc : CallsOk w0 P call) : CallsOk w0 P (dropCall fs call) := by
 intro an h l φ w nx hs hr hnr
 unfold dropCall at hs
 split at hs
 · rename_i g args
   split at hs
   · split at hs
     · rename_i l0 h0
       cases hs
       obtain ⟨c1, c2⟩ := hc _ _ _ _ _ _ h0 hr hnr
       refine ⟨fun f args' e => (c1 f args' e).mono ?_, fun b f tmps asg body e m => (by subst e; cases hnr)⟩
       rintro e w' ⟨v', rfl, v, h', hm, φ', nx', r', hv⟩
       refine ⟨v', rfl, v, dropNew _ h h', List.mem_map.2 ⟨_, hm, rfl⟩, φ', ⟨nx'.le, nx'.next, fun b hb hlt => ?_⟩, r'.dropNew, hv⟩
       obtain ⟨g1, g2⟩ := nx'.ghost b hb hlt
       exact ⟨g1, ((delN_get _ h.next (h'.next - h.next) h'.m b).2 hlt).trans g2⟩
     · cases hs
   · exact hc _ _ _ _ _ _ hs hr hnr
 · exact hc _ _ _ _ _ _ hs hr hnr
end
end Go.X
namespace Go.X
noncomputable section
open Go Go.RowKit
variable {w0 w : World} {φ : Phi} {h : AH} {P : Program}
def sameS : Value → Value → Bool
 | .int k n, .int k' n' => (match k, k' with
  | .i64, .i64 => (n == n')
  | .u8, .u8 => (n == n')
  | _, _ => false)
 | .bool a, .bool b => a == b
 | .string a, .string b => a.data.toList == b.data.toList
 | _, _ => false
theorem bytes_ext {a b : ByteArray} (h : a.data.toList = b.data.toList) : a = b := by
 obtain ⟨⟨a⟩⟩ := a
 obtain ⟨⟨b⟩⟩ := b
 have : a = b := h
 rw [this]
theorem sameS_ok {a b : Value} (h : sameS a b = true) : a = b := by
 unfold sameS at h
 split at h
 · split at h
   · rw [eq_of_beq h]
   · rw [eq_of_beq h]
   · cases h
 · rw [eq_of_beq h]
 · rw [bytes_ext (eq_of_beq h)]
 · cases h
def sameL : List Value → List Value → Bool
 | [], [] => true
 | a :: l, b :: m => sameS a b && sameL l m
 | _, _ => false
theorem sameL_ok : ∀ {l m : List Value}, sameL l m = true → l = m
 | [], [], _ => rfl
 | a :: l, b :: m, h => by
  unfold sameL at h
  rw [Bool.and_eq_true] at h
  rw [sameS_ok h.1, sameL_ok h.2]
 | [], _ :: _, h => by cases h
 | _ :: _, [], h => by cases h
def ValPost (W : World) (v : Value) : Ending → World → Prop := fun e w' => e = .returned v ∧ Below W.heap.size W w'
def valOf (l : Option (List (Value × AH))) : Option Value := match l with
 | some [(v, _)] => (match pfv v with | true => some v | false => none)
 | _ => none
theorem LR.refl_of {l : List Value} (φ : Phi) (hp : l.all pfv = true) : LR φ l l := by
 induction l with
 | nil => exact .nil
 | cons x l ih =>
  simp only [List.all_cons, Bool.and_eq_true] at hp
  exact .cons (pfv_refl φ hp.1) (ih hp.2)
theorem val_calls (_hN : NoCount P) (_hM : P.follows .mixedOrders = true) {call : Call1} (hc : ∀ W, CallsOk W P call) {f : FuncId} {args : List Value} {v : Value} (hs : valOf (call (.enter f args) ah0) = some v) (ha : args.all pfv = true) (W : World) :
  Calls P f ⟨args⟩ W (ValPost W v) := by
 cases hl : call (.enter f args) ah0 with
 | none => rw [hl] at hs; cases hs
 | some l =>
  rw [hl] at hs
  have hc := (hc W _ _ _ none0 W (.enter f ⟨args⟩) hl (R.first W) (.enter (.refl_of _ ha))).1 _ _ rfl
  refine Calls.mono hc fun e w' he => ?_
  obtain ⟨v', rfl, u, h', hm, φ', _, hr, hv⟩ := he
  unfold valOf at hs
  split at hs
  · rename_i u2 h2 heq
    cases heq
    cases List.mem_singleton.1 hm
    split at hs
    · rename_i hp
      cases hs
      obtain rfl := pfv_same hp hv
      exact ⟨rfl, hr.below⟩
    · cases hs
  · cases hs
abbrev VTab := List (List Value × Value)
def findV (args : List Value) : VTab → Option Value
 | [] => none
 | (a, v) :: r => match sameL a args with
  | true => some v
  | false => findV args r
theorem findV_ok {args : List Value} {v : Value} : ∀ {t : VTab}, findV args t = some v → (args, v) ∈ t
 | [], h => by cases h
 | (a, u) :: r, h => by
  unfold findV at h
  split at h
  · rename_i hs
    cases h
    rw [sameL_ok hs]; exact List.mem_cons_self
  · exact List.mem_cons_of_mem _ (findV_ok h)
structure VGood (P : Program) (f : FuncId) (t : VTab) : Prop where
 calls : ∀ a v, (a, v) ∈ t → ∀ W, Calls P f ⟨a⟩ W (ValPost W v)
 plain : ∀ a v, (a, v) ∈ t → a.all pfv = true ∧ pfv v = true
def knownVals (f : FuncId) (t : VTab) (call : Call1) : Call1 := fun an h => match an with
 | .enter g args => (match Nat.beq g f with
  | true => (match findV args t with
   | some v => some [(v, h)]
   | none => call an h)
  | false => call an h)
 | _ => call an h
theorem knownVals_ok {f : FuncId} {t : VTab} (ht : VGood P f t) {call : Call1} (hc : CallsOk w0 P call) : CallsOk w0 P (knownVals f t call) := by
 intro an h l φ w nx hs hr hnr
 unfold knownVals at hs
 split at hs
 · rename_i g args
   split at hs
   · rename_i hg
     have hg := Nat.eq_of_beq_eq_true hg
     split at hs
     · rename_i v hv
       cases hs
       cases hnr with
       | enter hl =>
        refine ⟨?_, fun _ _ _ _ _ e => by cases e⟩
        intro f' args' e
        cases e
        have hm := findV_ok hv
        obtain ⟨p1, p2⟩ := ht.plain _ _ hm
        have ea := all_same hl p1
        subst ea hg
        refine Calls.mono (ht.calls _ _ hm w) fun e w' he => ?_
        obtain ⟨rfl, hb⟩ := he
        exact ⟨v, rfl, v, h, List.mem_singleton.2 rfl, φ, .refl φ h, hr.grown hb, pfv_refl φ p2⟩
     · exact hc _ _ _ _ _ _ hs hr hnr
   · exact hc _ _ _ _ _ _ hs hr hnr
 · exact hc _ _ _ _ _ _ hs hr hnr
theorem map_at {α β : Type} {f g : α → β} : ∀ {l : List α}, l.map f = l.map g → ∀ x, x ∈ l → f x = g x
 | [], _, x, hx => by cases hx
 | y :: l, h, x, hx => by
  rw [List.map_cons, List.map_cons, List.cons.injEq] at h
  rcases List.mem_cons.1 hx with rfl | hx
  · exact h.1
  · exact map_at h.2 x hx
theorem vgood_of (hN : NoCount P) (hM : P.follows .mixedOrders = true) {call : Call1} (hc : ∀ W, CallsOk W P call) {f : FuncId} {t : VTab} (h : (t.map fun p => valOf (call (.enter f p.1) ah0)) = t.map fun p => some p.2) (hp : (t.all fun p => p.1.all pfv && pfv p.2) = true) : VGood P f t := by
 have hp' : ∀ a v, (a, v) ∈ t → a.all pfv = true ∧ pfv v = true := fun a v hm => by
  have := List.all_eq_true.1 hp _ hm
  rwa [Bool.and_eq_true] at this
 exact ⟨fun a v hm W => val_calls hN hM hc (map_at h _ hm) (hp' a v hm).1 W, hp'⟩
end
end Go.X
namespace Go.X
noncomputable section
open Go Go.RowKit
variable {w0 w w' : World} {φ φ' : Phi} {h h' : AH} {P : Program} {n : Nat} {t : T Value} {bs : List Deferred}
abbrev PX := Value → AH → Bool
abbrev PCall := FuncId → List Value → PX → AH → Bool
def PanPost (w0 : World) (φ : Phi) (h : AH) (X : PX) : Ending → World → Prop := fun e w' => ∃ u h' u' φ', X u h' = true ∧ e = .panicked [{ v := u', recovered := false }] ∧ VR φ' u u' ∧ Nx φ φ' h h' ∧ R w0 φ' h' w'
def PCallOk (w0 : World) (P : Program) (pc : PCall) : Prop := ∀ (f : FuncId) (args : List Value) (X : PX) (h : AH) (φ : Phi) (w : World) (args' : List Value), pc f args X h = true → R w0 φ h w → LR φ args args' → Calls P f ⟨args'⟩ w (PanPost w0 φ h X)
abbrev PEx := Value → T Value → List Nat → AH → Bool
def FP (φ : Phi) (n : Nat) (S : List Nat) (t : T Value) (a : Array Value) : Prop := a.size = n ∧ ∀ s v, s ∈ S → a[s]? = some v → VR φ (vt t s) v
def PPost (bs : List Deferred) (w0 : World) (φ : Phi) (h : AH) (n : Nat) (S : List Nat) (X : PEx) : Exit → Act → World → Prop := fun e a w =>
 ∃ u t' ds' h' u' φ', X u t' ds' h' = true ∧ e = .panic [{ v := u', recovered := false }] ∧ VR φ' u u' ∧ Nx φ φ' h h' ∧ R w0 φ' h' w ∧ FP φ' n S t' a.tmps ∧ DR bs φ' ds' a.defers
def pOp (P : Program) (pc : PCall) (n : Nat) (t : T Value) (X : PX) (h : AH) (o : Op) : Bool := match o with
 | .panic x => (match aO n t x with
  | some (.iface T v) => X (.iface T v) h
  | _ => false)
 | o => (match aCallO P n t h o with
  | some [(.enter g args, h1)] => pc g args X h1
  | _ => false)
def pOps (P : Program) (call : Call1) (pc : PCall) (n : Nat) (ops : Array Oper) : Nat → List Nat → T Value → (Value → T Value → AH → Bool) → AH → Bool
 | _, [], _, _, _ => false
 | 0, i :: _, t, X, h => (match ops[i]? with
  | some o => (match aWant n t ops o with
   | true => pOp P pc n t (fun u h' => X u t h') h o.op
   | false => false)
  | none => false)
 | k + 1, i :: r, t, X, h => (match ops[i]? with
  | some o => (match aWant n t ops o with
   | true => (match aStep P call n t h o.op with
    | some [(v, h')] => (match aPut n t o.dst v with
     | some t' => pOps P call pc n ops k r t' X h'
     | none => false)
    | _ => false)
   | false => (match aPut n t o.dst undef with
    | some t' => pOps P call pc n ops k r t' X h
    | none => false))
  | none => false)
theorem pOp_ok (hN : NoCount P) {pc : PCall} (hp : PCallOk w0 P pc) (r : R w0 φ h w) {a : Act} (f : FR φ n t a.tmps) {o : Oper} {X : PX} (hs : pOp P pc n t X h o.op = true) {q : Option Nat} {m : Nat} {K : Act → World → Prop} {Q : Exit → Act → World → Prop}
   (hQ : ∀ u h' u' φ' w', X u h' = true → VR φ' u u' → Nx φ φ' h h' → R w0 φ' h' w' → Q (.panic [{ v := u', recovered := false }]) a w') : o.wpIn (FW q) m P a w K Q := by
 refine ⟨fun f _ => FW_fn q f, ?_⟩
 have dep : (FW q).depth.isSome = true → 1 ≤ m := by rw [FW_depth]; intro x; cases x
 unfold pOp at hs
 split at hs
 · rename_i x hop
   split at hs
   · rename_i T v hx
     have hx' := aO_ok f hx
     rw [FW_round, Oper.semAt_eq _ _ _ (fun c e => by rw [hop] at e; cases e)]
     obtain ⟨v', e', hv⟩ : ∃ v', a.eval x = .iface T v' ∧ VR φ (.iface T v) (.iface T v') := by
      generalize a.eval x = z at hx'
      cases hx' with
      | iface hv => exact ⟨_, rfl, .iface hv⟩
     have hrun : (execOp a.eval o).run P w = .halt (.panic (.iface T v')) w := by
      simp only [execOp, hop, e']
      rfl
     rw [hrun]
     exact hQ _ _ _ φ w hs hv (.refl φ h) r
   · cases hs
 · rename_i hnp
   split at hs
   · rename_i g args h1 hc
     have hnd : ∀ c, o.op ≠ .defer c := fun c e => by rw [e] at hc; cases hc
     rw [FW_round, Oper.semAt_eq _ _ _ hnd]
     obtain ⟨an, h2, hm, nx, w1, φ1, hrun, nx1, r1, hnr⟩ := simC hN r f hc
     cases List.mem_singleton.1 hm
     rw [hrun]
     cases hnr with
     | enter hl =>
      refine ⟨dep, FW_calls ((hp _ _ _ _ _ _ _ hs r1 hl).mono ?_)⟩
      rintro e w2 ⟨u, h', u', φ2, hX, rfl, hv, nx2, r2⟩
      exact hQ u h' u' φ2 w2 hX hv (nx1.trans nx2) r2
   · cases hs
theorem pOps_ok (hN : NoCount P) {call : Call1} (hc : CallsOk w0 P call) {pc : PCall} (hp : PCallOk w0 P pc) {ops : Array Oper} {q : Option Nat} {m : Nat} {Q : Exit → Act → World → Prop} {X : Value → T Value → AH → Bool} : ∀ (k : Nat) (r : List Nat) {t : T Value} {h : AH} {φ : Phi} {a : Act} {w : World},
  pOps P call pc n ops k r t X h = true → R w0 φ h w → FR φ n t a.tmps →
  (∀ u t' h' u' φ' a' w', X u t' h' = true → VR φ' u u' → Nx φ φ' h h' → R w0 φ' h' w' → FR φ' n t' a'.tmps → a'.defers = a.defers → Q (.panic [{ v := u', recovered := false }]) a' w') → wpOpsIn (FW q) m P ops Q r a w
 | 0, [], t, h, φ, a, w, hs, hr, hf, hQ => by cases hs
 | k + 1, [], t, h, φ, a, w, hs, hr, hf, hQ => by cases hs
 | 0, i :: r, t, h, φ, a, w, hs, hr, hf, hQ => by
  unfold pOps at hs
  simp only [wpOpsIn]
  cases ho : ops[i]? with
  | none => rw [ho] at hs; cases hs
  | some o =>
   rw [ho] at hs
   dsimp only at hs ⊢
   rw [want_ok hf]
   cases hw : aWant n t ops o with
   | false => rw [hw] at hs; cases hs
   | true =>
    rw [hw] at hs
    dsimp only at hs
    rw [if_pos rfl]
    exact pOp_ok hN hp hr hf hs (fun u h' u' φ' w' hX hv nx r' => hQ u t h' u' φ' a w' hX hv nx r' (hf.mono nx.le) rfl)
 | k + 1, i :: r, t, h, φ, a, w, hs, hr, hf, hQ => by
  unfold pOps at hs
  simp only [wpOpsIn]
  cases ho : ops[i]? with
  | none => rw [ho] at hs; cases hs
  | some o =>
   rw [ho] at hs
   dsimp only at hs ⊢
   rw [want_ok hf]
   cases hw : aWant n t ops o with
   | true =>
    rw [hw] at hs
    dsimp only at hs
    rw [if_pos rfl]
    split at hs
    · rename_i v h1 hst
      split at hs
      · rename_i t1 ht
        refine step_ok hN hc hr hf hst ?_
        intro v2 h2 v' w1 φ1 hm nx1 r1 hv
        cases List.mem_singleton.1 hm
        obtain ⟨f1, d1⟩ := put_ok (hf.mono nx1.le) ht hv
        exact pOps_ok hN hc hp k r hs r1 f1 (fun u t' h' u' φ' a' w' hX hv' nx' r' f' d' => hQ u t' h' u' φ' a' w' hX hv' (nx1.trans nx') r' f' (d'.trans d1))
      · cases hs
    · cases hs
   | false =>
    rw [hw] at hs
    dsimp only at hs
    rw [if_neg (by simp)]
    split at hs
    · rename_i t1 ht
      obtain ⟨f1, d1⟩ := put_ok hf ht .undef
      exact ⟨fun f _ => FW_fn q f, pOps_ok hN hc hp k r hs hr f1 (fun u t' h' u' φ' a' w' hX hv' nx' r' f' d' => hQ u t' h' u' φ' a' w' hX hv' nx' r' f' (d'.trans d1))⟩
    · cases hs
def pcallD (pc : PCall) (X : PX) : Call1 := fun an h => match an with
 | .enter g args => (match pc g args X h with
  | true => some []
  | false => none)
 | _ => none
theorem pstep_ok (hN : NoCount P) {pc : PCall} (hp : PCallOk w0 P pc) {X : PX} (r : R w0 φ h w) {a : Act} (f : FR φ n t a.tmps) {o : Oper} {l : List (Value × AH)} (hs : aStep P (pcallD pc X) n t h o.op = some l) {q : Option Nat} {m : Nat}
  {K : Act → World → Prop} {Q : Exit → Act → World → Prop} (hK : ∀ v h' v' w' φ', (v, h') ∈ l → Nx φ φ' h h' → R w0 φ' h' w' → VR φ' v v' → K (a.put o.dst v') w')
  (hQ : ∀ u h' u' φ' w', X u h' = true → VR φ' u u' → Nx φ φ' h h' → R w0 φ' h' w' → Q (.panic [{ v := u', recovered := false }]) a w') : o.wpIn (FW q) m P a w K Q := by
 refine ⟨fun f _ => FW_fn q f, ?_⟩
 obtain ⟨l0, h0, hall⟩ := bindL_spec hs
 have hnd : ∀ c, o.op ≠ .defer c := fun c e => by rw [e] at h0; exact aOp_defer h0
 rw [FW_round, Oper.semAt_eq _ _ _ hnd]
 obtain ⟨an, h1, hm, nx, w1, φ1, hrun, nx1, r1, hnr⟩ := sim_op hN r f h0
 obtain ⟨k, hk, hsub⟩ := hall _ hm
 rw [hrun]
 have dep : (FW q).depth.isSome = true → 1 ≤ m := by rw [FW_depth]; intro x; cases x
 cases hnr with
 | val hv =>
  simp only at hk; cases hk
  exact hK _ _ _ _ φ1 (hsub _ (List.mem_singleton.2 rfl)) nx1 r1 hv
 | skip =>
  simp only at hk; cases hk
  exact hK _ _ _ _ φ1 (hsub _ (List.mem_singleton.2 rfl)) nx1 r1 .undef
 | enter hl =>
  simp only [pcallD] at hk
  split at hk
  · rename_i hpc
    refine ⟨dep, FW_calls ((hp _ _ _ _ _ _ _ hpc r1 hl).mono ?_)⟩
    rintro e w2 ⟨u, h', u', φ2, hX, rfl, hv, nx2, r2⟩
    exact hQ u h' u' φ2 w2 hX hv (nx1.trans nx2) r2
  · cases hk
 | round hb hf =>
  simp only [pcallD] at hk
  cases hk
def hasR (r : Nat) : Code → Bool
 | .region id _ _ => Nat.beq id r
 | .seq x y => hasR r x || hasR r y
 | .cond _ x y => hasR r x || hasR r y
 | .block _ c => hasR r c
 | .loop c => hasR r c
 | _ => false
abbrev PEv := T Value → List Nat → AH → Bool
def one1 (x : COuts) : Option (T Value × List Nat × AH) := match x with
 | some [⟨.normal, t, ds, h⟩] => some (t, ds, h)
 | _ => none
def pLoop (body : Ev) (pb : PEv) : Nat → PEv
 | 0, t, ds, h => pb t ds h
 | k + 1, t, ds, h => (match one1 (body t ds h) with
  | some (t', ds', h') => pLoop body pb k t' ds' h'
  | none => false)
structure Way where
 r : Nat
 i : Nat
 m : Nat
def isD (d : Option Nat) (s : Nat) : Bool := match d with
 | some k => Nat.beq k s
 | none => false
def noDst (ops : Array Oper) (S : List Nat) : Bool := S.all fun s => ops.toList.all fun o => !isD o.dst s
theorem noDst_ok {ops : Array Oper} {S : List Nat} (h : noDst ops S = true) {s : Nat} (hs : s ∈ S) (j : Nat) : dstAt ops j ≠ some s := by
 intro e
 unfold dstAt at e
 cases ho : ops[j]? with
 | none => rw [ho] at e; cases e
 | some o =>
  rw [ho] at e
  have h1 := List.all_eq_true.1 h s hs
  have h2 := List.all_eq_true.1 h1 o (by simpa using Array.mem_of_getElem? ho)
  have e : o.dst = some s := e
  rw [e] at h2
  simp [isD] at h2
def pCode (P : Program) (call : Call1) (pc : PCall) (n LF : Nat) (wy : Way) (S : List Nat) (X : PEx) : Code → PEv
 | .region id ops draw, t, ds, h => (match Nat.beq id wy.r, draw with
  | true, false => pOps P call pc n ops wy.i (List.range ops.size) t (fun u t' h' => X u t' ds h') h
  | true, true => (match noDst ops S, aDraw P (pcallD pc fun u h' => X u t ds h') n ops t h with
   | true, some [] => true
   | _, _ => false)
  | _, _ => false)
 | .seq x y, t, ds, h => (match hasR wy.r x with
  | true => pCode P call pc n LF wy S X x t ds h
  | false => (match one1 (aCode0 P call n LF none x t ds h) with
   | some (t', ds', h') => pCode P call pc n LF wy S X y t' ds' h'
   | none => false))
 | .cond c x y, t, ds, h => (match aO n t c with
  | some (.bool true) => pCode P call pc n LF wy S X x t ds h
  | some (.bool false) => pCode P call pc n LF wy S X y t ds h
  | _ => false)
 | .block _ c, t, ds, h => pCode P call pc n LF wy S X c t ds h
 | .loop c, t, ds, h => pLoop (aCode0 P call n LF none c) (pCode P call pc n LF wy S X c) wy.m t ds h
 | _, _, _, _ => false
def PCodeOk (w0 : World) (P : Program) (n : Nat) (S : List Nat) (X : PEx) (c : Code) (ev : PEv) : Prop :=
 ∀ ⦃t : T Value⦄ ⦃ds : List Nat⦄ ⦃h : AH⦄ ⦃φ : Phi⦄ ⦃a : Act⦄ ⦃w : World⦄ ⦃bs : List Deferred⦄ (m : Nat), ev t ds h = true → R w0 φ h w → FR φ n t a.tmps → DR bs φ ds a.defers →
  c.wpIn (FW none) m P (PPost bs w0 φ h n S X) a w
theorem PPost.from {h0 : AH} {φ0 : Phi} {S : List Nat} {X : PEx} {e : Exit} {a : Act} (nx : Nx φ0 φ h0 h) (p : PPost bs w0 φ h n S X e a w) : PPost bs w0 φ0 h0 n S X e a w := by
 obtain ⟨u, t', ds', h', u', φ', h1, h2, h3, h4, rest⟩ := p; exact ⟨u, t', ds', h', u', φ', h1, h2, h3, nx.trans h4, rest⟩
theorem one1_ok {x : COuts} {t : T Value} {ds : List Nat} {h : AH} (hs : one1 x = some (t, ds, h)) : x = some [⟨.normal, t, ds, h⟩] := by
 unfold one1 at hs
 split at hs
 · cases hs; rfl
 · cases hs
theorem FR.vts {a : Array Value} (f : FR φ n t a) (S : List Nat) : FP φ n S t a := ⟨f.size, fun s v _ hv => f.get s v hv⟩
theorem pCode_ok (hN : NoCount P) (hM : P.follows .mixedOrders = true) {call : Call1} (hc : CallsOk w0 P call) {pc : PCall} (hp : PCallOk w0 P pc) (LF : Nat) (wy : Way) (S : List Nat) (X : PEx) : ∀ (c : Code), PCodeOk w0 P n S X c (pCode P call pc n LF wy S X c)
 | .region id ops draw => by
  intro t ds h φ a w bs m hs hr hf hd
  unfold pCode at hs
  split at hs
  · refine wpIn_region (pOps_ok hN hc hp _ _ hs hr hf ?_)
    intro u t' h' u' φ' a' w' hX hv nx r' f' d'
    exact ⟨u, t', ds, h', u', φ', hX, rfl, hv, nx, r', f'.vts S, by rw [d']; exact hd.mono nx.le⟩
  · split at hs
    · rename_i hno hdr
      refine draw_okS hN hM ?_ hdr hr hf (fun t' h' φ' a' w' hm => by cases hm)
      intro i o ho t1 h1 φ1 a1 w1 l K hst nx1 r1 f1 d1 g1 hK
      refine pstep_ok hN hp r1 f1 hst hK ?_
      intro u h' u' φ' w' hX hv nx r'
      refine ⟨u, t, ds, h', u', φ', hX, rfl, hv, nx1.trans nx, r', ⟨f1.size, fun s v hs hv => (g1 s v hv (noDst_ok hno hs)).mono nx.le⟩, ?_⟩
      rw [d1]; exact hd.mono (nx1.trans nx).le
    · cases hs
  · cases hs
 | .seq x y => by
  intro t ds h φ a w bs m hs hr hf hd
  unfold pCode at hs
  split at hs
  · refine wpIn_seq (wpIn_mono (pCode_ok hN hM hc hp LF wy S X x m hs hr hf hd) ?_)
    rintro e a' w' ⟨u, t', ds', h', u', φ', hX, rfl, rest⟩
    exact ⟨u, t', ds', h', u', φ', hX, rfl, rest⟩
  · split at hs
    · rename_i t1 ds1 h1 ho
      have ho := one1_ok ho
      refine wpIn_seq (wpIn_mono (code_ok0 hN hM hc none LF x (q := none) m ho hr hf hd rfl) ?_)
      rintro e a' w' ⟨o, hm, hex, φ1, nx1, r1, f1, d1⟩
      cases List.mem_singleton.1 hm
      cases hex
      exact wpIn_mono (pCode_ok hN hM hc hp LF wy S X y m hs r1 f1 d1) (fun e a w p => p.from nx1)
    · cases hs
 | .cond c x y => by
  intro t ds h φ a w bs m hs hr hf hd
  unfold pCode at hs
  split at hs
  · rename_i hb
    exact wpIn_cond (t := true) (aO_ok hf hb).bool_inv (pCode_ok hN hM hc hp LF wy S X x m hs hr hf hd)
  · rename_i hb
    exact wpIn_cond (t := false) (aO_ok hf hb).bool_inv (pCode_ok hN hM hc hp LF wy S X y m hs hr hf hd)
  · cases hs
 | .block id c => by
  intro t ds h φ a w bs m hs hr hf hd
  unfold pCode at hs
  refine wpIn_block (wpIn_mono (pCode_ok hN hM hc hp LF wy S X c m hs hr hf hd) ?_)
  rintro e a' w' ⟨u, t', ds', h', u', φ', hX, rfl, rest⟩
  exact ⟨u, t', ds', h', u', φ', hX, rfl, rest⟩
 | .loop c => by
  intro t ds h φ a w bs m hs hr hf hd
  unfold pCode at hs
  refine wpIn_fuel (fun k a w => ∃ t ds h1 φ1, pLoop (aCode0 P call n LF none c) (pCode P call pc n LF wy S X c) k t ds h1 = true ∧ Nx φ φ1 h h1 ∧ R w0 φ1 h1 w ∧ FR φ1 n t a.tmps ∧ DR bs φ1 ds a.defers) wy.m
    ⟨t, ds, h, φ, hs, .refl φ h, hr, hf, hd⟩ ?_
  rintro k a w ⟨t, ds, h1, φ1, hs1, nx1, r1, f1, d1⟩
  cases k with
  | zero =>
    refine wpIn_mono (pCode_ok hN hM hc hp LF wy S X c m hs1 r1 f1 d1) ?_
    rintro e a' w' ⟨u, t', ds', h', u', φ', hX, rfl, hv, nx2, rest⟩
    exact ⟨u, t', ds', h', u', φ', hX, rfl, hv, nx1.trans nx2, rest⟩
  | succ k =>
    unfold pLoop at hs1
    split at hs1
    · rename_i t2 ds2 h2 ho
      have ho := one1_ok ho
      refine wpIn_mono (code_ok0 hN hM hc none LF c (q := none) m ho r1 f1 d1 rfl) ?_
      rintro e a' w' ⟨o, hm, hex, φ2, nx2, r2, f2, d2⟩
      cases List.mem_singleton.1 hm
      cases hex
      exact ⟨k, Nat.lt_succ_self k, t2, ds2, h2, φ2, hs1, nx1.trans nx2, r2, f2, d2⟩
    · cases hs1
 | .skip => by intro t ds h φ a w bs m hs; simp [pCode] at hs
 | .label _ => by intro t ds h φ a w bs m hs; simp [pCode] at hs
 | .ret => by intro t ds h φ a w bs m hs; simp [pCode] at hs
 | .exit _ => by intro t ds h φ a w bs m hs; simp [pCode] at hs
 | .scope _ => by intro t ds h φ a w bs m hs; simp [pCode] at hs
 | .goto _ => by intro t ds h φ a w bs m hs; simp [pCode] at hs
 | .rangeFunc _ _ _ _ => by intro t ds h φ a w bs m hs; simp [pCode] at hs
 | .refuse _ => by intro t ds h φ a w bs m hs; simp [pCode] at hs
def pRun (P : Program) (call : Call1) (LF : Nat) : List Way → PCall
 | [] => fun _ _ _ _ => false
 | wy :: ws => fun f args X h => match P.funcs[f]? with
  | some fn => (match fn.body with
   | some c => (match Nat.ble args.length fn.ntmps with
    | true => pCode P call (pRun P call LF ws) fn.ntmps LF wy [] (fun u _ ds h' => (match ds with
     | [] => X u h'
     | _ :: _ => false)) c (T.fill args 0 .e) [] h
    | false => false)
   | none => false)
  | none => false
theorem pRun_ok (hN : NoCount P) (hM : P.follows .mixedOrders = true) {call : Call1} (hc : CallsOk w0 P call) (LF : Nat) : ∀ (ws : List Way), PCallOk w0 P (pRun P call LF ws)
 | [] => by intro f args X h φ w args' hs; cases hs
 | wy :: ws => by
  intro f args X h φ w args' hs hr hl
  unfold pRun at hs
  split at hs
  · rename_i fn hf
    split at hs
    · rename_i c hb
      split at hs
      · rename_i hsz
        refine (callsIn_wide (n := 0)).1 (callsIn_of_wp_marks hf hb trivial ?_ rfl)
        refine wpIn_mono (pCode_ok hN hM hc (pRun_ok hN hM hc LF ws) LF wy [] _ c 0 hs hr (FR.entry hl (Nat.le_of_ble_eq_true hsz)) (bs := []) .nil) ?_
        rintro e a' w' ⟨u, t', ds', h', u', φ', hX, rfl, hv, nx, r', _, d'⟩
        cases ds' with
        | nil =>
         show LeavesInM Fence.wide 0 P fn a'.tmps _ a'.defers _ w'
         generalize a'.defers = dd at d'
         cases d'
         exact ⟨u, h', u', φ', hX, rfl, hv, nx, r'⟩
        | cons _ _ => cases hX
      · cases hs
    · cases hs
  · cases hs
end
end Go.X
namespace Go.X
noncomputable section
open Go Go.RowKit
variable {w0 w w' : World} {φ φ' : Phi} {h h' : AH} {P : Program} {n : Nat} {t : T Value} {bs : List Deferred}
def aClosure (P : Program) (call : Call1) (LF : Nat) (f : FuncId) (args : List Value) (x : Value) (h : AH) : Option AH := match P.funcs[f]? with
 | some fn => (match fn.body, fn.results.toList with
  | some (.seq (.region _ ⟨[o]⟩ false) rest), [] => (match o.op, o.dst, o.guard with
   | .call ⟨.builtin .recover, ⟨[]⟩, _⟩, some d, none => (match Nat.ble args.length fn.ntmps, aPut fn.ntmps (T.fill args 0 .e) (some d) x with
    | true, some t1 => (match aCode P call fn.ntmps LF none rest t1 [] h with
     | some [⟨.normal, _, [], h2⟩] => some h2
     | some [⟨.ret, _, [], h2⟩] => some h2
     | _ => none)
    | _, _ => none)
   | _, _, _ => none)
  | _, _ => none)
 | none => none
theorem run_recover {ρ : Operand → Value} {o : Oper} {ts : Array TypeId} (h : o.op = .call ⟨.builtin .recover, ⟨[]⟩, ts⟩) (w : World) : (execOp ρ o).run P w = .ok .recover w := by
 simp only [execOp, h, resolve, Sem.run_bind, Sem.run_pure, Result.andThen_ok]
 rfl
theorem closure_ok (hN : NoCount P) (hM : P.follows .mixedOrders = true) {call : Call1} (hc : CallsOk w0 P call) (LF : Nat) {f : FuncId} {args args' : List Value} {x x' : Value} {u u2 : FrameMode} {h2 : AH} (hx : VR φ x x')
   (hu : (u = .returning ∧ u2 = .returning ∧ x' = .nilIface) ∨ (u = .panicking [{ v := x', recovered := false }] ∧ u2 = .panicking [{ v := x', recovered := true }]))
   (hs : aClosure P call LF f args x h = some h2) (hr : R w0 φ h w) (hl : LR φ args args') :
   CallsDIn Fence.wide 0 P f ⟨args'⟩ u w (fun e u' w' => (∃ v, e = .returned v) ∧ u' = u2 ∧ ∃ φ', Nx φ φ' h h2 ∧ R w0 φ' h2 w') := by
 unfold aClosure at hs
 split at hs
 · rename_i fn hf
   split at hs
   · rename_i id o rest hb hres
     split at hs
     · rename_i ts d hop hd hg
       split at hs
       · rename_i t1 hsz ht1
         have hcode : ∃ ex t2, (ex = .normal ∨ ex = .ret) ∧ aCode P call fn.ntmps LF none rest t1 [] h = some [⟨ex, t2, [], h2⟩] := by
           split at hs
           · rename_i t2 h3 e; cases hs; exact ⟨_, t2, .inl rfl, e⟩
           · rename_i t2 h3 e; cases hs; exact ⟨_, t2, .inr rfl, e⟩
           · cases hs
         obtain ⟨ex, t2, hex2, hcode⟩ := hcode
         refine callsDIn_of_wpSIn hf hb trivial (fun c₀ cs hc0 => ?_)
         refine wpSIn_seq (wpSIn_region ?_)
         show wpOpsSIn _ _ _ _ _ [0] _ _ _
         simp only [wpOpsSIn, show (⟨[o]⟩ : Array Oper)[0]? = some o from rfl]
         refine ⟨fun g _ => trivial, ?_⟩
         have hw : ∀ y, Region.wanted o y = true := fun y => by unfold Region.wanted; rw [hg]
         rw [if_pos (hw _), run_recover hop]
         dsimp only
         have f0 := FR.entry (φ := φ) (m := fn.ntmps) hl (Nat.le_of_ble_eq_true hsz)
         have key : ∀ x0 cs0, VR φ x x0 → cs0 = { c₀ with mode := u2 } :: cs → rest.wpSIn Fence.wide 0 P (bodyPostS P fn c₀ cs (fun e u' w' => (∃ v, e = .returned v) ∧ u' = u2 ∧ ∃ φ', Nx φ φ' h h2 ∧ R w0 φ' h2 w'))
             (Act.put { tmps := ⟨args'⟩ ++ Array.replicate (fn.ntmps - (⟨args'⟩ : Array Value).size) undef, defers := [] } o.dst x0) cs0 w := by
           intro x0 cs0 hx0 e
           subst e
           obtain ⟨f1, d1⟩ := put_ok (a := { tmps := ⟨args'⟩ ++ Array.replicate (fn.ntmps - (⟨args'⟩ : Array Value).size) undef, defers := [] }) f0 ht1 hx0
           rw [hd]
           refine wpSIn_of_wpIn rfl (wpIn_mono (code_ok hN hM hc none LF rest (q := none) 0 hcode hr f1 (bs := []) (by rw [d1]; exact .nil) rfl) ?_)
           rintro e a1 w1 ⟨o2, hm, hex, φ1, nx1, r1, ff1, dd1⟩
           cases List.mem_singleton.1 hm
           have hdef : a1.defers = [] := by generalize a1.defers = z at dd1; cases dd1; rfl
           obtain ⟨v, hv, _⟩ := res_okS (n := fn.ntmps) (t := .e) (a := a1.tmps) r1 (fn := fn) (v := .tuple ⟨[]⟩) (fun y hy => by rw [hres] at hy; cases hy) (by rw [hres]; rfl)
           have fin : a1.defers = [] ∧ ∃ u', ({ c₀ with mode := u2 } : Frame) :: cs = { c₀ with mode := u' } :: cs ∧ ∃ v, (results fn a1.tmps).run P w1 = .ok v w1 ∧ ((∃ v', Ending.returned v = .returned v') ∧ u' = u2 ∧ ∃ φ', Nx φ φ' h h2 ∧ R w0 φ' h2 w1) :=
             ⟨hdef, u2, rfl, v, hv, ⟨v, rfl⟩, rfl, φ1, nx1, r1⟩
           rcases hex2 with rfl | rfl
           · cases hex; exact fin
           · cases hex; exact fin
         rcases hu with ⟨h1, h3, h4⟩ | ⟨h1, h3⟩
         · have hrec : recoverD (c₀ :: cs) = none := by simp [recoverD, hc0, h1]
           rw [hrec]
           dsimp only
           refine key .nilIface _ (h4 ▸ hx) ?_
           rw [h3, ← h1, ← hc0]
         · have hrec : recoverD (c₀ :: cs) = some (x', { c₀ with mode := u2 } :: cs) := by simp [recoverD, hc0, h1, h3]
           rw [hrec]
           exact key x' _ hx rfl
       · cases hs
     · cases hs
   · cases hs
 · cases hs
structure DC (φ : Phi) (g : FuncId) (as : List Value) (bs : List Deferred) : Prop where
 ex : ∃ cap as1 as', bs = [{ target := .fn (.func g) cap, args := as1 }] ∧ as1 ++ cap = ⟨as'⟩ ∧ LR φ as as'
theorem DC.mono (le : Le φ φ') {g : FuncId} {as : List Value} (d : DC φ g as bs) : DC φ' g as bs := by
 obtain ⟨cap, as1, as', h1, h2, h3⟩ := d.ex
 exact ⟨cap, as1, as', h1, h2, h3.mono le⟩
theorem closure_body {call : Call1} {LF : Nat} {f : FuncId} {args : List Value} {x : Value} {h2 : AH} (hs : aClosure P call LF f args x h = some h2) : ∃ fn c, P.funcs[f]? = some fn ∧ fn.body = some c := by
 unfold aClosure at hs
 split at hs
 · rename_i fn hf
   split at hs
   · rename_i hb _
     exact ⟨fn, _, hf, hb⟩
   · cases hs
 · cases hs
theorem run_enter (hN : NoCount P) {f : FuncId} {fn : Func} {c : Code} (hf : P.funcs[f]? = some fn) (hb : fn.body = some c) (args : Array Value) (w : World) : (callFunc f args).run P w = .ok (.enter f args) w := by
 have := hN f fn hf (by rw [hb]; rfl)
 have this : fn.name ≠ "runtime.NumGoroutine" := by simpa using this
 simp [callFunc, hf, this, hb]
theorem last_ok (hN : NoCount P) (hM : P.follows .mixedOrders = true) {call : Call1} (hc : CallsOk w0 P call) (LF : Nat) {fn : Func} {tmps : Array Value} {g : FuncId} {as : List Value} {x x' : Value} {u : FrameMode} {h2 : AH} {v : Value} (hx : VR φ x x')
   (hu : (u = .returning ∧ x' = .nilIface) ∨ u = .panicking [{ v := x', recovered := false }])
   (hs : aClosure P call LF g as x h = some h2) (hr : R w0 φ h w) (hd : DC φ g as bs) (hf : SR φ n t tmps fn.results.toList) (hv : aRes P n t h2 fn.results.toList = some v) :
   LeavesInM Fence.wide 0 P fn tmps (fun e w' => ∃ v', e = .returned v' ∧ ∃ φ', Nx φ φ' h h2 ∧ R w0 φ' h2 w' ∧ VR φ' v v') bs u w := by
 obtain ⟨cap, as1, as', rfl, has, hl⟩ := hd.ex
 obtain ⟨gf, c, hgf, hgb⟩ := closure_body hs
 have hrun : u ≠ .run := by rcases hu with ⟨h1, _⟩ | h1 <;> rw [h1] <;> simp
 refine ⟨hrun, .inr ⟨fun e => (by cases e), .func g, cap, g, ⟨as'⟩, rfl, ?_, fun _ _ => trivial, ?_⟩⟩
 · show (callFunc g (as1 ++ cap)).run P w = _
   rw [has]
   exact run_enter hN hgf hgb _ w
 · have hu2 : ∃ u2, ((u = .returning ∧ u2 = .returning ∧ x' = .nilIface) ∨ (u = .panicking [{ v := x', recovered := false }] ∧ u2 = .panicking [{ v := x', recovered := true }])) ∧ settle u2 = .returning := by
    rcases hu with ⟨h1, h3⟩ | h1
    · exact ⟨.returning, .inl ⟨h1, rfl, h3⟩, rfl⟩
    · exact ⟨_, .inr ⟨h1, rfl⟩, rfl⟩
   obtain ⟨u2, hu2, hset⟩ := hu2
   refine CallsDIn.mono (closure_ok hN hM hc LF hx hu2 hs hr hl) ?_
   rintro e u' w' ⟨⟨v0, rfl⟩, rfl, φ', nx, r'⟩
   show LeavesInM Fence.wide 0 P fn tmps _ [] (settle u') w'
   rw [hset]
   obtain ⟨v', h3, h4⟩ := res_okS r' (fun y hy hk => (hf y hy hk).mono nx.le) hv
   exact ⟨v', h3, v', rfl, φ', nx, r', h4⟩
theorem LeavesInM.mono {fn : Func} {tmps : Array Value} {R R' : Ending → World → Prop} (hR : ∀ e w, R e w → R' e w) : ∀ (ds : List Deferred) {u : FrameMode} {w : World}, LeavesInM Fence.wide 0 P fn tmps R ds u w → LeavesInM Fence.wide 0 P fn tmps R' ds u w
 | [], u, w, h => by
  cases u with
  | returning => obtain ⟨v, h1, h2⟩ := h; exact ⟨v, h1, hR _ _ h2⟩
  | panicking ch => exact hR _ _ h
  | run => exact h
 | d :: ds, u, w, h => by
  obtain ⟨h1, h2⟩ := h
  refine ⟨h1, ?_⟩
  rcases h2 with ⟨r, w', a1, a2, a3⟩ | ⟨a0, fv, cap, f, args, a1, a2, a3, a4⟩
  · exact .inl ⟨r, w', a1, a2, LeavesInM.mono hR ds a3⟩
  · refine .inr ⟨a0, fv, cap, f, args, a1, a2, a3, CallsDIn.mono a4 ?_⟩
    intro e u' w' hh
    cases e with
    | returned v => exact LeavesInM.mono hR ds hh
    | panicked ch => exact LeavesInM.mono hR ds hh
    | outgrown => exact hR _ _ hh
theorem marks_ok {fn : Func} {tmps : Array Value} {Rr : Ending → World → Prop} {h2 : AH} {u : FrameMode} (hu : u ≠ .run) : ∀ (ds : List Nat) {ds' : List Deferred} {h : AH} {φ : Phi} {w : World}, aLeave ds h = some h2 → DR bs φ ds ds' → R w0 φ h w →
  (∀ w', Nx φ φ h h2 → R w0 φ h2 w' → LeavesInM Fence.wide 0 P fn tmps Rr bs u w') → LeavesInM Fence.wide 0 P fn tmps Rr ds' u w
 | [], ds', h, φ, w, hs, hd, hr, hK => by
  cases hd
  simp only [aLeave] at hs; cases hs
  exact hK w (.refl φ _) hr
 | d :: ds, ds', h, φ, w, hs, hd, hr, hK => by
  cases hd with
  | @cons _ i _ l' hb ht =>
   simp only [aLeave] at hs
   split at hs
   · rename_i ho
     have hw : w.heap[i.c]? = some (.deferred (some [])) := hr.dom _ _ _ hb ho
     have hlt : T.Ok (d) := trivial
     refine ⟨hu, .inl ⟨i.c, w.putObj i.c (.deferred none), rfl, run_takeDeferred hw, ?_⟩⟩
     have hlow : w0.heap.size ≤ i.c := hr.low _ _ _ hb ho rfl
     have hother : ∀ k, k ≠ i.c → (w.putObj i.c (.deferred none)).heap[k]? = w.heap[k]? := fun k hk => putW_other hk
     have r2 : R w0 φ { h with m := h.m.set d none } (w.putObj i.c (.deferred none)) := by
      have rd := hr.drop d hlt
      have free : ∀ b j o', φ b = some j → (h.m.set d none).get b = some o' → j.c ≠ i.c := by
       intro b j o' hj hgo hc
       rw [T.get_set] at hgo
       by_cases e : b = d
       · rw [if_pos e] at hgo; cases hgo
       · rw [if_neg e] at hgo; exact e (hr.inj _ _ _ _ _ _ hb hj ho hgo rfl hc.symm).symm
      have hsz : (w.putObj i.c (.deferred none)).heap.size = w.heap.size := by simp
      exact ⟨fun b j o hj ho => (rd.dom b j o hj ho).world (hother _ (free b j o hj ho)), rd.low, rd.inj, fun b j hj => by rw [hsz]; exact rd.lt b j hj, rd.nx,
       rd.below.trans ⟨rfl, rfl, rfl, by rw [hsz]; exact Nat.le_refl _, fun k hk => hother k (by omega)⟩⟩
     exact marks_ok hu ds hs ht r2 (fun w' nx r' => hK w' ((Nx.drop hb hlt).trans nx) r')
   · cases hs
end
end Go.X
namespace Go.X
noncomputable section
open Go Go.RowKit
variable {w0 w w' : World} {φ φ' : Phi} {h h' : AH} {P : Program} {n : Nat} {t : T Value} {bs : List Deferred}
theorem spine_ok (hN : NoCount P) (hM : P.follows .mixedOrders = true) {call : Call1} (hc : CallsOk w0 P call) (LF : Nat) {Q : Exit → Act → World → Prop} : ∀ (k : Nat) {c : Code} {t t' : T Value} {ds ds' : List Nat} {h h' : AH} {φ : Phi} {a : Act} {w : World},
  aSpine P call n LF k c t ds h = some (t', ds', h') → R w0 φ h w → FR φ n t a.tmps → DR bs φ ds a.defers →
  (∀ φ' a' w', Nx φ φ' h h' → R w0 φ' h' w' → FR φ' n t' a'.tmps → DR bs φ' ds' a'.defers → (back k c).wpIn Fence.wide 0 P Q a' w') → c.wpIn Fence.wide 0 P Q a w
 | 0, c, t, t', ds, ds', h, h', φ, a, w, hs, r, f, d, hQ => by
  simp only [aSpine] at hs; cases hs
  exact hQ φ a w (.refl φ _) r f d
 | k + 1, c, t, t', ds, ds', h, h', φ, a, w, hs, r, f, d, hQ => by
  cases c with
  | seq x y =>
   simp only [aSpine] at hs
   split at hs
   · rename_i t1 ds1 h1 hx
     refine wpIn_seq (wpIn_mono (code_ok hN hM hc none LF x (q := none) 0 hx r f d rfl) ?_)
     rintro e a1 w1 ⟨o, ho, hex, φ1, nx1, r1, f1, d1⟩
     cases List.mem_singleton.1 ho
     cases hex
     exact spine_ok hN hM hc LF k hs r1 f1 d1 (fun φ' a' w' nx r' f' d' => hQ φ' a' w' (nx1.trans nx) r' f' d')
   · cases hs
  | _ => simp [aSpine] at hs
def aPre (P : Program) (call : Call1) (n LF k : Nat) (c : Code) (t : T Value) (h : AH) : Option (T Value × AH × FuncId × List Value × Code) :=
 match aSpine P call n LF k c t [] h with
 | some (t1, [], h1) => (match back k c with
  | .seq (.region _ ⟨[o1, o2]⟩ false) rest => (match aWant n t1 ⟨[o1, o2]⟩ o1, aStep P call n t1 h1 o1.op with
   | true, some [(v1, h2)] => (match aPut n t1 o1.dst v1 with
    | some t2 => (match aWant n t2 ⟨[o1, o2]⟩ o2, o2.op, o2.dst with
     | true, .defer ⟨.value fv, ⟨[]⟩, _⟩, none => (match aO n t2 fv with
      | some (.func (.func g) ⟨first⟩ ⟨cap⟩) => some (t2, h2, g, first ++ cap, rest)
      | _ => none)
     | _, _, _ => none)
    | none => none)
   | _, _ => none)
  | _ => none)
 | _ => none
theorem pre_ok (hN : NoCount P) (hM : P.follows .mixedOrders = true) {call : Call1} (hc : CallsOk w0 P call) (LF : Nat) {Q : Exit → Act → World → Prop} {k : Nat} {c rest : Code} {t t2 : T Value} {h h2 : AH} {g : FuncId} {as : List Value} {a : Act}
   (hs : aPre P call n LF k c t h = some (t2, h2, g, as, rest)) (r : R w0 φ h w) (f : FR φ n t a.tmps) (d : a.defers = [])
   (hQ : ∀ φ' a' w', Nx φ φ' h h2 → R w0 φ' h2 w' → FR φ' n t2 a'.tmps → DC φ' g as a'.defers → rest.wpIn Fence.wide 0 P Q a' w') : c.wpIn Fence.wide 0 P Q a w := by
 unfold aPre at hs
 split at hs
 · rename_i t1 h1 hsp
   refine spine_ok (bs := []) hN hM hc LF k hsp r f (by rw [d]; exact .nil) ?_
   intro φ1 a1 w1 nx1 r1 f1 d1
   have d1 : a1.defers = [] := by generalize a1.defers = z at d1; cases d1; rfl
   split at hs
   · rename_i id o1 o2 rest' hbk
     rw [hbk]
     split at hs
     · rename_i v1 h3 hw1 hst
       split at hs
       · rename_i t3 hput
         split at hs
         · rename_i fv ts hw2 hop hdst
           split at hs
           · rename_i g' first cap hfv
             cases hs
             refine wpIn_seq (wpIn_region ?_)
             show wpOpsIn _ _ _ _ _ [0, 1] _ _
             simp only [wpOpsIn, show (⟨[o1, o2]⟩ : Array Oper)[0]? = some o1 from rfl, show (⟨[o1, o2]⟩ : Array Oper)[1]? = some o2 from rfl]
             rw [want_ok f1, if_pos hw1]
             refine step_ok (q := none) hN hc r1 f1 hst ?_
             intro v2 h4 v' w2 φ2 hm nx2 r2 hv
             cases List.mem_singleton.1 hm
             obtain ⟨f2, d2⟩ := put_ok (f1.mono nx2.le) hput hv
             rw [want_ok f2, if_pos hw2]
             refine ⟨fun _ _ => trivial, ?_⟩
             have h5 := aO_ok f2 hfv
             generalize hev : (a1.put o1.dst v').eval fv = u at h5
             cases h5 with
             | @func _ fn' _ _ first' cap' hfn ha hb h6 h7 =>
              cases hfn with
              | same hne =>
               have hrun : (o2.semAt (FW none).round (a1.put o1.dst v').eval).run P w2 = .ok (.defer { target := .fn (.func g) ⟨cap'⟩, args := ⟨first'⟩ }) w2 := by
                rw [FW_round, Oper.semAt_none]
                simp only [execOp, hop, resolve, hev, Deferred.ofValue, Sem.run_bind, Sem.run_pure, Result.andThen_ok]
                simp
               show Oper.uponIn _ _ _ _ _ _ _ ((o2.semAt (FW none).round (a1.put o1.dst v').eval).run P w2)
               rw [hrun, Oper.uponIn_defer, hdst]
               refine hQ φ2 _ w2 (nx1.trans nx2) r2 f2 ⟨⟨cap'⟩, ⟨first'⟩, first' ++ cap', ?_, by apply Array.ext'; simp, (LR.of ha h6).append (LR.of hb h7)⟩
               show _ :: (a1.put o1.dst v').defers = _
               rw [d2, d1]
           · cases hs
         · cases hs
       · cases hs
     · cases hs
   · cases hs
 · cases hs
def aFunD (P : Program) (LF k : Nat) (call : Call1) : Call1 := fun an h => match an with
 | .enter f args => (match P.funcs[f]? with
  | some fn => (match fn.body with
   | some c => (match Nat.ble args.length fn.ntmps, aPre P call fn.ntmps LF k c (T.fill args 0 .e) h with
    | true, some (t, h1, g, as, rest) => (match aCode P call fn.ntmps LF none rest t [] h1 with
     | some [⟨.ret, t2, ds, h2⟩] => (match aLeave ds h2 with
      | some h3 => (match aClosure P call LF g as .nilIface h3 with
       | some h4 => (match aRes P fn.ntmps t2 h4 fn.results.toList with
        | some v => some [(v, h4)]
        | none => none)
       | none => none)
      | none => none)
     | _ => none)
    | _, _ => none)
   | none => none)
  | none => none)
 | _ => none
theorem funD_ok (hN : NoCount P) (hM : P.follows .mixedOrders = true) (LF k : Nat) {call : Call1} (ih : CallsOk w0 P call) : CallsOk w0 P (aFunD P LF k call) := by
 intro an h l φ w nx hs hr hnr
 unfold aFunD at hs
 split at hs
 · rename_i f args
   cases hnr with
   | @enter _ _ args' hl =>
    refine ⟨?_, fun _ _ _ _ _ e => by cases e⟩
    intro f' args2 e
    cases e
    split at hs
    · rename_i fn hf
      split at hs
      · rename_i c hb
        split at hs
        · rename_i t h1 g as rest hsz hpre
          split at hs
          · rename_i t2 ds h2 hcode
            split at hs
            · rename_i h3 hlv
              split at hs
              · rename_i h4 hcl
                split at hs
                · rename_i v hres
                  cases hs
                  refine (callsIn_wide (n := 0)).1 (callsIn_of_wp_marks hf hb trivial ?_ rfl)
                  refine pre_ok hN hM ih LF hpre hr (FR.entry hl (Nat.le_of_ble_eq_true hsz)) rfl ?_
                  intro φ1 a1 w1 nx1 r1 f1 dc
                  refine wpIn_mono (code_ok hN hM ih none LF rest (q := none) 0 hcode r1 f1 (bs := a1.defers) .nil rfl) ?_
                  rintro e a2 w2 ⟨o, hm, hex, φ2, nx2, r2, f2, d2⟩
                  cases List.mem_singleton.1 hm
                  cases hex
                  refine marks_ok (by simp) ds hlv d2 r2 (fun w3 nx3 r3 => ?_)
                  refine LeavesInM.mono ?_ _ (last_ok hN hM ih LF (x' := .nilIface) (pfv_refl _ rfl) (.inl ⟨rfl, rfl⟩) hcl r3 (dc.mono nx2.le) (f2.sr _) hres)
                  rintro e w4 ⟨v', rfl, φ4, nx4, r4, hv⟩
                  exact ⟨v', rfl, v, h4, List.mem_singleton.2 rfl, φ4, ((nx1.trans nx2).trans nx3).trans nx4, r4, hv⟩
                · cases hs
              · cases hs
            · cases hs
          · cases hs
        · cases hs
      · cases hs
    · cases hs
 · cases hs
def sameR : List Value → List Value → Bool
 | [], [] => true
 | .slice none 0 0 :: l, .slice none 0 0 :: m => sameR l m
 | a :: l, b :: m => sameS a b && sameR l m
 | _, _ => false
theorem sameR_ok : ∀ {l m : List Value}, sameR l m = true → l = m
 | [], [], _ => rfl
 | [], _ :: _, h => by simp [sameR] at h
 | _ :: _, [], h => by unfold sameR at h; split at h <;> simp_all
 | a :: l, b :: m, h => by
  unfold sameR at h
  split at h
  · rename_i e1 e2; cases e1
  · rename_i e1 e2; cases e1; cases e2; rw [sameR_ok h]
  · rename_i e1 e2
    cases e1; cases e2
    rw [Bool.and_eq_true] at h
    rw [sameS_ok h.1, sameR_ok h.2]
  · cases h
def panD (P : Program) (call : Call1) (LF k : Nat) (f : FuncId) (wy : Way) (ws : List Way) (args res : List Value) : Bool := match P.funcs[f]? with
 | some fn => (match fn.body with
  | some c => (match Nat.ble args.length fn.ntmps, aPre P call fn.ntmps LF k c (T.fill args 0 .e) ah0 with
   | true, some (t, h1, g, as, rest) => pCode P call (pRun P call LF ws) fn.ntmps LF wy (fn.results.toList.map rslot) (fun u t' ds h' => (match aLeave ds h' with
    | some h3 => (match aClosure P call LF g as u h3 with
     | some h4 => (match aRes P fn.ntmps t' h4 fn.results.toList with
      | some (.tuple ⟨l⟩) => sameR l res
      | _ => false)
     | none => false)
    | none => false)) rest t [] h1
   | _, _ => false)
  | none => false)
 | none => false
theorem panD_ok (hN : NoCount P) (hM : P.follows .mixedOrders = true) {call : Call1} (hc : ∀ W, CallsOk W P call) {LF k : Nat} {f : FuncId} {wy : Way} {ws : List Way} {args res : List Value} (hs : panD P call LF k f wy ws args res = true) (ha : args.all pfv = true) (hv : pfv (.tuple ⟨res⟩) = true) (W : World) :
   Calls P f ⟨args⟩ W (ValPost W (.tuple ⟨res⟩)) := by
 unfold panD at hs
 split at hs
 · rename_i fn hf
   split at hs
   · rename_i c hb
     split at hs
     · rename_i t h1 g as rest hsz hpre
       refine (callsIn_wide (n := 0)).1 (callsIn_of_wp_marks hf hb trivial ?_ rfl)
       refine pre_ok hN hM (hc W) LF hpre (R.first W) (FR.entry (.refl_of none0 ha) (Nat.le_of_ble_eq_true hsz)) rfl ?_
       intro φ1 a1 w1 nx1 r1 f1 dc
       refine wpIn_mono (pCode_ok hN hM (hc W) (pRun_ok hN hM (hc W) LF ws) LF wy _ _ rest 0 hs r1 f1 (bs := a1.defers) .nil) ?_
       rintro e a2 w2 ⟨u, t', ds, h2, u', φ2, hX, rfl, hu, nx2, r2, s2, d2⟩
       dsimp only at hX
       split at hX
       · rename_i h3 hlv
         split at hX
         · rename_i h4 hcl
           split at hX
           · rename_i l hres
             have := sameR_ok hX
             subst this
             show LeavesInM Fence.wide 0 P fn a2.tmps _ a2.defers _ w2
             refine marks_ok (by simp) ds hlv d2 r2 (fun w3 nx3 r3 => ?_)
             refine LeavesInM.mono ?_ _ (last_ok hN hM (hc W) LF hu (.inr rfl) hcl r3 (dc.mono nx2.le) ?_ hres)
             · rintro e w4 ⟨v', rfl, φ4, nx4, r4, hvv⟩
               obtain rfl := pfv_same hv hvv
               exact ⟨rfl, r4.below⟩
             · intro x hx hk
               have hk' : rslot x < a2.tmps.size := by rw [s2.1]; exact hk
               have hg := s2.2 (rslot x) _ (List.mem_map_of_mem hx) (Array.getElem?_eq_getElem hk')
               rw [Array.getD_eq_getD_getElem?, Array.getElem?_eq_getElem hk', Option.getD_some]
               exact hg.mono nx3.le
           · cases hX
         · cases hX
       · cases hX
     · cases hs
   · cases hs
 · cases hs
end
end Go.X
namespace Go.X
noncomputable section
open Go Go.RowKit
variable {w0 w : World} {φ : Phi} {h h' : AH} {P : Program}
def sameVH (p q : Value × AH) : Bool := veq 9 p.1 q.1 && sameH p.2 q.2
def nub1 (x : Value × AH) (r : List (Value × AH)) : List (Value × AH) := match r.any (sameVH x) with
 | true => r
 | false => x :: r
def nubVH (l : List (Value × AH)) : List (Value × AH) := l.foldr nub1 []
def bagCall (fs : List FuncId) (call : Call1) : Call1 := fun an h => match an with
 | .enter g args => (match memN g fs with
  | true => (match call (.enter g args) h with
   | some l => some (nubVH (l.map fun p => (p.1, bagH h.next (dropNew (reachF p.2 h.next 10000 (blocksV 9 p.1) []) h p.2))))
   | none => none)
  | false => call (.enter g args) h)
 | an => call an h
def knownD (P : Program) (LF k : Nat) (f : FuncId) (call : Call1) : Call1 := fun an h => match an with
 | .enter g args => (match Nat.beq g f with
  | true => aFunD P LF k call (.enter g args) h
  | false => call (.enter g args) h)
 | an => call an h
theorem knownD_ok (hN : NoCount P) (hM : P.follows .mixedOrders = true) (LF k : Nat) {f : FuncId} {call : Call1} (hc : CallsOk w0 P call) : CallsOk w0 P (knownD P LF k f call) := by
 intro an h l φ w nx hs hr hnr
 unfold knownD at hs
 split at hs
 · split at hs
   · exact funD_ok hN hM LF k hc _ _ _ _ _ _ hs hr hnr
   · exact hc _ _ _ _ _ _ hs hr hnr
 · exact hc _ _ _ _ _ _ hs hr hnr
end
end Go.X
namespace Go.X
noncomputable section
open Go Go.RowKit
variable {P : Program} {ops : Array Oper}
theorem any_inv (hM : P.follows .mixedOrders = true) {Inv : (Nat → Prop) → Act → World → Prop} {id : Nat} {a : Act} {w : World} {q : Option Nat} {m : Nat} {Q : Exit → Act → World → Prop}
   (hedge : ∀ (i : Nat) (o : Oper) (j : Nat), ops[i]? = some o → j ∈ edgesOf o → j < i)
   (step : ∀ (lst : Nat → Prop) (a : Act) (w : World) (i : Nat) (o : Oper), ops[i]? = some o → ¬ lst i → (∀ j, j ∈ edgesOf o → lst j) → (∀ (i : Nat) (o : Oper), lst i → ops[i]? = some o → ∀ j, j ∈ edgesOf o → lst j) → Inv lst a w →
    ∀ {K : Act → World → Prop}, (∀ a2 w2, Inv (fun j => lst j ∨ j = i) a2 w2 → K a2 w2) → wpOpIn (FW q) m P ops Q i K a w)
   (fin : ∀ (lst : Nat → Prop) (a : Act) (w : World), (∀ j, j < ops.size → lst j) → Inv lst a w → Q .normal a w)
   (h0 : Inv (fun _ => False) a w.drew) : (Code.region id ops true).wpIn (FW q) m P Q a w := by
 refine wpIn_region_any hM ?_
 have main : ∀ (fuel : Nat) (listed : Array Bool) (a' : Act) (w' : World), listed.size = ops.size → listed.toList.countP (fun b => !b) = fuel →
    (∀ (i : Nat) (o : Oper), listed.getD i false = true → ops[i]? = some o → ∀ j, j ∈ edgesOf o → listed.getD j false = true) →
    Inv (fun j => listed.getD j false = true) a' w' → wpAnyIn (FW q) m P .any ops Q fuel listed a' w' := by
   intro fuel
   induction fuel with
   | zero =>
    intro listed a' w' hsz hcnt hcl inv
    have hall : ∀ j, j < ops.size → listed.getD j false = true := by
      intro j hj
      have hj' : j < listed.size := by omega
      have := List.countP_eq_zero.1 hcnt (listed[j]) (by simp)
      rw [Array.getD_eq_getD_getElem?, Array.getElem?_eq_getElem hj']
      simpa using this
    refine ⟨?_, ?_⟩
    · cases hr : Region.ready .any ops listed with
      | nil => rfl
      | cons i r =>
        have hi : i ∈ Region.ready .any ops listed := by rw [hr]; simp
        obtain ⟨h1, o, ho, _⟩ := mem_ready.1 hi
        have := hall i (Array.getElem?_eq_some_iff.1 ho).1
        have hi' : i < listed.size := by rw [hsz]; exact (Array.getElem?_eq_some_iff.1 ho).1
        rw [Array.getD_eq_getD_getElem?, Array.getElem?_eq_getElem hi'] at h1 this
        simp at h1 this
        rw [h1] at this; cases this
    · exact fin _ a' w' hall inv
   | succ fuel ih =>
    intro listed a' w' hsz hcnt hcl inv
    refine ⟨fun hr => ?_, fun i hi => ?_⟩
    · exfalso
      have hex : ∃ j, j < listed.size ∧ listed.getD j true = false := by
        have hpos : 0 < listed.toList.countP (fun b => !b) := by omega
        obtain ⟨x, hx, hb⟩ := List.countP_pos_iff.1 hpos
        obtain ⟨j, hj, e⟩ := List.getElem_of_mem hx
        refine ⟨j, by simpa using hj, ?_⟩
        rw [Array.getD_eq_getD_getElem?, Array.getElem?_eq_getElem (by simpa using hj)]
        simp at hb e ⊢
        rw [e, hb]
      have least : ∀ {p : Nat → Prop}, (∃ m, p m) → ∃ m, p m ∧ ∀ k, p k → m ≤ k := by
        intro p hx
        obtain ⟨m, hm⟩ := hx
        induction m using Nat.strongRecOn with
        | _ m ih =>
          by_cases hx : ∃ k, k < m ∧ p k
          · obtain ⟨k, hk, hp⟩ := hx; exact ih k hk hp
          · exact ⟨m, hm, fun k hp => by
             rcases Nat.lt_or_ge k m with h | h
             · exact (hx ⟨k, h, hp⟩).elim
             · exact h⟩
      obtain ⟨j, ⟨hj, hf'⟩, hmin⟩ := least hex
      have hjo : j < ops.size := by omega
      have : j ∈ Region.ready .any ops listed := mem_ready.2 ⟨hf', ops[j], Array.getElem?_eq_getElem hjo, fun e he hb => by
        have hin : e.on ∈ edgesOf ops[j] := by
          unfold edgesOf
          exact List.mem_map.2 ⟨e, List.mem_filter.2 ⟨by simpa using he, hb⟩, rfl⟩
        have hlt := hedge j _ e.on (Array.getElem?_eq_getElem hjo) hin
        have hl' : e.on < listed.size := by omega
        cases hv : listed.getD e.on false with
        | true => rfl
        | false =>
          have : listed.getD e.on true = false := by
            rw [Array.getD_eq_getD_getElem?, Array.getElem?_eq_getElem hl'] at hv ⊢
            simpa using hv
          have := hmin e.on ⟨hl', this⟩
          omega⟩
      rw [hr] at this; simp at this
    · obtain ⟨hun, o, ho, haft⟩ := mem_ready.1 hi
      have hil : i < listed.size := by rw [hsz]; exact (Array.getElem?_eq_some_iff.1 ho).1
      have hun' : ¬ listed.getD i false = true := by
        rw [Array.getD_eq_getD_getElem?, Array.getElem?_eq_getElem hil] at hun ⊢
        simp at hun ⊢
        exact hun
      have hrd : ∀ j, j ∈ edgesOf o → listed.getD j false = true := by
        intro j hj
        unfold edgesOf at hj
        obtain ⟨e, he, rfl⟩ := List.mem_map.1 hj
        obtain ⟨h5, h6⟩ := List.mem_filter.1 he
        exact haft e (by simpa using h5) h6
      have hset : (fun j => (listed.setIfInBounds i true).getD j false = true) = fun j => listed.getD j false = true ∨ j = i := by
        funext j
        apply propext
        by_cases e : j = i
        · subst e
          simp [Array.getD_eq_getD_getElem?, hil]
        · rw [getD_set_ne false (fun x => e x.symm)]
          simp [e]
      refine step _ a' w' i o ho hun' hrd hcl inv (fun a2 w2 inv2 => ?_)
      refine ih _ a2 w2 (by simp [hsz]) ?_ ?_ (by rw [hset]; exact inv2)
      · have := countF_set hun; omega
      · intro k o' hk ho' j hj
        have h5 : listed.getD k false = true ∨ k = i := by rw [← congrFun hset k]; exact hk
        have h6 : listed.getD j false = true := by
          rcases h5 with h5 | h5
          · exact hcl k o' h5 ho' j hj
          · subst h5
            rw [ho] at ho'; cases ho'
            exact hrd j hj
        have : listed.getD j false = true ∨ j = i := .inl h6
        rw [← congrFun hset j] at this
        exact this
 have hz : ∀ j, (Array.replicate ops.size false).getD j false = false := by
   intro j
   rw [Array.getD_eq_getD_getElem?, Array.getElem?_replicate]
   split <;> rfl
 refine main _ _ a _ (by simp) ?_ (fun i o hi => by rw [hz] at hi; cases hi) ?_
 · rw [Array.toList_replicate, List.countP_replicate]
   simp
 · have : (fun j => (Array.replicate ops.size false).getD j false = true) = fun _ => False := by
    funext j
    rw [hz]
    simp
   rw [this]
   exact h0
end
end Go.X
