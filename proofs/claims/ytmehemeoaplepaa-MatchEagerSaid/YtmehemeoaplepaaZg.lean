/- Parts of the closed evaluator. -/
import Derived.Test.YtmehemeoaplepaaZf
import Derived.RecoverIn
namespace Go.X
noncomputable section
open Go Go.RowKit
variable {w0 : World} {P : Program}
def none0 : Phi := fun _ => none
def ah0 : AH := ⟨.e, 0⟩
theorem R.first (W : World) : R W none0 ah0 W :=
 ⟨fun _ _ _ h => (by cases h), fun _ _ _ h => (by cases h), fun _ _ _ _ _ _ h => (by cases h), fun _ _ h => (by cases h), trivial, Below.refl _ _⟩
def yes : Value → Bool
 | .bool true => true
 | _ => false
def allYes : Option (List (Value × AH)) → Bool
 | some l => l.all fun p => yes p.1
 | none => false
def noCountB (P : Program) : Bool := P.funcs.toList.all fun fn => !(fn.name == "runtime.NumGoroutine")
theorem noCount_of (hb : noCountB P = true) : NoCount P := by
 intro f fn hf _
 have hm : fn ∈ P.funcs.toList := by
  rw [Array.mem_toList_iff]
  exact Array.mem_of_getElem? hf
 have := List.all_eq_true.1 hb fn hm
 simpa using this
theorem yes_calls (hN : NoCount P) (hM : P.follows .mixedOrders = true) (LF k : Nat) {f : FuncId} {args : List Value} {args' : Array Value} {W : World}
  (ha : LR none0 args args'.toList) (hs : allYes (aRun P LF k (.enter f args) ah0) = true) :
  Calls P f args' W fun e w' => e = .returned (.bool true) ∧ Below W.heap.size W w' := by
 cases hl : aRun P LF k (.enter f args) ah0 with
 | none => rw [hl] at hs; cases hs
 | some l =>
  rw [hl] at hs
  have hc := (run_callsOk (w0 := W) hN hM LF k _ _ _ none0 W (.enter f ⟨args'.toList⟩) hl (R.first W) (.enter ha)).1 _ _ rfl
  refine Calls.mono hc fun e w' he => ?_
  obtain ⟨v', rfl, v, h', hm, φ', _, hr, hv⟩ := he
  have := List.all_eq_true.1 hs _ hm
  refine ⟨?_, hr.below⟩
  dsimp only at this
  unfold yes at this
  split at this
  · cases hv; rfl
  · cases this
end
end Go.X
namespace Go.X
noncomputable section
open Go Go.RowKit
variable {w0 w w' : World} {φ φ' : Phi} {h h' : AH} {P : Program} {n : Nat} {t : T Value}
def gc (keep : List Nat) (h : AH) : AH := ⟨keep.foldl (fun t b => t.set b (h.m.get b)) .e, h.next⟩
def Good (w0 : World) (P : Program) (n : Nat) (Q : Exit → Act → World → Prop) (c : Code) (t : T Value) (ds : List Nat) (h : AH) : Prop :=
 ∀ (φ : Phi) (a : Act) (w : World), R w0 φ h w → FR φ n t a.tmps → DR [] φ ds a.defers → c.wpIn Fence.wide 0 P Q a w
end
end Go.X
namespace Go.X
noncomputable section
open Go Go.RowKit
variable {w0 w w' : World} {φ φ' : Phi} {h h' : AH} {P : Program} {n : Nat} {t : T Value}
def YesPost (W : World) : Ending → World → Prop := fun e w' => e = .returned (.bool true) ∧ Below W.heap.size W w'
end
end Go.X
namespace Go.X
noncomputable section
open Go Go.RowKit
variable {w0 w w' : World} {φ φ' : Phi} {h h' : AH} {P : Program} {n : Nat} {t : T Value}
def known (f : FuncId) (call : Call1) : Call1 := fun an h => match an with
 | .enter g [] => if g = f then some [(.bool true, h)] else call an h
 | _ => call an h
theorem known_ok {f : FuncId} {call : Call1} (hf : ∀ W, Calls P f #[] W (YesPost W)) (hc : CallsOk w0 P call) : CallsOk w0 P (known f call) := by
 intro an h l φ w nx hs hr hnr
 unfold known at hs
 split at hs
 · rename_i g
   split at hs
   · rename_i hg
     subst hg
     cases hs
     cases hnr with
     | enter hl =>
      cases hl
      refine ⟨?_, fun _ _ _ _ _ e => by cases e⟩
      intro f' args e
      cases e
      refine Calls.mono (hf w) fun e w' he => ?_
      obtain ⟨rfl, hb⟩ := he
      exact ⟨_, rfl, .bool true, h, List.mem_singleton.2 rfl, φ, .refl φ h, hr.grown hb, .bool true⟩
   · exact hc _ _ _ _ _ _ hs hr hnr
 · exact hc _ _ _ _ _ _ hs hr hnr
end
end Go.X
namespace Go.X
noncomputable section
open Go Go.RowKit
variable {w0 w w' : World} {φ φ' : Phi} {h h' : AH} {P : Program} {n : Nat} {t : T Value}
end
end Go.X
namespace Go.X
noncomputable section
open Go Go.RowKit
variable {w0 w w' : World} {φ φ' : Phi} {h h' : AH} {P : Program} {n : Nat} {t : T Value}
end
end Go.X
namespace Go.X
noncomputable section
open Go Go.RowKit
variable {w0 w w' : World} {φ φ' : Phi} {h h' : AH} {P : Program} {n : Nat} {t : T Value}
namespace T
variable {α : Type}
def smart (l : T α) (v : Option α) (r : T α) : T α := match l, v, r with
 | .e, none, .e => .e
 | l, v, r => .n l v r
def del (t : T α) : Nat → T α := T.rec (motive := fun _ => Nat → T α) (fun _ => .e)
 (fun l v r dl dr k => Bool.rec (Bool.rec (smart (dl (Nat.sub (Nat.div k (nat_lit 2)) (nat_lit 1))) v r) (smart l v (dr (Nat.div k (nat_lit 2)))) (Nat.beq (Nat.mod k (nat_lit 2)) (nat_lit 1))) (smart l none r) (Nat.beq k (nat_lit 0))) t
end T
def blocksV : Nat → Value → List Nat
 | _, .pointer (some a) => [a.block]
 | _, .slice (some a) _ _ => [a.block]
 | _, .map (some r) => [r]
 | k + 1, .iface _ v => blocksV k v
 | k + 1, .agg ⟨l⟩ => l.flatMap (blocksV k)
 | k + 1, .tuple ⟨l⟩ => l.flatMap (blocksV k)
 | k + 1, .func _ ⟨l⟩ ⟨m⟩ => l.flatMap (blocksV k) ++ m.flatMap (blocksV k)
 | _, _ => []
def blocksT : T Value → List Nat
 | .e => []
 | .n l v r => blocksT l ++ ((match v with
  | some v => blocksV 9 v
  | none => []) ++ blocksT r)
def blocksO : AObj → List Nat
 | .cells c _ _ _ => blocksT c
 | .tcells _ c _ _ => blocksT c
 | .map es _ _ => es.flatMap fun e => blocksV 9 e.1 ++ blocksV 9 e.2.1
 | .bag es => es.flatMap fun e => blocksV 9 e.2
 | _ => []
def memN (k : Nat) : List Nat → Bool
 | [] => false
 | x :: l => if Nat.beq k x then true else memN k l
def reachF (h : AH) (lo : Nat) : Nat → List Nat → List Nat → List Nat
 | 0, _, done => done
 | _, [], done => done
 | f + 1, b :: todo, done => if Nat.ble lo b then (if memN b done then reachF h lo f todo done else (match h.m.get b with
  | some o => reachF h lo f (blocksO o ++ todo) (b :: done)
  | none => reachF h lo f todo done)) else reachF h lo f todo done
def delN (keep : List Nat) (lo : Nat) (k : Nat) (t : T AObj) : T AObj := Nat.rec (motive := fun _ => T AObj) t (fun i ih => match memN (Nat.add lo i) keep with
 | true => ih
 | false => ih.del (Nat.add lo i)) k
def dropAt (lo : Nat) (p : Value × AH) : Value × AH := (p.1, ⟨delN (reachF p.2 lo 10000 (blocksV 9 p.1) []) lo (Nat.sub p.2.next lo) p.2.m, p.2.next⟩)
def low (m : Option Nat) (q : Value × AH) : Value × AH := match m with
 | some lo => dropAt lo q
 | none => q
def markOf (D : List FuncId) (g : FuncId) (h : AH) : Option Nat := match memN g D with
 | true => some h.next
 | false => none
end
end Go.X
namespace Go.X
noncomputable section
open Go Go.RowKit
variable {w0 w w' : World} {φ φ' : Phi} {h h' : AH} {P : Program} {n : Nat} {t : T Value}
def kid (i : Nat) : Code → Code
 | .seq x y => if i = 0 then x else y
 | .cond _ x y => if i = 0 then x else y
 | .block _ x => x
 | .loop x => x
 | _ => .skip
def bodyOf (P : Program) (f : FuncId) : Code := match P.funcs[f]? with
 | some fn => (match fn.body with | some c => c | none => .skip)
 | none => .skip
def codeAt (P : Program) (f : FuncId) : List Nat → Code
 | [] => bodyOf P f
 | i :: p => kid i (codeAt P f p)
def numT (P : Program) (f : FuncId) : Nat := match P.funcs[f]? with
 | some fn => fn.ntmps
 | none => 0
def resOf (P : Program) (f : FuncId) : List ResultVar := match P.funcs[f]? with
 | some fn => fn.results.toList
 | none => []
inductive K where
 | seq (p : List Nat)
 | loop (p : List Nat) (k : Nat)
 | block (id : Nat)
structure Susp where
 f : FuncId
 lv : Nat
 p : List Nat
 i : Nat
 ks : List K
 t : T Value
 ds : List Nat
 lo : Option Nat
inductive M where
 | code (f : FuncId) (lv : Nat) (p : List Nat) (ks : List K) (t : T Value) (ds : List Nat) (h : AH) (st : List Susp)
 | ops (f : FuncId) (lv : Nat) (p : List Nat) (i : Nat) (ks : List K) (t : T Value) (ds : List Nat) (h : AH) (st : List Susp)
 | exit (f : FuncId) (lv : Nat) (ex : Ex) (ks : List K) (t : T Value) (ds : List Nat) (h : AH) (st : List Susp)
 | ret (v : Value) (h : AH) (st : List Susp)
variable (P) in
def regionOps (c : Code) : Array Oper := match c with
 | .region _ ops _ => ops
 | _ => #[]
section
variable (ov : Call1 → Call1) (P) (LF : Nat)
abbrev lvCall (lv : Nat) : Call1 := aRunW ov P LF lv
def dstOf (f : FuncId) (p : List Nat) (i : Nat) : Option Tmp := match (regionOps (codeAt P f p))[i]? with
 | some o => o.dst
 | none => none
def enters (E : List FuncId) (l : Option (List (AN × AH))) : Option (FuncId × List Value × AH) := match l with
 | some [(.enter g args, h')] => if E.contains g then some (g, args, h') else none
 | _ => none
def canEnter (g : FuncId) (args : List Value) : Bool := match P.funcs[g]? with
 | some fn => (match fn.body with
  | some _ => decide (args.length ≤ fn.ntmps)
  | none => false)
 | none => false
def calm (E : List FuncId) (ops : Array Oper) : Bool := ops.toList.all fun o => match o.op with
 | .call ⟨.value (.func g), _, _⟩ => !E.contains g
 | .call ⟨.value _, _, _⟩ => E.isEmpty
 | .call ⟨.invoke _ _, _, _⟩ => E.isEmpty
 | _ => true
def step1op (D E : List FuncId) (f : FuncId) (lv : Nat) (p : List Nat) (i : Nat) (ks : List K) (t : T Value) (ds : List Nat) (h : AH) (st : List Susp) (o : Oper) : Option M :=
 match aWant (numT P f) t (regionOps (codeAt P f p)) o with
 | true => (match enters E (aOp P (numT P f) t h o.op) with
  | some (g, args, h') => (match lv with
   | lv' + 1 => if canEnter P g args then some (.code g lv' [] [] (T.fill args 0 .e) [] h' (⟨f, lv' + 1, p, i, ks, t, ds, markOf D g h'⟩ :: st)) else none
   | 0 => none)
  | none => (match aStep P (lvCall P ov LF lv) (numT P f) t h o.op with
   | some [(v, h')] => (match aPut (numT P f) t o.dst v with
    | some t' => some (.ops f lv p (i + 1) ks t' ds h' st)
    | none => none)
   | _ => none))
 | false => (match aPut (numT P f) t o.dst undef with
  | some t' => some (.ops f lv p (i + 1) ks t' ds h st)
  | none => none)
def oneOut (f : FuncId) (lv : Nat) (ks : List K) (st : List Susp) : COuts → Option M
 | some [o] => some (.exit f lv o.ex ks o.t o.ds o.h st)
 | _ => none
def step (D E : List FuncId) : M → Option M
 | .code f lv p ks t ds h st => (match codeAt P f p with
  | .seq _ _ => some (.code f lv (0 :: p) (.seq (1 :: p) :: ks) t ds h st)
  | .cond c _ _ => (match aO (numT P f) t c with
   | some (.bool true) => some (.code f lv (0 :: p) ks t ds h st)
   | some (.bool false) => some (.code f lv (1 :: p) ks t ds h st)
   | _ => none)
  | .block id c => (match isRange c with
   | true => oneOut f lv ks st (aCode P (lvCall P ov LF lv) (numT P f) LF none (.block id c) t ds h)
   | false => some (.code f lv (0 :: p) (.block id :: ks) t ds h st))
  | .loop _ => (match LF with
   | k + 1 => some (.code f lv (0 :: p) (.loop (0 :: p) k :: ks) t ds h st)
   | 0 => none)
  | .region _ ops false => if calm E ops then oneOut f lv ks st (cRegion P (lvCall P ov LF lv) (numT P f) ops false t ds h) else some (.ops f lv p 0 ks t ds h st)
  | c => oneOut f lv ks st (aCode P (lvCall P ov LF lv) (numT P f) LF none c t ds h))
 | .ops f lv p i ks t ds h st => (match (regionOps (codeAt P f p))[i]? with
  | some o => step1op P ov LF D E f lv p i ks t ds h st o
  | none => some (.exit f lv .normal ks t ds h st))
 | .exit f lv ex ks t ds h st => (match ks with
  | [] => (match ex with
   | .exit _ => none
   | _ => (match aLeave ds h with
    | some h' => (match aRes P (numT P f) t h' (resOf P f) with
     | some v => some (.ret v h' st)
     | none => none)
    | none => none))
  | .seq p :: ks => (match ex with
   | .normal => some (.code f lv p ks t ds h st)
   | ex => some (.exit f lv ex ks t ds h st))
  | .loop p k :: ks => (match ex, k with
   | .normal, k + 1 => some (.code f lv p (.loop p k :: ks) t ds h st)
   | .normal, 0 => none
   | ex, _ => some (.exit f lv ex ks t ds h st))
  | .block id :: ks => (match ex with
   | .exit k => if k = id then some (.exit f lv .normal ks t ds h st) else some (.exit f lv (.exit k) ks t ds h st)
   | ex => some (.exit f lv ex ks t ds h st)))
 | .ret v h st => (match st with
  | [] => none
  | s :: st => (match aPut (numT P s.f) s.t (dstOf P s.f s.p s.i) v with
   | some t' => some (.ops s.f s.lv s.p (s.i + 1) s.ks t' s.ds (low s.lo (v, h)).2 st)
   | none => none))
end
section
variable (P : Program) (ov : Call1 → Call1) (LF : Nat) (D E : List FuncId)
end
def start (f : FuncId) (lv : Nat) (args : List Value) (h : AH) : M := .code f lv [] [] (T.fill args 0 .e) [] h []
end
end Go.X
namespace Go.X
noncomputable section
open Go Go.RowKit
variable {w0 w w' : World} {φ φ' : Phi} {h h' : AH} {P : Program} {n : Nat} {t : T Value}
end
end Go.X
namespace Go.X
noncomputable section
open Go Go.RowKit
variable {w0 w : World} {φ : Phi} {h : AH} {P : Program}
def ValPost (W : World) (v : Value) : Ending → World → Prop := fun e w' => e = .returned v ∧ Below W.heap.size W w'
abbrev VTab := List (List Value × Value)
structure VGood (P : Program) (f : FuncId) (t : VTab) : Prop where
 calls : ∀ a v, (a, v) ∈ t → ∀ W, Calls P f ⟨a⟩ W (ValPost W v)
 plain : ∀ a v, (a, v) ∈ t → a.all pfv = true ∧ pfv v = true
end
end Go.X
namespace Go.X
noncomputable section
open Go Go.RowKit
variable {w0 w w' : World} {φ φ' : Phi} {h h' : AH} {P : Program} {n : Nat} {t : T Value} {bs : List Deferred}
abbrev PEx := Value → T Value → List Nat → AH → Bool
def FP (φ : Phi) (n : Nat) (S : List Nat) (t : T Value) (a : Array Value) : Prop := a.size = n ∧ ∀ s v, s ∈ S → a[s]? = some v → VR φ (vt t s) v
def PPost (bs : List Deferred) (w0 : World) (φ : Phi) (h : AH) (n : Nat) (S : List Nat) (X : PEx) : Exit → Act → World → Prop := fun e a w =>
 ∃ u t' ds' h' u' φ', X u t' ds' h' = true ∧ e = .panic [{ v := u', recovered := false }] ∧ VR φ' u u' ∧ Nx φ φ' h h' ∧ R w0 φ' h' w ∧ FP φ' n S t' a.tmps ∧ DR bs φ' ds' a.defers
structure Way where
 r : Nat
 i : Nat
 m : Nat
theorem PPost.from {h0 : AH} {φ0 : Phi} {S : List Nat} {X : PEx} {e : Exit} {a : Act} (nx : Nx φ0 φ h0 h) (p : PPost bs w0 φ h n S X e a w) : PPost bs w0 φ0 h0 n S X e a w := by
 obtain ⟨u, t', ds', h', u', φ', h1, h2, h3, h4, rest⟩ := p; exact ⟨u, t', ds', h', u', φ', h1, h2, h3, nx.trans h4, rest⟩
end
end Go.X
namespace Go.X
noncomputable section
open Go Go.RowKit
variable {w0 w w' : World} {φ φ' : Phi} {h h' : AH} {P : Program} {n : Nat} {t : T Value} {bs : List Deferred}
structure DC (φ : Phi) (g : FuncId) (as : List Value) (bs : List Deferred) : Prop where
 ex : ∃ cap as1 as', bs = [{ target := .fn (.func g) cap, args := as1 }] ∧ as1 ++ cap = ⟨as'⟩ ∧ LR φ as as'
end
end Go.X
namespace Go.X
noncomputable section
open Go Go.RowKit
variable {w0 w w' : World} {φ φ' : Phi} {h h' : AH} {P : Program} {n : Nat} {t : T Value} {bs : List Deferred}
end
end Go.X
namespace Go.X
noncomputable section
open Go Go.RowKit
variable {w0 w : World} {φ : Phi} {h h' : AH} {P : Program}
end
end Go.X
