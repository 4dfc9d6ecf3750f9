/- The closed evaluator, part Y: a machine with small steps: what a long evaluation comes to, in pieces. -/
import Derived.Test.YtdaedcoolcicoaaXW
namespace Go.X
noncomputable section
open Go Go.RowKit
variable {w0 w w' : World} {φ φ' : Phi} {h h' : AH} {P : Program} {n : Nat} {t : T Value}

theorem go_append {α β : Type} (f : α → Option (List β)) : ∀ (l m : List α), bindL.go f (l ++ m) = joinL (bindL.go f l) (bindL.go f m)
  | [], m => by
    show bindL.go f m = joinL (some []) (bindL.go f m)
    cases bindL.go f m <;> rfl
  | [a], [] => by
    show f a = joinL (f a) (some [])
    cases f a with
    | none => rfl
    | some x => simp [joinL]
  | [a], b :: m => rfl
  | a :: b :: l, m => by
    have ih := go_append f (b :: l) m
    show joinL (f a) (bindL.go f (b :: (l ++ m))) = joinL (joinL (f a) (bindL.go f (b :: l))) (bindL.go f m)
    rw [show b :: (l ++ m) = (b :: l) ++ m from rfl, ih]
    cases f a <;> cases bindL.go f (b :: l) <;> cases bindL.go f m <;> simp [joinL]
theorem bindL_go_assoc {α β γ : Type} (f : α → Option (List β)) (g : β → Option (List γ)) : ∀ (l : List α), bindL (bindL.go f l) g = bindL.go (fun a => bindL (f a) g) l
  | [] => rfl
  | [a] => rfl
  | a :: b :: l => by
    have ih := bindL_go_assoc f g (b :: l)
    show bindL (joinL (f a) (bindL.go f (b :: l))) g = joinL (bindL (f a) g) (bindL.go (fun a => bindL (f a) g) (b :: l))
    rw [← ih]
    cases f a with
    | none => cases bindL.go f (b :: l) <;> rfl
    | some x => cases bindL.go f (b :: l) with
      | none =>
        show none = joinL (bindL.go g x) none
        cases bindL.go g x <;> rfl
      | some y => exact go_append g x y
theorem bindL_assoc {α β γ : Type} (x : Option (List α)) (f : α → Option (List β)) (g : β → Option (List γ)) : bindL (bindL x f) g = bindL x (fun a => bindL (f a) g) := by
  cases x with
  | none => rfl
  | some l => exact bindL_go_assoc f g l
theorem bindL_one {α β : Type} (a : α) (f : α → Option (List β)) : bindL (some [a]) f = f a := rfl

/-- A part of a code, by the way to it (the last turn first). -/
def kid (i : Nat) : Code → Code
  | .seq x y => if i = 0 then x else y
  | .cond _ x y => if i = 0 then x else y
  | .block _ x => x
  | .loop x => x
  | _ => .skip
def bodyOf (P : Program) (f : FuncId) : Code := match P.funcs[f]? with
  | some fn => (match fn.body with | some c => c | none => .skip)
  | none => .skip
def codeAt (P : Program) (f : FuncId) : List Nat → Code
  | [] => bodyOf P f
  | i :: p => kid i (codeAt P f p)
def numT (P : Program) (f : FuncId) : Nat := match P.funcs[f]? with
  | some fn => fn.ntmps
  | none => 0
def resOf (P : Program) (f : FuncId) : List ResultVar := match P.funcs[f]? with
  | some fn => fn.results.toList
  | none => []
inductive K where
  | seq (p : List Nat)
  | loop (p : List Nat) (k : Nat)
  | block (id : Nat)
structure Susp where
  f : FuncId
  lv : Nat
  p : List Nat
  i : Nat
  ks : List K
  t : T Value
  ds : List Nat
inductive M where
  | code (f : FuncId) (lv : Nat) (p : List Nat) (ks : List K) (t : T Value) (ds : List Nat) (h : AH) (st : List Susp)
  | ops (f : FuncId) (lv : Nat) (p : List Nat) (i : Nat) (ks : List K) (t : T Value) (ds : List Nat) (h : AH) (st : List Susp)
  | exit (f : FuncId) (lv : Nat) (ex : Ex) (ks : List K) (t : T Value) (ds : List Nat) (h : AH) (st : List Susp)
  | ret (v : Value) (h : AH) (st : List Susp)

variable (P) in
def regionOps (c : Code) : Array Oper := match c with
  | .region _ ops _ => ops
  | _ => #[]
abbrev Res := Option (List (Value × AH))
section
variable (ov : Call1 → Call1) (P) (LF : Nat)
abbrev lvCall (lv : Nat) : Call1 := aRunW ov P LF lv
def finish (f : FuncId) (next : Value × AH → Res) (o : Out) : Res := match o.ex with
  | .exit _ => none
  | _ => (match aLeave o.ds o.h with
    | some h' => (match aRes P (numT P f) o.t h' (resOf P f) with
      | some v => next (v, h')
      | none => none)
    | none => none)
def semK (f : FuncId) (lv : Nat) (next : Value × AH → Res) : List K → Out → Res
  | [], o => finish P f next o
  | .seq p :: ks, o => bindL (thenX (aCode P (lvCall P ov LF lv) (numT P f) LF none (codeAt P f p)) o) (semK f lv next ks)
  | .loop p k :: ks, o => bindL (thenX (aLoop (aCode P (lvCall P ov LF lv) (numT P f) LF none (codeAt P f p)) k) o) (semK f lv next ks)
  | .block id :: ks, o => bindL (outX id o) (semK f lv next ks)
def semOps (f : FuncId) (lv : Nat) (p : List Nat) (i : Nat) (t : T Value) (ds : List Nat) (h : AH) (k : Out → Res) : Res :=
  bindL (aOps P (lvCall P ov LF lv) (numT P f) (regionOps (codeAt P f p)) ((regionOps (codeAt P f p)).toList.drop i) t h) fun q => k ⟨.normal, q.1, ds, q.2⟩
def dstOf (f : FuncId) (p : List Nat) (i : Nat) : Option Tmp := match (regionOps (codeAt P f p))[i]? with
  | some o => o.dst
  | none => none
def semR : List Susp → Value × AH → Res
  | [], q => some [q]
  | s :: st, q => (match aPut (numT P s.f) s.t (dstOf P s.f s.p s.i) q.1 with
    | some t' => semOps P ov LF s.f s.lv s.p (s.i + 1) t' s.ds q.2 (semK P ov LF s.f s.lv (semR st) s.ks)
    | none => none)
def semM : M → Res
  | .code f lv p ks t ds h st => bindL (aCode P (lvCall P ov LF lv) (numT P f) LF none (codeAt P f p) t ds h) (semK P ov LF f lv (semR P ov LF st) ks)
  | .ops f lv p i ks t ds h st => semOps P ov LF f lv p i t ds h (semK P ov LF f lv (semR P ov LF st) ks)
  | .exit f lv ex ks t ds h st => semK P ov LF f lv (semR P ov LF st) ks ⟨ex, t, ds, h⟩
  | .ret v h st => semR P ov LF st (v, h)

/-- The calls that are entered. -/
def enters (E : List FuncId) (l : Option (List (AN × AH))) : Option (FuncId × List Value × AH) := match l with
  | some [(.enter g args, h')] => if E.contains g then some (g, args, h') else none
  | _ => none
def canEnter (g : FuncId) (args : List Value) : Bool := match P.funcs[g]? with
  | some fn => (match fn.body with
    | some _ => decide (args.length ≤ fn.ntmps ∧ fn.ntmps ≤ T.top)
    | none => false)
  | none => false
def calm (E : List FuncId) (ops : Array Oper) : Bool := ops.toList.all fun o => match o.op with
  | .call ⟨.value (.func g), _, _⟩ => !E.contains g
  | .call ⟨.value _, _, _⟩ => E.isEmpty
  | .call ⟨.invoke _ _, _, _⟩ => E.isEmpty
  | _ => true
def step1op (E : List FuncId) (f : FuncId) (lv : Nat) (p : List Nat) (i : Nat) (ks : List K) (t : T Value) (ds : List Nat) (h : AH) (st : List Susp) (o : Oper) : Option M :=
  match aWant (numT P f) t (regionOps (codeAt P f p)) o with
  | true => (match enters E (aOp P (numT P f) t h o.op) with
    | some (g, args, h') => (match lv with
      | lv' + 1 => if canEnter P g args then some (.code g lv' [] [] (T.fill args 0 .e) [] h' (⟨f, lv' + 1, p, i, ks, t, ds⟩ :: st)) else none
      | 0 => none)
    | none => (match aStep P (lvCall P ov LF lv) (numT P f) t h o.op with
      | some [(v, h')] => (match aPut (numT P f) t o.dst v with
        | some t' => some (.ops f lv p (i + 1) ks t' ds h' st)
        | none => none)
      | _ => none))
  | false => (match aPut (numT P f) t o.dst undef with
    | some t' => some (.ops f lv p (i + 1) ks t' ds h st)
    | none => none)
def oneOut (f : FuncId) (lv : Nat) (ks : List K) (st : List Susp) : COuts → Option M
  | some [o] => some (.exit f lv o.ex ks o.t o.ds o.h st)
  | _ => none
def step (E : List FuncId) : M → Option M
  | .code f lv p ks t ds h st => (match codeAt P f p with
    | .seq _ _ => some (.code f lv (0 :: p) (.seq (1 :: p) :: ks) t ds h st)
    | .cond c _ _ => (match aO (numT P f) t c with
      | some (.bool true) => some (.code f lv (0 :: p) ks t ds h st)
      | some (.bool false) => some (.code f lv (1 :: p) ks t ds h st)
      | _ => none)
    | .block id _ => some (.code f lv (0 :: p) (.block id :: ks) t ds h st)
    | .loop _ => (match LF with
      | k + 1 => some (.code f lv (0 :: p) (.loop (0 :: p) k :: ks) t ds h st)
      | 0 => none)
    | .region _ ops false => if calm E ops then oneOut f lv ks st (cRegion P (lvCall P ov LF lv) (numT P f) ops false t ds h) else some (.ops f lv p 0 ks t ds h st)
    | c => oneOut f lv ks st (aCode P (lvCall P ov LF lv) (numT P f) LF none c t ds h))
  | .ops f lv p i ks t ds h st => (match (regionOps (codeAt P f p))[i]? with
    | some o => step1op P ov LF E f lv p i ks t ds h st o
    | none => some (.exit f lv .normal ks t ds h st))
  | .exit f lv ex ks t ds h st => (match ks with
    | [] => (match ex with
      | .exit _ => none
      | _ => (match aLeave ds h with
        | some h' => (match aRes P (numT P f) t h' (resOf P f) with
          | some v => some (.ret v h' st)
          | none => none)
        | none => none))
    | .seq p :: ks => (match ex with
      | .normal => some (.code f lv p ks t ds h st)
      | ex => some (.exit f lv ex ks t ds h st))
    | .loop p k :: ks => (match ex, k with
      | .normal, k + 1 => some (.code f lv p (.loop p k :: ks) t ds h st)
      | .normal, 0 => none
      | ex, _ => some (.exit f lv ex ks t ds h st))
    | .block id :: ks => (match ex with
      | .exit k => if k = id then some (.exit f lv .normal ks t ds h st) else some (.exit f lv (.exit k) ks t ds h st)
      | ex => some (.exit f lv ex ks t ds h st)))
  | .ret v h st => (match st with
    | [] => none
    | s :: st => (match aPut (numT P s.f) s.t (dstOf P s.f s.p s.i) v with
      | some t' => some (.ops s.f s.lv s.p (s.i + 1) s.ks t' s.ds h st)
      | none => none))
end

theorem loop_codeAt {P : Program} {f : FuncId} {p : List Nat} {x : Code} (hc : codeAt P f p = .loop x) (i : Nat) : codeAt P f (i :: p) = x := by
  show kid i (codeAt P f p) = x
  rw [hc]; rfl

theorem oneOut_ok {ov : Call1 → Call1} {LF : Nat} {f : FuncId} {lv : Nat} {ks : List K} {st : List Susp} {x : COuts} {m' : M} (hs : oneOut f lv ks st x = some m') :
    semM P ov LF m' = bindL x (semK P ov LF f lv (semR P ov LF st) ks) := by
  unfold oneOut at hs
  split at hs
  · cases hs; rfl
  · cases hs

theorem step_sem {ov : Call1 → Call1} {LF : Nat} {E : List FuncId} (hE : ∀ g, E.contains g = true → ∀ c args h, ov c (.enter g args) h = c (.enter g args) h) {m m' : M} (hs : step P ov LF E m = some m') :
    semM P ov LF m = semM P ov LF m' := by
  cases m with
  | code f lv p ks t ds h st =>
    simp only [step] at hs
    split at hs
    · rename_i x y hc
      cases hs
      have e0 : codeAt P f (0 :: p) = x := by show kid 0 (codeAt P f p) = x; rw [hc]; rfl
      have e1 : codeAt P f (1 :: p) = y := by show kid 1 (codeAt P f p) = y; rw [hc]; rfl
      simp only [semM, semK, e0, e1, hc]
      exact bindL_assoc _ _ _
    · rename_i c x y hc
      have e0 : codeAt P f (0 :: p) = x := by show kid 0 (codeAt P f p) = x; rw [hc]; rfl
      have e1 : codeAt P f (1 :: p) = y := by show kid 1 (codeAt P f p) = y; rw [hc]; rfl
      split at hs
      · rename_i ho
        cases hs
        simp only [semM, hc, e0]
        congr 1
        show cCond _ c _ _ t ds h = _
        simp only [cCond, ho]
        rfl
      · rename_i ho
        cases hs
        simp only [semM, hc, e1]
        congr 1
        show cCond _ c _ _ t ds h = _
        simp only [cCond, ho]
        rfl
      · cases hs
    · rename_i id x hc
      cases hs
      have e0 : codeAt P f (0 :: p) = x := by show kid 0 (codeAt P f p) = x; rw [hc]; rfl
      simp only [semM, semK, hc, e0]
      exact bindL_assoc _ _ _
    · rename_i x hc
      split at hs
      · rename_i k
        cases hs
        have e0 : codeAt P f (0 :: p) = x := loop_codeAt hc 0
        simp only [semM, semK, hc, e0]
        exact bindL_assoc _ _ _
      · cases hs
    · rename_i id ops hc
      split at hs
      · rw [oneOut_ok hs]
        simp only [semM, hc]
        rfl
      · cases hs
        simp only [semM, semOps, hc, regionOps, List.drop_zero]
        show bindL (cRegion _ _ _ ops false t ds h) _ = _
        unfold cRegion
        rw [bindL_assoc]
        rfl
    · rw [oneOut_ok hs]
      rfl
  | ops f lv p i ks t ds h st =>
    simp only [step] at hs
    split at hs
    · rename_i o ho
      have hdrop : (regionOps (codeAt P f p)).toList.drop i = o :: (regionOps (codeAt P f p)).toList.drop (i + 1) := by
        have h1 : (regionOps (codeAt P f p)).toList[i]? = some o := by rw [Array.getElem?_toList]; exact ho
        obtain ⟨hlt, he⟩ := List.getElem?_eq_some_iff.1 h1
        rw [List.drop_eq_getElem_cons hlt, he]
      have hsem : semM P ov LF (.ops f lv p i ks t ds h st) = bindL (opsStep P (lvCall P ov LF lv) (numT P f) (regionOps (codeAt P f p)) o (aOps P (lvCall P ov LF lv) (numT P f) (regionOps (codeAt P f p)) ((regionOps (codeAt P f p)).toList.drop (i + 1))) t h) (fun q => semK P ov LF f lv (semR P ov LF st) ks ⟨.normal, q.1, ds, q.2⟩) := by
        simp only [semM, semOps, hdrop]; rfl
      rw [hsem]
      unfold step1op at hs
      unfold opsStep
      split at hs
      · rename_i hw
        rw [hw]
        split at hs
        · rename_i g args h1 hen
          cases lv with
          | zero => cases hs
          | succ lv' =>
          dsimp only at hs
          split at hs
          · rename_i hce
            cases hs
            unfold enters at hen
            split at hen
            · rename_i g' args' h2 hao
              split at hen
              · rename_i hg
                simp only [Option.some.injEq, Prod.mk.injEq] at hen
                obtain ⟨rfl, rfl, rfl⟩ := hen
                have hst : aStep P (lvCall P ov LF (lv' + 1)) (numT P f) t h o.op = aFun P LF (lvCall P ov LF lv') (.enter g' args') h2 := by
                  unfold aStep
                  rw [hao]
                  exact hE g' hg _ args' h2
                rw [hst]
                have hdst : dstOf P f p i = o.dst := by unfold dstOf; rw [ho]
                simp only [canEnter] at hce
                simp only [semM, codeAt, bodyOf, numT]
                unfold aFun
                split at hce
                · rename_i fn hfn
                  split at hce
                  · rename_i c hb
                    simp only [decide_eq_true_eq] at hce
                    dsimp only
                    rw [hfn]
                    simp only [hb]
                    rw [if_pos hce, bindL_assoc, bindL_assoc]
                    congr 1
                    funext o1
                    obtain ⟨ex, t1, ds1, h3⟩ := o1
                    simp only [semK, finish, numT, resOf, hfn]
                    have fin : ∀ (X : Option AH), bindL (bindL (match X with
                          | some h' => (match aRes P fn.ntmps t1 h' fn.results.toList with
                            | some v => some [(v, h')]
                            | none => none)
                          | none => none) (fun p1 => (Option.rec (motive := fun _ => Option (List (T Value × AH))) none (fun t' => aOps P (lvCall P ov LF (lv' + 1)) (match P.funcs[f]? with | some fn => fn.ntmps | none => 0) (regionOps (codeAt P f p)) ((regionOps (codeAt P f p)).toList.drop (i + 1)) t' p1.2) (aPut (match P.funcs[f]? with | some fn => fn.ntmps | none => 0) t o.dst p1.1)))) (fun q => semK P ov LF f (lv' + 1) (semR P ov LF st) ks ⟨.normal, q.1, ds, q.2⟩) = (match X with
                          | some h' => (match aRes P fn.ntmps t1 h' fn.results.toList with
                            | some v => semR P ov LF (⟨f, lv' + 1, p, i, ks, t, ds⟩ :: st) (v, h')
                            | none => none)
                          | none => none) := by
                      intro X
                      cases X with
                      | none => rfl
                      | some h' =>
                        dsimp only
                        cases aRes P fn.ntmps t1 h' fn.results.toList with
                        | none => rfl
                        | some v =>
                          dsimp only
                          rw [bindL_one]
                          simp only [semR, hdst, numT]
                          cases aPut (match P.funcs[f]? with | some fn => fn.ntmps | none => 0) t o.dst v with
                          | none => rfl
                          | some t' => rfl
                    cases ex with
                    | exit id => rfl
                    | normal => rw [← bindL_assoc]; exact fin _
                    | ret => rw [← bindL_assoc]; exact fin _
                  · cases hce
                · cases hce
              · cases hen
            · cases hen
          · cases hs
        · split at hs
          · rename_i v h1 hst
            split at hs
            · rename_i t' hp
              cases hs
              show bindL (bindL (aStep P (lvCall P ov LF lv) (numT P f) t h o.op) _) _ = _
              rw [hst, bindL_one]
              dsimp only
              rw [hp]
              rfl
            · cases hs
          · cases hs
      · rename_i hw
        rw [hw]
        split at hs
        · rename_i t' hp
          cases hs
          rw [hp]
          rfl
        · cases hs
    · rename_i ho
      cases hs
      have hdrop : (regionOps (codeAt P f p)).toList.drop i = [] := by
        have h1 : (regionOps (codeAt P f p)).toList[i]? = none := by rw [Array.getElem?_toList]; exact ho
        exact List.drop_eq_nil_of_le (List.getElem?_eq_none_iff.1 h1)
      simp only [semM, semOps, hdrop]
      rfl
  | exit f lv ex ks t ds h st =>
    simp only [step] at hs
    split at hs
    · split at hs
      · cases hs
      · rename_i hne
        split at hs
        · rename_i h1 hl
          split at hs
          · rename_i v hv
            cases hs
            cases ex with
            | exit id => exact (hne _ rfl).elim
            | normal => simp only [semM, semK, finish, hl, hv]
            | ret => simp only [semM, semK, finish, hl, hv]
          · cases hs
        · cases hs
    · rename_i p ks
      split at hs
      · cases hs; rfl
      · rename_i hne
        cases hs
        cases ex with
        | normal => exact (hne rfl).elim
        | exit id => rfl
        | ret => rfl
    · rename_i p k ks
      split at hs
      · cases hs
        simp only [semM, semK]
        exact bindL_assoc _ _ _
      · cases hs
      · rename_i hne1 hne0
        cases hs
        cases ex with
        | normal =>
          cases k with
          | zero => exact (hne0 rfl rfl).elim
          | succ k => exact (hne1 _ rfl rfl).elim
        | exit id => rfl
        | ret => rfl
    · rename_i id ks
      split at hs
      · rename_i k
        split at hs
        · rename_i he
          cases hs
          simp only [semM, semK, outX]
          subst he
          rw [beq_nat, if_pos rfl]; rfl
        · rename_i he
          cases hs
          simp only [semM, semK, outX]
          rw [beq_nat, if_neg he]; rfl
      · rename_i hne
        cases hs
        cases ex with
        | exit id' => exact (hne _ rfl).elim
        | normal => rfl
        | ret => rfl
  | ret v h st =>
    simp only [step] at hs
    split at hs
    · cases hs
    · rename_i s st
      split at hs
      · rename_i t' hp
        cases hs
        simp only [semM, semR, hp]
      · cases hs

section
variable (P : Program) (ov : Call1 → Call1) (LF : Nat) (E : List FuncId)
def mrun (k : Nat) : M → Option M := Nat.rec (motive := fun _ => M → Option M) some (fun _ ih m => Option.rec (motive := fun _ => Option M) none ih (step P ov LF E m)) k
end
theorem mrun_sem {ov : Call1 → Call1} {LF : Nat} {E : List FuncId} (hE : ∀ g, E.contains g = true → ∀ c args h, ov c (.enter g args) h = c (.enter g args) h) : ∀ (k : Nat) {m m' : M}, mrun P ov LF E k m = some m' → semM P ov LF m = semM P ov LF m'
  | 0, m, m', hs => by cases hs; rfl
  | k + 1, m, m', hs => by
    cases h1 : step P ov LF E m with
    | none =>
      have : (Option.rec (motive := fun _ => Option M) none (mrun P ov LF E k) (step P ov LF E m) : Option M) = some m' := hs
      rw [h1] at this; cases this
    | some m1 =>
      have : (Option.rec (motive := fun _ => Option M) none (mrun P ov LF E k) (step P ov LF E m) : Option M) = some m' := hs
      rw [h1] at this
      exact (step_sem hE h1).trans (mrun_sem hE k this)
/-- What the machine starts with. -/
def start (f : FuncId) (lv : Nat) (args : List Value) (h : AH) : M := .code f lv [] [] (T.fill args 0 .e) [] h []
theorem sem_start {ov : Call1 → Call1} {LF lv : Nat} {f : FuncId} {args : List Value} {h : AH} (hc : canEnter P f args = true) : semM P ov LF (start f lv args h) = aFun P LF (lvCall P ov LF lv) (.enter f args) h := by
  unfold canEnter at hc
  simp only [start, semM, codeAt, bodyOf, numT]
  unfold aFun
  split at hc
  · rename_i fn hfn
    split at hc
    · rename_i c hb
      simp only [decide_eq_true_eq] at hc
      dsimp only
      rw [hfn]
      simp only [hb]
      rw [if_pos hc]
      congr 1
      funext o
      simp only [semK, finish, numT, resOf, hfn]
      rfl
    · cases hc
  · cases hc
theorem yes_of_machine (hN : NoCount P) (hM : P.follows .mixedOrders = true) {ov : Call1 → Call1} (hov : ∀ w0 call, CallsOk w0 P call → CallsOk w0 P (ov call)) {LF lv : Nat} {f : FuncId} {h : AH} (hc : canEnter P f [] = true)
    (hs : semM P ov LF (start f lv [] ah0) = semM P ov LF (.ret (.bool true) h [])) (W : World) : Calls P f #[] W (YesPost W) := by
  rw [sem_start hc] at hs
  have hcc := (fun_ok (w0 := W) hN hM LF (runW_callsOk hN hM LF (hov W) lv) _ _ _ none0 W (.enter f ⟨[]⟩) hs (R.first W) (.enter .nil)).1 _ _ rfl
  refine Calls.mono hcc fun e w' he => ?_
  obtain ⟨v', rfl, v, h', hm, φ', _, hr, hv⟩ := he
  cases List.mem_singleton.1 hm
  cases hv
  exact ⟨rfl, hr.below⟩
end
end Go.X
