/- Parts of the closed evaluator. -/
import Derived.Test.YtjealfplbigphaaGreatZe
import Derived.RecoverIn
namespace Go.X
noncomputable section
open Go Go.RowKit
variable {w0 w w' : World} {φ φ' : Phi} {h h' : AH} {P : Program} {n : Nat} {t : T Value}
def known (f : FuncId) (call : Call1) : Call1 := fun an h => match an with
 | .enter g [] => if g = f then some [(.bool true, h)] else call an h
 | _ => call an h
theorem uy4 {f : FuncId} {call : Call1} (hf : ∀ W, Calls P f #[] W (YesPost W)) (hc : CallsOk w0 P call) : CallsOk w0 P (known f call) := by
 intro an h l φ w nx hs hr hnr
 unfold known at hs
 split at hs
 . rename_i g
   split at hs
   . rename_i hg
     subst hg
     cases hs
     cases hnr with
     | enter hl =>
      cases hl
      refine ⟨?_, fun _ _ _ _ _ e => by cases e⟩
      intro f' args e
      cases e
      refine Calls.mono (hf w) fun e w' he => ?_
      obtain ⟨rfl, hb⟩ := he
      exact ⟨_, rfl, .bool true, h, List.mem_singleton.2 rfl, φ, .refl φ h, hr.grown hb, .bool true⟩
   . exact hc _ _ _ _ _ _ hs hr hnr
 . exact hc _ _ _ _ _ _ hs hr hnr
end
end Go.X

namespace Go.X
noncomputable section
open Go Go.RowKit
variable {w0 w w' : World} {φ φ' : Phi} {h h' : AH} {P : Program} {n : Nat} {t : T Value}
def ov0 (call : Call1) : Call1 := call
theorem ov0_ok {call : Call1} (hc : CallsOk w0 P call) : CallsOk w0 P (ov0 call) := hc
end
end Go.X



namespace Go.X
noncomputable section
open Go Go.RowKit
variable {w0 w : World} {φ : Phi} {h : AH} {P : Program}
theorem LR.refl_of {l : List Value} (φ : Phi) (hp : l.all pfv = true) : LR φ l l := by
 induction l with
 | nil => exact .nil
 | cons x l ih =>
  simp only [List.all_cons, Bool.and_eq_true] at hp
  exact .cons (Z9 φ hp.1) (ih hp.2)
end
end Go.X

namespace Go.X
noncomputable section
open Go Go.RowKit
variable {w0 w w' : World} {φ φ' : Phi} {h h' : AH} {P : Program} {n : Nat} {t : T Value} {bs : List Deferred}
theorem LeavesInM.mono {fn : Func} {tmps : Array Value} {R R' : Ending -> World -> Prop} (hR : ∀ e w, R e w -> R' e w) : ∀ (ds : List Deferred) {u : FrameMode} {w : World}, LeavesInM Fence.wide 0 P fn tmps R ds u w -> LeavesInM Fence.wide 0 P fn tmps R' ds u w
 | [], u, w, h => by
  cases u with
  | returning => obtain ⟨v, h1, h2⟩ := h; exact ⟨v, h1, hR _ _ h2⟩
  | panicking ch => exact hR _ _ h
  | run => exact h
 | d :: ds, u, w, h => by
  obtain ⟨h1, h2⟩ := h
  refine ⟨h1, ?_⟩
  rcases h2 with ⟨r, w', a1, a2, a3⟩ | ⟨a0, fv, cap, f, args, a1, a2, a3, a4⟩
  . exact .inl ⟨r, w', a1, a2, LeavesInM.mono hR ds a3⟩
  . refine .inr ⟨a0, fv, cap, f, args, a1, a2, a3, CallsDIn.mono a4 ?_⟩
    intro e u' w' hh
    cases e with
    | returned v => exact LeavesInM.mono hR ds hh
    | panicked ch => exact LeavesInM.mono hR ds hh
    | outgrown => exact hR _ _ hh
end
end Go.X


namespace Go.X
noncomputable section
open Go Go.RowKit
variable {P : Program} {ops : Array Oper}
theorem Qu2 (hM : P.follows .mixedOrders = true) {Inv : (Nat -> Prop) -> Act -> World -> Prop} {id : Nat} {a : Act} {w : World} {q : Option Nat} {m : Nat} {Q : Exit -> Act -> World -> Prop}
   (hedge : ∀ (i : Nat) (o : Oper) (j : Nat), ops[i]? = some o -> j ∈ edgesOf o -> j < i)
   (step : ∀ (lst : Nat -> Prop) (a : Act) (w : World) (i : Nat) (o : Oper), ops[i]? = some o -> ¬ lst i -> (∀ j, j ∈ edgesOf o -> lst j) -> (∀ (i : Nat) (o : Oper), lst i -> ops[i]? = some o -> ∀ j, j ∈ edgesOf o -> lst j) -> Inv lst a w ->
    ∀ {K : Act -> World -> Prop}, (∀ a2 w2, Inv (fun j => lst j ∨ j = i) a2 w2 -> K a2 w2) -> wpOpIn (FW q) m P ops Q i K a w)
   (fin : ∀ (lst : Nat -> Prop) (a : Act) (w : World), (∀ j, j < ops.size -> lst j) -> Inv lst a w -> Q .normal a w)
   (h0 : Inv (fun _ => False) a w.drew) : (Code.region id ops true).wpIn (FW q) m P Q a w := by
 refine wpIn_region_any hM ?_
 have main : ∀ (fuel : Nat) (listed : Array Bool) (a' : Act) (w' : World), listed.size = ops.size -> listed.toList.countP (fun b => !b) = fuel ->
    (∀ (i : Nat) (o : Oper), listed.getD i false = true -> ops[i]? = some o -> ∀ j, j ∈ edgesOf o -> listed.getD j false = true) ->
    Inv (fun j => listed.getD j false = true) a' w' -> wpAnyIn (FW q) m P .any ops Q fuel listed a' w' := by
   intro fuel
   induction fuel with
   | zero =>
    intro listed a' w' hsz hcnt hcl inv
    have hall : ∀ j, j < ops.size -> listed.getD j false = true := by
      intro j hj
      have hj' : j < listed.size := by omega
      have := List.countP_eq_zero.1 hcnt (listed[j]) (by simp)
      rw [Array.getD_eq_getD_getElem?, Array.getElem?_eq_getElem hj']
      simpa using this
    refine ⟨?_, ?_⟩
    . cases hr : Region.ready .any ops listed with
      | nil => rfl
      | cons i r =>
        have hi : i ∈ Region.ready .any ops listed := by rw [hr]; simp
        obtain ⟨h1, o, ho, _⟩ := mem_ready.1 hi
        have := hall i (Array.getElem?_eq_some_iff.1 ho).1
        have hi' : i < listed.size := by rw [hsz]; exact (Array.getElem?_eq_some_iff.1 ho).1
        rw [Array.getD_eq_getD_getElem?, Array.getElem?_eq_getElem hi'] at h1 this
        simp at h1 this
        rw [h1] at this; cases this
    . exact fin _ a' w' hall inv
   | succ fuel ih =>
    intro listed a' w' hsz hcnt hcl inv
    refine ⟨fun hr => ?_, fun i hi => ?_⟩
    . exfalso
      have hex : ∃ j, j < listed.size /\ listed.getD j true = false := by
        have hpos : 0 < listed.toList.countP (fun b => !b) := by omega
        obtain ⟨x, hx, hb⟩ := List.countP_pos_iff.1 hpos
        obtain ⟨j, hj, e⟩ := List.getElem_of_mem hx
        refine ⟨j, by simpa using hj, ?_⟩
        rw [Array.getD_eq_getD_getElem?, Array.getElem?_eq_getElem (by simpa using hj)]
        simp at hb e ⊢
        rw [e, hb]
      have least : ∀ {p : Nat -> Prop}, (∃ m, p m) -> ∃ m, p m /\ ∀ k, p k -> m ≤ k := by
        intro p hx
        obtain ⟨m, hm⟩ := hx
        induction m using Nat.strongRecOn with
        | _ m ih =>
          by_cases hx : ∃ k, k < m /\ p k
          . obtain ⟨k, hk, hp⟩ := hx; exact ih k hk hp
          . exact ⟨m, hm, fun k hp => by
             rcases Nat.lt_or_ge k m with h | h
             . exact (hx ⟨k, h, hp⟩).elim
             . exact h⟩
      obtain ⟨j, ⟨hj, hf'⟩, hmin⟩ := least hex
      have hjo : j < ops.size := by omega
      have : j ∈ Region.ready .any ops listed := mem_ready.2 ⟨hf', ops[j], Array.getElem?_eq_getElem hjo, fun e he hb => by
        have hin : e.on ∈ edgesOf ops[j] := by
          unfold edgesOf
          exact List.mem_map.2 ⟨e, List.mem_filter.2 ⟨by simpa using he, hb⟩, rfl⟩
        have hlt := hedge j _ e.on (Array.getElem?_eq_getElem hjo) hin
        have hl' : e.on < listed.size := by omega
        cases hv : listed.getD e.on false with
        | true => rfl
        | false =>
          have : listed.getD e.on true = false := by
            rw [Array.getD_eq_getD_getElem?, Array.getElem?_eq_getElem hl'] at hv ⊢
            simpa using hv
          have := hmin e.on ⟨hl', this⟩
          omega⟩
      rw [hr] at this; simp at this
    . obtain ⟨hun, o, ho, haft⟩ := mem_ready.1 hi
      have hil : i < listed.size := by rw [hsz]; exact (Array.getElem?_eq_some_iff.1 ho).1
      have hun' : ¬ listed.getD i false = true := by
        rw [Array.getD_eq_getD_getElem?, Array.getElem?_eq_getElem hil] at hun ⊢
        simp at hun ⊢
        exact hun
      have hrd : ∀ j, j ∈ edgesOf o -> listed.getD j false = true := by
        intro j hj
        unfold edgesOf at hj
        obtain ⟨e, he, rfl⟩ := List.mem_map.1 hj
        obtain ⟨h5, h6⟩ := List.mem_filter.1 he
        exact haft e (by simpa using h5) h6
      have hset : (fun j => (listed.setIfInBounds i true).getD j false = true) = fun j => listed.getD j false = true ∨ j = i := by
        funext j
        apply propext
        by_cases e : j = i
        . subst e
          simp [Array.getD_eq_getD_getElem?, hil]
        . rw [getD_set_ne false (fun x => e x.symm)]
          simp [e]
      refine step _ a' w' i o ho hun' hrd hcl inv (fun a2 w2 inv2 => ?_)
      refine ih _ a2 w2 (by simp [hsz]) ?_ ?_ (by rw [hset]; exact inv2)
      . have := zv8 hun; omega
      . intro k o' hk ho' j hj
        have h5 : listed.getD k false = true ∨ k = i := by rw [<- congrFun hset k]; exact hk
        have h6 : listed.getD j false = true := by
          rcases h5 with h5 | h5
          . exact hcl k o' h5 ho' j hj
          . subst h5
            rw [ho] at ho'; cases ho'
            exact hrd j hj
        have : listed.getD j false = true ∨ j = i := .inl h6
        rw [<- congrFun hset j] at this
        exact this
 have hz : ∀ j, (Array.replicate ops.size false).getD j false = false := by
   intro j
   rw [Array.getD_eq_getD_getElem?, Array.getElem?_replicate]
   split <;> rfl
 refine main _ _ a _ (by simp) ?_ (fun i o hi => by rw [hz] at hi; cases hi) ?_
 . rw [Array.toList_replicate, List.countP_replicate]
   simp
 . have : (fun j => (Array.replicate ops.size false).getD j false = true) = fun _ => False := by
    funext j
    rw [hz]
    simp
   rw [this]
   exact h0
end
end Go.X
