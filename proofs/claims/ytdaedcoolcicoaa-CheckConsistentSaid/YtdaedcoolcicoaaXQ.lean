/- The closed evaluator, part Q: regions that draw their order are evaluated rightly (3). -/
import Derived.Test.YtdaedcoolcicoaaXP
namespace Go.X
noncomputable section
open Go Go.RowKit
variable {w0 w w' : World} {φ φ' φ0 : Phi} {h h' h0 h1 h2 : AH} {P : Program} {n : Nat} {t t' tb t1 t2 : T Value} {ops : Array Oper} {ls ms : List Nat}

theorem fin_inv (hn : n ≤ T.top) {call : Call1} {d0 : List Deferred} {l : List (T Value × AH)} {lst : Nat → Prop} {a : Act} (hall : ∀ j, j < ops.size → lst j) (inv : Inv w0 P call n ops ls ms φ0 h0 tb d0 l lst a w) :
    ∃ t' h' φ', (t', h') ∈ l ∧ Nx φ0 φ' h0 h' ∧ R w0 φ' h' w ∧ FR φ' n t' a.tmps ∧ a.defers = d0 := by
  obtain ⟨k, L, seen, t1, h1, lo, φ, b, hcont, hsub, c, k2⟩ := inv
  have hnone : lvE ops ls L = none := by
    unfold lvE
    rw [List.find?_eq_none]
    intro e he hh
    simp only [Bool.and_eq_true, decide_eq_true_eq] at hh
    have hlt := List.mem_range.1 he
    rcases c.ld e hlt (hall e hlt) with h5 | h5
    · omega
    · rw [hh.1] at h5; cases h5.1
  unfold aCont at hcont
  rw [hnone] at hcont
  cases hcont
  refine ⟨t1, h1, φ, hsub _ (List.mem_singleton.2 rfl), c.nx, c.r, ⟨c.size, hn, fun s u hu => ?_⟩, c.df⟩
  by_cases e : ∃ j, dstAt ops j = some s
  · obtain ⟨j, hd⟩ := e
    exact c.fw s u j hu (hall j (dstAt_lt hd)) hd
  · have h5 := c.tt s (fun j hd => (e ⟨j, hd⟩).elim)
    unfold vt at h5
    rw [h5]
    exact c.fb s u hu (fun j _ hd => e ⟨j, hd⟩)
theorem draw_ok (hN : NoCount P) (hM : P.follows .mixedOrders = true) {call : Call1} (hc : CallsOk w0 P call) {id : Nat} {l : List (T Value × AH)} {a : Act} {q : Option Nat} {m : Nat} {Q : Exit → Act → World → Prop}
    (hs : aDraw P call n ops t h = some l) (hr : R w0 φ h w) (hf : FR φ n t a.tmps)
    (hQ : ∀ t' h' φ' (a' : Act) w', (t', h') ∈ l → Nx φ φ' h h' → R w0 φ' h' w' → FR φ' n t' a'.tmps → a'.defers = a.defers → Q .normal a' w') : (Code.region id ops true).wpIn (FW q) m P Q a w := by
  unfold aDraw at hs
  split at hs
  · rename_i hp
    have sp := plan_spec hp
    have hn := hf.lt
    generalize levL ops = ls at hs sp
    generalize maskL ops = ms at hs sp
    refine wpIn_region_any hM ?_
    have main : ∀ (fuel : Nat) (listed : Array Bool) (a' : Act) (w' : World), listed.size = ops.size → listed.toList.countP (fun b => !b) = fuel →
        (∀ (i : Nat) (o : Oper), listed.getD i false = true → ops[i]? = some o → ∀ j, j ∈ edgesOf o → listed.getD j false = true) →
        Inv w0 P call n ops ls ms φ h t a.defers l (fun j => listed.getD j false = true) a' w' → wpAnyIn (FW q) m P .any ops Q fuel listed a' w' := by
      intro fuel
      induction fuel with
      | zero =>
        intro listed a' w' hsz hcnt hcl inv
        have hall : ∀ j, j < ops.size → listed.getD j false = true := by
          intro j hj
          have hj' : j < listed.size := by omega
          have := List.countP_eq_zero.1 hcnt (listed[j]) (by simp)
          rw [Array.getD_eq_getD_getElem?, Array.getElem?_eq_getElem hj']
          simpa using this
        refine ⟨?_, ?_⟩
        · cases hr : Region.ready .any ops listed with
          | nil => rfl
          | cons i r =>
            have hi : i ∈ Region.ready .any ops listed := by rw [hr]; simp
            obtain ⟨h1, o, ho, _⟩ := mem_ready.1 hi
            have := hall i (Array.getElem?_eq_some_iff.1 ho).1
            have hi' : i < listed.size := by rw [hsz]; exact (Array.getElem?_eq_some_iff.1 ho).1
            rw [Array.getD_eq_getD_getElem?, Array.getElem?_eq_getElem hi'] at h1 this
            simp at h1 this
            rw [h1] at this; cases this
        · obtain ⟨t', h', φ', h1, h2, h3, h4, h5⟩ := fin_inv hn hall inv
          exact hQ t' h' φ' a' w' h1 h2 h3 h4 h5
      | succ fuel ih =>
        intro listed a' w' hsz hcnt hcl inv
        refine ⟨fun hr => ?_, fun i hi => ?_⟩
        · exfalso
          have hex : ∃ j, j < listed.size ∧ listed.getD j true = false := by
            have hpos : 0 < listed.toList.countP (fun b => !b) := by omega
            obtain ⟨x, hx, hb⟩ := List.countP_pos_iff.1 hpos
            obtain ⟨j, hj, e⟩ := List.getElem_of_mem hx
            refine ⟨j, by simpa using hj, ?_⟩
            rw [Array.getD_eq_getD_getElem?, Array.getElem?_eq_getElem (by simpa using hj)]
            simp at hb e ⊢
            rw [e, hb]
          have least : ∀ {p : Nat → Prop}, (∃ m, p m) → ∃ m, p m ∧ ∀ k, p k → m ≤ k := by
            intro p hx
            obtain ⟨m, hm⟩ := hx
            induction m using Nat.strongRecOn with
            | _ m ih =>
              by_cases hx : ∃ k, k < m ∧ p k
              · obtain ⟨k, hk, hp⟩ := hx; exact ih k hk hp
              · exact ⟨m, hm, fun k hp => by
                  rcases Nat.lt_or_ge k m with h | h
                  · exact (hx ⟨k, h, hp⟩).elim
                  · exact h⟩
          obtain ⟨j, ⟨hj, hf'⟩, hmin⟩ := least hex
          have hjo : j < ops.size := by omega
          have : j ∈ Region.ready .any ops listed := mem_ready.2 ⟨hf', ops[j], Array.getElem?_eq_getElem hjo, fun e he hb => by
            have hin : e.on ∈ edgesOf ops[j] := by
              unfold edgesOf
              exact List.mem_map.2 ⟨e, List.mem_filter.2 ⟨by simpa using he, hb⟩, rfl⟩
            have hlt := (sp.edge j _ e.on (Array.getElem?_eq_getElem hjo) hin).1
            have hl' : e.on < listed.size := by omega
            cases hv : listed.getD e.on false with
            | true => rfl
            | false =>
              have : listed.getD e.on true = false := by
                rw [Array.getD_eq_getD_getElem?, Array.getElem?_eq_getElem hl'] at hv ⊢
                simpa using hv
              have := hmin e.on ⟨hl', this⟩
              omega⟩
          rw [hr] at this; simp at this
        · obtain ⟨hun, o, ho, haft⟩ := mem_ready.1 hi
          have hil : i < listed.size := by rw [hsz]; exact (Array.getElem?_eq_some_iff.1 ho).1
          have hun' : ¬ listed.getD i false = true := by
            rw [Array.getD_eq_getD_getElem?, Array.getElem?_eq_getElem hil] at hun ⊢
            simp at hun ⊢
            exact hun
          have hrd : ∀ j, j ∈ edgesOf o → listed.getD j false = true := by
            intro j hj
            unfold edgesOf at hj
            obtain ⟨e, he, rfl⟩ := List.mem_map.1 hj
            obtain ⟨h5, h6⟩ := List.mem_filter.1 he
            exact haft e (by simpa using h5) h6
          have hset : (fun j => (listed.setIfInBounds i true).getD j false = true) = fun j => listed.getD j false = true ∨ j = i := by
            funext j
            apply propext
            by_cases e : j = i
            · subst e
              simp [Array.getD_eq_getD_getElem?, hil]
            · rw [getD_set_ne false (fun x => e x.symm)]
              simp [e]
          refine step_inv hN hc sp hn hcl inv ho hun' hrd (fun a2 w2 inv2 => ?_)
          refine ih _ a2 w2 (by simp [hsz]) ?_ ?_ (by rw [hset]; exact inv2)
          · have := countF_set hun; omega
          · intro k o' hk ho' j hj
            have h5 : listed.getD k false = true ∨ k = i := by rw [← congrFun hset k]; exact hk
            have h6 : listed.getD j false = true := by
              rcases h5 with h5 | h5
              · exact hcl k o' h5 ho' j hj
              · subst h5
                rw [ho] at ho'; cases ho'
                exact hrd j hj
            have : listed.getD j false = true ∨ j = i := .inl h6
            rw [← congrFun hset j] at this
            exact this
    have hz : ∀ j, (Array.replicate ops.size false).getD j false = false := by
      intro j
      rw [Array.getD_eq_getD_getElem?, Array.getElem?_replicate]
      split <;> rfl
    refine main _ _ a _ (by simp) ?_ (fun i o hi => by rw [hz] at hi; cases hi) ?_
    · rw [Array.toList_replicate, List.countP_replicate]
      simp
    · refine enter_inv sp hn (φ := φ) (b := fun i => T.top + 1 + i) ⟨fun i _ hl => ?_, fun i _ _ hd => ?_, hr.drew, .refl φ h, hf.size, fun s u j _ hl => ?_, fun s u hu _ => hf.get s u hu, rfl, fun _ _ => rfl, fun i o _ _ hd => ?_, fun i j _ _ _ _ hd => ?_, fun i _ _ hd => ?_, fun i o _ _ hd => ?_⟩ hs (fun x hx => hx)
      · rw [hz] at hl; cases hl
      · exact (Nat.not_lt_zero _ hd).elim
      · rw [hz] at hl; cases hl
      · exact (Nat.not_lt_zero _ hd).elim
      · exact (Nat.not_lt_zero _ hd).elim
      · exact (Nat.not_lt_zero _ hd).elim
      · exact (Nat.not_lt_zero _ hd).elim
  · cases hs
end
end Go.X
