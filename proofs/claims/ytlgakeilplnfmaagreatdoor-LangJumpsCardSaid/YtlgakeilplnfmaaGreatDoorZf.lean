/- Parts of the closed evaluator. -/
import Derived.Test.YtlgakeilplnfmaaGreatDoorZe
namespace Go.X
noncomputable section
open Go Go.RowKit
variable {w0 w w' : World} {φ φ' φ0 : Phi} {h h' h0 h1 : AH} {P : Program} {n : Nat} {t t' tb t1 : T Value} {ops : Array Oper} {ls ms : List Nat}
theorem dstAt_edge (i j k : Nat) : dstAt (withEdge ops i j) k = dstAt ops k := by
 unfold dstAt
 rw [withEdge_get]
 by_cases e : k = j
 · rw [if_pos e]; cases ops[k]? <;> rfl
 · rw [if_neg e]
theorem isE_edge (i j k : Nat) : isE (withEdge ops i j) k = isE ops k := by
 unfold isE
 rw [withEdge_get]
 by_cases e : k = j
 · rw [if_pos e]; cases ops[k]? <;> rfl
 · rw [if_neg e]
theorem size_addEdge (i : Nat) : ∀ (j : Nat) (l : List Oper), (addEdge i j l).length = l.length
 | j, [] => by cases j <;> rfl
 | 0, o :: l => rfl
 | j + 1, o :: l => by simp only [addEdge, List.length_cons, size_addEdge i j l]
theorem size_edge (i j : Nat) : (withEdge ops i j).size = ops.size := by
 simpa [withEdge] using size_addEdge i j ops.toList
theorem vt_setSlots (ops : Array Oper) (t1 : T Value) : ∀ (l : List Nat) (t : T Value) (s : Nat), ((∃ k, k ∈ l ∧ dstAt ops k = some s) → vt (setSlots ops t1 l t) s = vt t1 s) ∧ ((∀ k, k ∈ l → dstAt ops k ≠ some s) → vt (setSlots ops t1 l t) s = vt t s)
 | [], t, s => ⟨fun ⟨k, hk, _⟩ => (by cases hk), fun _ => rfl⟩
 | k :: r, t, s => by
  have ih := vt_setSlots ops t1 r (setSlot ops t1 k t) s
  unfold setSlots
  refine ⟨fun ⟨x, hx, hd⟩ => ?_, fun hno => ?_⟩
  · by_cases e : ∃ y, y ∈ r ∧ dstAt ops y = some s
    · exact ih.1 e
    · rcases List.mem_cons.1 hx with rfl | hx
      · rw [ih.2 (fun y hy hd' => e ⟨y, hy, hd'⟩)]
        unfold setSlot
        rw [hd]
        unfold vt
        rw [T.get_set, if_pos rfl]
        rfl
      · exact (e ⟨x, hx, hd⟩).elim
  · rw [ih.2 (fun y hy => hno y (List.mem_cons_of_mem _ hy))]
    have := hno k List.mem_cons_self
    unfold setSlot
    cases hk : dstAt ops k with
    | none => rfl
    | some d =>
      rw [hk] at this
      unfold vt
      rw [T.get_set, if_neg (fun e => this (by rw [e]))]
theorem mem_subs (p : Nat → Bool) : ∀ (l : List Nat), l.filter p ∈ subs l
 | [] => by simp [subs]
 | x :: l => by
  unfold subs
  rw [List.filter_cons, List.mem_append]
  cases p x with
  | true => exact .inr (List.mem_map.2 ⟨_, mem_subs p l, rfl⟩)
  | false => exact .inl (mem_subs p l)
theorem edgesOf_edge {i j k : Nat} {o : Oper} (ho : ops[k]? = some o) : ∃ oA, (withEdge ops i j)[k]? = some oA ∧ oA.op = o.op ∧ oA.dst = o.dst ∧ (∀ e, e ∈ edgesOf o → e ∈ edgesOf oA) ∧ ∀ e, e ∈ edgesOf oA → e ∈ edgesOf o ∨ (k = j ∧ e = i) := by
 by_cases e : k = j
 · refine ⟨{ o with after := ⟨o.after.toList ++ [⟨i, .data⟩]⟩ }, by rw [withEdge_get, if_pos e, ho]; rfl, rfl, rfl, fun x hx => ?_, fun x hx => ?_⟩
   · unfold edgesOf at hx ⊢
     obtain ⟨y, hy, rfl⟩ := List.mem_map.1 hx
     obtain ⟨h1, h2⟩ := List.mem_filter.1 hy
     exact List.mem_map.2 ⟨y, List.mem_filter.2 ⟨List.mem_append.2 (.inl h1), h2⟩, rfl⟩
   · unfold edgesOf at hx ⊢
     obtain ⟨y, hy, rfl⟩ := List.mem_map.1 hx
     obtain ⟨h1, h2⟩ := List.mem_filter.1 hy
     rcases List.mem_append.1 h1 with h1 | h1
     · exact .inl (List.mem_map.2 ⟨y, List.mem_filter.2 ⟨h1, h2⟩, rfl⟩)
     · rw [List.mem_singleton] at h1
       subst h1
       exact .inr ⟨e, rfl⟩
 · exact ⟨o, by rw [withEdge_get, if_neg e, ho], rfl, rfl, fun x hx => hx, fun x hx => .inl hx⟩
theorem StepsOk.edge {call : Call1} {d0 : List Deferred} {q : Option Nat} {m : Nat} {Q : Exit → Act → World → Prop} (hc : StepsOk w0 P call n ops φ0 h0 tb d0 q m Q) (i j : Nat) : StepsOk w0 P call n (withEdge ops i j) φ0 h0 tb d0 q m Q := by
 intro k oA hoA t h φ a w l K hs nx hr hf hd hfb hK
 have hfb' : ∀ s u, a.tmps[s]? = some u → (∀ x, dstAt ops x ≠ some s) → VR φ (vt tb s) u := fun s u hu hno => hfb s u hu (fun x => by rw [dstAt_edge]; exact hno x)
 rw [withEdge_get] at hoA
 by_cases e : k = j
 · rw [if_pos e] at hoA
   cases ho : ops[k]? with
   | none => rw [ho] at hoA; cases hoA
   | some o =>
    rw [ho] at hoA
    cases hoA
    exact hc ho hs nx hr hf hd hfb' hK
 · rw [if_neg e] at hoA
   exact hc hoA hs nx hr hf hd hfb' hK
theorem count_left (l : List Bool) : ((List.range l.length).filter fun k => !(l.getD k true)).length = l.countP (fun b => !b) := by
 have e : l = (List.range l.length).map (fun k => l.getD k true) := by
  apply List.ext_getElem
  · simp
  · intro k h1 h2
    simp [List.getElem?_eq_getElem h1]
 conv => rhs; rw [e]
 rw [List.countP_map, List.countP_eq_length_filter]
 rfl
theorem getD_tf {l : Array Bool} {k : Nat} (hk : k < l.size) : l.getD k true = l.getD k false := by
 rw [Array.getD_eq_getD_getElem?, Array.getD_eq_getD_getElem?, Array.getElem?_eq_getElem hk]; rfl
theorem fin_cf (hn : T.Ok (n)) {call : Call1} {fk : Fk} {d0 : List Deferred} {l : List (T Value × AH)} {lst : Nat → Prop} {a : Act} (hall : ∀ j, j < ops.size → lst j) (inv : Inv w0 P n ops ls φ0 h0 tb d0 (Cf P call n ops ls ms fk l) lst a w) :
  ∃ t' h' φ', (t', h') ∈ l ∧ Nx φ0 φ' h0 h' ∧ R w0 φ' h' w ∧ FR φ' n t' a.tmps ∧ a.defers = d0 := by
 refine fin_c hn (fun L seen t1 h1 hC hnone => ?_) hall inv
 obtain ⟨k, lo, oo, _, _, hcont, hsub⟩ := hC
 unfold aCont at hcont
 rw [hnone] at hcont
 cases hcont
 exact hsub _ (List.mem_singleton.2 rfl)
theorem draw2_okS (hN : NoCount P) (hM : P.follows .mixedOrders = true) {call : Call1} {id i0 j0 : Nat} {l : List (T Value × AH)} {a : Act} {q : Option Nat} {m : Nat} {Q : Exit → Act → World → Prop} (hc : StepsOk w0 P call n ops φ h t a.defers q m Q)
   (hs : aDraw2 P call n ops (withEdge ops i0 j0) (levL (withEdge ops i0 j0)) (maskL (withEdge ops i0 j0)) i0 j0 t h = some l) (hr : R w0 φ h w) (hf : FR φ n t a.tmps)
   (hQ : ∀ t' h' φ' (a' : Act) w', (t', h') ∈ l → Nx φ φ' h h' → R w0 φ' h' w' → FR φ' n t' a'.tmps → a'.defers = a.defers → Q .normal a' w') : (Code.region id ops true).wpIn (FW q) m P Q a w := by
 unfold aDraw2 at hs
 split at hs
 · rename_i hp
   rw [Bool.and_eq_true] at hp
   have sp := plan_spec hp.1
   have hpair := hp.2
   have hn := hf.lt
   generalize levL (withEdge ops i0 j0) = ls at hs sp hpair
   generalize maskL (withEdge ops i0 j0) = ms at hs sp
   unfold pairOk at hpair
   rw [Bool.and_eq_true] at hpair
   have hcA := hc.edge i0 j0
   have szA := size_edge (ops := ops) i0 j0
   refine wpIn_region_any hM ?_
   have main : ∀ (fuel : Nat) (listed : Array Bool) (a' : Act) (w' : World), listed.size = ops.size → listed.toList.countP (fun b => !b) = fuel →
       (∀ (i : Nat) (o : Oper), listed.getD i false = true → ops[i]? = some o → ∀ j, j ∈ edgesOf o → listed.getD j false = true) →
       (listed.getD j0 false = true → listed.getD i0 false = true) →
       Inv w0 P n (withEdge ops i0 j0) ls φ h t a.defers (Cf P call n (withEdge ops i0 j0) ls ms (aFork P call n ops ls i0 t) l) (fun j => listed.getD j false = true) a' w' → wpAnyIn (FW q) m P .any ops Q fuel listed a' w' := by
     intro fuel
     induction fuel with
     | zero =>
       intro listed a' w' hsz hcnt hcl hij inv
       have hall : ∀ j, j < ops.size → listed.getD j false = true := by
         intro j hj
         have hj' : j < listed.size := by omega
         have := List.countP_eq_zero.1 hcnt (listed[j]) (by simp)
         rw [Array.getD_eq_getD_getElem?, Array.getElem?_eq_getElem hj']
         simpa using this
       refine ⟨?_, ?_⟩
       · cases hr : Region.ready .any ops listed with
         | nil => rfl
         | cons i r =>
           have hi : i ∈ Region.ready .any ops listed := by rw [hr]; simp
           obtain ⟨h1, o, ho, _⟩ := mem_ready.1 hi
           have := hall i (Array.getElem?_eq_some_iff.1 ho).1
           have hi' : i < listed.size := by rw [hsz]; exact (Array.getElem?_eq_some_iff.1 ho).1
           rw [Array.getD_eq_getD_getElem?, Array.getElem?_eq_getElem hi'] at h1 this
           simp at h1 this
           rw [h1] at this; cases this
       · obtain ⟨t', h', φ', h1, h2, h3, h4, h5⟩ := fin_cf hn (fun j hj => hall j (by rw [← szA]; exact hj)) inv
         exact hQ t' h' φ' a' w' h1 h2 h3 h4 h5
     | succ fuel ih =>
       intro listed a' w' hsz hcnt hcl hij inv
       refine ⟨fun hr => ?_, fun i hi => ?_⟩
       · exfalso
         have hex : ∃ j, j < listed.size ∧ listed.getD j true = false := by
           have hpos : 0 < listed.toList.countP (fun b => !b) := by omega
           obtain ⟨x, hx, hb⟩ := List.countP_pos_iff.1 hpos
           obtain ⟨j, hj, e⟩ := List.getElem_of_mem hx
           refine ⟨j, by simpa using hj, ?_⟩
           rw [Array.getD_eq_getD_getElem?, Array.getElem?_eq_getElem (by simpa using hj)]
           simp at hb e ⊢
           rw [e, hb]
         have least : ∀ {p : Nat → Prop}, (∃ m, p m) → ∃ m, p m ∧ ∀ k, p k → m ≤ k := by
           intro p hx
           obtain ⟨m, hm⟩ := hx
           induction m using Nat.strongRecOn with
           | _ m ih =>
             by_cases hx : ∃ k, k < m ∧ p k
             · obtain ⟨k, hk, hp⟩ := hx; exact ih k hk hp
             · exact ⟨m, hm, fun k hp => by
                rcases Nat.lt_or_ge k m with h | h
                · exact (hx ⟨k, h, hp⟩).elim
                · exact h⟩
         obtain ⟨j, ⟨hj, hf'⟩, hmin⟩ := least hex
         have hjo : j < ops.size := by omega
         have : j ∈ Region.ready .any ops listed := mem_ready.2 ⟨hf', ops[j], Array.getElem?_eq_getElem hjo, fun e he hb => by
           have hin : e.on ∈ edgesOf ops[j] := by
             unfold edgesOf
             exact List.mem_map.2 ⟨e, List.mem_filter.2 ⟨by simpa using he, hb⟩, rfl⟩
           obtain ⟨oA, hoA, _, _, hin2, _⟩ := edgesOf_edge (i := i0) (j := j0) (Array.getElem?_eq_getElem hjo)
           have hlt := (sp.edge j oA e.on hoA (hin2 _ hin)).1
           have hl' : e.on < listed.size := by omega
           cases hv : listed.getD e.on false with
           | true => rfl
           | false =>
             have : listed.getD e.on true = false := by
               rw [Array.getD_eq_getD_getElem?, Array.getElem?_eq_getElem hl'] at hv ⊢
               simpa using hv
             have := hmin e.on ⟨hl', this⟩
             omega⟩
         rw [hr] at this; simp at this
       · obtain ⟨hun, o, ho, haft⟩ := mem_ready.1 hi
         have hil : i < listed.size := by rw [hsz]; exact (Array.getElem?_eq_some_iff.1 ho).1
         have hun' : ¬ listed.getD i false = true := by
           rw [Array.getD_eq_getD_getElem?, Array.getElem?_eq_getElem hil] at hun ⊢
           simp at hun ⊢
           exact hun
         have hrd : ∀ j, j ∈ edgesOf o → listed.getD j false = true := by
           intro j hj
           unfold edgesOf at hj
           obtain ⟨e, he, rfl⟩ := List.mem_map.1 hj
           obtain ⟨h5, h6⟩ := List.mem_filter.1 he
           exact haft e (by simpa using h5) h6
         have hset : (fun j => (listed.setIfInBounds i true).getD j false = true) = fun j => listed.getD j false = true ∨ j = i := by
           funext j
           apply propext
           by_cases e : j = i
           · subst e
             simp [Array.getD_eq_getD_getElem?, hil]
           · rw [getD_set_ne false (fun x => e x.symm)]
             simp [e]
         by_cases hfork : i = j0 ∧ ¬ listed.getD i0 false = true
         · obtain ⟨e0, hni⟩ := hfork
           subst e0
           obtain ⟨L, seen, t1, h1, φ1, b, ⟨k, lo, oo, hfk, hsubo, _, _⟩, c, _⟩ := inv
           have hiE : isE ops i0 = true := hpair.1
           have hi0 : i0 < ops.size := by
             unfold isE at hiE
             cases hq : ops[i0]? with
             | none => rw [hq] at hiE; cases hiE
             | some x => exact (Array.getElem?_eq_some_iff.1 hq).1
           have hge : L ≤ ls.getD i0 0 := by
             rcases Nat.lt_or_ge (ls.getD i0 0) L with h5 | h5
             · exact (hni (c.ed i0 (by rw [szA]; exact hi0) (by rw [isE_edge]; exact hiE) (.inl h5))).elim
             · exact h5
           have hleL : ls.getD i0 0 ≤ L := by
             have h6 := hpair.2
             rw [Bool.or_eq_true] at h6
             rcases h6 with h6 | h6
             · rw [Nat.eq_of_beq_eq_true h6]; exact Nat.zero_le _
             · rw [ho] at h6
               dsimp only at h6
               obtain ⟨e, he, h7⟩ := List.any_eq_true.1 h6
               have h7 := of_decide_eq_true h7
               have hle := hrd e he
               have hel : e < ops.size := by
                rw [← hsz]
                refine Nat.lt_of_not_le (fun hx => ?_)
                rw [Array.getD_eq_getD_getElem?, Array.getElem?_eq_none hx] at hle
                cases hle
               have h8 := c.ld e (by rw [szA]; exact hel) hle
               rw [isE_edge] at h8
               unfold step1 at h7
               cases hE : isE ops e with
               | true =>
                rw [hE] at h7 h8
                simp only [if_true] at h7
                rcases h8 with h8 | h8
                · omega
                · cases h8.1
               | false =>
                rw [hE] at h7
                simp only [Bool.false_eq_true, if_false, Nat.add_zero] at h7
                rcases h8 with h8 | h8 <;> omega
           have hLi : L = ls.getD i0 0 := Nat.le_antisymm hge hleL
           unfold aFork at hfk
           rw [if_pos (by rw [hLi]; exact Nat.beq_refl _)] at hfk
           have hmem : ∀ k, k ∈ (List.range ops.size).filter (fun k => if isE ops k then Nat.ble L (ls.getD k 0) else (((List.range ops.size).filter fun k => !isE ops k).filter fun k => !listed.getD k false).contains k) ↔ listed.getD k true = false := by
             intro k
             rw [List.mem_filter, List.mem_range]
             constructor
             · rintro ⟨hk, h5⟩
               rw [getD_tf (by rw [hsz]; exact hk)]
               cases hE : isE ops k with
               | true =>
                rw [hE] at h5
                simp only [if_true] at h5
                have h5 := Nat.le_of_ble_eq_true h5
                cases hv : listed.getD k false with
                | false => rfl
                | true =>
                  rcases c.ld k (by rw [szA]; exact hk) hv with h6 | h6
                  · omega
                  · rw [isE_edge, hE] at h6; cases h6.1
               | false =>
                rw [hE] at h5
                simp only [Bool.false_eq_true, if_false] at h5
                have h5 : k ∈ ((List.range ops.size).filter fun k => !isE ops k).filter fun k => !listed.getD k false := by simpa using h5
                have := (List.mem_filter.1 h5).2
                simpa using this
             · intro h5
               have hk : k < ops.size := by
                rw [← hsz]
                refine Nat.lt_of_not_le (fun hx => ?_)
                rw [Array.getD_eq_getD_getElem?, Array.getElem?_eq_none hx] at h5
                cases h5
               rw [getD_tf (by rw [hsz]; exact hk)] at h5
               refine ⟨hk, ?_⟩
               cases hE : isE ops k with
               | true =>
                simp only [if_true]
                refine Nat.ble_eq_true_of_le ?_
                rcases Nat.lt_or_ge (ls.getD k 0) L with h6 | h6
                · have := c.ed k (by rw [szA]; exact hk) (by rw [isE_edge]; exact hE) (.inl h6)
                  rw [h5] at this; cases this
                · exact h6
               | false =>
                simp only [Bool.false_eq_true, if_false]
                have : k ∈ ((List.range ops.size).filter fun k => !isE ops k).filter fun k => !listed.getD k false :=
                  List.mem_filter.2 ⟨List.mem_filter.2 ⟨List.mem_range.2 hk, by rw [hE]; rfl⟩, by rw [h5]; rfl⟩
                simpa using this
           have hlt : ∀ k, listed.getD k false = true → k < ops.size := by
             intro k hk
             rw [← hsz]
             refine Nat.lt_of_not_le (fun hx => ?_)
             rw [Array.getD_eq_getD_getElem?, Array.getElem?_eq_none hx] at hk
             cases hk
           generalize hleft : (List.range ops.size).filter (fun k => if isE ops k then Nat.ble L (ls.getD k 0) else (((List.range ops.size).filter fun k => !isE ops k).filter fun k => !listed.getD k false).contains k) = left at hmem
           have hcand : left ∈ cands ops ls L := by
             unfold cands
             refine List.mem_filter.2 ⟨List.mem_map.2 ⟨_, mem_subs (fun k => !listed.getD k false) _, hleft⟩, ?_⟩
             refine List.all_eq_true.2 (fun k hk => ?_)
             have hk := List.mem_range.1 hk
             cases hv : listed.getD k false with
             | false =>
               have : k ∈ left := (hmem k).2 (by rw [getD_tf (by rw [hsz]; exact hk)]; exact hv)
               rw [Bool.or_eq_true]
               exact .inl (by simpa using this)
             | true =>
               rw [Bool.or_eq_true]
               refine .inr ?_
               cases hq : ops[k]? with
               | none => rfl
               | some x =>
                dsimp only
                refine List.all_eq_true.2 (fun y hy => ?_)
                have h5 := hcl k x hv hq y hy
                have h6 : ¬ y ∈ left := fun hm => by
                  have := (hmem y).1 hm
                  rw [getD_tf (by rw [hsz]; exact hlt y h5), h5] at this
                  cases this
                simpa using h6
           obtain ⟨kk, hkk, hsubk⟩ := allL_spec hfk left hcand
           have hdone : ∀ k, k ∈ (List.range ops.size).filter (fun k => !left.contains k) ↔ listed.getD k false = true := by
             intro k
             rw [List.mem_filter, List.mem_range]
             constructor
             · rintro ⟨hk, h5⟩
               have h5 : ¬ k ∈ left := by simpa using h5
               cases hv : listed.getD k false with
               | true => rfl
               | false => exact (h5 ((hmem k).2 (by rw [getD_tf (by rw [hsz]; exact hk)]; exact hv))).elim
             · intro h5
               refine ⟨hlt k h5, ?_⟩
               have : ¬ k ∈ left := fun hm => by
                have := (hmem k).1 hm
                rw [getD_tf (by rw [hsz]; exact hlt k h5), h5] at this
                cases this
               simpa using this
           have fS : FR φ1 n (setSlots ops t1 ((List.range ops.size).filter fun k => !left.contains k) t) a'.tmps := by
             refine ⟨c.size, hn, fun s u hu => ?_⟩
             have hv := vt_setSlots ops t1 ((List.range ops.size).filter fun k => !left.contains k) t s
             by_cases e : ∃ k, listed.getD k false = true ∧ dstAt ops k = some s
             · obtain ⟨k, h5, h6⟩ := e
               have h7 := hv.1 ⟨k, (hdone k).2 h5, h6⟩
               unfold vt at h7
               rw [h7]
               exact c.fw s u k hu h5 (by rw [dstAt_edge]; exact h6)
             · have h7 := hv.2 (fun k hk hd => e ⟨k, (hdone k).1 hk, hd⟩)
               unfold vt at h7
               rw [h7]
               exact c.fb s u hu (fun k h5 h6 => e ⟨k, h5, by rw [dstAt_edge] at h6; exact h6⟩)
           have hlen : left.length = fuel + 1 := by
             rw [← hcnt, ← count_left]
             have : left = (List.range listed.toList.length).filter fun k => !(listed.toList.getD k true) := by
               rw [← hleft]
               have hs2 : listed.toList.length = ops.size := by rw [← hsz]; simp
               rw [hs2]
               refine List.filter_congr (fun k hk => ?_)
               have hk := List.mem_range.1 hk
               have e1 : listed.toList.getD k true = listed.getD k true := by
                rw [Array.getD_eq_getD_getElem?, List.getD_eq_getElem?_getD, Array.getElem?_toList]
               have h5 := hmem k
               rw [← hleft, List.mem_filter, List.mem_range] at h5
               rw [e1]
               cases hv : listed.getD k true with
               | false => exact (h5.2 hv).2
               | true =>
                cases hb : (if isE ops k then Nat.ble L (ls.getD k 0) else (((List.range ops.size).filter fun k => !isE ops k).filter fun k => !listed.getD k false).contains k) with
                | false => rfl
                | true => rw [h5.1 ⟨hk, hb⟩] at hv; cases hv
             rw [← this]
           have hall2 := all_okS hc ops.size left (listed := listed) hkk c.nx c.df (fun s u hu hno => c.fb s u hu (fun k _ => by rw [dstAt_edge]; exact hno k)) c.r fS hsz
             (by rw [← hleft]; exact (List.nodup_range).filter _) (fun k => (hmem k).symm)
             (fun t' h' φ' a2 w2 hm nx2 r2 f2 d2 => hQ t' h' φ' a2 w2 (hsubo _ (hsubk _ hm)) (c.nx.trans nx2) r2 f2 (d2.trans c.df))
           rw [hlen] at hall2
           exact hall2.2 i hi
         obtain ⟨oA, hoA, _, _, inA, outA⟩ := edgesOf_edge (i := i0) (j := j0) ho
         have hrdA : ∀ j, j ∈ edgesOf oA → listed.getD j false = true := by
           intro j hj
           rcases outA j hj with h5 | ⟨h5, h6⟩
           · exact hrd j h5
           · subst h6
             cases hv : listed.getD j false with
             | true => rfl
             | false => exact (hfork ⟨h5, by rw [hv]; simp⟩).elim
         have hclA : ∀ (i : Nat) (o : Oper), listed.getD i false = true → (withEdge ops i0 j0)[i]? = some o → ∀ j, j ∈ edgesOf o → listed.getD j false = true := by
           intro k o' hk ho' j hj
           have hkl : k < ops.size := by
             rw [← hsz]
             refine Nat.lt_of_not_le (fun hx => ?_)
             rw [Array.getD_eq_getD_getElem?, Array.getElem?_eq_none hx] at hk
             cases hk
           obtain ⟨oB, hoB, _, _, _, outB⟩ := edgesOf_edge (i := i0) (j := j0) (Array.getElem?_eq_getElem hkl)
           rw [ho'] at hoB
           cases hoB
           rcases outB j hj with h5 | ⟨h5, h6⟩
           · exact hcl k _ hk (Array.getElem?_eq_getElem hkl) j h5
           · subst h5; subst h6; exact hij hk
         refine wpOpIn_edge (i := i0) (j := j0) ?_
         suffices hK : ∀ a2 w2, Inv w0 P n (withEdge ops i0 j0) ls φ h t a.defers (Cf P call n (withEdge ops i0 j0) ls ms (aFork P call n ops ls i0 t) l) (fun j => listed.getD j false = true ∨ j = i) a2 w2 → _ from step_inv hN hcA sp hn hclA inv hoA hun' hrdA (fun hE => cf_step sp hoA hE) (fun _ => hK) (fun _ => hK)
         intro a2 w2 inv2
         refine ih _ a2 w2 (by simp [hsz]) ?_ ?_ ?_ (by rw [hset]; exact inv2)
         · have := countF_set hun; omega
         · intro k o' hk ho' j hj
           have h5 : listed.getD k false = true ∨ k = i := by rw [← congrFun hset k]; exact hk
           have h6 : listed.getD j false = true := by
             rcases h5 with h5 | h5
             · exact hcl k o' h5 ho' j hj
             · subst h5
               rw [ho] at ho'; cases ho'
               exact hrd j hj
           have : listed.getD j false = true ∨ j = i := .inl h6
           rw [← congrFun hset j] at this
           exact this
         · intro hj0
           have h5 : listed.getD j0 false = true ∨ j0 = i := by rw [← congrFun hset j0]; exact hj0
           have h6 : listed.getD i0 false = true := by
             rcases h5 with h5 | h5
             · exact hij h5
             · cases hv : listed.getD i0 false with
               | true => rfl
               | false => exact (hfork ⟨h5.symm, by rw [hv]; simp⟩).elim
           have : listed.getD i0 false = true ∨ i0 = i := .inl h6
           rw [← congrFun hset i0] at this
           exact this
   have hz : ∀ j, (Array.replicate ops.size false).getD j false = false := by
     intro j
     rw [Array.getD_eq_getD_getElem?, Array.getElem?_replicate]
     split <;> rfl
   refine main _ _ a _ (by simp) ?_ (fun i o hi => by rw [hz] at hi; cases hi) (fun hi => by rw [hz] at hi; cases hi) ?_
   · rw [Array.toList_replicate, List.countP_replicate]
     simp
   · refine enter_inv sp hn (φ := φ) (b := fun i => 2 * i + 1) ⟨fun i _ hl => ?_, fun i _ _ hd => ?_, hr.drew, .refl φ h, hf.size, fun s u j _ hl => ?_, fun s u hu _ => hf.get s u hu, rfl, fun _ _ => rfl, fun i o _ _ hd => ?_, fun i j _ _ _ _ hd => ?_, fun i _ _ hd => ?_, fun i o _ _ hd => ?_⟩ (enter_cf hs (fun x hx => hx))
     · rw [hz] at hl; cases hl
     · exact (Nat.not_lt_zero _ hd).elim
     · rw [hz] at hl; cases hl
     · exact (Nat.not_lt_zero _ hd).elim
     · exact (Nat.not_lt_zero _ hd).elim
     · exact (Nat.not_lt_zero _ hd).elim
     · exact (Nat.not_lt_zero _ hd).elim
 · cases hs
end
end Go.X
namespace Go.X
noncomputable section
open Go Go.RowKit
variable {w0 w w' : World} {φ φ' φ0 : Phi} {h h' h0 h1 h2 : AH} {P : Program} {n : Nat} {t t' tb t1 t2 : T Value} {ops : Array Oper} {ls ms : List Nat}
theorem draw_okS (hN : NoCount P) (hM : P.follows .mixedOrders = true) {call : Call1} {id : Nat} {l : List (T Value × AH)} {a : Act} {q : Option Nat} {m : Nat} {Q : Exit → Act → World → Prop} (hc : StepsOk w0 P call n ops φ h t a.defers q m Q)
   (hs : aDraw P call n ops t h = some l) (hr : R w0 φ h w) (hf : FR φ n t a.tmps)
   (hQ : ∀ t' h' φ' (a' : Act) w', (t', h') ∈ l → Nx φ φ' h h' → R w0 φ' h' w' → FR φ' n t' a'.tmps → a'.defers = a.defers → Q .normal a' w') : (Code.region id ops true).wpIn (FW q) m P Q a w := by
 unfold aDraw at hs
 split at hs
 · rename_i hp
   have sp := plan_spec hp
   have hn := hf.lt
   generalize levL ops = ls at hs sp
   generalize maskL ops = ms at hs sp
   refine wpIn_region_any hM ?_
   have main : ∀ (fuel : Nat) (listed : Array Bool) (a' : Act) (w' : World), listed.size = ops.size → listed.toList.countP (fun b => !b) = fuel →
       (∀ (i : Nat) (o : Oper), listed.getD i false = true → ops[i]? = some o → ∀ j, j ∈ edgesOf o → listed.getD j false = true) →
       Inv w0 P n ops ls φ h t a.defers (Cl P call n ops ls ms l) (fun j => listed.getD j false = true) a' w' → wpAnyIn (FW q) m P .any ops Q fuel listed a' w' := by
     intro fuel
     induction fuel with
     | zero =>
       intro listed a' w' hsz hcnt hcl inv
       have hall : ∀ j, j < ops.size → listed.getD j false = true := by
         intro j hj
         have hj' : j < listed.size := by omega
         have := List.countP_eq_zero.1 hcnt (listed[j]) (by simp)
         rw [Array.getD_eq_getD_getElem?, Array.getElem?_eq_getElem hj']
         simpa using this
       refine ⟨?_, ?_⟩
       · cases hr : Region.ready .any ops listed with
         | nil => rfl
         | cons i r =>
           have hi : i ∈ Region.ready .any ops listed := by rw [hr]; simp
           obtain ⟨h1, o, ho, _⟩ := mem_ready.1 hi
           have := hall i (Array.getElem?_eq_some_iff.1 ho).1
           have hi' : i < listed.size := by rw [hsz]; exact (Array.getElem?_eq_some_iff.1 ho).1
           rw [Array.getD_eq_getD_getElem?, Array.getElem?_eq_getElem hi'] at h1 this
           simp at h1 this
           rw [h1] at this; cases this
       · obtain ⟨t', h', φ', h1, h2, h3, h4, h5⟩ := fin_inv hn hall inv
         exact hQ t' h' φ' a' w' h1 h2 h3 h4 h5
     | succ fuel ih =>
       intro listed a' w' hsz hcnt hcl inv
       refine ⟨fun hr => ?_, fun i hi => ?_⟩
       · exfalso
         have hex : ∃ j, j < listed.size ∧ listed.getD j true = false := by
           have hpos : 0 < listed.toList.countP (fun b => !b) := by omega
           obtain ⟨x, hx, hb⟩ := List.countP_pos_iff.1 hpos
           obtain ⟨j, hj, e⟩ := List.getElem_of_mem hx
           refine ⟨j, by simpa using hj, ?_⟩
           rw [Array.getD_eq_getD_getElem?, Array.getElem?_eq_getElem (by simpa using hj)]
           simp at hb e ⊢
           rw [e, hb]
         have least : ∀ {p : Nat → Prop}, (∃ m, p m) → ∃ m, p m ∧ ∀ k, p k → m ≤ k := by
           intro p hx
           obtain ⟨m, hm⟩ := hx
           induction m using Nat.strongRecOn with
           | _ m ih =>
             by_cases hx : ∃ k, k < m ∧ p k
             · obtain ⟨k, hk, hp⟩ := hx; exact ih k hk hp
             · exact ⟨m, hm, fun k hp => by
                rcases Nat.lt_or_ge k m with h | h
                · exact (hx ⟨k, h, hp⟩).elim
                · exact h⟩
         obtain ⟨j, ⟨hj, hf'⟩, hmin⟩ := least hex
         have hjo : j < ops.size := by omega
         have : j ∈ Region.ready .any ops listed := mem_ready.2 ⟨hf', ops[j], Array.getElem?_eq_getElem hjo, fun e he hb => by
           have hin : e.on ∈ edgesOf ops[j] := by
             unfold edgesOf
             exact List.mem_map.2 ⟨e, List.mem_filter.2 ⟨by simpa using he, hb⟩, rfl⟩
           have hlt := (sp.edge j _ e.on (Array.getElem?_eq_getElem hjo) hin).1
           have hl' : e.on < listed.size := by omega
           cases hv : listed.getD e.on false with
           | true => rfl
           | false =>
             have : listed.getD e.on true = false := by
               rw [Array.getD_eq_getD_getElem?, Array.getElem?_eq_getElem hl'] at hv ⊢
               simpa using hv
             have := hmin e.on ⟨hl', this⟩
             omega⟩
         rw [hr] at this; simp at this
       · obtain ⟨hun, o, ho, haft⟩ := mem_ready.1 hi
         have hil : i < listed.size := by rw [hsz]; exact (Array.getElem?_eq_some_iff.1 ho).1
         have hun' : ¬ listed.getD i false = true := by
           rw [Array.getD_eq_getD_getElem?, Array.getElem?_eq_getElem hil] at hun ⊢
           simp at hun ⊢
           exact hun
         have hrd : ∀ j, j ∈ edgesOf o → listed.getD j false = true := by
           intro j hj
           unfold edgesOf at hj
           obtain ⟨e, he, rfl⟩ := List.mem_map.1 hj
           obtain ⟨h5, h6⟩ := List.mem_filter.1 he
           exact haft e (by simpa using h5) h6
         have hset : (fun j => (listed.setIfInBounds i true).getD j false = true) = fun j => listed.getD j false = true ∨ j = i := by
           funext j
           apply propext
           by_cases e : j = i
           · subst e
             simp [Array.getD_eq_getD_getElem?, hil]
           · rw [getD_set_ne false (fun x => e x.symm)]
             simp [e]
         suffices hK : ∀ a2 w2, Inv w0 P n ops ls φ h t a.defers (Cl P call n ops ls ms l) (fun j => listed.getD j false = true ∨ j = i) a2 w2 → _ from step_inv hN hc sp hn hcl inv ho hun' hrd (fun hE => cl_step sp ho hE) (fun _ => hK) (fun _ => hK)
         intro a2 w2 inv2
         refine ih _ a2 w2 (by simp [hsz]) ?_ ?_ (by rw [hset]; exact inv2)
         · have := countF_set hun; omega
         · intro k o' hk ho' j hj
           have h5 : listed.getD k false = true ∨ k = i := by rw [← congrFun hset k]; exact hk
           have h6 : listed.getD j false = true := by
             rcases h5 with h5 | h5
             · exact hcl k o' h5 ho' j hj
             · subst h5
               rw [ho] at ho'; cases ho'
               exact hrd j hj
           have : listed.getD j false = true ∨ j = i := .inl h6
           rw [← congrFun hset j] at this
           exact this
   have hz : ∀ j, (Array.replicate ops.size false).getD j false = false := by
     intro j
     rw [Array.getD_eq_getD_getElem?, Array.getElem?_replicate]
     split <;> rfl
   refine main _ _ a _ (by simp) ?_ (fun i o hi => by rw [hz] at hi; cases hi) ?_
   · rw [Array.toList_replicate, List.countP_replicate]
     simp
   · refine enter_inv sp hn (φ := φ) (b := fun i => 2 * i + 1) ⟨fun i _ hl => ?_, fun i _ _ hd => ?_, hr.drew, .refl φ h, hf.size, fun s u j _ hl => ?_, fun s u hu _ => hf.get s u hu, rfl, fun _ _ => rfl, fun i o _ _ hd => ?_, fun i j _ _ _ _ hd => ?_, fun i _ _ hd => ?_, fun i o _ _ hd => ?_⟩ (enter_cl hs (fun x hx => hx))
     · rw [hz] at hl; cases hl
     · exact (Nat.not_lt_zero _ hd).elim
     · rw [hz] at hl; cases hl
     · exact (Nat.not_lt_zero _ hd).elim
     · exact (Nat.not_lt_zero _ hd).elim
     · exact (Nat.not_lt_zero _ hd).elim
     · exact (Nat.not_lt_zero _ hd).elim
 · unfold aDrawP at hs
   split at hs
   · cases hs
   · exact draw2_okS hN hM hc hs hr hf hQ
theorem draw_ok (hN : NoCount P) (hM : P.follows .mixedOrders = true) {call : Call1} (hc : CallsOk w0 P call) {id : Nat} {l : List (T Value × AH)} {a : Act} {q : Option Nat} {m : Nat} {Q : Exit → Act → World → Prop}
  (hs : aDraw P call n ops t h = some l) (hr : R w0 φ h w) (hf : FR φ n t a.tmps)
  (hQ : ∀ t' h' φ' (a' : Act) w', (t', h') ∈ l → Nx φ φ' h h' → R w0 φ' h' w' → FR φ' n t' a'.tmps → a'.defers = a.defers → Q .normal a' w') : (Code.region id ops true).wpIn (FW q) m P Q a w :=
 draw_okS hN hM (fun _ _ _ _ _ _ _ _ _ _ hs _ hr hf _ _ hK => step_ok hN hc hr hf hs hK) hs hr hf hQ
end
end Go.X
namespace Go.X
noncomputable section
open Go Go.RowKit
variable {w0 w : World} {φ φ' : Phi} {h h' : AH} {P : Program} {n : Nat} {t t' u : T Value}
def joinVs (f : Value → Value → Option Value) : List Value → List Value → Option (List Value)
 | [], [] => some []
 | a :: l, b :: m => (match f a b, joinVs f l m with
  | some x, some y => some (x :: y)
  | _, _ => none)
 | _, _ => none
def topOk (a : Value) : Bool := a.oneCell' && notBool a
def joinV : Nat → Value → Value → Option Value
 | 0, a, b => (match veq 9 a b with
  | true => some a
  | false => (match topOk a && topOk b with
   | true => some (.chan none)
   | false => none))
 | k + 1, a, b => (match veq 9 a b with
  | true => some a
  | false => (match a, b with
   | .tuple ⟨l⟩, .tuple ⟨m⟩ => (match joinVs (joinV k) l m with
    | some x => some (.tuple ⟨x⟩)
    | none => none)
   | .agg ⟨l⟩, .agg ⟨m⟩ => (match joinVs (joinV k) l m with
    | some x => some (.agg ⟨x⟩)
    | none => none)
   | a, b => (match topOk a && topOk b with
    | true => some (.chan none)
    | false => none)))
theorem joinVs_ok {f : Value → Value → Option Value} (hf : ∀ a b c, f a b = some c → ∀ φ v, (VR φ a v → VR φ c v) ∧ (VR φ b v → VR φ c v)) : ∀ {l m x : List Value}, joinVs f l m = some x → ∀ φ v, (LR φ l v → LR φ x v) ∧ (LR φ m v → LR φ x v)
 | [], [], x, h, φ, v => by cases h; exact ⟨id, id⟩
 | a :: l, b :: m, x, h, φ, v => by
  unfold joinVs at h
  split at h
  · rename_i c y hc hy
    cases h
    refine ⟨fun k => ?_, fun k => ?_⟩
    · cases k with
      | cons k1 k2 => exact .cons ((hf _ _ _ hc _ _).1 k1) ((joinVs_ok hf hy _ _).1 k2)
    · cases k with
      | cons k1 k2 => exact .cons ((hf _ _ _ hc _ _).2 k1) ((joinVs_ok hf hy _ _).2 k2)
  · cases h
 | [], _ :: _, x, h, φ, v => by cases h
 | _ :: _, [], x, h, φ, v => by cases h
theorem top_of {φ : Phi} {a v : Value} (ha : topOk a = true) (h : VR φ a v) : VR φ (.chan none) v := by
 unfold topOk at ha
 rw [Bool.and_eq_true] at ha
 exact .top v (h.one.trans ha.1) (h.nb.trans ha.2)
theorem joinV_ok : ∀ (k : Nat) (a b c : Value), joinV k a b = some c → ∀ φ v, (VR φ a v → VR φ c v) ∧ (VR φ b v → VR φ c v)
 | 0, a, b, c, h, φ, v => by
  unfold joinV at h
  split at h
  · rename_i he
    cases h
    rw [veq_eq _ _ _ he]; exact ⟨id, id⟩
  · split at h
    · rename_i ht
      cases h
      rw [Bool.and_eq_true] at ht
      exact ⟨top_of ht.1, top_of ht.2⟩
    · cases h
 | k + 1, a, b, c, h, φ, v => by
  unfold joinV at h
  split at h
  · rename_i he
    cases h
    rw [veq_eq _ _ _ he]; exact ⟨id, id⟩
  · split at h
    · rename_i l m
      split at h
      · rename_i x hx
        cases h
        have e := joinVs_ok (joinV_ok k) hx φ
        refine ⟨fun h => ?_, fun h => ?_⟩
        · obtain ⟨l', rfl, hl⟩ := VR.tuple_inv h
          exact .tuple' ((e l').1 hl)
        · obtain ⟨l', rfl, hl⟩ := VR.tuple_inv h
          exact .tuple' ((e l').2 hl)
      · cases h
    · rename_i l m
      split at h
      · rename_i x hx
        cases h
        have e := joinVs_ok (joinV_ok k) hx φ
        refine ⟨fun h => ?_, fun h => ?_⟩
        · cases h with
          | agg ha hh => exact .agg' ((e _).1 (LR.of ha hh))
        · cases h with
          | agg ha hh => exact .agg' ((e _).2 (LR.of ha hh))
      · cases h
    · split at h
      · rename_i ht
        cases h
        rw [Bool.and_eq_true] at ht
        exact ⟨top_of ht.1, top_of ht.2⟩
      · cases h
def joinOV : Option Value → Option Value → Option (Option Value)
 | none, none => some none
 | some a, some b => (match joinV 3 a b with
  | some c => some (some c)
  | none => none)
 | _, _ => none
def joinF : T Value → T Value → Option (T Value)
 | .e, .e => some .e
 | .n l v r, .n l' v' r' => (match joinOV v v', joinF l l', joinF r r' with
  | some x, some y, some z => some (.n y x z)
  | _, _, _ => none)
 | _, _ => none
theorem get_e {α : Type} (k : Nat) : (T.e : T α).get k = none := rfl
theorem joinF_get : ∀ {t t' u : T Value}, joinF t t' = some u → ∀ k, joinOV (t.get k) (t'.get k) = some (u.get k)
 | .e, .e, u, h, k => by cases h; rfl
 | .n l v r, .n l' v' r', u, h, k => by
  unfold joinF at h
  split at h
  · rename_i x y z hx hy hz
    cases h
    rw [T.get_n, T.get_n, T.get_n]
    by_cases e : k = 0
    · rw [if_pos e, if_pos e, if_pos e]; exact hx
    · rw [if_neg e, if_neg e, if_neg e]
      by_cases e2 : k % 2 = 1
      · rw [if_pos e2, if_pos e2, if_pos e2]; exact joinF_get hz _
      · rw [if_neg e2, if_neg e2, if_neg e2]; exact joinF_get hy _
  · cases h
 | .e, .n .., u, h, k => by cases h
 | .n .., .e, u, h, k => by cases h
theorem joinF_ok (hj : joinF t t' = some u) {a : Array Value} : (FR φ n t a → FR φ n u a) ∧ (FR φ n t' a → FR φ n u a) := by
 have key : ∀ k v, (VR φ ((t.get k).getD undef) v → VR φ ((u.get k).getD undef) v) ∧ (VR φ ((t'.get k).getD undef) v → VR φ ((u.get k).getD undef) v) := by
  intro k v
  have := joinF_get hj k
  unfold joinOV at this
  split at this
  · rename_i e1 e2
    injection this with this
    rw [e1, e2, ← this]; exact ⟨id, id⟩
  · rename_i a b e1 e2
    split at this
    · rename_i c hc
      injection this with this
      rw [e1, e2, ← this]
      exact joinV_ok 3 a b c hc φ v
    · cases this
  · cases this
 exact ⟨fun f => ⟨f.size, f.lt, fun k v hk => (key k v).1 (f.get k v hk)⟩, fun f => ⟨f.size, f.lt, fun k v hk => (key k v).2 (f.get k v hk)⟩⟩
def asBag : AObj → Option (List (ByteArray × Value))
 | .map es _ false => bagOf es
 | .bag es => some es
 | _ => none
def diffO : AObj → AObj → Bool
 | .map es _ _, .map es' _ _ => !Nat.beq es.length es'.length
 | .map _ _ _, .bag _ => true
 | .iter _ _ s _, .iter _ _ s' _ => !Nat.beq s.length s'.length
 | _, _ => false
theorem diffO_ne {a b : AObj} (h : diffO a b = true) : a ≠ b := by
 rintro rfl
 have e : ∀ k : Nat, Nat.beq k k = true := Nat.beq_refl
 cases a <;> simp only [diffO, e, Bool.not_true] at h <;> cases h
def join2 (a b : AObj) : Option AObj := match asBag a, asBag b with
 | some m, some m' => (match sameBag m m' with
  | true => some (.bag m)
  | false => none)
 | _, _ => none
def joinOb (x o o' : Option AObj) : Option (Option AObj) := match o, o' with
 | none, none => some none
 | some a, some b => (match sameO a b with
  | true => some (some a)
  | false => (match x with
   | none => some (join2 a b)
   | some x => (match diffO x a && diffO x b with
    | true => some (join2 a b)
    | false => none)))
 | some a, none => (match x with
  | none => some none
  | some x => (match diffO x a with
   | true => some none
   | false => none))
 | none, some b => (match x with
  | none => some none
  | some x => (match diffO x b with
   | true => some none
   | false => none))
theorem asBag_or {a : AObj} {m : List (ByteArray × Value)} (h : asBag a = some m) {i : Im} (k : OR φ i w a) : OR φ i w (.bag m) ∧ a.ro = false := by
 unfold asBag at h
 split at h
 · rename_i es cl
   obtain ⟨arr, g1, g2⟩ := k
   exact ⟨⟨arr, cl, es, g1, g2, bagOf_perm h⟩, rfl⟩
 · cases h; exact ⟨k, rfl⟩
 · cases h
def Cov (o r : Option AObj) : Prop := ∀ b, r = some b → ∃ a, o = some a ∧ a.ro = b.ro ∧ ∀ φ w i, OR φ i w a → OR φ i w b
theorem Cov.none (o : Option AObj) : Cov o none := fun b h => by cases h
theorem Cov.self (o : Option AObj) : Cov o o := fun b h => ⟨b, h, rfl, fun _ _ _ k => k⟩
theorem join2_cov (a b : AObj) : Cov (some a) (join2 a b) ∧ Cov (some b) (join2 a b) := by
 unfold join2
 split
 · rename_i m m' ha hb
   split
   · rename_i hs
     have e := sameBag_ok hs
     subst e
     refine ⟨fun c hc => ?_, fun c hc => ?_⟩
     · cases hc
       have ro : a.ro = false := by
        unfold asBag at ha
        split at ha <;> first | rfl | (cases ha)
       exact ⟨a, rfl, ro, fun φ w i k => (asBag_or ha k).1⟩
     · cases hc
       have ro : b.ro = false := by
        unfold asBag at hb
        split at hb <;> first | rfl | (cases hb)
       exact ⟨b, rfl, ro, fun φ w i k => (asBag_or hb k).1⟩
   · exact ⟨.none _, .none _⟩
 · exact ⟨.none _, .none _⟩
theorem joinOb_cov {x o o' r : Option AObj} (h : joinOb x o o' = some r) : (Cov o r ∧ (o = x → r = x)) ∧ (Cov o' r ∧ (o' = x → r = x)) := by
 unfold joinOb at h
 split at h
 · cases h; exact ⟨⟨.none _, id⟩, ⟨.none _, id⟩⟩
 · rename_i a b
   split at h
   · rename_i hs
     cases h
     have e := sameO_ok _ _ hs
     subst e
     exact ⟨⟨.self _, id⟩, ⟨.self _, id⟩⟩
   · split at h
     · cases h
       exact ⟨⟨(join2_cov a b).1, fun e => by cases e⟩, ⟨(join2_cov a b).2, fun e => by cases e⟩⟩
     · rename_i x
       split at h
       · rename_i hd
         cases h
         rw [Bool.and_eq_true] at hd
         exact ⟨⟨(join2_cov a b).1, fun e => by cases e; exact (diffO_ne hd.1 rfl).elim⟩, ⟨(join2_cov a b).2, fun e => by cases e; exact (diffO_ne hd.2 rfl).elim⟩⟩
       · cases h
 · rename_i a
   split at h
   · cases h
     exact ⟨⟨.none _, fun e => by cases e⟩, ⟨.none _, id⟩⟩
   · rename_i x
     split at h
     · rename_i hd
       cases h
       exact ⟨⟨.none _, fun e => by cases e; exact (diffO_ne hd rfl).elim⟩, ⟨.none _, fun e => by cases e⟩⟩
     · cases h
 · rename_i b
   split at h
   · cases h
     exact ⟨⟨.none _, id⟩, ⟨.none _, fun e => by cases e⟩⟩
   · rename_i x
     split at h
     · rename_i hd
       cases h
       exact ⟨⟨.none _, fun e => by cases e⟩, ⟨.none _, fun e => by cases e; exact (diffO_ne hd rfl).elim⟩⟩
     · cases h
def leftT {α : Type} : T α → T α
 | .e => .e
 | .n l _ _ => l
def midT {α : Type} : T α → Option α
 | .e => none
 | .n _ v _ => v
def rightT {α : Type} : T α → T α
 | .e => .e
 | .n _ _ r => r
theorem get_parts {α : Type} (x : T α) (k : Nat) : x.get k = if k = 0 then midT x else if k % 2 = 1 then (rightT x).get (k / 2) else (leftT x).get (k / 2 - 1) := by
 cases x with
 | e => simp only [midT, rightT, leftT, get_e]; split <;> first | rfl | (split <;> rfl)
 | n l v r => rw [T.get_n]; rfl
def joinM : T AObj → T AObj → T AObj → Option (T AObj)
 | _, .e, .e => some .e
 | x, .n l v r, .n l' v' r' => (match joinOb (midT x) v v', joinM (leftT x) l l', joinM (rightT x) r r' with
  | some a, some b, some c => some (.n b a c)
  | _, _, _ => none)
 | _, _, _ => none
theorem joinM_get : ∀ {x t t' u : T AObj}, joinM x t t' = some u → ∀ k, joinOb (x.get k) (t.get k) (t'.get k) = some (u.get k)
 | x, .e, .e, u, h, k => by
  unfold joinM at h
  cases h; rfl
 | x, .n l v r, .n l' v' r', u, h, k => by
  unfold joinM at h
  split at h
  · rename_i a b c ha hb hc
    cases h
    rw [T.get_n, T.get_n, T.get_n, get_parts x k]
    by_cases e : k = 0
    · rw [if_pos e, if_pos e, if_pos e, if_pos e]; exact ha
    · rw [if_neg e, if_neg e, if_neg e, if_neg e]
      by_cases e2 : k % 2 = 1
      · rw [if_pos e2, if_pos e2, if_pos e2, if_pos e2]; exact joinM_get hc _
      · rw [if_neg e2, if_neg e2, if_neg e2, if_neg e2]; exact joinM_get hb _
  · cases h
 | x, .e, .n .., u, h, k => by unfold joinM at h; cases h
 | x, .n .., .e, u, h, k => by unfold joinM at h; cases h
def joinH (h0 h h' : AH) : Option AH := match Nat.beq h.next h'.next, joinM h0.m h.m h'.m with
 | true, some m => some ⟨m, h.next⟩
 | _, _ => none
def CovH (h0 h q : AH) : Prop := (∀ w0 φ w, R w0 φ h w → R w0 φ q w) ∧ ∀ φ φ', Nx φ φ' h0 h → Nx φ φ' h0 q
theorem covH_of {h0 h q : AH} (hn : q.next = h.next) (hc : ∀ k, Cov (h.m.get k) (q.m.get k) ∧ (h.m.get k = h0.m.get k → q.m.get k = h0.m.get k)) : CovH h0 h q := by
 refine ⟨fun w0 φ w r => ⟨fun b i o hi ho => ?_, fun b i o hi ho hro => ?_, fun b b' i i' o o' hi hi' ho ho' hro hcc => ?_, fun b i hi => ⟨(r.lt b i hi).1, by rw [hn]; exact (r.lt b i hi).2⟩, trivial, r.below⟩,
   fun φ φ' nx => ⟨nx.le, by rw [hn]; exact nx.next, fun k hk hlt => ⟨(nx.ghost k hk hlt).1, (hc k).2 (nx.ghost k hk hlt).2⟩⟩⟩
 · obtain ⟨a, h1, h2, h3⟩ := (hc b).1 o ho
   exact h3 φ w i (r.dom b i a hi h1)
 · obtain ⟨a, h1, h2, h3⟩ := (hc b).1 o ho
   exact r.low b i a hi h1 (h2.trans hro)
 · obtain ⟨a, h1, h2, h3⟩ := (hc b).1 o ho
   obtain ⟨a', h4, h5, h6⟩ := (hc b').1 o' ho'
   exact r.inj b b' i i' a a' hi hi' h1 h4 (h2.trans hro) hcc
theorem joinH_ok {h0 h h' q : AH} (hj : joinH h0 h h' = some q) : CovH h0 h q ∧ CovH h0 h' q := by
 unfold joinH at hj
 split at hj
 · rename_i m hn hm
   cases hj
   have hn := Nat.eq_of_beq_eq_true hn
   have g := joinM_get hm
   exact ⟨covH_of rfl (fun k => (joinOb_cov (g k)).1), covH_of hn (fun k => (joinOb_cov (g k)).2)⟩
 · cases hj
end
end Go.X
namespace Go.X
noncomputable section
open Go Go.RowKit
variable {w0 w w' : World} {φ φ' : Phi} {h h' : AH} {P : Program} {n : Nat} {t : T Value} {bs : List Deferred}
inductive Ex where
 | normal
 | exit (id : Nat)
 | ret
inductive ExR : Ex → Exit → Prop
 | normal : ExR .normal .normal
 | exit (id : Nat) : ExR (.exit id) (.exit id)
 | ret : ExR .ret .ret
structure Out where
 ex : Ex
 t : T Value
 ds : List Nat
 h : AH
abbrev COuts := Option (List Out)
def exSame : Ex → Ex → Bool
 | .normal, .normal => true
 | .ret, .ret => true
 | .exit a, .exit b => Nat.beq a b
 | _, _ => false
theorem exSame_ok {a b : Ex} (h : exSame a b = true) : a = b := by
 unfold exSame at h
 split at h
 · rfl
 · rfl
 · rw [Nat.eq_of_beq_eq_true h]
 · cases h
def joinO (h0 : AH) (o p : Out) : Option Out := match exSame o.ex p.ex && sameNs o.ds p.ds with
 | true => (match joinF o.t p.t, joinH h0 o.h p.h with
  | some t, some h => some ⟨o.ex, t, o.ds, h⟩
  | _, _ => none)
 | false => none
def CovO (h0 : AH) (o q : Out) : Prop := q.ex = o.ex ∧ q.ds = o.ds ∧ (∀ φ n a, FR φ n o.t a → FR φ n q.t a) ∧ CovH h0 o.h q.h
theorem CovO.refl (h0 : AH) (o : Out) : CovO h0 o o := ⟨rfl, rfl, fun _ _ _ h => h, fun _ _ _ h => h, fun _ _ h => h⟩
theorem CovO.trans {h0 : AH} {o p q : Out} (a : CovO h0 o p) (b : CovO h0 p q) : CovO h0 o q :=
 ⟨b.1.trans a.1, b.2.1.trans a.2.1, fun φ n x h => b.2.2.1 φ n x (a.2.2.1 φ n x h), fun w0 φ w h => b.2.2.2.1 w0 φ w (a.2.2.2.1 w0 φ w h), fun φ φ' h => b.2.2.2.2 φ φ' (a.2.2.2.2 φ φ' h)⟩
theorem joinO_ok {h0 : AH} {o p q : Out} (h : joinO h0 o p = some q) : CovO h0 o q ∧ CovO h0 p q := by
 unfold joinO at h
 split at h
 · rename_i hs
   rw [Bool.and_eq_true] at hs
   have e1 := exSame_ok hs.1
   have e2 := sameNs_ok hs.2
   split at h
   · rename_i t q' ht hq
     cases h
     obtain ⟨c1, c2⟩ := joinH_ok hq
     exact ⟨⟨rfl, rfl, fun _ _ _ f => (joinF_ok ht).1 f, c1⟩, ⟨e1, e2, fun _ _ _ f => (joinF_ok ht).2 f, c2⟩⟩
   · cases h
 · cases h
def insJ (h0 : AH) (o : Out) : List Out → List Out
 | [] => [o]
 | p :: r => (match joinO h0 o p with
  | some q => q :: r
  | none => p :: insJ h0 o r)
theorem insJ_ok (h0 : AH) (o : Out) : ∀ (l : List Out), (∃ q, q ∈ insJ h0 o l ∧ CovO h0 o q) ∧ ∀ p, p ∈ l → ∃ q, q ∈ insJ h0 o l ∧ CovO h0 p q
 | [] => ⟨⟨o, List.mem_singleton.2 rfl, .refl h0 o⟩, fun p hp => by cases hp⟩
 | p :: r => by
  unfold insJ
  split
  · rename_i q hq
    obtain ⟨c1, c2⟩ := joinO_ok hq
    refine ⟨⟨q, List.mem_cons_self, c1⟩, fun x hx => ?_⟩
    rcases List.mem_cons.1 hx with rfl | hx
    · exact ⟨q, List.mem_cons_self, c2⟩
    · exact ⟨x, List.mem_cons_of_mem _ hx, .refl h0 x⟩
  · obtain ⟨⟨q, h1, h2⟩, h3⟩ := insJ_ok h0 o r
    refine ⟨⟨q, List.mem_cons_of_mem _ h1, h2⟩, fun x hx => ?_⟩
    rcases List.mem_cons.1 hx with rfl | hx
    · exact ⟨x, List.mem_cons_self, .refl h0 x⟩
    · obtain ⟨q, h4, h5⟩ := h3 x hx
      exact ⟨q, List.mem_cons_of_mem _ h4, h5⟩
def joinAll (h0 : AH) (l : List Out) : List Out := l.foldr (insJ h0) []
theorem joinAll_ok (h0 : AH) : ∀ {l : List Out} {o : Out}, o ∈ l → ∃ q, q ∈ joinAll h0 l ∧ CovO h0 o q
 | x :: l, o, ho => by
  show ∃ q, q ∈ insJ h0 x (joinAll h0 l) ∧ CovO h0 o q
  obtain ⟨h1, h2⟩ := insJ_ok h0 x (joinAll h0 l)
  rcases List.mem_cons.1 ho with rfl | ho
  · exact h1
  · obtain ⟨q, h3, h4⟩ := joinAll_ok h0 ho
    obtain ⟨q2, h5, h6⟩ := h2 q h3
    exact ⟨q2, h5, h4.trans h6⟩
def jn (h0 : AH) : COuts → COuts
 | some (o :: p :: l) => some (joinAll h0 (o :: p :: l))
 | x => x
theorem jn_ok {h0 : AH} {x : COuts} {l : List Out} (h : jn h0 x = some l) : ∃ l0, x = some l0 ∧ ∀ o, o ∈ l0 → ∃ q, q ∈ l ∧ CovO h0 o q := by
 unfold jn at h
 split at h
 · rename_i o p r
   cases h
   exact ⟨_, rfl, fun o ho => joinAll_ok h0 ho⟩
 · exact ⟨l, h, fun o ho => ⟨o, ho, .refl h0 o⟩⟩
def firstNext : Code → Bool
 | .seq x _ => firstNext x
 | .region _ ops _ => (match ops[0]? with
  | some o => (match o.op with
   | .next _ false => true
   | _ => false)
  | none => false)
 | _ => false
def hasUpd : Code → Bool
 | .seq x y => hasUpd x || hasUpd y
 | .cond _ x y => hasUpd x || hasUpd y
 | .block _ x => hasUpd x
 | .loop x => hasUpd x
 | .region _ ops _ => ops.toList.any fun o => (match o.op with
  | .mapUpdate _ _ _ _ => true
  | _ => false)
 | _ => false
def isRange : Code → Bool
 | .loop c => firstNext c && hasUpd c
 | _ => false
inductive DR (bs : List Deferred) (φ : Phi) : List Nat → List Deferred → Prop
 | nil : DR bs φ [] bs
 | cons {b : Nat} {i : Im} {l : List Nat} {l' : List Deferred} (hb : φ b = some i) (t : DR bs φ l l') : DR bs φ (b :: l) (⟨.collected i.c, #[]⟩ :: l')
theorem DR.mono (le : Le φ φ') {l : List Nat} {l' : List Deferred} (d : DR bs φ l l') : DR bs φ' l l' := by
 induction d with
 | nil => exact .nil
 | cons hb _ ih => exact .cons (le _ _ hb) ih
def Post (bs : List Deferred) (w0 : World) (φ : Phi) (h : AH) (n : Nat) (l : List Out) : Exit → Act → World → Prop := fun e a w =>
 ∃ o, o ∈ l ∧ ExR o.ex e ∧ ∃ φ', Nx φ φ' h o.h ∧ R w0 φ' o.h w ∧ FR φ' n o.t a.tmps ∧ DR bs φ' o.ds a.defers
theorem Post.sub {l l' : List Out} {e : Exit} {a : Act} (hs : ∀ o, o ∈ l → o ∈ l') (p : Post bs w0 φ h n l e a w) : Post bs w0 φ h n l' e a w := by
 obtain ⟨o, h1, r⟩ := p; exact ⟨o, hs o h1, r⟩
theorem Post.from {h0 : AH} {φ0 : Phi} {l : List Out} {e : Exit} {a : Act} (nx : Nx φ0 φ h0 h) (p : Post bs w0 φ h n l e a w) : Post bs w0 φ0 h0 n l e a w := by
 obtain ⟨o, h1, h2, φ', h3, r⟩ := p; exact ⟨o, h1, h2, φ', nx.trans h3, r⟩
def RoR (φ : Phi) : Option Nat → Option Nat → Prop
 | none, q => q = none
 | some b, q => ∃ i, φ b = some i ∧ q = some i.c
theorem RoR.mono (le : Le φ φ') {ro q : Option Nat} (x : RoR φ ro q) : RoR φ' ro q := by
 cases ro with
 | none => exact x
 | some b => obtain ⟨i, h1, h2⟩ := x; exact ⟨i, le _ _ h1, h2⟩
abbrev Ev := T Value → List Nat → AH → COuts
def thenX (y : Ev) (o : Out) : COuts := Ex.rec (motive := fun _ => COuts) (y o.t o.ds o.h) (fun _ => some [o]) (some [o]) o.ex
def cThen (x y : Ev) : Ev := fun t ds h => bindL (x t ds h) (thenX y)
def aLoop (body : T Value → List Nat → AH → COuts) (k : Nat) : T Value → List Nat → AH → COuts := Nat.rec (motive := fun _ => Ev) (fun _ _ _ => none) (fun _ ih => cThen body ih) k
theorem thenX_eq (y : Ev) (o : Out) : thenX y o = match o.ex with
  | .normal => y o.t o.ds o.h
  | _ => some [o] := by
 unfold thenX; cases o.ex <;> rfl
theorem aLoop_zero (body : Ev) (t : T Value) (ds : List Nat) (h : AH) : aLoop body 0 t ds h = none := rfl
theorem aLoop_succ (body : Ev) (k : Nat) (t : T Value) (ds : List Nat) (h : AH) : aLoop body (k + 1) t ds h = bindL (body t ds h) fun o => match o.ex with
  | .normal => aLoop body k o.t o.ds o.h
  | _ => some [o] := by
 show bindL (body t ds h) (thenX (aLoop body k)) = _
 congr 1; funext o; exact thenX_eq _ o
def exCode : Option Code → Option Ex
 | none => some .normal
 | some .ret => some .ret
 | some (.exit id) => some (.exit id)
 | _ => none
def yv (b : Nat) : Value := .func (.yield b) ⟨[]⟩ ⟨[]⟩
def aEnter (n : Nat) (ro : Option Nat) (t : T Value) (ps : List Tmp) (asg body : Code) (h : AH) : Option (Nat × List Nat × AH) := match ro with
 | some _ => none
 | none => (match h.newObj .dfr with
  | some (d, h1) => (match h1.newObj (.loop .ready none t n ps asg body) with
   | some (l, h2) => some (l, [d], h2)
   | none => none)
  | none => none)
theorem beq_nat {β : Type} (a b : Nat) (x y : β) : (Bool.rec (motive := fun _ => β) y x (Nat.beq a b) : β) = if a = b then x else y := T.beq_ite a b x y
def aCode0 (P : Program) (call : Call1) (n LF : Nat) (ro : Option Nat) : Code → T Value → List Nat → AH → COuts
 | .skip, t, ds, h => some [⟨.normal, t, ds, h⟩]
 | .label _, t, ds, h => some [⟨.normal, t, ds, h⟩]
 | .ret, t, ds, h => some [⟨.ret, t, ds, h⟩]
 | .exit id, t, ds, h => some [⟨.exit id, t, ds, h⟩]
 | .seq x y, t, ds, h => bindL (aCode0 P call n LF ro x t ds h) fun o => match o.ex with
  | .normal => aCode0 P call n LF ro y o.t o.ds o.h
  | _ => some [o]
 | .cond c x y, t, ds, h => match aO n t c with
  | some (.bool q) => if q then aCode0 P call n LF ro x t ds h else aCode0 P call n LF ro y t ds h
  | _ => none
 | .block id c, t, ds, h => (match isRange c with
  | true => jn h (bindL (aCode0 P call n LF ro c t ds h) fun o => match o.ex with
   | .exit k => if k = id then some [{ o with ex := .normal }] else some [o]
   | _ => some [o])
  | false => bindL (aCode0 P call n LF ro c t ds h) fun o => match o.ex with
   | .exit k => if k = id then some [{ o with ex := .normal }] else some [o]
   | _ => some [o])
 | .loop c, t, ds, h => aLoop (aCode0 P call n LF ro c) LF t ds h
 | .region _ ops draw, t, ds, h => bindL (if draw then aDraw P call n ops t h else aOps P call n ops ops.toList t h) fun p => some [⟨.normal, p.1, ds, p.2⟩]
 | .rangeFunc f ⟨ps⟩ asg body, t, ds, h => match aO n t f with
  | some (.func (.func g) ⟨first⟩ ⟨cap⟩) => (match aEnter n ro t ps asg body h with
   | some (l, ms, h2) => (match aCallF P g (first ++ [yv l] ++ cap) h2 with
    | some [(an, h3)] => bindL (call an h3) fun p => (match p.2.m.get l with
     | some (.loop st pend ts sz ps' asg' body') => (match st, exCode pend with
      | .busy, _ => none
      | _, some ex => some [⟨ex, t, ms ++ ds, { p.2 with m := (p.2.m.set l (some (.loop .exhausted pend ts sz ps' asg' body'))).set l none }⟩]
      | _, none => none)
     | _ => none)
    | _ => none)
   | none => none)
  | _ => none
 | _, _, _, _ => none
def cCond (n : Nat) (c : Operand) (x y : Ev) : Ev := fun t ds h => match aO n t c with
 | some (.bool q) => Bool.rec (motive := fun _ => COuts) (y t ds h) (x t ds h) q
 | _ => none
def outX (id : Nat) (o : Out) : COuts := match o.ex with
 | .exit k => Bool.rec (motive := fun _ => COuts) (some [o]) (some [{ o with ex := .normal }]) (Nat.beq k id)
 | _ => some [o]
def cBlock (id : Nat) (x : Ev) : Ev := fun t ds h => bindL (x t ds h) (outX id)
def jBlock (id : Nat) (x : Ev) : Ev := fun t ds h => jn h (cBlock id x t ds h)
def cBlockX (c : Code) (id : Nat) (x : Ev) : Ev := Bool.rec (motive := fun _ => Ev) (cBlock id x) (jBlock id x) (isRange c)
def cRegion (P : Program) (call : Call1) (n : Nat) (ops : Array Oper) (draw : Bool) : Ev := fun t ds h => bindL (Bool.rec (motive := fun _ => Option (List (T Value × AH))) (aOps P call n ops ops.toList t h) (aDraw P call n ops t h) draw) fun p => some [⟨.normal, p.1, ds, p.2⟩]
def aCode (P : Program) (call : Call1) (n LF : Nat) (ro : Option Nat) (c : Code) : Ev := Code.rec (motive := fun _ => Ev)
 (fun t ds h => some [⟨.normal, t, ds, h⟩])
 (fun _ ops draw => cRegion P call n ops draw)
 (fun _ _ x y => cThen x y)
 (fun c _ _ x y => cCond n c x y)
 (fun id c x => cBlockX c id x)
 (fun _ x => aLoop x LF)
 (fun f ps asg body _ _ => aCode0 P call n LF ro (.rangeFunc f ps asg body))
 (fun id t ds h => some [⟨.exit id, t, ds, h⟩])
 (fun _ _ _ _ _ => none)
 (fun _ t ds h => some [⟨.normal, t, ds, h⟩])
 (fun _ _ _ _ => none)
 (fun t ds h => some [⟨.ret, t, ds, h⟩])
 (fun _ _ _ _ => none) c
theorem aCode_eq (P : Program) (call : Call1) (n LF : Nat) (ro : Option Nat) : ∀ (c : Code), aCode P call n LF ro c = aCode0 P call n LF ro c
 | .skip => rfl
 | .region _ ops draw => by
  funext t ds h
  show cRegion P call n ops draw t ds h = _
  simp only [aCode0, cRegion]
  cases draw <;> rfl
 | .seq x y => by
  funext t ds h
  show cThen (aCode P call n LF ro x) (aCode P call n LF ro y) t ds h = _
  rw [aCode_eq P call n LF ro x, aCode_eq P call n LF ro y]
  simp only [aCode0, cThen]
  congr 1; funext o; exact thenX_eq _ o
 | .cond c x y => by
  funext t ds h
  show cCond n c (aCode P call n LF ro x) (aCode P call n LF ro y) t ds h = _
  rw [aCode_eq P call n LF ro x, aCode_eq P call n LF ro y]
  simp only [aCode0, cCond]
  split
  · rename_i q _; cases q <;> rfl
  · rfl
 | .block id x => by
  funext t ds h
  show cBlockX x id (aCode P call n LF ro x) t ds h = _
  rw [aCode_eq P call n LF ro x]
  have key : (outX id) = fun o => match o.ex with
      | .exit k => if k = id then some [{ o with ex := .normal }] else some [o]
      | _ => some [o] := by
    funext o
    unfold outX
    split
    · rename_i k _; rw [beq_nat]
    · rfl
  simp only [aCode0, cBlockX]
  cases isRange x with
  | true =>
    show jn h (bindL _ (outX id)) = _
    rw [key]
  | false =>
    show bindL _ (outX id) = _
    rw [key]
 | .loop x => by
  show aLoop (aCode P call n LF ro x) LF = _
  rw [aCode_eq P call n LF ro x]
  funext t ds h
  simp only [aCode0]
 | .rangeFunc f ps asg body => rfl
 | .exit _ => rfl
 | .scope _ => by funext t ds h; simp only [aCode0]; rfl
 | .label _ => rfl
 | .goto _ => by funext t ds h; simp only [aCode0]; rfl
 | .ret => rfl
 | .refuse _ => by funext t ds h; simp only [aCode0]; rfl
theorem wpIn_fuel {F : Fence} {m : Nat} {c : Code} {Q : Exit → Act → World → Prop} (J : Nat → Act → World → Prop) (k : Nat) {a : Act} {w : World} (h0 : J k a w)
    (round : ∀ k a w, J k a w → c.wpIn F m P (Exit.then (fun a' w' => ∃ k', k' < k ∧ J k' a' w') Q) a w) : (Code.loop c).wpIn F m P Q a w := by
  classical
  have least : ∀ {p : Nat → Prop}, (∃ m, p m) → ∃ m, p m ∧ ∀ k, p k → m ≤ k := by
    intro p hx
    obtain ⟨m, hm⟩ := hx
    induction m using Nat.strongRecOn with
    | _ m ih =>
      by_cases hx : ∃ k, k < m ∧ p k
      · obtain ⟨k, hk, hp⟩ := hx; exact ih k hk hp
      · exact ⟨m, hm, fun k hp => by
          rcases Nat.lt_or_ge k m with h | h
          · exact (hx ⟨k, h, hp⟩).elim
          · exact h⟩
  let I : Act → World → Prop := fun a w => ∃ m, J m a w
  let μ : Act → World → Nat := fun a w => if h : ∃ m, J m a w then Classical.choose (least h) else 0
  have hμ : ∀ a w (h : I a w), J (μ a w) a w ∧ ∀ k, J k a w → μ a w ≤ k := by
    intro a w h
    have e : μ a w = Classical.choose (least h) := dif_pos h
    rw [e]; exact Classical.choose_spec (least h)
  refine wpIn_loop I μ ⟨k, h0⟩ ?_
  intro a w hI
  obtain ⟨hJ, _⟩ := hμ a w hI
  refine wpIn_mono (round _ a w hJ) ?_
  intro e a' w' q
  cases e with
  | normal =>
    obtain ⟨m', hlt, hJ'⟩ := q
    exact ⟨⟨m', hJ'⟩, Nat.lt_of_le_of_lt ((hμ a' w' ⟨m', hJ'⟩).2 m' hJ') hlt⟩
  | _ => exact q
def CodeOk (w0 : World) (P : Program) (n : Nat) (ro : Option Nat) (c : Code) (ev : T Value → List Nat → AH → COuts) : Prop :=
 ∀ ⦃t : T Value⦄ ⦃ds : List Nat⦄ ⦃h : AH⦄ ⦃l : List Out⦄ ⦃φ : Phi⦄ ⦃a : Act⦄ ⦃w : World⦄ ⦃q : Option Nat⦄ ⦃bs : List Deferred⦄ (m : Nat), ev t ds h = some l → R w0 φ h w → FR φ n t a.tmps → DR bs φ ds a.defers → RoR φ ro q →
  c.wpIn (FW q) m P (Post bs w0 φ h n l) a w
theorem loop_ok {ro : Option Nat} {c : Code} {ev : T Value → List Nat → AH → COuts} (hc : CodeOk w0 P n ro c ev) (LF : Nat) : CodeOk w0 P n ro (.loop c) (aLoop ev LF) := by
 intro t ds h l φ a w q bs m hs hr hf hd hq
 refine wpIn_fuel (fun k a w => ∃ t ds h' l' φ', aLoop ev k t ds h' = some l' ∧ (∀ o, o ∈ l' → o ∈ l) ∧ Nx φ φ' h h' ∧ R w0 φ' h' w ∧ FR φ' n t a.tmps ∧ DR bs φ' ds a.defers) LF
  ⟨t, ds, h, l, φ, hs, fun o ho => ho, .refl φ h, hr, hf, hd⟩ ?_
 rintro k a w ⟨t, ds, h1, l1, φ1, hs1, hsub, nx1, r1, f1, d1⟩
 cases k with
 | zero => simp [aLoop_zero] at hs1
 | succ k =>
  simp only [aLoop_succ] at hs1
  obtain ⟨l2, h2, hall⟩ := bindL_spec hs1
  refine wpIn_mono (hc m h2 r1 f1 d1 (hq.mono nx1.le)) ?_
  rintro e a' w' ⟨o, ho, hex, φ2, nx2, r2, f2, d2⟩
  obtain ⟨k2, hk, hsub2⟩ := hall o ho
  obtain ⟨ex, t', ds', h'⟩ := o
  cases hex with
  | normal => exact ⟨k, Nat.lt_succ_self k, t', ds', h', k2, φ2, hk, fun o ho => hsub o (hsub2 o ho), nx1.trans nx2, r2, f2, d2⟩
  | exit id =>
   cases hk
   exact ⟨_, hsub _ (hsub2 _ (List.mem_singleton.2 rfl)), .exit id, φ2, nx1.trans nx2, r2, f2, d2⟩
  | ret =>
   cases hk
   exact ⟨_, hsub _ (hsub2 _ (List.mem_singleton.2 rfl)), .ret, φ2, nx1.trans nx2, r2, f2, d2⟩
end
end Go.X
namespace Go.X
noncomputable section
open Go Go.RowKit
variable {w0 w w' : World} {φ φ' : Phi} {h h' : AH} {P : Program} {n : Nat} {t : T Value}
theorem region_list {ops : Array Oper} {F : Fence} {m : Nat} {Q : Exit → Act → World → Prop} {id : Nat} {a : Act} (hh : wpOpsIn F m P ops Q (List.range ops.size) a w) : (Code.region id ops false).wpIn F m P Q a w := wpIn_region hh
theorem rangeFunc_ok (hN : NoCount P) {call : Call1} (hc : CallsOk w0 P call) {ro : Option Nat} {f : Operand} {ps : List Tmp} {asg body : Code} {LF : Nat} : CodeOk w0 P n ro (.rangeFunc f ⟨ps⟩ asg body) (aCode0 P call n LF ro (.rangeFunc f ⟨ps⟩ asg body)) := by
 intro t ds h l φ a w q bs m hs hr hf hd hq
 simp only [aCode0] at hs
 split at hs
 · rename_i g first cap hfv
   have hfv' := aO_ok hf hfv
   split at hs
   · rename_i lb ms h2 hen
     unfold aEnter at hen
     split at hen
     · cases hen
     · split at hen
       · rename_i d h1 hn1
         split at hen
         · rename_i lb' h2' hn2
           cases hen
           obtain rfl : q = none := hq
           refine wpIn_rangeFunc fun fn _ => ?_
           -- the blocks
           obtain ⟨φ1, nx1, hb1, r1⟩ := hr.newObj (x := .deferred (some [])) hn1 (fun φ' w' _ hw => hw)
           have hsz : (w.alloc (.deferred (some []))).heap.size = w.heap.size + 1 := by simp
           obtain ⟨φ2, nx2, hb2, r2⟩ := r1.newObj (x := .loop ⟨.ready, none, fn, a.tmps, ⟨ps⟩, asg, body, w.heap.size⟩) hn2 (fun φ' w' le hw => ⟨fn, a.tmps, w.heap.size, hw, (hf.mono nx1.le).mono le⟩)
           have nx12 := nx1.trans nx2
           generalize hev : a.eval f = u at hfv'
           cases hfv' with
           | @func _ fn' _ _ first' cap' hfn ha hb h3 h4 =>
            cases hfn with
            | same hns =>
             have hL1 : LR φ2 first first' := (LR.of ha h3).mono nx12.le
             have hL2 : LR φ2 cap cap' := (LR.of hb h4).mono nx12.le
             split at hs
             · rename_i an h3' hcf
               obtain ⟨heq, hcall⟩ := run_callF (args' := first' ++ [.func (.yield (w.heap.size + 1)) #[] #[]] ++ cap') hN hcf ((w.alloc (.deferred (some []))).alloc (.loop ⟨.ready, none, fn, a.tmps, ⟨ps⟩, asg, body, w.heap.size⟩))
               cases heq
               have hyv : VR φ2 (yv lb) (.func (.yield (w.heap.size + 1)) #[] #[]) := by
                 have hb2' : φ2 lb = some ⟨w.heap.size + 1, 0, 0, 0, 0⟩ := by rw [← hsz]; exact hb2
                 exact .func' (.yield ⟨w.heap.size + 1, 0, 0, 0, 0⟩ hb2') .nil .nil
               have hargs := (hL1.append (.cons hyv .nil)).append hL2
               obtain ⟨l0, h0, hall⟩ := bindL_spec hs
               refine ⟨w.heap.size + 1, [{ target := .collected w.heap.size, args := #[] }], ((w.alloc (.deferred (some []))).alloc (.loop ⟨.ready, none, fn, a.tmps, ⟨ps⟩, asg, body, w.heap.size⟩)), ⟨.fn (.func g) ⟨cap'⟩, ⟨first' ++ [.func (.yield (w.heap.size + 1)) #[] #[]]⟩⟩, ((w.alloc (.deferred (some []))).alloc (.loop ⟨.ready, none, fn, a.tmps, ⟨ps⟩, asg, body, w.heap.size⟩)), g, ⟨first' ++ [.func (.yield (w.heap.size + 1)) #[] #[]] ++ cap'⟩, ((w.alloc (.deferred (some []))).alloc (.loop ⟨.ready, none, fn, a.tmps, ⟨ps⟩, asg, body, w.heap.size⟩)), run_enterLoop_outer fn a.tmps ⟨ps⟩ asg body, ?_, fun f' _ => FW_fn none f', ?_, fun x => (by cases x), FW_calls (q := none) ?_⟩
               · simp only [resolve, hev, Deferred.ofValue, Sem.run_pure]
                 congr 2
                 apply Array.ext'
                 simp [Act.eval]
               · simp only [invoke]
                 have : (⟨first' ++ [.func (.yield (w.heap.size + 1)) #[] #[]]⟩ ++ ⟨cap'⟩ : Array Value) = ⟨first' ++ [.func (.yield (w.heap.size + 1)) #[] #[]] ++ cap'⟩ := by apply Array.ext'; simp
                 rw [this]
                 exact hcall
               · refine ((hc _ _ _ _ _ _ h0 r2 (.enter hargs)).1 _ _ rfl).mono ?_
                 rintro e w3 ⟨v', rfl, v, h5, hmem, φ3, nx3, r3, _⟩
                 obtain ⟨k, hk, hsub⟩ := hall _ hmem
                 dsimp only at hk
                 split at hk
                 · rename_i st pend ts sz ps' asg' body' ho
                   have hlb : φ3 lb = some ⟨w.heap.size + 1, 0, 0, 0, 0⟩ := nx3.le _ _ (by rw [← hsz]; exact hb2)
                   obtain ⟨fn0, arr0, df0, hw0, hfr0⟩ := r3.dom _ _ _ hlb ho
                   have fin : ∀ {ex : Ex}, st ≠ .busy → exCode pend = some ex → k = [⟨ex, t, [d] ++ ds, { h5 with m := (h5.m.set lb (some (.loop .exhausted pend ts sz ps' asg' body'))).set lb none }⟩] →
                      rangePost (FW none) m P (w.heap.size + 1) (Post bs w0 φ h n l) { a with defers := [{ target := .collected w.heap.size, args := #[] }] ++ a.defers } (.returned v') w3 := by
                     intro ex hst hex hkk
                     subst hkk
                     have hmem2 := hsub _ (List.mem_singleton.2 rfl)
                     refine ⟨pend, w3.putObj (w.heap.size + 1) (.loop ⟨.exhausted, pend, fn0, arr0, ⟨ps'⟩, asg', body', df0⟩), run_endLoop hw0 hst, ?_⟩
                     have r4 : R w0 φ3 { h5 with m := (h5.m.set lb (some (.loop .exhausted pend ts sz ps' asg' body'))).set lb none } (w3.putObj (w.heap.size + 1) (.loop ⟨.exhausted, pend, fn0, arr0, ⟨ps'⟩, asg', body', df0⟩)) :=
                      R.drop (r3.put (o' := .loop .exhausted pend ts sz ps' asg' body') hlb ho rfl (fun w' hw => ⟨fn0, arr0, df0, hw, hfr0⟩)) lb trivial
                     have nxx : Nx φ φ3 h { h5 with m := (h5.m.set lb (some (.loop .exhausted pend ts sz ps' asg' body'))).set lb none } :=
                      ((nx12.trans nx3).trans (Nx.put hlb trivial)).trans (Nx.drop hlb trivial)
                     have pst : ∀ {ee : Exit}, ExR ex ee → Post bs w0 φ h n l ee { a with defers := [{ target := .collected w.heap.size, args := #[] }] ++ a.defers } (w3.putObj (w.heap.size + 1) (.loop ⟨.exhausted, pend, fn0, arr0, ⟨ps'⟩, asg', body', df0⟩)) := by
                      intro ee hee
                      refine ⟨_, hmem2, hee, φ3, nxx, r4, hf.mono (nx12.trans nx3).le, ?_⟩
                      exact .cons (nx3.le _ _ (nx2.le _ _ hb1)) (hd.mono (nx12.trans nx3).le)
                     cases pend with
                     | none => simp only [exCode] at hex; cases hex; exact pst .normal
                     | some c =>
                      cases c <;> simp only [exCode] at hex <;> cases hex
                      · exact wpIn_exit (pst (.exit _))
                      · exact wpIn_ret (pst .ret)
                   split at hk
                   · cases hk
                   · rename_i x1 x2 ex hst hex
                     cases hk
                     exact fin hst hex rfl
                   · cases hk
                 · cases hk
             · cases hs
         · cases hen
       · cases hen
   · cases hs
 · cases hs
theorem code_ok0 (hN : NoCount P) (hM : P.follows .mixedOrders = true) {call : Call1} (hc : CallsOk w0 P call) (ro : Option Nat) (LF : Nat) : ∀ (c : Code), CodeOk w0 P n ro c (aCode0 P call n LF ro c)
 | .skip => by
  intro t ds h l φ a w q bs m hs hr hf hd hq
  simp only [aCode0] at hs; cases hs
  exact wpIn_skip ⟨_, List.mem_singleton.2 rfl, .normal, φ, .refl φ h, hr, hf, hd⟩
 | .label _ => by
  intro t ds h l φ a w q bs m hs hr hf hd hq
  simp only [aCode0] at hs; cases hs
  exact wpIn_label ⟨_, List.mem_singleton.2 rfl, .normal, φ, .refl φ h, hr, hf, hd⟩
 | .ret => by
  intro t ds h l φ a w q bs m hs hr hf hd hq
  simp only [aCode0] at hs; cases hs
  exact wpIn_ret ⟨_, List.mem_singleton.2 rfl, .ret, φ, .refl φ h, hr, hf, hd⟩
 | .exit id => by
  intro t ds h l φ a w q bs m hs hr hf hd hq
  simp only [aCode0] at hs; cases hs
  exact wpIn_exit ⟨_, List.mem_singleton.2 rfl, .exit id, φ, .refl φ h, hr, hf, hd⟩
 | .seq x y => by
  intro t ds h l φ a w q bs m hs hr hf hd hq
  simp only [aCode0] at hs
  obtain ⟨l0, h0, hall⟩ := bindL_spec hs
  refine wpIn_seq (wpIn_mono (code_ok0 hN hM hc ro LF x m h0 hr hf hd hq) ?_)
  rintro e a' w' ⟨o, ho, hex, φ1, nx1, r1, f1, d1⟩
  obtain ⟨k, hk, hsub⟩ := hall _ ho
  obtain ⟨ex, t1, ds1, h1⟩ := o
  cases hex with
  | normal => exact wpIn_mono (code_ok0 hN hM hc ro LF y m hk r1 f1 d1 (hq.mono nx1.le)) (fun e a w p => (p.sub hsub).from nx1)
  | exit id => cases hk; exact ⟨_, hsub _ (List.mem_singleton.2 rfl), .exit id, φ1, nx1, r1, f1, d1⟩
  | ret => cases hk; exact ⟨_, hsub _ (List.mem_singleton.2 rfl), .ret, φ1, nx1, r1, f1, d1⟩
 | .cond c x y => by
  intro t ds h l φ a w q bs m hs hr hf hd hq
  simp only [aCode0] at hs
  split at hs
  · rename_i b hb
    have hb' := (aO_ok hf hb).bool_inv
    refine wpIn_cond_split hb' (fun e => ?_) (fun e => ?_)
    · rw [if_pos e] at hs; exact code_ok0 hN hM hc ro LF x m hs hr hf hd hq
    · rw [if_neg (by simp [e])] at hs; exact code_ok0 hN hM hc ro LF y m hs hr hf hd hq
  · cases hs
 | .block id c => by
  intro t ds h l φ a w q bs m hs hr hf hd hq
  have core : ∀ {l : List Out}, (bindL (aCode0 P call n LF ro c t ds h) fun o => match o.ex with
      | .exit k => if k = id then some [{ o with ex := .normal }] else some [o]
      | _ => some [o]) = some l → (Code.block id c).wpIn (FW q) m P (Post bs w0 φ h n l) a w := by
    intro l hs
    obtain ⟨l0, h0, hall⟩ := bindL_spec hs
    refine wpIn_block (wpIn_mono (code_ok0 hN hM hc ro LF c m h0 hr hf hd hq) ?_)
    rintro e a' w' ⟨o, ho, hex, φ1, nx1, r1, f1, d1⟩
    obtain ⟨k, hk, hsub⟩ := hall _ ho
    obtain ⟨ex, t1, ds1, h1⟩ := o
    cases hex with
    | normal => cases hk; exact ⟨_, hsub _ (List.mem_singleton.2 rfl), .normal, φ1, nx1, r1, f1, d1⟩
    | exit j =>
      dsimp only at hk
      simp only [Exit.inBlock]
      by_cases hj : j = id
      · rw [if_pos hj] at hk ⊢; cases hk; exact ⟨_, hsub _ (List.mem_singleton.2 rfl), .normal, φ1, nx1, r1, f1, d1⟩
      · rw [if_neg hj] at hk ⊢; cases hk; exact ⟨_, hsub _ (List.mem_singleton.2 rfl), .exit j, φ1, nx1, r1, f1, d1⟩
    | ret => cases hk; exact ⟨_, hsub _ (List.mem_singleton.2 rfl), .ret, φ1, nx1, r1, f1, d1⟩
  simp only [aCode0] at hs
  split at hs
  · obtain ⟨l0, h0, hcov⟩ := jn_ok hs
    refine wpIn_mono (core h0) ?_
    rintro e a' w' ⟨o, ho, hex, φ1, nx1, r1, f1, d1⟩
    obtain ⟨q, hq, c1, c2, c3, c4, c5⟩ := hcov o ho
    exact ⟨q, hq, by rw [c1]; exact hex, φ1, c5 _ _ nx1, c4 _ _ _ r1, c3 _ _ _ f1, by rw [c2]; exact d1⟩
  · exact core hs
 | .loop c => loop_ok (code_ok0 hN hM hc ro LF c) LF
 | .region id ops draw => by
  intro t ds h l φ a w q bs m hs hr hf hd hq
  simp only [aCode0] at hs
  obtain ⟨l0, h0, hall⟩ := bindL_spec hs
  have fin : ∀ t' h' φ' (a' : Act) w', (t', h') ∈ l0 → Nx φ φ' h h' → R w0 φ' h' w' → FR φ' n t' a'.tmps → a'.defers = a.defers → Post bs w0 φ h n l .normal a' w' := by
    intro t' h' φ' a' w' hm nx' r' f' d'
    obtain ⟨k, hk, hsub⟩ := hall _ hm
    cases hk
    exact ⟨_, hsub _ (List.mem_singleton.2 rfl), .normal, φ', nx', r', f', by rw [d']; exact hd.mono nx'.le⟩
  cases draw with
  | true => exact draw_ok hN hM hc h0 hr hf fin
  | false => exact region_list (ops_ok hN hc h0 hr hf fin)
 | .rangeFunc f ps asg body => by obtain ⟨ps⟩ := ps; exact rangeFunc_ok hN hc
 | .scope c => by intro t ds h l φ a w q bs m hs hr hf hd hq; simp [aCode0] at hs
 | .goto c => by intro t ds h l φ a w q bs m hs hr hf hd hq; simp [aCode0] at hs
 | .refuse c => by intro t ds h l φ a w q bs m hs hr hf hd hq; simp [aCode0] at hs
theorem code_ok (hN : NoCount P) (hM : P.follows .mixedOrders = true) {call : Call1} (hc : CallsOk w0 P call) (ro : Option Nat) (LF : Nat) (c : Code) : CodeOk w0 P n ro c (aCode P call n LF ro c) := by
 rw [aCode_eq]; exact code_ok0 hN hM hc ro LF c
end
end Go.X
namespace Go.X
noncomputable section
open Go Go.RowKit
variable {w0 w w' : World} {φ φ' : Phi} {h h' : AH} {P : Program} {n : Nat} {t : T Value}
def aLeave : List Nat → AH → Option AH
 | [], h => some h
 | d :: ds, h => match h.m.get d with
  | some .dfr => aLeave ds { h with m := h.m.set d none }
  | _ => none
def aRes1 (P : Program) (n : Nat) (t : T Value) (h : AH) : ResultVar → Option Value
 | .tmp k => if k < n then some ((t.get k).getD undef) else none
 | .cell k T => if k < n then (match t.get k with
  | some (.pointer (some a)) => aLoad P T a h
  | _ => none) else none
def aResL (P : Program) (n : Nat) (t : T Value) (h : AH) : List ResultVar → Option (List Value)
 | [] => some []
 | x :: l => match aRes1 P n t h x, aResL P n t h l with
  | some v, some m => some (v :: m)
  | _, _ => none
def aRes (P : Program) (n : Nat) (t : T Value) (h : AH) (l : List ResultVar) : Option Value := match aResL P n t h l with
 | some [v] => some v
 | some l => some (.tuple ⟨l⟩)
 | none => none
def resF (a : Array Value) : ResultVar → Sem Value
 | .tmp t => pure (a.getD t undef)
 | .cell b T => do loadVar T (← asAddr (a.getD b undef))
def rslot : ResultVar → Nat
 | .tmp k => k
 | .cell k _ => k
def SR (φ : Phi) (n : Nat) (t : T Value) (a : Array Value) (l : List ResultVar) : Prop := ∀ x, x ∈ l → rslot x < n → VR φ ((t.get (rslot x)).getD undef) (a.getD (rslot x) undef)
theorem FR.sr {a : Array Value} (f : FR φ n t a) (l : List ResultVar) : SR φ n t a l := fun _x _ hk => f.at _ hk
theorem res1_ok (r : R w0 φ h w) {a : Array Value} {x : ResultVar} (f : rslot x < n → VR φ ((t.get (rslot x)).getD undef) (a.getD (rslot x) undef)) {v : Value} (hs : aRes1 P n t h x = some v) :
  ∃ v', (resF a x).run P w = .ok v' w ∧ VR φ v v' := by
 cases x with
 | tmp k =>
  simp only [aRes1] at hs
  split at hs
  · cases hs; exact ⟨_, rfl, f ‹_›⟩
  · cases hs
 | cell k T =>
  simp only [aRes1] at hs
  split at hs
  · rename_i hk
    split at hs
    · rename_i ad hg
      have hv := f hk
      simp only [rslot] at hv
      rw [hg] at hv
      simp only [Option.getD_some] at hv
      obtain ⟨i, hi, _, e⟩ := hv.ptr_inv
      obtain ⟨v', h1, h2⟩ := run_loadVar_at (P := P) r hi hs
      refine ⟨v', ?_, h2⟩
      simp only [resF, e, asAddr, Sem.run_bind, Sem.run_pure, Result.andThen_ok]
      exact h1
    · cases hs
  · cases hs
theorem res_okS (r : R w0 φ h w) {fn : Func} {a : Array Value} (f : SR φ n t a fn.results.toList) {v : Value} (hs : aRes P n t h fn.results.toList = some v) : ∃ v', (results fn a).run P w = .ok v' w ∧ VR φ v v' := by
 have key : ∀ (l : List ResultVar) {m : List Value}, SR φ n t a l → aResL P n t h l = some m → ∃ m', (l.mapM (m := Sem) (resF a)).run P w = .ok m' w ∧ LR φ m m' := by
   intro l
   induction l with
   | nil => intro m _ hm; simp only [aResL] at hm; cases hm; exact ⟨[], by simp, .nil⟩
   | cons x l ih =>
    intro m hf hm
    simp only [aResL] at hm
    split at hm
    · rename_i v1 m1 h1 h2
      cases hm
      obtain ⟨v', h3, h4⟩ := res1_ok r (hf x List.mem_cons_self) h1
      obtain ⟨m', h5, h6⟩ := ih (fun y hy => hf y (List.mem_cons_of_mem _ hy)) h2
      refine ⟨v' :: m', ?_, .cons h4 h6⟩
      rw [List.mapM_cons]
      simp only [Sem.run_bind, h3, Result.andThen_ok, h5, Sem.run_pure]
    · cases hm
 unfold aRes at hs
 have hm : ∃ m, aResL P n t h fn.results.toList = some m := by
   cases hq : aResL P n t h fn.results.toList with
   | none => rw [hq] at hs; simp at hs
   | some m => exact ⟨m, rfl⟩
 obtain ⟨m, hm⟩ := hm
 obtain ⟨m', h1, h2⟩ := key _ f hm
 have hrun : (fn.results.mapM (m := Sem) (resF a)).run P w = .ok ⟨m'⟩ w := by
   have e : fn.results = ⟨fn.results.toList⟩ := rfl
   rw [e]
   have e2 : (⟨fn.results.toList⟩ : Array ResultVar).mapM (m := Sem) (resF a) =
    List.toArray <$> (fn.results.toList.mapM (m := Sem) (resF a)) := List.mapM_toArray
   rw [e2]
   have e3 : ∀ (z : Sem (List Value)), (List.toArray <$> z : Sem (Array Value)) = z >>= fun l => pure l.toArray := fun z => rfl
   rw [e3, Sem.run_bind, h1, Result.andThen_ok]
   rfl
 rw [hm] at hs
 have hres : (results fn a).run P w = .ok (if hh : (⟨m'⟩ : Array Value).size = 1 then (⟨m'⟩ : Array Value)[0] else .tuple ⟨m'⟩) w := by
   have hdef : results fn a = ((fn.results.mapM (m := Sem) (resF a)) >>= fun vs => pure (if hh : vs.size = 1 then vs[0] else .tuple vs)) := by
    unfold results
    congr 1
   rw [hdef]
   rw [Sem.run_bind, hrun, Result.andThen_ok]
   rfl
 split at hs
 · rename_i v1 e
   cases e
   cases hs
   obtain ⟨u, rfl, hu⟩ := h2.one_inv
   exact ⟨u, by rw [hres]; rfl, hu⟩
 · rename_i l hne e
   cases e
   cases hs
   have hl := h2.length
   have : ¬ (⟨m'⟩ : Array Value).size = 1 := by
    intro h1
    have h1' : m'.length = 1 := h1
    rw [← hl] at h1'
    match m, h1' with
    | [x], _ => exact hne x rfl
   exact ⟨_, by rw [hres, dif_neg this], .tuple' h2⟩
 · rename_i e; cases e
theorem res_ok (r : R w0 φ h w) {fn : Func} {a : Array Value} (f : FR φ n t a) {v : Value} (hs : aRes P n t h fn.results.toList = some v) : ∃ v', (results fn a).run P w = .ok v' w ∧ VR φ v v' := res_okS r (f.sr _) hs
def putLoop (h : AH) (b : Nat) (o : AObj) : AH := { h with m := h.m.set b (some o) }
def aFun (P : Program) (LF : Nat) (call : Call1) : Call1 := fun an h => match an with
 | .enter f args => (match P.funcs[f]? with
  | some fn => (match fn.body with
   | some c => if args.length ≤ fn.ntmps then bindL (aCode P (call) fn.ntmps LF none c (T.fill args 0 .e) [] h) fun o => (match o.ex with
     | .exit _ => none
     | _ => (match aLeave o.ds o.h with
      | some h' => (match aRes P fn.ntmps o.t h' fn.results.toList with
       | some v => some [(v, h')]
       | none => none)
      | none => none)) else none
   | none => none)
  | none => none)
 | .round b ts sz asg body => bindL (aCode P (call) sz LF (some b) asg ts [] h) fun o => (match o.ex with
   | .normal => (match o.h.m.get b with
    | some (.loop .ready pend ts' sz' ps asg' body') => bindL (aCode P (call) sz LF (some b) body o.t o.ds (putLoop o.h b (.loop .busy pend ts' sz' ps asg' body'))) fun o2 => (match o2.h.m.get b with
     | some (.loop _ _ ts2 sz2 ps2 asg2 body2) => (match o2.ex with
      | .normal => some [(.bool true, putLoop o2.h b (.loop .ready none ts2 sz2 ps2 asg2 body2))]
      | .ret => some [(.bool false, putLoop o2.h b (.loop .done (some .ret) ts2 sz2 ps2 asg2 body2))]
      | .exit id => some [(.bool false, putLoop o2.h b (.loop .done (some (.exit id)) ts2 sz2 ps2 asg2 body2))])
     | _ => none)
    | _ => none)
   | _ => none)
 | _ => none
def aRun (P : Program) (LF : Nat) : Nat → Call1
 | 0 => fun _ _ => none
 | k + 1 => aFun P LF (aRun P LF k)
def aRunW (ov : Call1 → Call1) (P : Program) (LF : Nat) : Nat → Call1
 | 0 => fun _ _ => none
 | k + 1 => ov (aFun P LF (aRunW ov P LF k))
theorem leaves_ok {fn : Func} {tmps : Array Value} {l : List (Value × AH)} {φ0 : Phi} {h0 : AH} {t : T Value} : ∀ (ds : List Nat) {ds' : List Deferred} {h h' : AH} {φ : Phi} {w : World} {v : Value}, aLeave ds h = some h' → DR [] φ ds ds' → R w0 φ h w → FR φ n t tmps → Nx φ0 φ h0 h →
  aRes P n t h' fn.results.toList = some v → (v, h') ∈ l →
  LeavesInM Fence.wide 0 P fn tmps (fun e w' => ∃ v', e = .returned v' ∧ ∃ v h', (v, h') ∈ l ∧ ∃ φ', Nx φ0 φ' h0 h' ∧ R w0 φ' h' w' ∧ VR φ' v v') ds' .returning w
 | [], ds', h, h', φ, w, v, hs, hd, hr, hf, nx, hv, hm => by
  cases hd
  simp only [aLeave] at hs; cases hs
  obtain ⟨v', h1, h2⟩ := res_ok hr hf hv
  exact ⟨v', h1, v', rfl, v, _, hm, φ, nx, hr, h2⟩
 | d :: ds, ds', h, h', φ, w, v, hs, hd, hr, hf, nx, hv, hm => by
  cases hd with
  | @cons _ i _ l' hb ht =>
   simp only [aLeave] at hs
   split at hs
   · rename_i ho
     have hw : w.heap[i.c]? = some (.deferred (some [])) := hr.dom _ _ _ hb ho
     have hlt : T.Ok (d) := trivial
     refine ⟨by simp, .inl ⟨i.c, w.putObj i.c (.deferred none), rfl, run_takeDeferred hw, ?_⟩⟩
     have hlow : w0.heap.size ≤ i.c := hr.low _ _ _ hb ho rfl
     have hother : ∀ k, k ≠ i.c → (w.putObj i.c (.deferred none)).heap[k]? = w.heap[k]? := fun k hk => putW_other hk
     have r2 : R w0 φ { h with m := h.m.set d none } (w.putObj i.c (.deferred none)) := by
      have rd := hr.drop d hlt
      have free : ∀ b j o', φ b = some j → (h.m.set d none).get b = some o' → j.c ≠ i.c := by
       intro b j o' hj hgo hc
       rw [T.get_set] at hgo
       by_cases e : b = d
       · rw [if_pos e] at hgo; cases hgo
       · rw [if_neg e] at hgo; exact e (hr.inj _ _ _ _ _ _ hb hj ho hgo rfl hc.symm).symm
      have hsz : (w.putObj i.c (.deferred none)).heap.size = w.heap.size := by simp
      exact ⟨fun b j o hj ho => (rd.dom b j o hj ho).world (hother _ (free b j o hj ho)), rd.low, rd.inj, fun b j hj => by rw [hsz]; exact rd.lt b j hj, rd.nx,
       rd.below.trans ⟨rfl, rfl, rfl, by rw [hsz]; exact Nat.le_refl _, fun k hk => hother k (by omega)⟩⟩
     exact leaves_ok ds hs ht r2 hf (nx.trans (Nx.drop hb hlt)) hv hm
   · cases hs
theorem FR.entry {args args' : List Value} (hl : LR φ args args') {m : Nat} (hsz : args.length ≤ m) : FR φ m (T.fill args 0 .e) (⟨args'⟩ ++ Array.replicate (m - (⟨args'⟩ : Array Value).size) undef) := by
 have hle : args'.length ≤ m := by rw [← hl.length]; exact hsz
 refine ⟨by simp; omega, trivial, fun k u hk => ?_⟩
 rw [T.get_fill]
 by_cases hlt : k < args.length
 · rw [if_pos (by omega)]
   have hlt' : k < args'.length := by rw [← hl.length]; exact hlt
   rw [Array.getElem?_append_left (by simpa using hlt')] at hk
   obtain ⟨v', h1, h2⟩ := hl.get (List.getElem?_eq_getElem hlt)
   have : args'[k]? = some u := by simpa using hk
   rw [h1] at this; cases this
   simp only [Nat.sub_zero, List.getElem?_eq_getElem hlt, Option.getD_some]
   exact h2
 · rw [if_neg (by omega)]
   have hge : ¬ k < args'.length := by rw [← hl.length]; exact hlt
   rw [Array.getElem?_append_right (by simpa using hge), Array.getElem?_replicate] at hk
   split at hk
   · cases hk; exact .undef
   · cases hk
theorem fun_ok (hN : NoCount P) (hM : P.follows .mixedOrders = true) (LF : Nat) {call : Call1} (ih : CallsOk w0 P call) : CallsOk w0 P (aFun P LF call) := by
 intro an h l φ w nx hs hr hnr
 cases hnr with
 | val hv => simp [aFun] at hs
 | skip => simp [aFun] at hs
 | @enter f args args' hl =>
  refine ⟨?_, fun _ _ _ _ _ e => by cases e⟩
  intro f' args2 e
  cases e
  simp only [aFun] at hs
  split at hs
  · rename_i fn hf
    split at hs
    · rename_i c hb
      split at hs
      · rename_i hsz
        obtain ⟨l0, h0, hall⟩ := bindL_spec hs
        refine (callsIn_wide (n := 0)).1 (callsIn_of_wp_marks hf hb trivial ?_ rfl)
        have hfr := FR.entry (m := fn.ntmps) hl hsz
        refine wpIn_mono (code_ok hN hM ih none LF c (q := none) 0 h0 hr hfr .nil rfl) ?_
        rintro e a' w' ⟨o, ho, hex, φ1, nx1, r1, f1, d1⟩
        obtain ⟨k2, hk, hsub⟩ := hall _ ho
        obtain ⟨ex, t1, ds1, h1⟩ := o
        have fin : (match aLeave ds1 h1 with
         | some h' => (match aRes P fn.ntmps t1 h' fn.results.toList with
           | some v => some [(v, h')]
           | none => none)
         | none => none) = some k2 → LeavesInM Fence.wide 0 P fn a'.tmps (fun e w' => ∃ v', e = .returned v' ∧ ∃ v h', (v, h') ∈ l ∧ ∃ φ', Nx φ φ' h h' ∧ R w0 φ' h' w' ∧ VR φ' v v') a'.defers .returning w' := by
         intro hk
         split at hk
         · rename_i h2 hlv
           split at hk
           · rename_i v hv
             cases hk
             exact leaves_ok ds1 hlv d1 r1 f1 nx1 hv (hsub _ (List.mem_singleton.2 rfl))
           · cases hk
         · cases hk
        cases hex with
        | normal => exact fin hk
        | exit id => cases hk
        | ret => exact fin hk
      · cases hs
    · cases hs
  · cases hs
 | @round b i ts sz asg body fn arr hb hfr =>
  refine ⟨fun _ _ e => (by cases e), ?_⟩
  intro b' f' tmps' asg' body' e m
  cases e
  simp only [aFun] at hs
  obtain ⟨l0, h0, hall⟩ := bindL_spec hs
  refine roundIn_of_wpIn trivial ?_
  refine wpIn_mono (code_ok hN hM ih (some b) LF asg (q := some i.c) m h0 hr hfr .nil ⟨i, hb, rfl⟩) ?_
  rintro e a1 w1 ⟨o, ho, hex, φ1, nx1, r1, f1, d1⟩
  obtain ⟨k2, hk, hsub⟩ := hall _ ho
  obtain ⟨ex, t1, ds1, h1⟩ := o
  cases hex with
  | exit id => cases hk
  | ret => cases hk
  | normal =>
    dsimp only at hk
    split at hk
    · rename_i pend ts' sz' ps asg2 body2 hget
      have hb1 := nx1.le _ _ hb
      obtain ⟨fn0, arr0, df0, hw0, hfr0⟩ := r1.dom _ _ _ hb1 hget
      refine ⟨_, run_beginRound hw0 rfl, ?_⟩
      have r2 : R w0 φ1 (putLoop h1 b (.loop .busy pend ts' sz' ps asg2 body2)) (w1.putObj i.c (.loop ⟨.busy, pend, fn0, arr0, ⟨ps⟩, asg2, body2, df0⟩)) := r1.put hb1 hget rfl (fun w' hw => ⟨fn0, arr0, df0, hw, hfr0⟩)
      have nx2 : Nx φ1 φ1 h1 (putLoop h1 b (.loop .busy pend ts' sz' ps asg2 body2)) := Nx.put hb1 trivial
      obtain ⟨l3, h3, hall3⟩ := bindL_spec hk
      refine wpIn_mono (code_ok hN hM ih (some b) LF body (q := some i.c) m h3 r2 f1 d1 ⟨i, hb1, rfl⟩) ?_
      rintro e a2 w2 ⟨o2, ho2, hex2, φ3, nx3, r3, f3, d3⟩
      obtain ⟨k4, hk4, hsub4⟩ := hall3 _ ho2
      obtain ⟨ex2, t2, ds2, h2⟩ := o2
      dsimp only at hk4
      split at hk4
      · rename_i st2 pd2 ts2 sz2 ps2 asg3 body3 hget2
        have hb3 := nx3.le _ _ hb1
        obtain ⟨fn1, arr1, df1, hw1, hfr1⟩ := r3.dom _ _ _ hb3 hget2
        have nxx : ∀ (o : AObj), Nx φ φ3 h (putLoop h2 b o) := fun o => ((nx1.trans nx2).trans nx3).trans (Nx.put hb3 trivial)
        have rr : ∀ (st : LoopState) (pd : Option Code), R w0 φ3 (putLoop h2 b (.loop st pd ts2 sz2 ps2 asg3 body3)) (w2.putObj i.c (.loop ⟨st, pd, fn1, arr1, ⟨ps2⟩, asg3, body3, df1⟩)) := fun st pd => r3.put hb3 hget2 rfl (fun w' hw => ⟨fn1, arr1, df1, hw, hfr1⟩)
        cases hex2 with
        | normal =>
         cases hk4
         exact ⟨_, _, run_endRound none hw1, _, rfl, _, _, hsub _ (hsub4 _ (List.mem_singleton.2 rfl)), φ3, nxx _, rr .ready none, .bool _⟩
        | exit id =>
         cases hk4
         exact ⟨_, _, run_endRound (some (.exit id)) hw1, _, rfl, _, _, hsub _ (hsub4 _ (List.mem_singleton.2 rfl)), φ3, nxx _, rr .done (some (.exit id)), .bool _⟩
        | ret =>
         cases hk4
         exact ⟨_, _, run_endRound (some .ret) hw1, _, rfl, _, _, hsub _ (hsub4 _ (List.mem_singleton.2 rfl)), φ3, nxx _, rr .done (some .ret), .bool _⟩
      · cases hk4
    · cases hk
theorem runW_callsOk (hN : NoCount P) (hM : P.follows .mixedOrders = true) (LF : Nat) {ov : Call1 → Call1} (hov : ∀ call, CallsOk w0 P call → CallsOk w0 P (ov call)) : ∀ k, CallsOk w0 P (aRunW ov P LF k)
 | 0 => by intro an h l φ w nx hs; simp [aRunW] at hs
 | k + 1 => hov _ (fun_ok hN hM LF (runW_callsOk hN hM LF hov k))
end
end Go.X
