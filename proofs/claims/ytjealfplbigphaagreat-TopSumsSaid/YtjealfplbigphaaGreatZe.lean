/- Parts of the closed evaluator. -/
import Derived.Test.YtjealfplbigphaaGreatZd
namespace Go.X
noncomputable section
open Go Go.RowKit
variable {w0 w w' : World} {φ φ' φ0 : Phi} {h h' h0 h1 h2 : AH} {P : Program} {n : Nat} {t t' tb t1 t2 : T Value} {ops : Array Oper} {ls ms : List Nat}
theorem zw8 {o : Op} (hk : opK o ≠ 0) : ∀ c, o ≠ .defer c := fun c e => by subst e; simp [opK] at hk
abbrev Ct := Nat -> List Nat -> T Value -> AH -> Prop
def Inv (w0 : World) (P : Program) (n : Nat) (ops : Array Oper) (ls : List Nat) (φ0 : Phi) (h0 : AH) (tb : T Value) (d0 : List Deferred) (C : Ct) (lst : Nat -> Prop) (a : Act) (w : World) : Prop :=
 ∃ L seen t1 h1 φ b, C L seen t1 h1 /\
  Core w0 P n ops φ0 h0 tb d0 (fun i => ls.getD i 0 < L ∨ (isE ops i = false /\ ls.getD i 0 = L)) (seen ++ lvN ops ls L) t1 h1 φ b lst a w /\
  ∀ (i : Nat) (o : Oper), ops[i]? = some o -> opK o.op = 2 -> (ls.getD i 0 < L ∨ (isE ops i = false /\ ls.getD i 0 = L)) -> ¬ lst i -> aWant n t1 ops o = true -> ∃ v, aVal P n t1 h1 o.op = some v /\ ∀ d, o.dst = some d -> vt t1 d = v
def Enter (P : Program) (n : Nat) (ops : Array Oper) (ls : List Nat) (C : Ct) : Ct := fun L seen t h => ∃ t1 h1, aNs P n ops (lvN ops ls L) t h = some (t1, h1) /\ recheck P n ops (seen ++ lvN ops ls L) t1 h1 = true /\ C L seen t1 h1
def CStep (P : Program) (call : Call1) (n : Nat) (ops : Array Oper) (ls ms : List Nat) (C C' : Ct) (i : Nat) (o : Oper) : Prop := ∀ L seen t1 h1, ls.getD i 0 = L -> C L seen t1 h1 ->
 (aWant n t1 ops o = true -> ∃ l0, aStep P call n t1 h1 o.op = some l0 /\ ∀ v h2, (v, h2) ∈ l0 -> ∃ t2, aPut n t1 o.dst v = some t2 /\ Enter P n ops ls C' (L + 1) ((seen ++ lvN ops ls L).filter fun j => !(ms.getD i 0).testBit j) t2 h2) /\
 (aWant n t1 ops o = false -> ∃ t2, aPut n t1 o.dst undef = some t2 /\ Enter P n ops ls C' (L + 1) ((seen ++ lvN ops ls L).filter fun j => !(ms.getD i 0).testBit j) t2 h1)
theorem zg7 (sp : PlanSpec n ops ls ms) (hn : T.Ok (n)) {C : Ct} {d0 : List Deferred} {L : Nat} {seen : List Nat} {b : Nat -> Nat} {lst : Nat -> Prop} {a : Act}
  (c : Core w0 P n ops φ0 h0 tb d0 (fun i => ls.getD i 0 < L) seen t h φ b lst a w) (hs : Enter P n ops ls C L seen t h) : Inv w0 P n ops ls φ0 h0 tb d0 C lst a w := by
 obtain ⟨t1, h1, hns, hr, hC⟩ := hs
 obtain ⟨b', c1, c2⟩ := uj4 sp hn c hns hr
 exact ⟨L, seen, t1, h1, φ, b', hC, c1, c2⟩
def StepsOk (w0 : World) (P : Program) (call : Call1) (n : Nat) (ops : Array Oper) (φ0 : Phi) (h0 : AH) (tb : T Value) (d0 : List Deferred) (q : Option Nat) (m : Nat) (Q : Exit -> Act -> World -> Prop) : Prop :=
 ∀ ⦃i : Nat⦄ ⦃o : Oper⦄, ops[i]? = some o -> ∀ ⦃t : T Value⦄ ⦃h : AH⦄ ⦃φ : Phi⦄ ⦃a : Act⦄ ⦃w : World⦄ ⦃l : List (Value × AH)⦄ ⦃K : Act -> World -> Prop⦄, aStep P call n t h o.op = some l -> Nx φ0 φ h0 h -> R w0 φ h w -> FR φ n t a.tmps -> a.defers = d0 ->
  (∀ s u, a.tmps[s]? = some u -> (∀ j, dstAt ops j ≠ some s) -> VR φ (vt tb s) u) ->
  (∀ v h2 v' w' φ', (v, h2) ∈ l -> Nx φ φ' h h2 -> R w0 φ' h2 w' -> VR φ' v v' -> K (a.put o.dst v') w') -> o.wpIn (FW q) m P a w K Q
theorem jk3 (_hN : NoCount P) {call : Call1} {d0 : List Deferred} {C C' : Ct} {lst : Nat -> Prop} {a : Act} {q : Option Nat} {m : Nat} {Q : Exit -> Act -> World -> Prop} {K : Act -> World -> Prop} (hc : StepsOk w0 P call n ops φ0 h0 tb d0 q m Q) (sp : PlanSpec n ops ls ms) (hn : T.Ok (n))
  (hcl : ∀ (i : Nat) (o : Oper), lst i -> ops[i]? = some o -> ∀ j, j ∈ edgesOf o -> lst j) (inv : Inv w0 P n ops ls φ0 h0 tb d0 C lst a w) {i : Nat} {o : Oper} (ho : ops[i]? = some o) (hun : ¬ lst i) (hrd : ∀ j, j ∈ edgesOf o -> lst j)
  (hE' : isE ops i = true -> CStep P call n ops ls ms C C' i o) (hKN : isE ops i = false -> ∀ a' w', Inv w0 P n ops ls φ0 h0 tb d0 C (fun j => lst j ∨ j = i) a' w' -> K a' w') (hKE : isE ops i = true -> ∀ a' w', Inv w0 P n ops ls φ0 h0 tb d0 C' (fun j => lst j ∨ j = i) a' w' -> K a' w') : wpOpIn (FW q) m P ops Q i K a w := by
 obtain ⟨L, seen, t1, h1, φ, b, hcont, c, k2⟩ := inv
 have hi : i < ops.size := (Array.getElem?_eq_some_iff.1 ho).1
 have hdi := qq7 ho
 -- its level
 have hle : ls.getD i 0 ≤ L := by
  rcases sp.att i o ho with h5 | ⟨j, hj, h5⟩
  . omega
  . have hlj := hrd j hj
    have hjl : j < ops.size := Nat.lt_trans (sp.edge i o j ho hj).1 hi
    have hd := c.ld j hjl hlj
    unfold step1 at h5
    cases hE : isE ops j with
    | true =>
      rw [hE] at h5
      simp only [if_true] at h5
      rcases hd with hd | hd
      . omega
      . rw [hE] at hd; cases hd.1
    | false =>
      rw [hE] at h5
      simp only [Bool.false_eq_true, if_false, Nat.add_zero] at h5
      rcases hd with hd | hd <;> omega
 obtain ⟨tS, fS, wS, uS⟩ := c.frame hn
 -- a slot that no edge of its own writes is as it was
 have noedge : ∀ s, s ∈ slots o.op -> s < n -> (∀ j, j ∈ edgesOf o -> dstAt ops j ≠ some s) -> vt tS s = vt tb s := by
  intro s hs hsn hno
  refine uS s hsn (fun j hl hd => ?_)
  rcases sp.slot i o s j ho hs hd with h5 | h5
  . exact hno j h5 hd
  . have hjo : ops[j]? = some (ops[j]'(V7 hd)) := Array.getElem?_eq_getElem (V7 hd)
    have h6 := h5.1
    unfold edgeTo at h6
    rw [hjo] at h6
    exact hun (hcl j _ hl hjo i (by simpa using h6))
 have gS : ∀ s, gslot ops o = some s -> s < n -> vt tS s = vt t1 s := by
  intro s hg hsn
  unfold gslot at hg
  cases hq : o.guard with
  | none => rw [hq] at hg; cases hg
  | some p =>
    obtain ⟨g, y⟩ := p
    rw [hq] at hg
    exact wS s g hsn (hrd g (sp.guard i o g y ho hq)) hg
 unfold wpOpIn
 rw [ho]
 dsimp only
 rw [xu4 fS]
 cases hE : isE ops i with
 | false =>
  have hdone : ls.getD i 0 < L ∨ (isE ops i = false /\ ls.getD i 0 = L) := by
    rcases Nat.lt_or_ge (ls.getD i 0) L with h5 | h5
    . exact .inl h5
    . exact .inr ⟨hE, by omega⟩
  have hk0 : opK o.op ≠ 0 := by rw [ux1 ho] at hE; simpa using hE
  obtain ⟨tq, hh, q1, q2, q3, q4⟩ := c.nn i o ho hE hdone hun
  have aS : ∀ s, s ∈ slots o.op -> s < n -> vt tq s = vt tS s := by
    intro s hs hsn
    by_cases e : ∃ j, j ∈ edgesOf o /\ dstAt ops j = some s
    . obtain ⟨j, hj, hd⟩ := e
      rw [(q1 s hs).1 j hj hd, wS s j hsn (hrd j hj) hd]
    . have hno : ∀ j, j ∈ edgesOf o -> dstAt ops j ≠ some s := fun j hj hd => e ⟨j, hj, hd⟩
      rw [(q1 s hs).2 hno, noedge s hs hsn hno]
  have gq : ∀ s, gslot ops o = some s -> s < n -> vt tq s = vt tS s := fun s hg hsn => by rw [q2 s hg, gS s hg hsn]
  have hwq : aWant n tq ops o = aWant n tS ops o := qu6 gq
  have hw1 : aWant n t1 ops o = aWant n tS ops o := qu6 (fun s hg hsn => (gS s hg hsn).symm)
  -- what is known behind
  have fin : ∀ {v v' : Value} {w' : World} {φ' : Phi}, Le φ φ' -> Nx φ0 φ' h0 h1 -> R w0 φ' h1 w' -> VR φ' v v' -> (∀ d, o.dst = some d -> vt t1 d = v) ->
      (∀ (j : Nat) (o' : Oper), ops[j]? = some o' -> j ≠ i -> isE ops j = false -> (ls.getD j 0 < L ∨ (isE ops j = false /\ ls.getD j 0 = L)) -> b j % 2 = 0 -> b j / 2 < h1.next -> φ (b j / 2) = none -> φ' (b j / 2) = none) -> K (a.put o.dst v') w' := by
    intro v v' w' φ' le nx r hv hd hkeep
    obtain ⟨p1, p2, p3, p4⟩ := c.put le ho hv (fun s _ => rfl) hd
    refine hKN hE _ _ ⟨L, seen, t1, h1, φ', b, hcont, ⟨fun j hj hl => ?_, fun j hj hEj hdj => .inl (c.ed j hj hEj hdj), r, nx, p1, p2, p3, p4, c.tt, fun j o' ho' hEj hdj hl => ?_, c.bb, c.bl, fun j o' ho' hkj hdj hl => c.sn j o' ho' hkj hdj (fun x => hl (.inl x))⟩,
      fun j o' ho' hkj hdj hl hw => k2 j o' ho' hkj hdj (fun x => hl (.inl x)) hw⟩
    . rcases hl with hl | hl
      . exact c.ld j hj hl
      . subst hl; exact hdone
    . obtain ⟨tq', hh', e1, e2, e3, e4⟩ := c.nn j o' ho' hEj hdj (fun x => hl (.inl x))
      refine ⟨tq', hh', e1, e2, e3, fun hk3 hw => ?_⟩
      have hb : b j / 2 < h1.next := by
        rcases e3 with ⟨_, ⟨hk, _⟩ | ⟨_, al, mk, _, hb, _⟩⟩ | ⟨hw', _⟩
        . omega
        . exact hb
        . rw [hw] at hw'; cases hw'
      exact ⟨hkeep j o' ho' (fun e => hl (.inr e)) hEj hdj (e4 hk3 hw).2 hb (e4 hk3 hw).1, (e4 hk3 hw).2⟩
  rcases q3 with ⟨hw, ⟨hk12, v, hv, hd⟩ | ⟨hk3, al, mk, hal, hb1, hb2, hd⟩⟩ | ⟨hw, hd⟩
  . rw [if_pos (by rw [<- hwq]; exact hw)]
    have hvS : ∃ v, aVal P n tS h1 o.op = some v /\ ∀ d, o.dst = some d -> vt t1 d = v := by
      rcases hk12 with hk | hk
      . exact ⟨v, by rw [<- qj1 aS, <- hv]; exact ju5 hk, hd⟩
      . obtain ⟨v2, hv2, hd2⟩ := k2 i o ho hk hdone hun (by rw [hw1, <- hwq]; exact hw)
        have a1S : ∀ s, s ∈ slots o.op -> s < n -> vt t1 s = vt tS s := by
          intro s hs hsn
          by_cases e : ∃ j, j ∈ edgesOf o /\ dstAt ops j = some s
          . obtain ⟨j, hj, hdj⟩ := e
            exact (wS s j hsn (hrd j hj) hdj).symm
          . have hno : ∀ j, j ∈ edgesOf o -> dstAt ops j ≠ some s := fun j hj hdj => e ⟨j, hj, hdj⟩
            rw [noedge s hs hsn hno]
            refine c.tt s (fun j hdj _ => ?_)
            rcases sp.slot i o s j ho hs hdj with h5 | h5
            . exact hno j h5 hdj
            . exact h5.2 hk
        exact ⟨v2, by rw [<- qj1 a1S]; exact hv2, hd2⟩
    obtain ⟨v, hvS⟩ := hvS
    obtain ⟨nx, w', φ', e1, e2, e3, e4⟩ := simN c.r fS hvS.1
    refine ⟨fun f _ => zk5 q f, ?_⟩
    rw [zk4, Oper.semAt_eq _ _ _ (zw8 hk0), e1]
    cases e4 with
    | val hvv =>
      refine fin e2.le (c.nx.trans e2) e3 hvv hvS.2 (fun j o' _ _ _ _ _ hb hn' => (e2.ghost _ hn' hb).1)
  . rw [if_pos (by rw [<- hwq]; exact hw)]
    have halS : aAl P n tS o.op = some (al, mk) := by rw [<- yq0 aS]; exact hal
    obtain ⟨hok, x, hx, hrun⟩ := uv8 fS halS
    obtain ⟨hnone, hev⟩ := q4 hk3 hw
    obtain ⟨φ', le, e2, e3, e4⟩ := c.r.bindGhost hnone hb1 hb2 hok hx
    refine ⟨fun f _ => zk5 q f, ?_⟩
    rw [zk4, Oper.semAt_eq _ _ _ (zw8 hk0), hrun]
    have nx' : Nx φ0 φ' h0 h1 := ⟨c.nx.le.trans le, c.nx.next, fun k hk hlt => by
      have := c.nx.ghost k hk hlt
      refine ⟨?_, this.2⟩
      rw [e3 k (fun e => ?_)]
      . exact this.1
      . subst e
        rcases c.bl i hi hE hdone with h5 | h5 <;> omega⟩
    exact fin le nx' e4 (Mk.rel hok e2) hd (fun j o' ho' hji hEj hdj hpj hb hn' => by
      rw [e3 (b j / 2) (by have := c.bb j i (Array.getElem?_eq_some_iff.1 ho').1 hi hEj hE hdj hdone hji; omega)]; exact hn')
  . rw [if_neg (by rw [<- hwq, hw]; simp)]
    refine ⟨fun f _ => zk5 q f, fin (Le.refl φ) c.nx c.r .undef hd (fun j o' _ _ _ _ _ _ hn' => hn')⟩
 | true =>
  have hL : ls.getD i 0 = L := by
    rcases Nat.lt_or_ge (ls.getD i 0) L with h5 | h5
    . exact (hun (c.ed i hi hE (.inl h5))).elim
    . omega
  have uniq : ∀ j, j < ops.size -> isE ops j = true -> ls.getD j 0 = L -> j = i := by
    intro j hj hEj hLj
    rcases Nat.lt_trichotomy j i with h5 | h5 | h5
    . have := sp.tot i j hi hE hEj h5; omega
    . exact h5
    . have := sp.tot j i hj hEj hE h5; omega
  obtain ⟨hcw, hcn⟩ := hE' hE L seen t1 h1 hL hcont
  -- what an edge leads from
  have up : ∀ {j : Nat} {o' : Oper}, ops[j]? = some o' -> i ∈ edgesOf o' -> L < ls.getD j 0 := by
    intro j o' ho' hj
    have := (sp.edge j o' i ho' hj).2
    unfold step1 at this
    rw [hE] at this
    simp only [if_true] at this
    omega
  have aS : ∀ s, s ∈ slots o.op -> s < n -> vt t1 s = vt tS s := by
    intro s hs hsn
    by_cases e : ∃ j, j ∈ edgesOf o /\ dstAt ops j = some s
    . obtain ⟨j, hj, hd⟩ := e
      exact (wS s j hsn (hrd j hj) hd).symm
    . have hno : ∀ j, j ∈ edgesOf o -> dstAt ops j ≠ some s := fun j hj hd => e ⟨j, hj, hd⟩
      rw [noedge s hs hsn hno]
      refine c.tt s (fun j hdj hdone => ?_)
      rcases sp.slot i o s j ho hs hdj with h5 | h5
      . exact hno j h5 hdj
      . have hjo : ops[j]? = some (ops[j]'(V7 hdj)) := Array.getElem?_eq_getElem (V7 hdj)
        have h6 := h5.1
        unfold edgeTo at h6
        rw [hjo] at h6
        have := up hjo (by simpa using h6)
        rcases hdone with h7 | h7 <;> omega
  have hw1 : aWant n t1 ops o = aWant n tS ops o := qu6 (fun s hg hsn => (gS s hg hsn).symm)
  have hcl' : ∀ (j : Nat) (o' : Oper), (lst j ∨ j = i) -> ops[j]? = some o' -> ∀ k, k ∈ edgesOf o' -> (lst k ∨ k = i) := by
    intro j o' hl ho' k hk
    rcases hl with hl | hl
    . exact .inl (hcl j o' hl ho' k hk)
    . subst hl
      rw [ho] at ho'; cases ho'
      exact .inl (hrd k hk)
  have fin : ∀ {v v' : Value} {w' : World} {φ' : Phi} {h2 : AH} {t2 : T Value}, Nx φ φ' h1 h2 -> R w0 φ' h2 w' -> VR φ' v v' -> aPut n t1 o.dst v = some t2 ->
      Enter P n ops ls C' (L + 1) ((seen ++ lvN ops ls L).filter fun j => !(ms.getD i 0).testBit j) t2 h2 -> K (a.put o.dst v') w' := by
    intro v v' w' φ' h2 t2 nx r hv hput hlv
    have hvt := jv4 hput hn
    obtain ⟨p1, p2, p3, p4⟩ := c.put nx.le ho hv (t2 := t2) (fun s hs => by rw [hvt, if_neg hs]) (fun d hd => by rw [hvt, if_pos hd])
    have other : ∀ s j, dstAt ops j = some s -> j ≠ i -> vt t2 s = vt t1 s := fun s j hd hji => by
      rw [hvt, if_neg (fun e => hji ((sp.dst i s (by rw [hdi]; exact e)).2 j hd))]
    have lev_of : ∀ j, isE ops j = false -> ls.getD j 0 < L + 1 -> (ls.getD j 0 < L ∨ (isE ops j = false /\ ls.getD j 0 = L)) := fun j hEj hj => by
      rcases Nat.lt_or_ge (ls.getD j 0) L with h5 | h5
      . exact .inl h5
      . exact .inr ⟨hEj, by omega⟩
    refine hKE hE _ _ (zg7 sp hn (b := b) ⟨fun j hj hl => ?_, fun j hj hEj hdj => ?_, r, c.nx.trans nx, p1, p2, p3, p4, fun s hs => ?_, fun j o' ho' hEj hdj hl => ?_, fun j j2 hj hj2 hEj hEj2 hd hd2 hne => c.bb j j2 hj hj2 hEj hEj2 (lev_of j hEj hd) (lev_of j2 hEj2 hd2) hne, fun j hj hEj hd => ?_, fun j o' ho' hkj hdj hl => ?_⟩ hlv)
    . rcases hl with hl | hl
      . rcases c.ld j hj hl with h5 | h5 <;> omega
      . subst hl; omega
    . by_cases e : j = i
      . exact .inr e
      . refine .inl (c.ed j hj hEj (.inl ?_))
        rcases Nat.lt_or_ge (ls.getD j 0) L with h5 | h5
        . exact h5
        . exact (e (uniq j hj hEj (by omega))).elim
    . rw [hvt, if_neg (fun e => hs i (by rw [hdi]; exact e) (by omega))]
      exact c.tt s (fun j hd hdone => hs j hd (by rcases hdone with h5 | h5 <;> omega))
    . have hji : j ≠ i := fun e => hl (.inr e)
      have hlv' := lev_of j hEj hdj
      obtain ⟨tq, hh, e1, e2, e3, e4⟩ := c.nn j o' ho' hEj hlv' (fun x => hl (.inl x))
      have notedge : i ∉ edgesOf o' := fun hin => by have := up ho' hin; rcases hlv' with h5 | h5 <;> omega
      have hdst : ∀ d, o'.dst = some d -> vt t2 d = vt t1 d := fun d hd => other d j (by rw [qq7 ho']; exact hd) hji
      refine ⟨tq, hh, fun s hs => ⟨fun k hk hd => ?_, (e1 s hs).2⟩, fun s hg => ?_, ?_, fun hk3 hw => ?_⟩
      . rw [(e1 s hs).1 k hk hd, other s k hd (fun e => notedge (e ▸ hk))]
      . rw [e2 s hg]
        unfold gslot at hg
        cases hq : o'.guard with
        | none => rw [hq] at hg; cases hg
        | some p =>
          obtain ⟨g, y⟩ := p
          rw [hq] at hg
          exact (other s g hg (fun e => notedge (e ▸ sp.guard j o' g y ho' hq))).symm
      . rcases e3 with ⟨hw, ⟨hk, v3, hv3, hd⟩ | ⟨hk, al, mk, hal, hb1, hb2, hd⟩⟩ | ⟨hw, hd⟩
        . exact .inl ⟨hw, .inl ⟨hk, v3, hv3, fun d hd' => by rw [hdst d hd', hd d hd']⟩⟩
        . have hg := nx.ghost (b j / 2) (e4 hk hw).1 hb1
          exact .inl ⟨hw, .inr ⟨hk, al, mk, hal, Nat.lt_of_lt_of_le hb1 nx.next, by rw [hg.2]; exact hb2, fun d hd' => by rw [hdst d hd', hd d hd']⟩⟩
        . exact .inr ⟨hw, fun d hd' => by rw [hdst d hd', hd d hd']⟩
      . have hb : b j / 2 < h1.next := by
          rcases e3 with ⟨_, ⟨hk, _⟩ | ⟨_, al, mk, _, hb, _⟩⟩ | ⟨hw', _⟩
          . omega
          . exact hb
          . rw [hw] at hw'; cases hw'
        exact ⟨(nx.ghost (b j / 2) (e4 hk3 hw).1 hb).1, (e4 hk3 hw).2⟩
    . rcases c.bl j hj hEj (lev_of j hEj hd) with h5 | h5
      . exact .inl ⟨h5.1, Nat.lt_of_lt_of_le h5.2.1 nx.next, h5.2.2⟩
      . exact .inr h5
    . have hEj : isE ops j = false := by rw [ux1 ho', hkj]; rfl
      refine List.mem_filter.2 ⟨c.sn j o' ho' hkj (lev_of j hEj hdj) (fun x => hl (.inl x)), ?_⟩
      cases hbit : (ms.getD i 0).testBit j with
      | false => rfl
      | true => exact (hl (yv7 sp hcl' i j (.inr rfl) hi hbit)).elim
  by_cases hw : aWant n t1 ops o = true
  . rw [if_pos (by rw [<- hw1]; exact hw)]
    obtain ⟨l0, hl0, hall⟩ := hcw hw
    refine hc ho (by rw [<- yg9 aS]; exact hl0) c.nx c.r fS c.df (fun s u hu hno => c.fb s u hu (fun j _ => hno j)) ?_
    intro v h2 v' w' φ' hm nx r hv
    obtain ⟨t2, hput, hen⟩ := hall _ _ hm
    exact fin nx r hv hput hen
  . have hw' : aWant n t1 ops o = false := by simpa using hw
    rw [if_neg (by rw [<- hw1]; exact hw)]
    obtain ⟨t2, hput, hen⟩ := hcn hw'
    exact ⟨fun f _ => zk5 q f, fin (.refl φ h1) c.r .undef hput hen⟩
end
end Go.X
namespace Go.X
noncomputable section
open Go Go.RowKit
variable {w0 w w' : World} {φ φ' φ0 : Phi} {h h' h0 h1 h2 : AH} {P : Program} {n : Nat} {t t' tb t1 t2 : T Value} {ops : Array Oper} {ls ms : List Nat}
def Cl (P : Program) (call : Call1) (n : Nat) (ops : Array Oper) (ls ms : List Nat) (l : List (T Value × AH)) : Ct := fun L seen t1 h1 => ∃ k lo, aCont P call n ops ls ms (aLv P call n ops ls ms k) L seen t1 h1 = some lo /\ ∀ x, x ∈ lo -> x ∈ l
theorem zv6 {call : Call1} {l lo : List (T Value × AH)} {k L : Nat} {seen : List Nat} (hs : aLv P call n ops ls ms k L seen t h = some lo) (hsub : ∀ x, x ∈ lo -> x ∈ l) : Enter P n ops ls (Cl P call n ops ls ms l) L seen t h := by
 cases k with
 | zero => simp [aLv] at hs
 | succ k =>
  simp only [aLv] at hs
  split at hs
  . cases hs
  . rename_i t1 h1 hns
    split at hs
    . rename_i hr
      exact ⟨t1, h1, hns, hr, k, lo, hs, hsub⟩
    . cases hs
theorem lvE_at (sp : PlanSpec n ops ls ms) {i : Nat} (hi : i < ops.size) (hE : isE ops i = true) {L : Nat} (hL : ls.getD i 0 = L) : lvE ops ls L = some i := by
 have uniq : ∀ j, j < ops.size -> isE ops j = true -> ls.getD j 0 = L -> j = i := by
  intro j hj hEj hLj
  rcases Nat.lt_trichotomy j i with h5 | h5 | h5
  . have := sp.tot i j hi hE hEj h5; omega
  . exact h5
  . have := sp.tot j i hj hEj hE h5; omega
 unfold lvE
 cases hq : (List.range ops.size).find? (fun i => isE ops i && decide (ls.getD i 0 = L)) with
 | none =>
  have := List.find?_eq_none.1 hq i (List.mem_range.2 hi)
  rw [hE] at this
  simp only [Bool.true_and, decide_eq_true_eq] at this
  exact (this hL).elim
 | some e =>
  have h5 := List.find?_some hq
  have h6 := List.mem_of_find?_eq_some hq
  simp only [Bool.and_eq_true, decide_eq_true_eq] at h5
  rw [uniq e (List.mem_range.1 h6) h5.1 h5.2]
theorem Qu0 (sp : PlanSpec n ops ls ms) {call : Call1} {l : List (T Value × AH)} {i : Nat} {o : Oper} (ho : ops[i]? = some o) (hE : isE ops i = true) : CStep P call n ops ls ms (Cl P call n ops ls ms l) (Cl P call n ops ls ms l) i o := by
 rintro L seen t1 h1 hL ⟨k, lo, hcont, hsub⟩
 have hfe := lvE_at sp (Array.getElem?_eq_some_iff.1 ho).1 hE hL
 unfold aCont at hcont
 rw [hfe] at hcont
 dsimp only at hcont
 rw [ho] at hcont
 dsimp only at hcont
 refine ⟨fun hw => ?_, fun hw => ?_⟩
 . rw [if_pos hw] at hcont
   obtain ⟨l0, hl0, hall⟩ := U1 hcont
   refine ⟨l0, hl0, fun v h2 hm => ?_⟩
   obtain ⟨k3, hk3, hsub3⟩ := hall _ hm
   dsimp only at hk3
   split at hk3
   . rename_i t2 hput
     exact ⟨t2, hput, zv6 hk3 (fun x hx => hsub x (hsub3 x hx))⟩
   . cases hk3
 . rw [if_neg (by rw [hw]; simp)] at hcont
   split at hcont
   . rename_i t2 hput
     exact ⟨t2, hput, zv6 hcont hsub⟩
   . cases hcont
theorem fin_c (hn : T.Ok (n)) {C : Ct} {d0 : List Deferred} {l : List (T Value × AH)} {lst : Nat -> Prop} {a : Act} (hC : ∀ L seen t1 h1, C L seen t1 h1 -> lvE ops ls L = none -> (t1, h1) ∈ l) (hall : ∀ j, j < ops.size -> lst j) (inv : Inv w0 P n ops ls φ0 h0 tb d0 C lst a w) :
   ∃ t' h' φ', (t', h') ∈ l /\ Nx φ0 φ' h0 h' /\ R w0 φ' h' w /\ FR φ' n t' a.tmps /\ a.defers = d0 := by
 obtain ⟨L, seen, t1, h1, φ, b, hcont, c, k2⟩ := inv
 have hnone : lvE ops ls L = none := by
   unfold lvE
   rw [List.find?_eq_none]
   intro e he hh
   simp only [Bool.and_eq_true, decide_eq_true_eq] at hh
   have hlt := List.mem_range.1 he
   rcases c.ld e hlt (hall e hlt) with h5 | h5
   . omega
   . rw [hh.1] at h5; cases h5.1
 refine ⟨t1, h1, φ, hC L seen t1 h1 hcont hnone, c.nx, c.r, ⟨c.size, hn, fun s u hu => ?_⟩, c.df⟩
 by_cases e : ∃ j, dstAt ops j = some s
 . obtain ⟨j, hd⟩ := e
   exact c.fw s u j hu (hall j (V7 hd)) hd
 . have h5 := c.tt s (fun j hd => (e ⟨j, hd⟩).elim)
   unfold vt at h5
   rw [h5]
   exact c.fb s u hu (fun j _ hd => e ⟨j, hd⟩)
theorem Qx8 (hn : T.Ok (n)) {call : Call1} {d0 : List Deferred} {l : List (T Value × AH)} {lst : Nat -> Prop} {a : Act} (hall : ∀ j, j < ops.size -> lst j) (inv : Inv w0 P n ops ls φ0 h0 tb d0 (Cl P call n ops ls ms l) lst a w) :
  ∃ t' h' φ', (t', h') ∈ l /\ Nx φ0 φ' h0 h' /\ R w0 φ' h' w /\ FR φ' n t' a.tmps /\ a.defers = d0 := by
 refine fin_c hn (fun L seen t1 h1 hC hnone => ?_) hall inv
 obtain ⟨k, lo, hcont, hsub⟩ := hC
 unfold aCont at hcont
 rw [hnone] at hcont
 cases hcont
 exact hsub _ (List.mem_singleton.2 rfl)
end
end Go.X
namespace Go.X
noncomputable section
open Go Go.RowKit
variable {w0 w w' : World} {φ φ' φ0 : Phi} {h h' : AH} {P : Program} {n : Nat} {t t' : T Value} {ops : Array Oper}
theorem qg0 {α : Type} {f : α -> α -> Bool} (hf : ∀ x y, f x y = true -> x = y) : ∀ {a b : T α}, sameT f a b = true -> a = b
 | .e, .e, _ => rfl
 | .n l v r, .n l' v' r', h => by
  unfold sameT at h
  rw [Bool.and_eq_true, Bool.and_eq_true] at h
  rw [qg0 hf h.1, qg0 hf h.2.2]
  have : v = v' := by
   have h2 := h.2.1
   cases v <;> cases v' <;> simp [sameOp] at h2 ⊢
   exact hf _ _ h2
  rw [this]
 | .e, .n .., h => by simp [sameT] at h
 | .n .., .e, h => by simp [sameT] at h
theorem zw4 : ∀ {l m : List (Value × Value × Nat)}, sameEs l m = true -> l = m
 | [], [], _ => rfl
 | (a, b, c) :: l, (a', b', c') :: l', h => by
  simp only [sameEs, Bool.and_eq_true] at h
  rw [qj7 _ _ _ h.1, qj7 _ _ _ h.2.1, Nat.eq_of_beq_eq_true h.2.2.1, zw4 h.2.2.2]
 | [], _ :: _, h => by simp [sameEs] at h
 | _ :: _, [], h => by simp [sameEs] at h
theorem zq6 : ∀ {l m : List Nat}, sameNs l m = true -> l = m
 | [], [], _ => rfl
 | a :: l, b :: m, h => by
  unfold sameNs at h
  rw [Bool.and_eq_true] at h
  rw [Nat.eq_of_beq_eq_true h.1, zq6 h.2]
 | [], _ :: _, h => by cases h
 | _ :: _, [], h => by cases h
theorem qk6 : ∀ {l m : List (ByteArray × Value)}, sameBag l m = true -> l = m
 | [], [], _ => rfl
 | (a, v) :: l, (b, u) :: m, h => by
  unfold sameBag at h
  rw [Bool.and_eq_true, Bool.and_eq_true] at h
  rw [jz9.1 h.1, qj7 _ _ _ h.2.1, qk6 h.2.2]
 | [], _ :: _, h => by simp [sameBag] at h
 | _ :: _, [], h => by simp [sameBag] at h
theorem jw8 (a b : AObj) (h : sameO a b = true) : a = b := by
 unfold sameO at h
 split at h
 . simp only [Bool.and_eq_true] at h
   rw [qg0 (qj7 9) h.1, Nat.eq_of_beq_eq_true h.2.1, Nat.eq_of_beq_eq_true h.2.2.1, eq_of_beq h.2.2.2]
 . simp only [Bool.and_eq_true] at h
   rw [zw4 h.1, Nat.eq_of_beq_eq_true h.2.1, eq_of_beq h.2.2]
 . rfl
 . rw [qk6 h]
 . simp only [Bool.and_eq_true] at h
   rw [Nat.eq_of_beq_eq_true h.1, qg0 (qj7 9) h.2.1, Nat.eq_of_beq_eq_true h.2.2.1, Nat.eq_of_beq_eq_true h.2.2.2]
 . rename_i m since seen st m' since' seen' st'
   simp only [Bool.and_eq_true] at h
   have hm : m = m' := by
    have h2 := h.1
    cases m <;> cases m' <;> simp [sameOp] at h2 ⊢
    exact h2
   rw [hm, Nat.eq_of_beq_eq_true h.2.1, zq6 h.2.2.1, Nat.eq_of_beq_eq_true h.2.2.2]
 . rename_i s p s' p'
   simp only [Bool.and_eq_true] at h
   have : s = s' := by
    have h1 := zq7 h.1
    cases s; cases s'
    congr 1
    exact Array.ext' h1
   rw [this, Nat.eq_of_beq_eq_true h.2]
 . cases h
end
end Go.X



namespace Go.X
noncomputable section
open Go Go.RowKit
variable {w0 w w' : World} {φ φ' φ0 : Phi} {h h' h0 h1 h2 : AH} {P : Program} {n : Nat} {t t' tb t1 t2 : T Value} {ops : Array Oper} {ls ms : List Nat}
theorem uj8 (hN : NoCount P) (hM : P.follows .mixedOrders = true) {call : Call1} {id : Nat} {l : List (T Value × AH)} {a : Act} {q : Option Nat} {m : Nat} {Q : Exit -> Act -> World -> Prop} (hc : StepsOk w0 P call n ops φ h t a.defers q m Q)
   (hs : aDraw P call n ops t h = some l) (hr : R w0 φ h w) (hf : FR φ n t a.tmps)
   (hQ : ∀ t' h' φ' (a' : Act) w', (t', h') ∈ l -> Nx φ φ' h h' -> R w0 φ' h' w' -> FR φ' n t' a'.tmps -> a'.defers = a.defers -> Q .normal a' w') : (Code.region id ops true).wpIn (FW q) m P Q a w := by
 unfold aDraw at hs
 split at hs
 . rename_i hp
   have sp := jy5 hp
   have hn := hf.lt
   generalize levL ops = ls at hs sp
   generalize maskL ops = ms at hs sp
   refine wpIn_region_any hM ?_
   have main : ∀ (fuel : Nat) (listed : Array Bool) (a' : Act) (w' : World), listed.size = ops.size -> listed.toList.countP (fun b => !b) = fuel ->
       (∀ (i : Nat) (o : Oper), listed.getD i false = true -> ops[i]? = some o -> ∀ j, j ∈ edgesOf o -> listed.getD j false = true) ->
       Inv w0 P n ops ls φ h t a.defers (Cl P call n ops ls ms l) (fun j => listed.getD j false = true) a' w' -> wpAnyIn (FW q) m P .any ops Q fuel listed a' w' := by
     intro fuel
     induction fuel with
     | zero =>
       intro listed a' w' hsz hcnt hcl inv
       have hall : ∀ j, j < ops.size -> listed.getD j false = true := by
         intro j hj
         have hj' : j < listed.size := by omega
         have := List.countP_eq_zero.1 hcnt (listed[j]) (by simp)
         rw [Array.getD_eq_getD_getElem?, Array.getElem?_eq_getElem hj']
         simpa using this
       refine ⟨?_, ?_⟩
       . cases hr : Region.ready .any ops listed with
         | nil => rfl
         | cons i r =>
           have hi : i ∈ Region.ready .any ops listed := by rw [hr]; simp
           obtain ⟨h1, o, ho, _⟩ := mem_ready.1 hi
           have := hall i (Array.getElem?_eq_some_iff.1 ho).1
           have hi' : i < listed.size := by rw [hsz]; exact (Array.getElem?_eq_some_iff.1 ho).1
           rw [Array.getD_eq_getD_getElem?, Array.getElem?_eq_getElem hi'] at h1 this
           simp at h1 this
           rw [h1] at this; cases this
       . obtain ⟨t', h', φ', h1, h2, h3, h4, h5⟩ := Qx8 hn hall inv
         exact hQ t' h' φ' a' w' h1 h2 h3 h4 h5
     | succ fuel ih =>
       intro listed a' w' hsz hcnt hcl inv
       refine ⟨fun hr => ?_, fun i hi => ?_⟩
       . exfalso
         have hex : ∃ j, j < listed.size /\ listed.getD j true = false := by
           have hpos : 0 < listed.toList.countP (fun b => !b) := by omega
           obtain ⟨x, hx, hb⟩ := List.countP_pos_iff.1 hpos
           obtain ⟨j, hj, e⟩ := List.getElem_of_mem hx
           refine ⟨j, by simpa using hj, ?_⟩
           rw [Array.getD_eq_getD_getElem?, Array.getElem?_eq_getElem (by simpa using hj)]
           simp at hb e ⊢
           rw [e, hb]
         have least : ∀ {p : Nat -> Prop}, (∃ m, p m) -> ∃ m, p m /\ ∀ k, p k -> m ≤ k := by
           intro p hx
           obtain ⟨m, hm⟩ := hx
           induction m using Nat.strongRecOn with
           | _ m ih =>
             by_cases hx : ∃ k, k < m /\ p k
             . obtain ⟨k, hk, hp⟩ := hx; exact ih k hk hp
             . exact ⟨m, hm, fun k hp => by
                rcases Nat.lt_or_ge k m with h | h
                . exact (hx ⟨k, h, hp⟩).elim
                . exact h⟩
         obtain ⟨j, ⟨hj, hf'⟩, hmin⟩ := least hex
         have hjo : j < ops.size := by omega
         have : j ∈ Region.ready .any ops listed := mem_ready.2 ⟨hf', ops[j], Array.getElem?_eq_getElem hjo, fun e he hb => by
           have hin : e.on ∈ edgesOf ops[j] := by
             unfold edgesOf
             exact List.mem_map.2 ⟨e, List.mem_filter.2 ⟨by simpa using he, hb⟩, rfl⟩
           have hlt := (sp.edge j _ e.on (Array.getElem?_eq_getElem hjo) hin).1
           have hl' : e.on < listed.size := by omega
           cases hv : listed.getD e.on false with
           | true => rfl
           | false =>
             have : listed.getD e.on true = false := by
               rw [Array.getD_eq_getD_getElem?, Array.getElem?_eq_getElem hl'] at hv ⊢
               simpa using hv
             have := hmin e.on ⟨hl', this⟩
             omega⟩
         rw [hr] at this; simp at this
       . obtain ⟨hun, o, ho, haft⟩ := mem_ready.1 hi
         have hil : i < listed.size := by rw [hsz]; exact (Array.getElem?_eq_some_iff.1 ho).1
         have hun' : ¬ listed.getD i false = true := by
           rw [Array.getD_eq_getD_getElem?, Array.getElem?_eq_getElem hil] at hun ⊢
           simp at hun ⊢
           exact hun
         have hrd : ∀ j, j ∈ edgesOf o -> listed.getD j false = true := by
           intro j hj
           unfold edgesOf at hj
           obtain ⟨e, he, rfl⟩ := List.mem_map.1 hj
           obtain ⟨h5, h6⟩ := List.mem_filter.1 he
           exact haft e (by simpa using h5) h6
         have hset : (fun j => (listed.setIfInBounds i true).getD j false = true) = fun j => listed.getD j false = true ∨ j = i := by
           funext j
           apply propext
           by_cases e : j = i
           . subst e
             simp [Array.getD_eq_getD_getElem?, hil]
           . rw [getD_set_ne false (fun x => e x.symm)]
             simp [e]
         suffices hK : ∀ a2 w2, Inv w0 P n ops ls φ h t a.defers (Cl P call n ops ls ms l) (fun j => listed.getD j false = true ∨ j = i) a2 w2 -> _ from jk3 hN hc sp hn hcl inv ho hun' hrd (fun hE => Qu0 sp ho hE) (fun _ => hK) (fun _ => hK)
         intro a2 w2 inv2
         refine ih _ a2 w2 (by simp [hsz]) ?_ ?_ (by rw [hset]; exact inv2)
         . have := zv8 hun; omega
         . intro k o' hk ho' j hj
           have h5 : listed.getD k false = true ∨ k = i := by rw [<- congrFun hset k]; exact hk
           have h6 : listed.getD j false = true := by
             rcases h5 with h5 | h5
             . exact hcl k o' h5 ho' j hj
             . subst h5
               rw [ho] at ho'; cases ho'
               exact hrd j hj
           have : listed.getD j false = true ∨ j = i := .inl h6
           rw [<- congrFun hset j] at this
           exact this
   have hz : ∀ j, (Array.replicate ops.size false).getD j false = false := by
     intro j
     rw [Array.getD_eq_getD_getElem?, Array.getElem?_replicate]
     split <;> rfl
   refine main _ _ a _ (by simp) ?_ (fun i o hi => by rw [hz] at hi; cases hi) ?_
   . rw [Array.toList_replicate, List.countP_replicate]
     simp
   . refine zg7 sp hn (φ := φ) (b := fun i => 2 * i + 1) ⟨fun i _ hl => ?_, fun i _ _ hd => ?_, hr.drew, .refl φ h, hf.size, fun s u j _ hl => ?_, fun s u hu _ => hf.get s u hu, rfl, fun _ _ => rfl, fun i o _ _ hd => ?_, fun i j _ _ _ _ hd => ?_, fun i _ _ hd => ?_, fun i o _ _ hd => ?_⟩ (zv6 hs (fun x hx => hx))
     . rw [hz] at hl; cases hl
     . exact (Nat.not_lt_zero _ hd).elim
     . rw [hz] at hl; cases hl
     . exact (Nat.not_lt_zero _ hd).elim
     . exact (Nat.not_lt_zero _ hd).elim
     . exact (Nat.not_lt_zero _ hd).elim
     . exact (Nat.not_lt_zero _ hd).elim
 . exact (Option.some_ne_none _ hs.symm).elim
theorem Qj4 (hN : NoCount P) (hM : P.follows .mixedOrders = true) {call : Call1} (hc : CallsOk w0 P call) {id : Nat} {l : List (T Value × AH)} {a : Act} {q : Option Nat} {m : Nat} {Q : Exit -> Act -> World -> Prop}
  (hs : aDraw P call n ops t h = some l) (hr : R w0 φ h w) (hf : FR φ n t a.tmps)
  (hQ : ∀ t' h' φ' (a' : Act) w', (t', h') ∈ l -> Nx φ φ' h h' -> R w0 φ' h' w' -> FR φ' n t' a'.tmps -> a'.defers = a.defers -> Q .normal a' w') : (Code.region id ops true).wpIn (FW q) m P Q a w :=
 uj8 hN hM (fun _ _ _ _ _ _ _ _ _ _ hs _ hr hf _ _ hK => yq5 hN hc hr hf hs hK) hs hr hf hQ
end
end Go.X
namespace Go.X
noncomputable section
open Go Go.RowKit
variable {w0 w : World} {φ φ' : Phi} {h h' : AH} {P : Program} {n : Nat} {t t' u : T Value}
def joinVs (f : Value -> Value -> Option Value) : List Value -> List Value -> Option (List Value)
 | [], [] => some []
 | a :: l, b :: m => (match f a b, joinVs f l m with
  | some x, some y => some (x :: y)
  | _, _ => none)
 | _, _ => none
def topOk (a : Value) : Bool := a.oneCell' && notBool a
def joinV : Nat -> Value -> Value -> Option Value
 | 0, a, b => (match veq 9 a b with
  | true => some a
  | false => (match topOk a && topOk b with
   | true => some (.chan none)
   | false => none))
 | k + 1, a, b => (match veq 9 a b with
  | true => some a
  | false => (match a, b with
   | .tuple ⟨l⟩, .tuple ⟨m⟩ => (match joinVs (joinV k) l m with
    | some x => some (.tuple ⟨x⟩)
    | none => none)
   | .agg ⟨l⟩, .agg ⟨m⟩ => (match joinVs (joinV k) l m with
    | some x => some (.agg ⟨x⟩)
    | none => none)
   | a, b => (match topOk a && topOk b with
    | true => some (.chan none)
    | false => none)))
theorem qv4 {f : Value -> Value -> Option Value} (hf : ∀ a b c, f a b = some c -> ∀ φ v, (VR φ a v -> VR φ c v) /\ (VR φ b v -> VR φ c v)) : ∀ {l m x : List Value}, joinVs f l m = some x -> ∀ φ v, (LR φ l v -> LR φ x v) /\ (LR φ m v -> LR φ x v)
 | [], [], x, h, φ, v => by cases h; exact ⟨id, id⟩
 | a :: l, b :: m, x, h, φ, v => by
  unfold joinVs at h
  split at h
  . rename_i c y hc hy
    cases h
    refine ⟨fun k => ?_, fun k => ?_⟩
    . cases k with
      | cons k1 k2 => exact .cons ((hf _ _ _ hc _ _).1 k1) ((qv4 hf hy _ _).1 k2)
    . cases k with
      | cons k1 k2 => exact .cons ((hf _ _ _ hc _ _).2 k1) ((qv4 hf hy _ _).2 k2)
  . cases h
 | [], _ :: _, x, h, φ, v => by cases h
 | _ :: _, [], x, h, φ, v => by cases h
theorem yq3 {φ : Phi} {a v : Value} (ha : topOk a = true) (h : VR φ a v) : VR φ (.chan none) v := by
 unfold topOk at ha
 rw [Bool.and_eq_true] at ha
 exact .top v (h.one.trans ha.1) (h.nb.trans ha.2)
theorem zv1 : ∀ (k : Nat) (a b c : Value), joinV k a b = some c -> ∀ φ v, (VR φ a v -> VR φ c v) /\ (VR φ b v -> VR φ c v)
 | 0, a, b, c, h, φ, v => by
  unfold joinV at h
  split at h
  . rename_i he
    cases h
    rw [qj7 _ _ _ he]; exact ⟨id, id⟩
  . split at h
    . rename_i ht
      cases h
      rw [Bool.and_eq_true] at ht
      exact ⟨yq3 ht.1, yq3 ht.2⟩
    . cases h
 | k + 1, a, b, c, h, φ, v => by
  unfold joinV at h
  split at h
  . rename_i he
    cases h
    rw [qj7 _ _ _ he]; exact ⟨id, id⟩
  . split at h
    . rename_i l m
      split at h
      . rename_i x hx
        cases h
        have e := qv4 (zv1 k) hx φ
        refine ⟨fun h => ?_, fun h => ?_⟩
        . obtain ⟨l', rfl, hl⟩ := VR.tuple_inv h
          exact .tuple' ((e l').1 hl)
        . obtain ⟨l', rfl, hl⟩ := VR.tuple_inv h
          exact .tuple' ((e l').2 hl)
      . cases h
    . rename_i l m
      split at h
      . rename_i x hx
        cases h
        have e := qv4 (zv1 k) hx φ
        refine ⟨fun h => ?_, fun h => ?_⟩
        . cases h with
          | agg ha hh => exact .agg' ((e _).1 (LR.of ha hh))
        . cases h with
          | agg ha hh => exact .agg' ((e _).2 (LR.of ha hh))
      . cases h
    . split at h
      . rename_i ht
        cases h
        rw [Bool.and_eq_true] at ht
        exact ⟨yq3 ht.1, yq3 ht.2⟩
      . cases h
def joinOV : Option Value -> Option Value -> Option (Option Value)
 | none, none => some none
 | some a, some b => (match joinV 3 a b with
  | some c => some (some c)
  | none => none)
 | _, _ => none
def joinF : T Value -> T Value -> Option (T Value)
 | .e, .e => some .e
 | .n l v r, .n l' v' r' => (match joinOV v v', joinF l l', joinF r r' with
  | some x, some y, some z => some (.n y x z)
  | _, _, _ => none)
 | _, _ => none
theorem get_e {α : Type} (k : Nat) : (T.e : T α).get k = none := rfl
theorem zz3 : ∀ {t t' u : T Value}, joinF t t' = some u -> ∀ k, joinOV (t.get k) (t'.get k) = some (u.get k)
 | .e, .e, u, h, k => by cases h; rfl
 | .n l v r, .n l' v' r', u, h, k => by
  unfold joinF at h
  split at h
  . rename_i x y z hx hy hz
    cases h
    rw [T.get_n, T.get_n, T.get_n]
    by_cases e : k = 0
    . rw [if_pos e, if_pos e, if_pos e]; exact hx
    . rw [if_neg e, if_neg e, if_neg e]
      by_cases e2 : k % 2 = 1
      . rw [if_pos e2, if_pos e2, if_pos e2]; exact zz3 hz _
      . rw [if_neg e2, if_neg e2, if_neg e2]; exact zz3 hy _
  . cases h
 | .e, .n .., u, h, k => by cases h
 | .n .., .e, u, h, k => by cases h
theorem yk2 (hj : joinF t t' = some u) {a : Array Value} : (FR φ n t a -> FR φ n u a) /\ (FR φ n t' a -> FR φ n u a) := by
 have key : ∀ k v, (VR φ ((t.get k).getD undef) v -> VR φ ((u.get k).getD undef) v) /\ (VR φ ((t'.get k).getD undef) v -> VR φ ((u.get k).getD undef) v) := by
  intro k v
  have := zz3 hj k
  unfold joinOV at this
  split at this
  . rename_i e1 e2
    injection this with this
    rw [e1, e2, <- this]; exact ⟨id, id⟩
  . rename_i a b e1 e2
    split at this
    . rename_i c hc
      injection this with this
      rw [e1, e2, <- this]
      exact zv1 3 a b c hc φ v
    . cases this
  . cases this
 exact ⟨fun f => ⟨f.size, f.lt, fun k v hk => (key k v).1 (f.get k v hk)⟩, fun f => ⟨f.size, f.lt, fun k v hk => (key k v).2 (f.get k v hk)⟩⟩
def asBag : AObj -> Option (List (ByteArray × Value))
 | .map es _ false => bagOf es
 | .bag es => some es
 | _ => none
def diffO : AObj -> AObj -> Bool
 | .map es _ _, .map es' _ _ => !Nat.beq es.length es'.length
 | .map _ _ _, .bag _ => true
 | .iter _ _ s _, .iter _ _ s' _ => !Nat.beq s.length s'.length
 | _, _ => false
theorem qg9 {a b : AObj} (h : diffO a b = true) : a ≠ b := by
 rintro rfl
 have e : ∀ k : Nat, Nat.beq k k = true := Nat.beq_refl
 cases a <;> simp only [diffO, e, Bool.not_true] at h <;> cases h
def join2 (a b : AObj) : Option AObj := match asBag a, asBag b with
 | some m, some m' => (match sameBag m m' with
  | true => some (.bag m)
  | false => none)
 | _, _ => none
def joinOb (x o o' : Option AObj) : Option (Option AObj) := match o, o' with
 | none, none => some none
 | some a, some b => (match sameO a b with
  | true => some (some a)
  | false => (match x with
   | none => some (join2 a b)
   | some x => (match diffO x a && diffO x b with
    | true => some (join2 a b)
    | false => none)))
 | some a, none => (match x with
  | none => some none
  | some x => (match diffO x a with
   | true => some none
   | false => none))
 | none, some b => (match x with
  | none => some none
  | some x => (match diffO x b with
   | true => some none
   | false => none))
theorem yg4 {a : AObj} {m : List (ByteArray × Value)} (h : asBag a = some m) {i : Im} (k : OR φ i w a) : OR φ i w (.bag m) /\ a.ro = false := by
 unfold asBag at h
 split at h
 . rename_i es cl
   obtain ⟨arr, g1, g2⟩ := k
   exact ⟨⟨arr, cl, es, g1, g2, zk1 h⟩, rfl⟩
 . cases h; exact ⟨k, rfl⟩
 . cases h
def Cov (o r : Option AObj) : Prop := ∀ b, r = some b -> ∃ a, o = some a /\ a.ro = b.ro /\ ∀ φ w i, OR φ i w a -> OR φ i w b
theorem Cov.none (o : Option AObj) : Cov o none := fun b h => by cases h
theorem Cov.self (o : Option AObj) : Cov o o := fun b h => ⟨b, h, rfl, fun _ _ _ k => k⟩
theorem qv5 (a b : AObj) : Cov (some a) (join2 a b) /\ Cov (some b) (join2 a b) := by
 unfold join2
 split
 . rename_i m m' ha hb
   split
   . rename_i hs
     have e := qk6 hs
     subst e
     refine ⟨fun c hc => ?_, fun c hc => ?_⟩
     . cases hc
       have ro : a.ro = false := by
        unfold asBag at ha
        split at ha <;> first | rfl | (cases ha)
       exact ⟨a, rfl, ro, fun φ w i k => (yg4 ha k).1⟩
     . cases hc
       have ro : b.ro = false := by
        unfold asBag at hb
        split at hb <;> first | rfl | (cases hb)
       exact ⟨b, rfl, ro, fun φ w i k => (yg4 hb k).1⟩
   . exact ⟨.none _, .none _⟩
 . exact ⟨.none _, .none _⟩
theorem zv2 {x o o' r : Option AObj} (h : joinOb x o o' = some r) : (Cov o r /\ (o = x -> r = x)) /\ (Cov o' r /\ (o' = x -> r = x)) := by
 unfold joinOb at h
 split at h
 . cases h; exact ⟨⟨.none _, id⟩, ⟨.none _, id⟩⟩
 . rename_i a b
   split at h
   . rename_i hs
     cases h
     have e := jw8 _ _ hs
     subst e
     exact ⟨⟨.self _, id⟩, ⟨.self _, id⟩⟩
   . split at h
     . cases h
       exact ⟨⟨(qv5 a b).1, fun e => by cases e⟩, ⟨(qv5 a b).2, fun e => by cases e⟩⟩
     . rename_i x
       split at h
       . rename_i hd
         cases h
         rw [Bool.and_eq_true] at hd
         exact ⟨⟨(qv5 a b).1, fun e => by cases e; exact (qg9 hd.1 rfl).elim⟩, ⟨(qv5 a b).2, fun e => by cases e; exact (qg9 hd.2 rfl).elim⟩⟩
       . cases h
 . rename_i a
   split at h
   . cases h
     exact ⟨⟨.none _, fun e => by cases e⟩, ⟨.none _, id⟩⟩
   . rename_i x
     split at h
     . rename_i hd
       cases h
       exact ⟨⟨.none _, fun e => by cases e; exact (qg9 hd rfl).elim⟩, ⟨.none _, fun e => by cases e⟩⟩
     . cases h
 . rename_i b
   split at h
   . cases h
     exact ⟨⟨.none _, id⟩, ⟨.none _, fun e => by cases e⟩⟩
   . rename_i x
     split at h
     . rename_i hd
       cases h
       exact ⟨⟨.none _, fun e => by cases e⟩, ⟨.none _, fun e => by cases e; exact (qg9 hd rfl).elim⟩⟩
     . cases h
def leftT {α : Type} : T α -> T α
 | .e => .e
 | .n l _ _ => l
def midT {α : Type} : T α -> Option α
 | .e => none
 | .n _ v _ => v
def rightT {α : Type} : T α -> T α
 | .e => .e
 | .n _ _ r => r
theorem jj1 {α : Type} (x : T α) (k : Nat) : x.get k = if k = 0 then midT x else if k % 2 = 1 then (rightT x).get (k / 2) else (leftT x).get (k / 2 - 1) := by
 cases x with
 | e => simp only [midT, rightT, leftT, get_e]; split <;> first | rfl | (split <;> rfl)
 | n l v r => rw [T.get_n]; rfl
def joinM : T AObj -> T AObj -> T AObj -> Option (T AObj)
 | _, .e, .e => some .e
 | x, .n l v r, .n l' v' r' => (match joinOb (midT x) v v', joinM (leftT x) l l', joinM (rightT x) r r' with
  | some a, some b, some c => some (.n b a c)
  | _, _, _ => none)
 | _, _, _ => none
theorem zz2 : ∀ {x t t' u : T AObj}, joinM x t t' = some u -> ∀ k, joinOb (x.get k) (t.get k) (t'.get k) = some (u.get k)
 | x, .e, .e, u, h, k => by
  unfold joinM at h
  cases h; rfl
 | x, .n l v r, .n l' v' r', u, h, k => by
  unfold joinM at h
  split at h
  . rename_i a b c ha hb hc
    cases h
    rw [T.get_n, T.get_n, T.get_n, jj1 x k]
    by_cases e : k = 0
    . rw [if_pos e, if_pos e, if_pos e, if_pos e]; exact ha
    . rw [if_neg e, if_neg e, if_neg e, if_neg e]
      by_cases e2 : k % 2 = 1
      . rw [if_pos e2, if_pos e2, if_pos e2, if_pos e2]; exact zz2 hc _
      . rw [if_neg e2, if_neg e2, if_neg e2, if_neg e2]; exact zz2 hb _
  . cases h
 | x, .e, .n .., u, h, k => by unfold joinM at h; cases h
 | x, .n .., .e, u, h, k => by unfold joinM at h; cases h
def joinH (h0 h h' : AH) : Option AH := match Nat.beq h.next h'.next, joinM h0.m h.m h'.m with
 | true, some m => some ⟨m, h.next⟩
 | _, _ => none
def CovH (h0 h q : AH) : Prop := (∀ w0 φ w, R w0 φ h w -> R w0 φ q w) /\ ∀ φ φ', Nx φ φ' h0 h -> Nx φ φ' h0 q
theorem xw6 {h0 h q : AH} (hn : q.next = h.next) (hc : ∀ k, Cov (h.m.get k) (q.m.get k) /\ (h.m.get k = h0.m.get k -> q.m.get k = h0.m.get k)) : CovH h0 h q := by
 refine ⟨fun w0 φ w r => ⟨fun b i o hi ho => ?_, fun b i o hi ho hro => ?_, fun b b' i i' o o' hi hi' ho ho' hro hcc => ?_, fun b i hi => ⟨(r.lt b i hi).1, by rw [hn]; exact (r.lt b i hi).2⟩, trivial, r.below⟩,
   fun φ φ' nx => ⟨nx.le, by rw [hn]; exact nx.next, fun k hk hlt => ⟨(nx.ghost k hk hlt).1, (hc k).2 (nx.ghost k hk hlt).2⟩⟩⟩
 . obtain ⟨a, h1, h2, h3⟩ := (hc b).1 o ho
   exact h3 φ w i (r.dom b i a hi h1)
 . obtain ⟨a, h1, h2, h3⟩ := (hc b).1 o ho
   exact r.low b i a hi h1 (h2.trans hro)
 . obtain ⟨a, h1, h2, h3⟩ := (hc b).1 o ho
   obtain ⟨a', h4, h5, h6⟩ := (hc b').1 o' ho'
   exact r.inj b b' i i' a a' hi hi' h1 h4 (h2.trans hro) hcc
theorem uy7 {h0 h h' q : AH} (hj : joinH h0 h h' = some q) : CovH h0 h q /\ CovH h0 h' q := by
 unfold joinH at hj
 split at hj
 . rename_i m hn hm
   cases hj
   have hn := Nat.eq_of_beq_eq_true hn
   have g := zz2 hm
   exact ⟨xw6 rfl (fun k => (zv2 (g k)).1), xw6 hn (fun k => (zv2 (g k)).2)⟩
 . cases hj
end
end Go.X
namespace Go.X
noncomputable section
open Go Go.RowKit
variable {w0 w w' : World} {φ φ' : Phi} {h h' : AH} {P : Program} {n : Nat} {t : T Value} {bs : List Deferred}
inductive Ex where
 | normal
 | exit (id : Nat)
 | ret
inductive ExR : Ex -> Exit -> Prop
 | normal : ExR .normal .normal
 | exit (id : Nat) : ExR (.exit id) (.exit id)
 | ret : ExR .ret .ret
structure Out where
 ex : Ex
 t : T Value
 ds : List Nat
 h : AH
abbrev COuts := Option (List Out)
def exSame : Ex -> Ex -> Bool
 | .normal, .normal => true
 | .ret, .ret => true
 | .exit a, .exit b => Nat.beq a b
 | _, _ => false
theorem jj5 {a b : Ex} (h : exSame a b = true) : a = b := by
 unfold exSame at h
 split at h
 . rfl
 . rfl
 . rw [Nat.eq_of_beq_eq_true h]
 . cases h
def joinO (h0 : AH) (o p : Out) : Option Out := match exSame o.ex p.ex && sameNs o.ds p.ds with
 | true => (match joinF o.t p.t, joinH h0 o.h p.h with
  | some t, some h => some ⟨o.ex, t, o.ds, h⟩
  | _, _ => none)
 | false => none
def CovO (h0 : AH) (o q : Out) : Prop := q.ex = o.ex /\ q.ds = o.ds /\ (∀ φ n a, FR φ n o.t a -> FR φ n q.t a) /\ CovH h0 o.h q.h
theorem CovO.refl (h0 : AH) (o : Out) : CovO h0 o o := ⟨rfl, rfl, fun _ _ _ h => h, fun _ _ _ h => h, fun _ _ h => h⟩
theorem CovO.trans {h0 : AH} {o p q : Out} (a : CovO h0 o p) (b : CovO h0 p q) : CovO h0 o q :=
 ⟨b.1.trans a.1, b.2.1.trans a.2.1, fun φ n x h => b.2.2.1 φ n x (a.2.2.1 φ n x h), fun w0 φ w h => b.2.2.2.1 w0 φ w (a.2.2.2.1 w0 φ w h), fun φ φ' h => b.2.2.2.2 φ φ' (a.2.2.2.2 φ φ' h)⟩
theorem uy6 {h0 : AH} {o p q : Out} (h : joinO h0 o p = some q) : CovO h0 o q /\ CovO h0 p q := by
 unfold joinO at h
 split at h
 . rename_i hs
   rw [Bool.and_eq_true] at hs
   have e1 := jj5 hs.1
   have e2 := zq6 hs.2
   split at h
   . rename_i t q' ht hq
     cases h
     obtain ⟨c1, c2⟩ := uy7 hq
     exact ⟨⟨rfl, rfl, fun _ _ _ f => (yk2 ht).1 f, c1⟩, ⟨e1, e2, fun _ _ _ f => (yk2 ht).2 f, c2⟩⟩
   . cases h
 . cases h
def insJ (h0 : AH) (o : Out) : List Out -> List Out
 | [] => [o]
 | p :: r => (match joinO h0 o p with
  | some q => q :: r
  | none => p :: insJ h0 o r)
theorem xk6 (h0 : AH) (o : Out) : ∀ (l : List Out), (∃ q, q ∈ insJ h0 o l /\ CovO h0 o q) /\ ∀ p, p ∈ l -> ∃ q, q ∈ insJ h0 o l /\ CovO h0 p q
 | [] => ⟨⟨o, List.mem_singleton.2 rfl, .refl h0 o⟩, fun p hp => by cases hp⟩
 | p :: r => by
  unfold insJ
  split
  . rename_i q hq
    obtain ⟨c1, c2⟩ := uy6 hq
    refine ⟨⟨q, List.mem_cons_self, c1⟩, fun x hx => ?_⟩
    rcases List.mem_cons.1 hx with rfl | hx
    . exact ⟨q, List.mem_cons_self, c2⟩
    . exact ⟨x, List.mem_cons_of_mem _ hx, .refl h0 x⟩
  . obtain ⟨⟨q, h1, h2⟩, h3⟩ := xk6 h0 o r
    refine ⟨⟨q, List.mem_cons_of_mem _ h1, h2⟩, fun x hx => ?_⟩
    rcases List.mem_cons.1 hx with rfl | hx
    . exact ⟨x, List.mem_cons_self, .refl h0 x⟩
    . obtain ⟨q, h4, h5⟩ := h3 x hx
      exact ⟨q, List.mem_cons_of_mem _ h4, h5⟩
def joinAll (h0 : AH) (l : List Out) : List Out := l.foldr (insJ h0) []
theorem zv3 (h0 : AH) : ∀ {l : List Out} {o : Out}, o ∈ l -> ∃ q, q ∈ joinAll h0 l /\ CovO h0 o q
 | x :: l, o, ho => by
  show ∃ q, q ∈ insJ h0 x (joinAll h0 l) /\ CovO h0 o q
  obtain ⟨h1, h2⟩ := xk6 h0 x (joinAll h0 l)
  rcases List.mem_cons.1 ho with rfl | ho
  . exact h1
  . obtain ⟨q, h3, h4⟩ := zv3 h0 ho
    obtain ⟨q2, h5, h6⟩ := h2 q h3
    exact ⟨q2, h5, h4.trans h6⟩
def jn (h0 : AH) : COuts -> COuts
 | some (o :: p :: l) => some (joinAll h0 (o :: p :: l))
 | x => x
theorem jn_ok {h0 : AH} {x : COuts} {l : List Out} (h : jn h0 x = some l) : ∃ l0, x = some l0 /\ ∀ o, o ∈ l0 -> ∃ q, q ∈ l /\ CovO h0 o q := by
 unfold jn at h
 split at h
 . rename_i o p r
   cases h
   exact ⟨_, rfl, fun o ho => zv3 h0 ho⟩
 . exact ⟨l, h, fun o ho => ⟨o, ho, .refl h0 o⟩⟩
def firstNext : Code -> Bool
 | .seq x _ => firstNext x
 | .region _ ops _ => (match ops[0]? with
  | some o => (match o.op with
   | .next _ false => true
   | _ => false)
  | none => false)
 | _ => false
def hasUpd : Code -> Bool
 | .seq x y => hasUpd x || hasUpd y
 | .cond _ x y => hasUpd x || hasUpd y
 | .block _ x => hasUpd x
 | .loop x => hasUpd x
 | .region _ ops _ => ops.toList.any fun o => (match o.op with
  | .mapUpdate _ _ _ _ => true
  | _ => false)
 | _ => false
def isRange : Code -> Bool
 | .loop c => firstNext c && hasUpd c
 | _ => false
inductive DR (bs : List Deferred) (φ : Phi) : List Nat -> List Deferred -> Prop
 | nil : DR bs φ [] bs
 | cons {b : Nat} {i : Im} {l : List Nat} {l' : List Deferred} (hb : φ b = some i) (t : DR bs φ l l') : DR bs φ (b :: l) (⟨.collected i.c, #[]⟩ :: l')
theorem DR.mono (le : Le φ φ') {l : List Nat} {l' : List Deferred} (d : DR bs φ l l') : DR bs φ' l l' := by
 induction d with
 | nil => exact .nil
 | cons hb _ ih => exact .cons (le _ _ hb) ih
def Post (bs : List Deferred) (w0 : World) (φ : Phi) (h : AH) (n : Nat) (l : List Out) : Exit -> Act -> World -> Prop := fun e a w =>
 ∃ o, o ∈ l /\ ExR o.ex e /\ ∃ φ', Nx φ φ' h o.h /\ R w0 φ' o.h w /\ FR φ' n o.t a.tmps /\ DR bs φ' o.ds a.defers
theorem Post.sub {l l' : List Out} {e : Exit} {a : Act} (hs : ∀ o, o ∈ l -> o ∈ l') (p : Post bs w0 φ h n l e a w) : Post bs w0 φ h n l' e a w := by
 obtain ⟨o, h1, r⟩ := p; exact ⟨o, hs o h1, r⟩
theorem Post.from {h0 : AH} {φ0 : Phi} {l : List Out} {e : Exit} {a : Act} (nx : Nx φ0 φ h0 h) (p : Post bs w0 φ h n l e a w) : Post bs w0 φ0 h0 n l e a w := by
 obtain ⟨o, h1, h2, φ', h3, r⟩ := p; exact ⟨o, h1, h2, φ', nx.trans h3, r⟩
def RoR (φ : Phi) : Option Nat -> Option Nat -> Prop
 | none, q => q = none
 | some b, q => ∃ i, φ b = some i /\ q = some i.c
theorem RoR.mono (le : Le φ φ') {ro q : Option Nat} (x : RoR φ ro q) : RoR φ' ro q := by
 cases ro with
 | none => exact x
 | some b => obtain ⟨i, h1, h2⟩ := x; exact ⟨i, le _ _ h1, h2⟩
abbrev Ev := T Value -> List Nat -> AH -> COuts
def thenX (y : Ev) (o : Out) : COuts := Ex.rec (motive := fun _ => COuts) (y o.t o.ds o.h) (fun _ => some [o]) (some [o]) o.ex
def cThen (x y : Ev) : Ev := fun t ds h => bindL (x t ds h) (thenX y)
def aLoop (body : T Value -> List Nat -> AH -> COuts) (k : Nat) : T Value -> List Nat -> AH -> COuts := Nat.rec (motive := fun _ => Ev) (fun _ _ _ => none) (fun _ ih => cThen body ih) k
theorem F4 (y : Ev) (o : Out) : thenX y o = match o.ex with
  | .normal => y o.t o.ds o.h
  | _ => some [o] := by
 unfold thenX; cases o.ex <;> rfl
theorem xj8 (body : Ev) (t : T Value) (ds : List Nat) (h : AH) : aLoop body 0 t ds h = none := rfl
theorem xj9 (body : Ev) (k : Nat) (t : T Value) (ds : List Nat) (h : AH) : aLoop body (k + 1) t ds h = bindL (body t ds h) fun o => match o.ex with
  | .normal => aLoop body k o.t o.ds o.h
  | _ => some [o] := by
 show bindL (body t ds h) (thenX (aLoop body k)) = _
 congr 1; funext o; exact F4 _ o
def exCode : Option Code -> Option Ex
 | none => some .normal
 | some .ret => some .ret
 | some (.exit id) => some (.exit id)
 | _ => none
def yv (b : Nat) : Value := .func (.yield b) ⟨[]⟩ ⟨[]⟩
def aEnter (n : Nat) (ro : Option Nat) (t : T Value) (ps : List Tmp) (asg body : Code) (h : AH) : Option (Nat × List Nat × AH) := match ro with
 | some _ => none
 | none => (match h.newObj .dfr with
  | some (d, h1) => (match h1.newObj (.loop .ready none t n ps asg body) with
   | some (l, h2) => some (l, [d], h2)
   | none => none)
  | none => none)
theorem yx0 {β : Type} (a b : Nat) (x y : β) : (Bool.rec (motive := fun _ => β) y x (Nat.beq a b) : β) = if a = b then x else y := T.beq_ite a b x y
def aCode0 (P : Program) (call : Call1) (n LF : Nat) (ro : Option Nat) : Code -> T Value -> List Nat -> AH -> COuts
 | .skip, t, ds, h => some [⟨.normal, t, ds, h⟩]
 | .label _, t, ds, h => some [⟨.normal, t, ds, h⟩]
 | .ret, t, ds, h => some [⟨.ret, t, ds, h⟩]
 | .exit id, t, ds, h => some [⟨.exit id, t, ds, h⟩]
 | .seq x y, t, ds, h => bindL (aCode0 P call n LF ro x t ds h) fun o => match o.ex with
  | .normal => aCode0 P call n LF ro y o.t o.ds o.h
  | _ => some [o]
 | .cond c x y, t, ds, h => match aO n t c with
  | some (.bool q) => if q then aCode0 P call n LF ro x t ds h else aCode0 P call n LF ro y t ds h
  | _ => none
 | .block id c, t, ds, h => (match isRange c with
  | true => jn h (bindL (aCode0 P call n LF ro c t ds h) fun o => match o.ex with
   | .exit k => if k = id then some [{ o with ex := .normal }] else some [o]
   | _ => some [o])
  | false => bindL (aCode0 P call n LF ro c t ds h) fun o => match o.ex with
   | .exit k => if k = id then some [{ o with ex := .normal }] else some [o]
   | _ => some [o])
 | .loop c, t, ds, h => aLoop (aCode0 P call n LF ro c) LF t ds h
 | .region _ ops draw, t, ds, h => bindL (if draw then aDraw P call n ops t h else aOps P call n ops ops.toList t h) fun p => some [⟨.normal, p.1, ds, p.2⟩]
 | .rangeFunc f ⟨ps⟩ asg body, t, ds, h => match aO n t f with
  | some (.func (.func g) ⟨first⟩ ⟨cap⟩) => (match aEnter n ro t ps asg body h with
   | some (l, ms, h2) => (match aCallF P g (first ++ [yv l] ++ cap) h2 with
    | some [(an, h3)] => bindL (call an h3) fun p => (match p.2.m.get l with
     | some (.loop st pend ts sz ps' asg' body') => (match st, exCode pend with
      | .busy, _ => none
      | _, some ex => some [⟨ex, t, ms ++ ds, { p.2 with m := (p.2.m.set l (some (.loop .exhausted pend ts sz ps' asg' body'))).set l none }⟩]
      | _, none => none)
     | _ => none)
    | _ => none)
   | none => none)
  | _ => none
 | _, _, _, _ => none
def cCond (n : Nat) (c : Operand) (x y : Ev) : Ev := fun t ds h => match aO n t c with
 | some (.bool q) => Bool.rec (motive := fun _ => COuts) (y t ds h) (x t ds h) q
 | _ => none
def outX (id : Nat) (o : Out) : COuts := match o.ex with
 | .exit k => Bool.rec (motive := fun _ => COuts) (some [o]) (some [{ o with ex := .normal }]) (Nat.beq k id)
 | _ => some [o]
def cBlock (id : Nat) (x : Ev) : Ev := fun t ds h => bindL (x t ds h) (outX id)
def jBlock (id : Nat) (x : Ev) : Ev := fun t ds h => jn h (cBlock id x t ds h)
def cBlockX (c : Code) (id : Nat) (x : Ev) : Ev := Bool.rec (motive := fun _ => Ev) (cBlock id x) (jBlock id x) (isRange c)
def cRegion (P : Program) (call : Call1) (n : Nat) (ops : Array Oper) (draw : Bool) : Ev := fun t ds h => bindL (Bool.rec (motive := fun _ => Option (List (T Value × AH))) (aOps P call n ops ops.toList t h) (aDraw P call n ops t h) draw) fun p => some [⟨.normal, p.1, ds, p.2⟩]
def aCode (P : Program) (call : Call1) (n LF : Nat) (ro : Option Nat) (c : Code) : Ev := Code.rec (motive := fun _ => Ev)
 (fun t ds h => some [⟨.normal, t, ds, h⟩])
 (fun _ ops draw => cRegion P call n ops draw)
 (fun _ _ x y => cThen x y)
 (fun c _ _ x y => cCond n c x y)
 (fun id c x => cBlockX c id x)
 (fun _ x => aLoop x LF)
 (fun f ps asg body _ _ => aCode0 P call n LF ro (.rangeFunc f ps asg body))
 (fun id t ds h => some [⟨.exit id, t, ds, h⟩])
 (fun _ _ _ _ _ => none)
 (fun _ t ds h => some [⟨.normal, t, ds, h⟩])
 (fun _ _ _ _ => none)
 (fun t ds h => some [⟨.ret, t, ds, h⟩])
 (fun _ _ _ _ => none) c
theorem qq9 (P : Program) (call : Call1) (n LF : Nat) (ro : Option Nat) : ∀ (c : Code), aCode P call n LF ro c = aCode0 P call n LF ro c
 | .skip => rfl
 | .region _ ops draw => by
  funext t ds h
  show cRegion P call n ops draw t ds h = _
  simp only [aCode0, cRegion]
  cases draw <;> rfl
 | .seq x y => by
  funext t ds h
  show cThen (aCode P call n LF ro x) (aCode P call n LF ro y) t ds h = _
  rw [qq9 P call n LF ro x, qq9 P call n LF ro y]
  simp only [aCode0, cThen]
  congr 1; funext o; exact F4 _ o
 | .cond c x y => by
  funext t ds h
  show cCond n c (aCode P call n LF ro x) (aCode P call n LF ro y) t ds h = _
  rw [qq9 P call n LF ro x, qq9 P call n LF ro y]
  simp only [aCode0, cCond]
  split
  . rename_i q _; cases q <;> rfl
  . rfl
 | .block id x => by
  funext t ds h
  show cBlockX x id (aCode P call n LF ro x) t ds h = _
  rw [qq9 P call n LF ro x]
  have key : (outX id) = fun o => match o.ex with
      | .exit k => if k = id then some [{ o with ex := .normal }] else some [o]
      | _ => some [o] := by
    funext o
    unfold outX
    split
    . rename_i k _; rw [yx0]
    . rfl
  simp only [aCode0, cBlockX]
  cases isRange x with
  | true =>
    show jn h (bindL _ (outX id)) = _
    rw [key]
  | false =>
    show bindL _ (outX id) = _
    rw [key]
 | .loop x => by
  show aLoop (aCode P call n LF ro x) LF = _
  rw [qq9 P call n LF ro x]
  funext t ds h
  simp only [aCode0]
 | .rangeFunc f ps asg body => rfl
 | .exit _ => rfl
 | .scope _ => by funext t ds h; simp only [aCode0]; rfl
 | .label _ => rfl
 | .goto _ => by funext t ds h; simp only [aCode0]; rfl
 | .ret => rfl
 | .refuse _ => by funext t ds h; simp only [aCode0]; rfl
theorem xg8 {F : Fence} {m : Nat} {c : Code} {Q : Exit -> Act -> World -> Prop} (J : Nat -> Act -> World -> Prop) (k : Nat) {a : Act} {w : World} (h0 : J k a w)
    (round : ∀ k a w, J k a w -> c.wpIn F m P (Exit.then (fun a' w' => ∃ k', k' < k /\ J k' a' w') Q) a w) : (Code.loop c).wpIn F m P Q a w := by
  classical
  have least : ∀ {p : Nat -> Prop}, (∃ m, p m) -> ∃ m, p m /\ ∀ k, p k -> m ≤ k := by
    intro p hx
    obtain ⟨m, hm⟩ := hx
    induction m using Nat.strongRecOn with
    | _ m ih =>
      by_cases hx : ∃ k, k < m /\ p k
      . obtain ⟨k, hk, hp⟩ := hx; exact ih k hk hp
      . exact ⟨m, hm, fun k hp => by
          rcases Nat.lt_or_ge k m with h | h
          . exact (hx ⟨k, h, hp⟩).elim
          . exact h⟩
  let I : Act -> World -> Prop := fun a w => ∃ m, J m a w
  let μ : Act -> World -> Nat := fun a w => if h : ∃ m, J m a w then Classical.choose (least h) else 0
  have hμ : ∀ a w (h : I a w), J (μ a w) a w /\ ∀ k, J k a w -> μ a w ≤ k := by
    intro a w h
    have e : μ a w = Classical.choose (least h) := dif_pos h
    rw [e]; exact Classical.choose_spec (least h)
  refine wpIn_loop I μ ⟨k, h0⟩ ?_
  intro a w hI
  obtain ⟨hJ, _⟩ := hμ a w hI
  refine wpIn_mono (round _ a w hJ) ?_
  intro e a' w' q
  cases e with
  | normal =>
    obtain ⟨m', hlt, hJ'⟩ := q
    exact ⟨⟨m', hJ'⟩, Nat.lt_of_le_of_lt ((hμ a' w' ⟨m', hJ'⟩).2 m' hJ') hlt⟩
  | _ => exact q
def CodeOk (w0 : World) (P : Program) (n : Nat) (ro : Option Nat) (c : Code) (ev : T Value -> List Nat -> AH -> COuts) : Prop :=
 ∀ ⦃t : T Value⦄ ⦃ds : List Nat⦄ ⦃h : AH⦄ ⦃l : List Out⦄ ⦃φ : Phi⦄ ⦃a : Act⦄ ⦃w : World⦄ ⦃q : Option Nat⦄ ⦃bs : List Deferred⦄ (m : Nat), ev t ds h = some l -> R w0 φ h w -> FR φ n t a.tmps -> DR bs φ ds a.defers -> RoR φ ro q ->
  c.wpIn (FW q) m P (Post bs w0 φ h n l) a w
theorem Qy6 {ro : Option Nat} {c : Code} {ev : T Value -> List Nat -> AH -> COuts} (hc : CodeOk w0 P n ro c ev) (LF : Nat) : CodeOk w0 P n ro (.loop c) (aLoop ev LF) := by
 intro t ds h l φ a w q bs m hs hr hf hd hq
 refine xg8 (fun k a w => ∃ t ds h' l' φ', aLoop ev k t ds h' = some l' /\ (∀ o, o ∈ l' -> o ∈ l) /\ Nx φ φ' h h' /\ R w0 φ' h' w /\ FR φ' n t a.tmps /\ DR bs φ' ds a.defers) LF
  ⟨t, ds, h, l, φ, hs, fun o ho => ho, .refl φ h, hr, hf, hd⟩ ?_
 rintro k a w ⟨t, ds, h1, l1, φ1, hs1, hsub, nx1, r1, f1, d1⟩
 cases k with
 | zero => simp [xj8] at hs1
 | succ k =>
  simp only [xj9] at hs1
  obtain ⟨l2, h2, hall⟩ := U1 hs1
  refine wpIn_mono (hc m h2 r1 f1 d1 (hq.mono nx1.le)) ?_
  rintro e a' w' ⟨o, ho, hex, φ2, nx2, r2, f2, d2⟩
  obtain ⟨k2, hk, hsub2⟩ := hall o ho
  obtain ⟨ex, t', ds', h'⟩ := o
  cases hex with
  | normal => exact ⟨k, Nat.lt_succ_self k, t', ds', h', k2, φ2, hk, fun o ho => hsub o (hsub2 o ho), nx1.trans nx2, r2, f2, d2⟩
  | exit id =>
   cases hk
   exact ⟨_, hsub _ (hsub2 _ (List.mem_singleton.2 rfl)), .exit id, φ2, nx1.trans nx2, r2, f2, d2⟩
  | ret =>
   cases hk
   exact ⟨_, hsub _ (hsub2 _ (List.mem_singleton.2 rfl)), .ret, φ2, nx1.trans nx2, r2, f2, d2⟩
end
end Go.X
namespace Go.X
noncomputable section
open Go Go.RowKit
variable {w0 w w' : World} {φ φ' : Phi} {h h' : AH} {P : Program} {n : Nat} {t : T Value}
theorem yu8 {ops : Array Oper} {F : Fence} {m : Nat} {Q : Exit -> Act -> World -> Prop} {id : Nat} {a : Act} (hh : wpOpsIn F m P ops Q (List.range ops.size) a w) : (Code.region id ops false).wpIn F m P Q a w := wpIn_region hh
theorem yq8 (hN : NoCount P) {call : Call1} (hc : CallsOk w0 P call) {ro : Option Nat} {f : Operand} {ps : List Tmp} {asg body : Code} {LF : Nat} : CodeOk w0 P n ro (.rangeFunc f ⟨ps⟩ asg body) (aCode0 P call n LF ro (.rangeFunc f ⟨ps⟩ asg body)) := by
 intro t ds h l φ a w q bs m hs hr hf hd hq
 simp only [aCode0] at hs
 split at hs
 . rename_i g first cap hfv
   have hfv' := Z5 hf hfv
   split at hs
   . rename_i lb ms h2 hen
     unfold aEnter at hen
     split at hen
     . cases hen
     . split at hen
       . rename_i d h1 hn1
         split at hen
         . rename_i lb' h2' hn2
           cases hen
           obtain rfl : q = none := hq
           refine wpIn_rangeFunc fun fn _ => ?_
           -- the blocks
           obtain ⟨φ1, nx1, hb1, r1⟩ := hr.newObj (x := .deferred (some [])) hn1 (fun φ' w' _ hw => hw)
           have hsz : (w.alloc (.deferred (some []))).heap.size = w.heap.size + 1 := by simp
           obtain ⟨φ2, nx2, hb2, r2⟩ := r1.newObj (x := .loop ⟨.ready, none, fn, a.tmps, ⟨ps⟩, asg, body, w.heap.size⟩) hn2 (fun φ' w' le hw => ⟨fn, a.tmps, w.heap.size, hw, (hf.mono nx1.le).mono le⟩)
           have nx12 := nx1.trans nx2
           generalize hev : a.eval f = u at hfv'
           cases hfv' with
           | @func _ fn' _ _ first' cap' hfn ha hb h3 h4 =>
            cases hfn with
            | same hns =>
             have hL1 : LR φ2 first first' := (LR.of ha h3).mono nx12.le
             have hL2 : LR φ2 cap cap' := (LR.of hb h4).mono nx12.le
             split at hs
             . rename_i an h3' hcf
               obtain ⟨heq, hcall⟩ := zq8 (args' := first' ++ [.func (.yield (w.heap.size + 1)) #[] #[]] ++ cap') hN hcf ((w.alloc (.deferred (some []))).alloc (.loop ⟨.ready, none, fn, a.tmps, ⟨ps⟩, asg, body, w.heap.size⟩))
               cases heq
               have hyv : VR φ2 (yv lb) (.func (.yield (w.heap.size + 1)) #[] #[]) := by
                 have hb2' : φ2 lb = some ⟨w.heap.size + 1, 0, 0, 0, 0⟩ := by rw [<- hsz]; exact hb2
                 exact .func' (.yield ⟨w.heap.size + 1, 0, 0, 0, 0⟩ hb2') .nil .nil
               have hargs := (hL1.append (.cons hyv .nil)).append hL2
               obtain ⟨l0, h0, hall⟩ := U1 hs
               refine ⟨w.heap.size + 1, [{ target := .collected w.heap.size, args := #[] }], ((w.alloc (.deferred (some []))).alloc (.loop ⟨.ready, none, fn, a.tmps, ⟨ps⟩, asg, body, w.heap.size⟩)), ⟨.fn (.func g) ⟨cap'⟩, ⟨first' ++ [.func (.yield (w.heap.size + 1)) #[] #[]]⟩⟩, ((w.alloc (.deferred (some []))).alloc (.loop ⟨.ready, none, fn, a.tmps, ⟨ps⟩, asg, body, w.heap.size⟩)), g, ⟨first' ++ [.func (.yield (w.heap.size + 1)) #[] #[]] ++ cap'⟩, ((w.alloc (.deferred (some []))).alloc (.loop ⟨.ready, none, fn, a.tmps, ⟨ps⟩, asg, body, w.heap.size⟩)), run_enterLoop_outer fn a.tmps ⟨ps⟩ asg body, ?_, fun f' _ => zk5 none f', ?_, fun x => (by cases x), xq2 (q := none) ?_⟩
               . simp only [resolve, hev, Deferred.ofValue, Sem.run_pure]
                 congr 2
                 apply Array.ext'
                 simp [Act.eval]
               . simp only [invoke]
                 have : (⟨first' ++ [.func (.yield (w.heap.size + 1)) #[] #[]]⟩ ++ ⟨cap'⟩ : Array Value) = ⟨first' ++ [.func (.yield (w.heap.size + 1)) #[] #[]] ++ cap'⟩ := by apply Array.ext'; simp
                 rw [this]
                 exact hcall
               . refine ((hc _ _ _ _ _ _ h0 r2 (.enter hargs)).1 _ _ rfl).mono ?_
                 rintro e w3 ⟨v', rfl, v, h5, hmem, φ3, nx3, r3, _⟩
                 obtain ⟨k, hk, hsub⟩ := hall _ hmem
                 dsimp only at hk
                 split at hk
                 . rename_i st pend ts sz ps' asg' body' ho
                   have hlb : φ3 lb = some ⟨w.heap.size + 1, 0, 0, 0, 0⟩ := nx3.le _ _ (by rw [<- hsz]; exact hb2)
                   obtain ⟨fn0, arr0, df0, hw0, hfr0⟩ := r3.dom _ _ _ hlb ho
                   have fin : ∀ {ex : Ex}, st ≠ .busy -> exCode pend = some ex -> k = [⟨ex, t, [d] ++ ds, { h5 with m := (h5.m.set lb (some (.loop .exhausted pend ts sz ps' asg' body'))).set lb none }⟩] ->
                      rangePost (FW none) m P (w.heap.size + 1) (Post bs w0 φ h n l) { a with defers := [{ target := .collected w.heap.size, args := #[] }] ++ a.defers } (.returned v') w3 := by
                     intro ex hst hex hkk
                     subst hkk
                     have hmem2 := hsub _ (List.mem_singleton.2 rfl)
                     refine ⟨pend, w3.putObj (w.heap.size + 1) (.loop ⟨.exhausted, pend, fn0, arr0, ⟨ps'⟩, asg', body', df0⟩), run_endLoop hw0 hst, ?_⟩
                     have r4 : R w0 φ3 { h5 with m := (h5.m.set lb (some (.loop .exhausted pend ts sz ps' asg' body'))).set lb none } (w3.putObj (w.heap.size + 1) (.loop ⟨.exhausted, pend, fn0, arr0, ⟨ps'⟩, asg', body', df0⟩)) :=
                      R.drop (r3.put (o' := .loop .exhausted pend ts sz ps' asg' body') hlb ho rfl (fun w' hw => ⟨fn0, arr0, df0, hw, hfr0⟩)) lb trivial
                     have nxx : Nx φ φ3 h { h5 with m := (h5.m.set lb (some (.loop .exhausted pend ts sz ps' asg' body'))).set lb none } :=
                      ((nx12.trans nx3).trans (Nx.put hlb trivial)).trans (Nx.drop hlb trivial)
                     have pst : ∀ {ee : Exit}, ExR ex ee -> Post bs w0 φ h n l ee { a with defers := [{ target := .collected w.heap.size, args := #[] }] ++ a.defers } (w3.putObj (w.heap.size + 1) (.loop ⟨.exhausted, pend, fn0, arr0, ⟨ps'⟩, asg', body', df0⟩)) := by
                      intro ee hee
                      refine ⟨_, hmem2, hee, φ3, nxx, r4, hf.mono (nx12.trans nx3).le, ?_⟩
                      exact .cons (nx3.le _ _ (nx2.le _ _ hb1)) (hd.mono (nx12.trans nx3).le)
                     cases pend with
                     | none => simp only [exCode] at hex; cases hex; exact pst .normal
                     | some c =>
                      cases c <;> simp only [exCode] at hex <;> cases hex
                      . exact wpIn_exit (pst (.exit _))
                      . exact wpIn_ret (pst .ret)
                   split at hk
                   . cases hk
                   . rename_i x1 x2 ex hst hex
                     cases hk
                     exact fin hst hex rfl
                   . cases hk
                 . cases hk
             . cases hs
         . cases hen
       . cases hen
   . cases hs
 . cases hs
theorem qq8 (hN : NoCount P) (hM : P.follows .mixedOrders = true) {call : Call1} (hc : CallsOk w0 P call) (ro : Option Nat) (LF : Nat) : ∀ (c : Code), CodeOk w0 P n ro c (aCode0 P call n LF ro c)
 | .skip => by
  intro t ds h l φ a w q bs m hs hr hf hd hq
  simp only [aCode0] at hs; cases hs
  exact wpIn_skip ⟨_, List.mem_singleton.2 rfl, .normal, φ, .refl φ h, hr, hf, hd⟩
 | .label _ => by
  intro t ds h l φ a w q bs m hs hr hf hd hq
  simp only [aCode0] at hs; cases hs
  exact wpIn_label ⟨_, List.mem_singleton.2 rfl, .normal, φ, .refl φ h, hr, hf, hd⟩
 | .ret => by
  intro t ds h l φ a w q bs m hs hr hf hd hq
  simp only [aCode0] at hs; cases hs
  exact wpIn_ret ⟨_, List.mem_singleton.2 rfl, .ret, φ, .refl φ h, hr, hf, hd⟩
 | .exit id => by
  intro t ds h l φ a w q bs m hs hr hf hd hq
  simp only [aCode0] at hs; cases hs
  exact wpIn_exit ⟨_, List.mem_singleton.2 rfl, .exit id, φ, .refl φ h, hr, hf, hd⟩
 | .seq x y => by
  intro t ds h l φ a w q bs m hs hr hf hd hq
  simp only [aCode0] at hs
  obtain ⟨l0, h0, hall⟩ := U1 hs
  refine wpIn_seq (wpIn_mono (qq8 hN hM hc ro LF x m h0 hr hf hd hq) ?_)
  rintro e a' w' ⟨o, ho, hex, φ1, nx1, r1, f1, d1⟩
  obtain ⟨k, hk, hsub⟩ := hall _ ho
  obtain ⟨ex, t1, ds1, h1⟩ := o
  cases hex with
  | normal => exact wpIn_mono (qq8 hN hM hc ro LF y m hk r1 f1 d1 (hq.mono nx1.le)) (fun e a w p => (p.sub hsub).from nx1)
  | exit id => cases hk; exact ⟨_, hsub _ (List.mem_singleton.2 rfl), .exit id, φ1, nx1, r1, f1, d1⟩
  | ret => cases hk; exact ⟨_, hsub _ (List.mem_singleton.2 rfl), .ret, φ1, nx1, r1, f1, d1⟩
 | .cond c x y => by
  intro t ds h l φ a w q bs m hs hr hf hd hq
  simp only [aCode0] at hs
  split at hs
  . rename_i b hb
    have hb' := (Z5 hf hb).bool_inv
    refine wpIn_cond_split hb' (fun e => ?_) (fun e => ?_)
    . rw [if_pos e] at hs; exact qq8 hN hM hc ro LF x m hs hr hf hd hq
    . rw [if_neg (by simp [e])] at hs; exact qq8 hN hM hc ro LF y m hs hr hf hd hq
  . cases hs
 | .block id c => by
  intro t ds h l φ a w q bs m hs hr hf hd hq
  have core : ∀ {l : List Out}, (bindL (aCode0 P call n LF ro c t ds h) fun o => match o.ex with
      | .exit k => if k = id then some [{ o with ex := .normal }] else some [o]
      | _ => some [o]) = some l -> (Code.block id c).wpIn (FW q) m P (Post bs w0 φ h n l) a w := by
    intro l hs
    obtain ⟨l0, h0, hall⟩ := U1 hs
    refine wpIn_block (wpIn_mono (qq8 hN hM hc ro LF c m h0 hr hf hd hq) ?_)
    rintro e a' w' ⟨o, ho, hex, φ1, nx1, r1, f1, d1⟩
    obtain ⟨k, hk, hsub⟩ := hall _ ho
    obtain ⟨ex, t1, ds1, h1⟩ := o
    cases hex with
    | normal => cases hk; exact ⟨_, hsub _ (List.mem_singleton.2 rfl), .normal, φ1, nx1, r1, f1, d1⟩
    | exit j =>
      dsimp only at hk
      simp only [Exit.inBlock]
      by_cases hj : j = id
      . rw [if_pos hj] at hk ⊢; cases hk; exact ⟨_, hsub _ (List.mem_singleton.2 rfl), .normal, φ1, nx1, r1, f1, d1⟩
      . rw [if_neg hj] at hk ⊢; cases hk; exact ⟨_, hsub _ (List.mem_singleton.2 rfl), .exit j, φ1, nx1, r1, f1, d1⟩
    | ret => cases hk; exact ⟨_, hsub _ (List.mem_singleton.2 rfl), .ret, φ1, nx1, r1, f1, d1⟩
  simp only [aCode0] at hs
  split at hs
  . obtain ⟨l0, h0, hcov⟩ := jn_ok hs
    refine wpIn_mono (core h0) ?_
    rintro e a' w' ⟨o, ho, hex, φ1, nx1, r1, f1, d1⟩
    obtain ⟨q, hq, c1, c2, c3, c4, c5⟩ := hcov o ho
    exact ⟨q, hq, by rw [c1]; exact hex, φ1, c5 _ _ nx1, c4 _ _ _ r1, c3 _ _ _ f1, by rw [c2]; exact d1⟩
  . exact core hs
 | .loop c => Qy6 (qq8 hN hM hc ro LF c) LF
 | .region id ops draw => by
  intro t ds h l φ a w q bs m hs hr hf hd hq
  simp only [aCode0] at hs
  obtain ⟨l0, h0, hall⟩ := U1 hs
  have fin : ∀ t' h' φ' (a' : Act) w', (t', h') ∈ l0 -> Nx φ φ' h h' -> R w0 φ' h' w' -> FR φ' n t' a'.tmps -> a'.defers = a.defers -> Post bs w0 φ h n l .normal a' w' := by
    intro t' h' φ' a' w' hm nx' r' f' d'
    obtain ⟨k, hk, hsub⟩ := hall _ hm
    cases hk
    exact ⟨_, hsub _ (List.mem_singleton.2 rfl), .normal, φ', nx', r', f', by rw [d']; exact hd.mono nx'.le⟩
  cases draw with
  | true => exact Qj4 hN hM hc h0 hr hf fin
  | false => exact yu8 (ops_ok hN hc h0 hr hf fin)
 | .rangeFunc f ps asg body => by obtain ⟨ps⟩ := ps; exact yq8 hN hc
 | .scope c => by intro t ds h l φ a w q bs m hs hr hf hd hq; simp [aCode0] at hs
 | .goto c => by intro t ds h l φ a w q bs m hs hr hf hd hq; simp [aCode0] at hs
 | .refuse c => by intro t ds h l φ a w q bs m hs hr hf hd hq; simp [aCode0] at hs
theorem zx6 (hN : NoCount P) (hM : P.follows .mixedOrders = true) {call : Call1} (hc : CallsOk w0 P call) (ro : Option Nat) (LF : Nat) (c : Code) : CodeOk w0 P n ro c (aCode P call n LF ro c) := by
 rw [qq9]; exact qq8 hN hM hc ro LF c
end
end Go.X
namespace Go.X
noncomputable section
open Go Go.RowKit
variable {w0 w w' : World} {φ φ' : Phi} {h h' : AH} {P : Program} {n : Nat} {t : T Value}
def aLeave : List Nat -> AH -> Option AH
 | [], h => some h
 | d :: ds, h => match h.m.get d with
  | some .dfr => aLeave ds { h with m := h.m.set d none }
  | _ => none
def aRes1 (P : Program) (n : Nat) (t : T Value) (h : AH) : ResultVar -> Option Value
 | .tmp k => if k < n then some ((t.get k).getD undef) else none
 | .cell k T => if k < n then (match t.get k with
  | some (.pointer (some a)) => aLoad P T a h
  | _ => none) else none
def aResL (P : Program) (n : Nat) (t : T Value) (h : AH) : List ResultVar -> Option (List Value)
 | [] => some []
 | x :: l => match aRes1 P n t h x, aResL P n t h l with
  | some v, some m => some (v :: m)
  | _, _ => none
def aRes (P : Program) (n : Nat) (t : T Value) (h : AH) (l : List ResultVar) : Option Value := match aResL P n t h l with
 | some [v] => some v
 | some l => some (.tuple ⟨l⟩)
 | none => none
def resF (a : Array Value) : ResultVar -> Sem Value
 | .tmp t => pure (a.getD t undef)
 | .cell b T => do loadVar T (<- asAddr (a.getD b undef))
def rslot : ResultVar -> Nat
 | .tmp k => k
 | .cell k _ => k
def SR (φ : Phi) (n : Nat) (t : T Value) (a : Array Value) (l : List ResultVar) : Prop := ∀ x, x ∈ l -> rslot x < n -> VR φ ((t.get (rslot x)).getD undef) (a.getD (rslot x) undef)
theorem FR.sr {a : Array Value} (f : FR φ n t a) (l : List ResultVar) : SR φ n t a l := fun _x _ hk => f.at _ hk
theorem Qq5 (r : R w0 φ h w) {a : Array Value} {x : ResultVar} (f : rslot x < n -> VR φ ((t.get (rslot x)).getD undef) (a.getD (rslot x) undef)) {v : Value} (hs : aRes1 P n t h x = some v) :
  ∃ v', (resF a x).run P w = .ok v' w /\ VR φ v v' := by
 cases x with
 | tmp k =>
  simp only [aRes1] at hs
  split at hs
  . cases hs; exact ⟨_, rfl, f ‹_›⟩
  . cases hs
 | cell k T =>
  simp only [aRes1] at hs
  split at hs
  . rename_i hk
    split at hs
    . rename_i ad hg
      have hv := f hk
      simp only [rslot] at hv
      rw [hg] at hv
      simp only [Option.getD_some] at hv
      obtain ⟨i, hi, _, e⟩ := hv.ptr_inv
      obtain ⟨v', h1, h2⟩ := qj8 (P := P) r hi hs
      refine ⟨v', ?_, h2⟩
      simp only [resF, e, asAddr, Sem.run_bind, Sem.run_pure, Result.andThen_ok]
      exact h1
    . cases hs
  . cases hs
theorem Qq4 (r : R w0 φ h w) {fn : Func} {a : Array Value} (f : SR φ n t a fn.results.toList) {v : Value} (hs : aRes P n t h fn.results.toList = some v) : ∃ v', (results fn a).run P w = .ok v' w /\ VR φ v v' := by
 have key : ∀ (l : List ResultVar) {m : List Value}, SR φ n t a l -> aResL P n t h l = some m -> ∃ m', (l.mapM (m := Sem) (resF a)).run P w = .ok m' w /\ LR φ m m' := by
   intro l
   induction l with
   | nil => intro m _ hm; simp only [aResL] at hm; cases hm; exact ⟨[], by simp, .nil⟩
   | cons x l ih =>
    intro m hf hm
    simp only [aResL] at hm
    split at hm
    . rename_i v1 m1 h1 h2
      cases hm
      obtain ⟨v', h3, h4⟩ := Qq5 r (hf x List.mem_cons_self) h1
      obtain ⟨m', h5, h6⟩ := ih (fun y hy => hf y (List.mem_cons_of_mem _ hy)) h2
      refine ⟨v' :: m', ?_, .cons h4 h6⟩
      rw [List.mapM_cons]
      simp only [Sem.run_bind, h3, Result.andThen_ok, h5, Sem.run_pure]
    . cases hm
 unfold aRes at hs
 have hm : ∃ m, aResL P n t h fn.results.toList = some m := by
   cases hq : aResL P n t h fn.results.toList with
   | none => rw [hq] at hs; simp at hs
   | some m => exact ⟨m, rfl⟩
 obtain ⟨m, hm⟩ := hm
 obtain ⟨m', h1, h2⟩ := key _ f hm
 have hrun : (fn.results.mapM (m := Sem) (resF a)).run P w = .ok ⟨m'⟩ w := by
   have e : fn.results = ⟨fn.results.toList⟩ := rfl
   rw [e]
   have e2 : (⟨fn.results.toList⟩ : Array ResultVar).mapM (m := Sem) (resF a) =
    List.toArray <$> (fn.results.toList.mapM (m := Sem) (resF a)) := List.mapM_toArray
   rw [e2]
   have e3 : ∀ (z : Sem (List Value)), (List.toArray <$> z : Sem (Array Value)) = z >>= fun l => pure l.toArray := fun z => rfl
   rw [e3, Sem.run_bind, h1, Result.andThen_ok]
   rfl
 rw [hm] at hs
 have hres : (results fn a).run P w = .ok (if hh : (⟨m'⟩ : Array Value).size = 1 then (⟨m'⟩ : Array Value)[0] else .tuple ⟨m'⟩) w := by
   have hdef : results fn a = ((fn.results.mapM (m := Sem) (resF a)) >>= fun vs => pure (if hh : vs.size = 1 then vs[0] else .tuple vs)) := by
    unfold results
    congr 1
   rw [hdef]
   rw [Sem.run_bind, hrun, Result.andThen_ok]
   rfl
 split at hs
 . rename_i v1 e
   cases e
   cases hs
   obtain ⟨u, rfl, hu⟩ := h2.one_inv
   exact ⟨u, by rw [hres]; rfl, hu⟩
 . rename_i l hne e
   cases e
   cases hs
   have hl := h2.length
   have : ¬ (⟨m'⟩ : Array Value).size = 1 := by
    intro h1
    have h1' : m'.length = 1 := h1
    rw [<- hl] at h1'
    match m, h1' with
    | [x], _ => exact hne x rfl
   exact ⟨_, by rw [hres, dif_neg this], .tuple' h2⟩
 . rename_i e; cases e
theorem res_ok (r : R w0 φ h w) {fn : Func} {a : Array Value} (f : FR φ n t a) {v : Value} (hs : aRes P n t h fn.results.toList = some v) : ∃ v', (results fn a).run P w = .ok v' w /\ VR φ v v' := Qq4 r (f.sr _) hs
def putLoop (h : AH) (b : Nat) (o : AObj) : AH := { h with m := h.m.set b (some o) }
def aFun (P : Program) (LF : Nat) (call : Call1) : Call1 := fun an h => match an with
 | .enter f args => (match P.funcs[f]? with
  | some fn => (match fn.body with
   | some c => if args.length ≤ fn.ntmps then bindL (aCode P (call) fn.ntmps LF none c (T.fill args 0 .e) [] h) fun o => (match o.ex with
     | .exit _ => none
     | _ => (match aLeave o.ds o.h with
      | some h' => (match aRes P fn.ntmps o.t h' fn.results.toList with
       | some v => some [(v, h')]
       | none => none)
      | none => none)) else none
   | none => none)
  | none => none)
 | .round b ts sz asg body => bindL (aCode P (call) sz LF (some b) asg ts [] h) fun o => (match o.ex with
   | .normal => (match o.h.m.get b with
    | some (.loop .ready pend ts' sz' ps asg' body') => bindL (aCode P (call) sz LF (some b) body o.t o.ds (putLoop o.h b (.loop .busy pend ts' sz' ps asg' body'))) fun o2 => (match o2.h.m.get b with
     | some (.loop _ _ ts2 sz2 ps2 asg2 body2) => (match o2.ex with
      | .normal => some [(.bool true, putLoop o2.h b (.loop .ready none ts2 sz2 ps2 asg2 body2))]
      | .ret => some [(.bool false, putLoop o2.h b (.loop .done (some .ret) ts2 sz2 ps2 asg2 body2))]
      | .exit id => some [(.bool false, putLoop o2.h b (.loop .done (some (.exit id)) ts2 sz2 ps2 asg2 body2))])
     | _ => none)
    | _ => none)
   | _ => none)
 | _ => none
def aRun (P : Program) (LF : Nat) : Nat -> Call1
 | 0 => fun _ _ => none
 | k + 1 => aFun P LF (aRun P LF k)
def aRunW (ov : Call1 -> Call1) (P : Program) (LF : Nat) : Nat -> Call1
 | 0 => fun _ _ => none
 | k + 1 => ov (aFun P LF (aRunW ov P LF k))
theorem zz1 {fn : Func} {tmps : Array Value} {l : List (Value × AH)} {φ0 : Phi} {h0 : AH} {t : T Value} : ∀ (ds : List Nat) {ds' : List Deferred} {h h' : AH} {φ : Phi} {w : World} {v : Value}, aLeave ds h = some h' -> DR [] φ ds ds' -> R w0 φ h w -> FR φ n t tmps -> Nx φ0 φ h0 h ->
  aRes P n t h' fn.results.toList = some v -> (v, h') ∈ l ->
  LeavesInM Fence.wide 0 P fn tmps (fun e w' => ∃ v', e = .returned v' /\ ∃ v h', (v, h') ∈ l /\ ∃ φ', Nx φ0 φ' h0 h' /\ R w0 φ' h' w' /\ VR φ' v v') ds' .returning w
 | [], ds', h, h', φ, w, v, hs, hd, hr, hf, nx, hv, hm => by
  cases hd
  simp only [aLeave] at hs; cases hs
  obtain ⟨v', h1, h2⟩ := res_ok hr hf hv
  exact ⟨v', h1, v', rfl, v, _, hm, φ, nx, hr, h2⟩
 | d :: ds, ds', h, h', φ, w, v, hs, hd, hr, hf, nx, hv, hm => by
  cases hd with
  | @cons _ i _ l' hb ht =>
   simp only [aLeave] at hs
   split at hs
   . rename_i ho
     have hw : w.heap[i.c]? = some (.deferred (some [])) := hr.dom _ _ _ hb ho
     have hlt : T.Ok (d) := trivial
     refine ⟨by simp, .inl ⟨i.c, w.putObj i.c (.deferred none), rfl, run_takeDeferred hw, ?_⟩⟩
     have hlow : w0.heap.size ≤ i.c := hr.low _ _ _ hb ho rfl
     have hother : ∀ k, k ≠ i.c -> (w.putObj i.c (.deferred none)).heap[k]? = w.heap[k]? := fun k hk => qk8 hk
     have r2 : R w0 φ { h with m := h.m.set d none } (w.putObj i.c (.deferred none)) := by
      have rd := hr.drop d hlt
      have free : ∀ b j o', φ b = some j -> (h.m.set d none).get b = some o' -> j.c ≠ i.c := by
       intro b j o' hj hgo hc
       rw [T.get_set] at hgo
       by_cases e : b = d
       . rw [if_pos e] at hgo; cases hgo
       . rw [if_neg e] at hgo; exact e (hr.inj _ _ _ _ _ _ hb hj ho hgo rfl hc.symm).symm
      have hsz : (w.putObj i.c (.deferred none)).heap.size = w.heap.size := by simp
      exact ⟨fun b j o hj ho => (rd.dom b j o hj ho).world (hother _ (free b j o hj ho)), rd.low, rd.inj, fun b j hj => by rw [hsz]; exact rd.lt b j hj, rd.nx,
       rd.below.trans ⟨rfl, rfl, rfl, by rw [hsz]; exact Nat.le_refl _, fun k hk => hother k (by omega)⟩⟩
     exact zz1 ds hs ht r2 hf (nx.trans (Nx.drop hb hlt)) hv hm
   . cases hs
theorem FR.entry {args args' : List Value} (hl : LR φ args args') {m : Nat} (hsz : args.length ≤ m) : FR φ m (T.fill args 0 .e) (⟨args'⟩ ++ Array.replicate (m - (⟨args'⟩ : Array Value).size) undef) := by
 have hle : args'.length ≤ m := by rw [<- hl.length]; exact hsz
 refine ⟨by simp; omega, trivial, fun k u hk => ?_⟩
 rw [T.get_fill]
 by_cases hlt : k < args.length
 . rw [if_pos (by omega)]
   have hlt' : k < args'.length := by rw [<- hl.length]; exact hlt
   rw [Array.getElem?_append_left (by simpa using hlt')] at hk
   obtain ⟨v', h1, h2⟩ := hl.get (List.getElem?_eq_getElem hlt)
   have : args'[k]? = some u := by simpa using hk
   rw [h1] at this; cases this
   simp only [Nat.sub_zero, List.getElem?_eq_getElem hlt, Option.getD_some]
   exact h2
 . rw [if_neg (by omega)]
   have hge : ¬ k < args'.length := by rw [<- hl.length]; exact hlt
   rw [Array.getElem?_append_right (by simpa using hge), Array.getElem?_replicate] at hk
   split at hk
   . cases hk; exact .undef
   . cases hk
theorem fun_ok (hN : NoCount P) (hM : P.follows .mixedOrders = true) (LF : Nat) {call : Call1} (ih : CallsOk w0 P call) : CallsOk w0 P (aFun P LF call) := by
 intro an h l φ w nx hs hr hnr
 cases hnr with
 | val hv => simp [aFun] at hs
 | skip => simp [aFun] at hs
 | @enter f args args' hl =>
  refine ⟨?_, fun _ _ _ _ _ e => by cases e⟩
  intro f' args2 e
  cases e
  simp only [aFun] at hs
  split at hs
  . rename_i fn hf
    split at hs
    . rename_i c hb
      split at hs
      . rename_i hsz
        obtain ⟨l0, h0, hall⟩ := U1 hs
        refine (callsIn_wide (n := 0)).1 (callsIn_of_wp_marks hf hb trivial ?_ rfl)
        have hfr := FR.entry (m := fn.ntmps) hl hsz
        refine wpIn_mono (zx6 hN hM ih none LF c (q := none) 0 h0 hr hfr .nil rfl) ?_
        rintro e a' w' ⟨o, ho, hex, φ1, nx1, r1, f1, d1⟩
        obtain ⟨k2, hk, hsub⟩ := hall _ ho
        obtain ⟨ex, t1, ds1, h1⟩ := o
        have fin : (match aLeave ds1 h1 with
         | some h' => (match aRes P fn.ntmps t1 h' fn.results.toList with
           | some v => some [(v, h')]
           | none => none)
         | none => none) = some k2 -> LeavesInM Fence.wide 0 P fn a'.tmps (fun e w' => ∃ v', e = .returned v' /\ ∃ v h', (v, h') ∈ l /\ ∃ φ', Nx φ φ' h h' /\ R w0 φ' h' w' /\ VR φ' v v') a'.defers .returning w' := by
         intro hk
         split at hk
         . rename_i h2 hlv
           split at hk
           . rename_i v hv
             cases hk
             exact zz1 ds1 hlv d1 r1 f1 nx1 hv (hsub _ (List.mem_singleton.2 rfl))
           . cases hk
         . cases hk
        cases hex with
        | normal => exact fin hk
        | exit id => cases hk
        | ret => exact fin hk
      . cases hs
    . cases hs
  . cases hs
 | @round b i ts sz asg body fn arr hb hfr =>
  refine ⟨fun _ _ e => (by cases e), ?_⟩
  intro b' f' tmps' asg' body' e m
  cases e
  simp only [aFun] at hs
  obtain ⟨l0, h0, hall⟩ := U1 hs
  refine roundIn_of_wpIn trivial ?_
  refine wpIn_mono (zx6 hN hM ih (some b) LF asg (q := some i.c) m h0 hr hfr .nil ⟨i, hb, rfl⟩) ?_
  rintro e a1 w1 ⟨o, ho, hex, φ1, nx1, r1, f1, d1⟩
  obtain ⟨k2, hk, hsub⟩ := hall _ ho
  obtain ⟨ex, t1, ds1, h1⟩ := o
  cases hex with
  | exit id => cases hk
  | ret => cases hk
  | normal =>
    dsimp only at hk
    split at hk
    . rename_i pend ts' sz' ps asg2 body2 hget
      have hb1 := nx1.le _ _ hb
      obtain ⟨fn0, arr0, df0, hw0, hfr0⟩ := r1.dom _ _ _ hb1 hget
      refine ⟨_, run_beginRound hw0 rfl, ?_⟩
      have r2 : R w0 φ1 (putLoop h1 b (.loop .busy pend ts' sz' ps asg2 body2)) (w1.putObj i.c (.loop ⟨.busy, pend, fn0, arr0, ⟨ps⟩, asg2, body2, df0⟩)) := r1.put hb1 hget rfl (fun w' hw => ⟨fn0, arr0, df0, hw, hfr0⟩)
      have nx2 : Nx φ1 φ1 h1 (putLoop h1 b (.loop .busy pend ts' sz' ps asg2 body2)) := Nx.put hb1 trivial
      obtain ⟨l3, h3, hall3⟩ := U1 hk
      refine wpIn_mono (zx6 hN hM ih (some b) LF body (q := some i.c) m h3 r2 f1 d1 ⟨i, hb1, rfl⟩) ?_
      rintro e a2 w2 ⟨o2, ho2, hex2, φ3, nx3, r3, f3, d3⟩
      obtain ⟨k4, hk4, hsub4⟩ := hall3 _ ho2
      obtain ⟨ex2, t2, ds2, h2⟩ := o2
      dsimp only at hk4
      split at hk4
      . rename_i st2 pd2 ts2 sz2 ps2 asg3 body3 hget2
        have hb3 := nx3.le _ _ hb1
        obtain ⟨fn1, arr1, df1, hw1, hfr1⟩ := r3.dom _ _ _ hb3 hget2
        have nxx : ∀ (o : AObj), Nx φ φ3 h (putLoop h2 b o) := fun o => ((nx1.trans nx2).trans nx3).trans (Nx.put hb3 trivial)
        have rr : ∀ (st : LoopState) (pd : Option Code), R w0 φ3 (putLoop h2 b (.loop st pd ts2 sz2 ps2 asg3 body3)) (w2.putObj i.c (.loop ⟨st, pd, fn1, arr1, ⟨ps2⟩, asg3, body3, df1⟩)) := fun st pd => r3.put hb3 hget2 rfl (fun w' hw => ⟨fn1, arr1, df1, hw, hfr1⟩)
        cases hex2 with
        | normal =>
         cases hk4
         exact ⟨_, _, run_endRound none hw1, _, rfl, _, _, hsub _ (hsub4 _ (List.mem_singleton.2 rfl)), φ3, nxx _, rr .ready none, .bool _⟩
        | exit id =>
         cases hk4
         exact ⟨_, _, run_endRound (some (.exit id)) hw1, _, rfl, _, _, hsub _ (hsub4 _ (List.mem_singleton.2 rfl)), φ3, nxx _, rr .done (some (.exit id)), .bool _⟩
        | ret =>
         cases hk4
         exact ⟨_, _, run_endRound (some .ret) hw1, _, rfl, _, _, hsub _ (hsub4 _ (List.mem_singleton.2 rfl)), φ3, nxx _, rr .done (some .ret), .bool _⟩
      . cases hk4
    . cases hk
theorem qx1 (hN : NoCount P) (hM : P.follows .mixedOrders = true) (LF : Nat) {ov : Call1 -> Call1} (hov : ∀ call, CallsOk w0 P call -> CallsOk w0 P (ov call)) : ∀ k, CallsOk w0 P (aRunW ov P LF k)
 | 0 => by intro an h l φ w nx hs; simp [aRunW] at hs
 | k + 1 => hov _ (fun_ok hN hM LF (qx1 hN hM LF hov k))
end
end Go.X
namespace Go.X
noncomputable section
open Go Go.RowKit
variable {w0 : World} {P : Program}
def none0 : Phi := fun _ => none
def ah0 : AH := ⟨.e, 0⟩
theorem R.first (W : World) : R W none0 ah0 W :=
 ⟨fun _ _ _ h => (by cases h), fun _ _ _ h => (by cases h), fun _ _ _ _ _ _ h => (by cases h), fun _ _ h => (by cases h), trivial, Below.refl _ _⟩
def noCountB (P : Program) : Bool := P.funcs.toList.all fun fn => !(fn.name == "runtime.NumGoroutine")
theorem xy8 (hb : noCountB P = true) : NoCount P := by
 intro f fn hf _
 have hm : fn ∈ P.funcs.toList := by
  rw [Array.mem_toList_iff]
  exact Array.mem_of_getElem? hf
 have := List.all_eq_true.1 hb fn hm
 simpa using this
end
end Go.X

namespace Go.X
noncomputable section
open Go Go.RowKit
variable {w0 w w' : World} {φ φ' : Phi} {h h' : AH} {P : Program} {n : Nat} {t : T Value}
def YesPost (W : World) : Ending -> World -> Prop := fun e w' => e = .returned (.bool true) /\ Below W.heap.size W w'
end
end Go.X
