/- The two kinds of flows side by side. -/
import Derived.Test.YtdaedcoolcicoaaGreatZn
import Derived.Test.YtdaedcoolcicoaaGreatZo
import Derived.Test.YtdaedcoolcicoaaGreatZl
namespace Go.Proofs.YtdaedcoolcicoaaGreat
noncomputable section
open Go Go.X Go.Arm
theorem up2_if {α : Type} (f : Nat → Nat → α) (i j a b : Nat) (x : α) : Rm.up2 f i j x a b = if a = i ∧ b = j then x else f a b := rfl
theorem key_eq {p q i j : Nat} : (((p : Int), (q : Int)) = ((i : Int), (j : Int))) ↔ (i = p ∧ j = q) := by
  constructor
  · intro e
    have e := Prod.mk.inj e
    omega
  · rintro ⟨rfl, rfl⟩; rfl
/-- What a snapshot says in both. -/
structure Ss (n : Nat) (s : Sh) (r : Rm) : Prop where
  bg : r.bg = true
  sn : Rm.Sn n r
  rc : ∀ i, i < n → r.rcAt i = Fl.isRec s (i : Nat)
  sh : ∀ i, i < n → Fl.isRec s (i : Nat) = true → (r.sh[i]?).getD 0 = (kget s.st ((i : Nat) : Int)).getD 0
  o : ∀ i j, i < n → j < n → r.o i j = Fl.isOpen s ((i : Nat), (j : Nat))
  c : ∀ i j, i < n → j < n → r.c i j = Fl.ctOf s ((i : Nat), (j : Nat))
structure Sim (n : Nat) (m : Fl) (r : Rm) : Prop where
  ok : Rm.Ok n r
  st : r.st = m.st
  len : m.st.length = n
  w : ∀ i j, i < n → j < n → r.w i j = m.q ((i : Nat), (j : Nat))
  ph : (m.sh = none ∧ r.bg = false ∧ ∃ tot, Fl.Pre n tot m) ∨ ∃ s, m.sh = some s ∧ (∃ tot, Fl.Snap n tot m s) ∧ Ss n s r
  sz : Rm.Sn n r ∨ (r.so = 0 ∧ r.rc = [] ∧ r.sh = [])
  rg : ∀ a b : Int, m.q (a, b) ≠ [] → ∃ i j : Nat, i < n ∧ j < n ∧ a = i ∧ b = j
section
variable {n p q : Nat} {m : Fl} {r : Rm} {s : Sh} {v : Int}
theorem Sim.at (h : Sim n m r) (p : Nat) : r.at_ p = m.at_ p := by unfold Rm.at_ Fl.at_; rw [h.st]
theorem Ss.congr {r' : Rm} (h : Ss n s r) (h1 : r'.bg = r.bg) (h2 : r'.rc = r.rc) (h3 : r'.sh = r.sh) (h4 : r'.so = r.so) (h5 : r'.co = r.co) (h6 : r'.o = r.o) (h7 : r'.sc = r.sc) (h8 : r'.cc = r.cc) (h9 : r'.c = r.c) : Ss n s r' :=
  ⟨by rw [h1]; exact h.bg, ⟨by rw [h2]; exact h.sn.rc, by rw [h3]; exact h.sn.sh, by rw [h4]; exact h.sn.so, by rw [h5]; exact h.sn.co, by rw [h7]; exact h.sn.sc, by rw [h8]; exact h.sn.cc⟩,
    fun i hi => by unfold Rm.rcAt; rw [h2]; exact h.rc i hi, fun i hi => by rw [h3]; exact h.sh i hi, by rw [h6]; exact h.o, by rw [h9]; exact h.c⟩
theorem Sim.new {l : List Int} : Sim l.length (Fl.new_ l) (newR l l.length) where
  ok := ⟨rfl, rfl, fun i hi => if_pos hi⟩
  st := rfl
  len := rfl
  w := fun i j _ _ => rfl
  ph := .inl ⟨rfl, rfl, _, Fl.Pre.new rfl⟩
  sz := .inr ⟨rfl, rfl, rfl⟩
  rg := fun a b h => (h rfl).elim
theorem Sim.pass (h : Sim n m r) (hp : p < n) (hq : q < n) (hne : p ≠ q) : Sim n (m.pass p q v) (r.pass p q v) where
  ok := h.ok.pass
  st := by show r.st.set p (Fl.wr (r.at_ p - v)) = m.st.set p (Fl.wr (m.at_ p - v)); rw [h.at, h.st]
  len := by rw [Fl.st_pass, List.length_set]; exact h.len
  w := fun i j hi hj => by
    rw [Fl.q_pass]
    show (if i = p ∧ j = q then r.w p q ++ [.num v] else r.w i j) = _
    rw [h.w p q hp hq, h.w i j hi hj]
    exact if_eq key_eq.symm _ _
  ph := by
    rcases h.ph with ⟨h1, h2, tot, h3⟩ | ⟨s, h1, ⟨tot, h2⟩, h3⟩
    · exact .inl ⟨h1, h2, tot, h3.pass hp hq hne⟩
    · exact .inr ⟨s, h1, ⟨tot, h2.pass hp hq hne⟩, h3.congr rfl rfl rfl rfl rfl rfl rfl rfl rfl⟩
  sz := h.sz.imp (fun x => ⟨x.rc, x.sh, x.so, x.co, x.sc, x.cc⟩) (fun x => x)
  rg := fun a b hab => by
    rw [Fl.q_pass] at hab
    split at hab
    · rename_i e
      have e := Prod.mk.inj e
      exact ⟨p, q, hp, hq, e.1.symm, e.2.symm⟩
    · exact h.rg a b hab
theorem w_recd (hl : m.st.length = n) (hs : r.st = m.st) (hw : ∀ i j, i < n → j < n → r.w i j = m.q ((i : Nat), (j : Nat))) (s : Sh) (p i j : Nat) (hi : i < n) (hj : j < n) : (r.recd p).w i j = (m.recd s p).q ((i : Nat), (j : Nat)) := by
  rw [Fl.q_recd]
  show ((r.rec1 p).tell p r.st.length).w i j = _
  rw [Rm.w_tell]
  show (if _ then r.w i j ++ _ else r.w i j) = _
  rw [hw i j hi hj, hs]
  exact if_eq (by omega) _ _
theorem set_at {α : Type} {l : List α} {p i : Nat} {x d : α} (hp : p < l.length) : ((l.set p x)[i]?).getD d = if i = p then x else (l[i]?).getD d := by
  rw [List.getElem?_set]
  by_cases e : p = i
  · rw [if_pos e, if_pos hp, if_pos e.symm]; rfl
  · rw [if_neg e, if_neg (fun x => e x.symm)]
/-- A process's record in both. -/
theorem Ss.recd (h : Ss n s r) (hp : p < n) (ha : r.at_ p = m.at_ p) : Ss n { s with st := kset s.st (p : Nat) (m.at_ p) } (r.recd p) := by
  have hf : ∀ k, ((r.rec1 p).tell p k).bg = r.bg ∧ ((r.rec1 p).tell p k).rc = (r.rec1 p).rc ∧ ((r.rec1 p).tell p k).sh = (r.rec1 p).sh ∧ ((r.rec1 p).tell p k).o = r.o ∧ ((r.rec1 p).tell p k).c = r.c := by
    intro k
    induction k with
    | zero => exact ⟨rfl, rfl, rfl, rfl, rfl⟩
    | succ k ih =>
      unfold Rm.tell
      split
      · exact ih
      · exact ih
  obtain ⟨f1, f2, f3, f4, f5⟩ := hf r.st.length
  have hk : ∀ i : Nat, Fl.isRec { s with st := kset s.st (p : Nat) (m.at_ p) } (i : Nat) = if i = p then true else Fl.isRec s (i : Nat) := fun i => by
    unfold Fl.isRec
    show (kget (kset s.st ((p : Nat) : Int) (m.at_ p)) ((i : Nat) : Int)).isSome = _
    rw [kget_kset]
    by_cases e : i = p
    · subst e; rw [if_pos rfl, if_pos rfl]; rfl
    · rw [if_neg (by omega), if_neg e]
  refine ⟨f1.trans h.bg, h.sn.recd, fun i hi => ?_, fun i hi hr => ?_, fun i j hi hj => ?_, fun i j hi hj => ?_⟩
  · rw [hk]
    unfold Rm.rcAt
    show ((((r.rec1 p).tell p r.st.length).rc)[i]?).getD false = _
    rw [f2]
    show ((r.rc.set p true)[i]?).getD false = _
    rw [set_at (by rw [h.sn.rc]; exact hp)]
    split
    · rfl
    · exact h.rc i hi
  · show ((((r.rec1 p).tell p r.st.length).sh)[i]?).getD 0 = (kget (kset s.st ((p : Nat) : Int) (m.at_ p)) ((i : Nat) : Int)).getD 0
    rw [f3, kget_kset]
    show ((r.sh.set p (r.at_ p))[i]?).getD 0 = _
    rw [set_at (by rw [h.sn.sh]; exact hp)]
    by_cases e : i = p
    · subst e; rw [if_pos rfl, if_pos rfl, ha]; rfl
    · rw [if_neg e, if_neg (by omega)]
      rw [hk, if_neg e] at hr
      exact h.sh i hi hr
  · show ((r.rec1 p).tell p r.st.length).o i j = _
    rw [f4]; exact h.o i j hi hj
  · show ((r.rec1 p).tell p r.st.length).c i j = _
    rw [f5]; exact h.c i j hi hj
theorem st_recdR : (r.recd p).st = r.st := Rm.st_tell _ _ _
theorem rg_recd (h : ∀ a b : Int, m.q (a, b) ≠ [] → ∃ i j : Nat, i < n ∧ j < n ∧ a = i ∧ b = j) (hl : m.st.length = n) (hp : p < n) (s : Sh) : ∀ a b : Int, (m.recd s p).q (a, b) ≠ [] → ∃ i j : Nat, i < n ∧ j < n ∧ a = i ∧ b = j := fun a b hab => by
  rw [Fl.q_recd] at hab
  split at hab
  · rename_i e
    exact ⟨p, b.toNat, hp, by omega, by omega, by omega⟩
  · exact h a b hab
theorem rg_drop (h : ∀ a b : Int, m.q (a, b) ≠ [] → ∃ i j : Nat, i < n ∧ j < n ∧ a = i ∧ b = j) (hp : p < n) (hq : q < n) (l : List Th) : ∀ a b : Int, (m.drop1 ((p : Nat), (q : Nat)) l).q (a, b) ≠ [] → ∃ i j : Nat, i < n ∧ j < n ∧ a = i ∧ b = j := fun a b hab => by
  rw [Fl.q_drop1] at hab
  split at hab
  · rename_i e
    have e := Prod.mk.inj e
    exact ⟨p, q, hp, hq, e.1.symm, e.2.symm⟩
  · exact h a b hab
theorem w_drop (hw : ∀ i j, i < n → j < n → r.w i j = m.q ((i : Nat), (j : Nat))) (l : List Th) (i j : Nat) (hi : i < n) (hj : j < n) : (r.drop1 p q l).w i j = (m.drop1 ((p : Nat), (q : Nat)) l).q ((i : Nat), (j : Nat)) := by
  rw [Fl.q_drop1]
  show (if i = p ∧ j = q then l else r.w i j) = _
  rw [hw i j hi hj]
  exact if_eq key_eq.symm _ _
theorem Ss.shut (h : Ss n s r) (h1 : kone s.op) (p q : Nat) : Ss n { s with op := kdel s.op ((p : Nat), (q : Nat)) } { r with o := Rm.up2 r.o p q false } := by
  refine ⟨h.bg, ⟨h.sn.rc, h.sn.sh, h.sn.so, h.sn.co, h.sn.sc, h.sn.cc⟩, h.rc, h.sh, fun i j hi hj => ?_, h.c⟩
  show (if i = p ∧ j = q then false else r.o i j) = (kget (kdel s.op (((p : Nat) : Int), ((q : Nat) : Int))) (((i : Nat) : Int), ((j : Nat) : Int))).getD false
  rw [kget_kdel _ _ h1, h.o i j hi hj]
  by_cases e : i = p ∧ j = q
  · rw [if_pos e, if_pos (key_eq.2 e)]; rfl
  · rw [if_neg e, if_neg (fun x => e (key_eq.1 x))]; rfl
theorem Sim.dlv (h : Sim n m r) (hp : p < n) (hq : q < n) (hne : p ≠ q) : Sim n (m.dlv p q) (r.dlv p q) := by
  have hw := h.w p q hp hq
  match hm : m.q ((p : Nat), (q : Nat)) with
  | [] =>
    rw [Fl.dlv_nil hm]
    rw [hm] at hw
    unfold Rm.dlv
    rw [hw]; exact h
  | .num v :: l =>
    rw [Fl.dlv_num hm]
    rw [hm] at hw
    have e : r.dlv p q = (r.drop1 p q l).arrN p q v := by unfold Rm.dlv; rw [hw]
    rw [e]
    have est : ∀ (r' : Rm), r' = (r.drop1 p q l).arrN p q v → r'.st = r.st.set q (Fl.wr (r.at_ q + v)) ∧ r'.w = (r.drop1 p q l).w ∧ r'.sw = r.sw ∧ r'.cw = r.cw ∧ r'.bg = r.bg ∧ r'.rc = r.rc ∧ r'.sh = r.sh ∧ r'.so = r.so ∧ r'.co = r.co ∧ r'.o = r.o ∧ r'.sc = r.sc ∧ r'.cc = r.cc ∧
        r'.c = if r.bg && r.rcAt q && r.o p q then Rm.up2 r.c p q (r.c p q ++ [v]) else r.c := fun r' e => by
      subst e
      unfold Rm.arrN
      dsimp only
      by_cases hc : ((r.drop1 p q l).bg && (r.drop1 p q l).rcAt q && (r.drop1 p q l).o p q) = true
      · rw [if_pos hc]
        have hc' : (r.bg && r.rcAt q && r.o p q) = true := hc
        rw [hc']
        exact ⟨rfl, rfl, rfl, rfl, rfl, rfl, rfl, rfl, rfl, rfl, rfl, rfl, rfl⟩
      · rw [if_neg hc]
        have hc' : ¬ (r.bg && r.rcAt q && r.o p q) = true := hc
        rw [if_neg hc']
        exact ⟨rfl, rfl, rfl, rfl, rfl, rfl, rfl, rfl, rfl, rfl, rfl, rfl, rfl⟩
    obtain ⟨r', er⟩ : ∃ r', r' = (r.drop1 p q l).arrN p q v := ⟨_, rfl⟩
    obtain ⟨e1, e2, e3, e4, e5, e6, e7, e8, e9, e10, e11, e12, e13⟩ := est r' er
    rw [← er]
    have hst : r'.st = ((m.drop1 ((p : Nat), (q : Nat)) l).arrN p q v).st := by
      rw [e1, Fl.st_arrN, h.at, h.st]; rfl
    have hlen : ((m.drop1 ((p : Nat), (q : Nat)) l).arrN p q v).st.length = n := by rw [Fl.st_arrN, List.length_set]; exact h.len
    have hsn : ∀ (x : Rm.Sn n r), Rm.Sn n r' := fun x => ⟨by rw [e6]; exact x.rc, by rw [e7]; exact x.sh, by rw [e8]; exact x.so, by rw [e9]; exact x.co, by rw [e11]; exact x.sc, by rw [e12]; exact x.cc⟩
    refine ⟨⟨by rw [e1, List.length_set]; exact h.ok.st, by rw [e3]; exact h.ok.sw, by rw [e4]; exact h.ok.cw⟩, hst, hlen, fun i j hi hj => ?_, ?_, h.sz.imp hsn (fun x => ⟨e8.trans x.1, e6.trans x.2.1, e7.trans x.2.2⟩), fun a b hab => ?_⟩
    · rw [e2, Fl.q_arrN]; exact w_drop h.w l i j hi hj
    · rcases h.ph with ⟨h1, h2, tot, h3⟩ | ⟨s, h1, ⟨tot, h2⟩, h3⟩
      · refine .inl ⟨?_, e5.trans h2, tot, ?_⟩
        · rw [Fl.sh_arrN]; show Option.map _ m.sh = none; rw [h1]; rfl
        · have := (h3.dlv hp hq hne).1
          rwa [Fl.dlv_num hm] at this
      · obtain ⟨s', k1, _, _⟩ := h2.dlv hp hq hne
        rw [Fl.dlv_num hm] at k1
        have k2 := k1.sh
        rw [Fl.sh_arrN] at k2
        have k3 : s' = if Fl.isRec s q && Fl.isOpen s (p, q) then { s with ct := kset s.ct (p, q) (Fl.ctOf s (p, q) ++ [v]) } else s := by
          have : (m.drop1 ((p : Nat), (q : Nat)) l).sh = some s := h1
          rw [this] at k2
          exact (Option.some.inj k2).symm
        refine .inr ⟨s', k1.sh, ⟨tot, k1⟩, ?_⟩
        rw [h3.bg, Bool.true_and, h3.rc q hq, h3.o p q hp hq] at e13
        by_cases hc : (Fl.isRec s q && Fl.isOpen s (p, q)) = true
        · rw [if_pos hc] at k3 e13
          subst k3
          refine ⟨e5.trans h3.bg, hsn h3.sn, fun i hi => by unfold Rm.rcAt; rw [e6]; exact h3.rc i hi, fun i hi hr => by rw [e7]; exact h3.sh i hi hr, fun i j hi hj => by rw [e10]; exact h3.o i j hi hj, fun i j hi hj => ?_⟩
          rw [e13, Fl.ctOf_set]
          show (if i = p ∧ j = q then r.c p q ++ [v] else r.c i j) = _
          rw [h3.c p q hp hq, h3.c i j hi hj]
          exact if_eq key_eq.symm _ _
        · rw [if_neg hc] at k3 e13
          subst k3
          exact h3.congr e5 e6 e7 e8 e9 e10 e11 e12 e13
    · rw [Fl.q_arrN] at hab; exact rg_drop h.rg hp hq l a b hab
  | .mark :: l =>
    rw [hm] at hw
    rcases h.ph with ⟨h1, h2, tot, h3⟩ | ⟨s, h1, ⟨tot, h2⟩, h3⟩
    · exact (Fl.mkn_mem (h3.nm _) (by rw [hm]; exact List.mem_cons_self)).elim
    · rw [Fl.dlv_mark hm h1]
      have e : r.dlv p q = (r.drop1 p q l).arrM p q := by unfold Rm.dlv; rw [hw]
      rw [e]
      obtain ⟨s', k1, _, _⟩ := h2.dlv hp hq hne
      rw [Fl.dlv_mark hm h1] at k1
      have k2 := k1.sh
      have hd : Ss n s (r.drop1 p q l) := h3.congr rfl rfl rfl rfl rfl rfl rfl rfl rfl
      have hrc : (r.drop1 p q l).rcAt q = Fl.isRec s q := h3.rc q hq
      unfold Fl.arrM at k1 k2 ⊢
      unfold Rm.arrM
      rw [hrc]
      by_cases hr : Fl.isRec s q = true
      · rw [if_pos hr] at k1 k2 ⊢
        rw [if_pos hr]
        have k3 : s' = { s with op := kdel s.op ((p : Nat), (q : Nat)) } := by
          rw [Fl.sh_shut] at k2
          have : (m.drop1 ((p : Nat), (q : Nat)) l).sh = some s := h1
          rw [this] at k2
          exact (Option.some.inj k2).symm
        refine ⟨⟨h.ok.st, h.ok.sw, h.ok.cw⟩, h.st, h.len, fun i j hi hj => ?_, .inr ⟨s', k1.sh, ⟨tot, k1⟩, ?_⟩, .inl ⟨hd.sn.rc, hd.sn.sh, hd.sn.so, hd.sn.co, hd.sn.sc, hd.sn.cc⟩, fun a b hab => ?_⟩
        · rw [Fl.q_shut]; exact w_drop h.w l i j hi hj
        · subst k3; exact hd.shut h2.one p q
        · rw [Fl.q_shut] at hab; exact rg_drop h.rg hp hq l a b hab
      · rw [if_neg hr] at k1 k2 ⊢
        rw [if_neg hr]
        have hl : (m.drop1 ((p : Nat), (q : Nat)) l).st.length = n := h.len
        have hst : (r.drop1 p q l).st = (m.drop1 ((p : Nat), (q : Nat)) l).st := h.st
        have ha : (r.drop1 p q l).at_ q = (m.drop1 ((p : Nat), (q : Nat)) l).at_ q := h.at q
        have k3 : s' = { s with st := kset s.st (q : Nat) ((m.drop1 ((p : Nat), (q : Nat)) l).at_ q), op := kdel s.op ((p : Nat), (q : Nat)) } := by
          rw [Fl.sh_shut, Fl.sh_recd] at k2
          exact (Option.some.inj k2).symm
        have hR := hd.recd (m := m.drop1 ((p : Nat), (q : Nat)) l) hq ha
        have O : Rm.Ok n ((r.drop1 p q l).recd q) := Rm.Ok.recd (m := r.drop1 p q l) ⟨h.ok.st, h.ok.sw, h.ok.cw⟩
        refine ⟨⟨O.st, O.sw, O.cw⟩, ?_, ?_, fun i j hi hj => ?_, .inr ⟨s', k1.sh, ⟨tot, k1⟩, ?_⟩, .inl ⟨hR.sn.rc, hR.sn.sh, hR.sn.so, hR.sn.co, hR.sn.sc, hR.sn.cc⟩, fun a b hab => ?_⟩
        · show ((r.drop1 p q l).recd q).st = _
          rw [st_recdR, Fl.st_shut, Fl.st_recd]; exact hst
        · rw [Fl.st_shut, Fl.st_recd]; exact hl
        · rw [Fl.q_shut]
          exact w_recd hl hst (w_drop h.w l) s q i j hi hj
        · subst k3
          exact Ss.shut (s := { s with st := kset s.st (q : Nat) ((m.drop1 ((p : Nat), (q : Nat)) l).at_ q) }) hR h2.one p q
        · rw [Fl.q_shut] at hab; exact rg_recd (rg_drop h.rg hp hq l) hl hq s a b hab
end
end
end Go.Proofs.YtdaedcoolcicoaaGreat
namespace Go.Proofs.YtdaedcoolcicoaaGreat
noncomputable section
open Go Go.X Go.Arm
section
variable {n p q : Nat} {m : Fl} {r : Rm} {s : Sh} {v : Int}
theorem kget_mem {κ β : Type} [DecidableEq κ] {k : κ} {y : β} : ∀ {m : List (κ × β)}, kget m k = some y → (k, y) ∈ m
  | [], h => by unfold kget at h; cases h
  | e :: l, h => by
    unfold kget at h
    split at h
    · rename_i he
      cases h
      rw [← he]; exact List.mem_cons_self
    · exact List.mem_cons_of_mem _ (kget_mem h)
theorem isOpen_opens {i j : Nat} (hi : i < n) (hj : j < n) : (kget (Fl.opens n) (((i : Nat) : Int), ((j : Nat) : Int))).getD false = decide (i ≠ j) := by
  rw [Fl.opens_all]
  obtain ⟨h1, h2⟩ := Fl.oAll_ok n n (Nat.le_refl _)
  by_cases e : i = j
  · subst e
    rw [decide_eq_false (by omega)]
    cases hk : kget (Fl.oAll n n) (((i : Nat) : Int), ((i : Nat) : Int)) with
    | none => rfl
    | some y =>
      obtain ⟨_, a, b, _, _, hab, he⟩ := h1.2 _ (kget_mem hk)
      have he := Prod.mk.inj he
      omega
  · rw [h2 i j hi hj e, decide_eq_true e]; rfl
theorem Sim.begin_ (h : Sim n m r) (hs : m.sh = none) (hp : p < n) : Sim n (m.begin_ p) ((openG r n n n n).recd p) := by
  rcases h.ph with ⟨_, h2, tot, h3⟩ | ⟨s, h1, _⟩
  · obtain ⟨s', k1, _⟩ := h3.begin_ hp
    have k2 := k1.sh
    rw [Fl.sh_begin] at k2
    have k3 := (Option.some.inj k2).symm
    rw [h.len] at k3
    have S0 : Ss n ⟨[], [], Fl.opens n⟩ (openG r n n n n) := by
      refine ⟨rfl, openG_sn r n, fun i hi => ?_, fun i hi hr => ?_, fun i j hi hj => ?_, fun i j hi hj => rfl⟩
      · unfold Rm.rcAt
        show ((List.replicate n false)[i]?).getD false = false
        rw [List.getElem?_replicate]
        split <;> rfl
      · cases hr
      · show decide _ = (kget (Fl.opens n) _).getD false
        rw [isOpen_opens hi hj, decide_eq_decide]; omega
    have S1 := S0.recd (m := m) hp (h.at p)
    have O : Rm.Ok n ((openG r n n n n).recd p) := (openG_ok h.ok n n n).recd
    refine ⟨O, ?_, ?_, fun i j hi hj => ?_, .inr ⟨s', k1.sh, ⟨tot, k1⟩, ?_⟩, .inl S1.sn, fun a b hab => ?_⟩
    · rw [st_recdR, Fl.st_begin]; exact h.st
    · rw [Fl.st_begin]; exact h.len
    · exact w_recd (m := { m with sh := some ⟨[], [], Fl.opens m.st.length⟩ }) (r := openG r n n n n) h.len h.st h.w ⟨[], [], Fl.opens m.st.length⟩ p i j hi hj
    · rw [k3]; exact S1
    · exact rg_recd (m := { m with sh := some ⟨[], [], Fl.opens m.st.length⟩ }) h.rg h.len hp ⟨[], [], Fl.opens m.st.length⟩ a b hab
  · rw [hs] at h1; cases h1
theorem Sim.noOpen {tot : Int} (h2 : Fl.Snap n tot m s) (ho : s.op = []) (w : Int × Int) : Fl.isOpen s w = false := by
  unfold Fl.isOpen; rw [ho]; rfl
theorem Snap.allRec {tot : Int} (h2 : Fl.Snap n tot m s) (ho : s.op = []) {k : Nat} (hk : k < n) : Fl.isRec s (k : Nat) = true := by
  obtain ⟨i0, hi0, hr0⟩ := h2.d
  by_cases e : i0 = k
  · rw [← e]; exact hr0
  · cases hr : Fl.isRec s (k : Nat) with
    | true => rfl
    | false =>
      have := h2.g i0 k hi0 hk e hr
      rw [Sim.noOpen h2 ho] at this; cases this
/-- Whether a snapshot is complete. -/
theorem Sim.full {tot : Int} (h2 : Fl.Snap n tot m s) (h3 : Ss n s r) : (∀ x y, x < n → y < n → r.rcAt x = true ∧ r.o x y = false) ↔ s.op = [] := by
  constructor
  · intro hg
    cases ho : s.op with
    | nil => rfl
    | cons e l =>
      exfalso
      obtain ⟨h4, i, k, hi, hk, hne, he⟩ := h2.fo e (by rw [ho]; exact List.mem_cons_self)
      have := (hg i k hi hk).2
      rw [h3.o i k hi hk] at this
      unfold Fl.isOpen at this
      rw [ho, kget, if_pos he, Option.getD_some, h4] at this
      cases this
  · intro ho x y hx hy
    exact ⟨by rw [h3.rc x hx]; exact Snap.allRec h2 ho hx, by rw [h3.o x y hx hy]; exact Sim.noOpen h2 ho _⟩
theorem Sim.taken (h : Sim n m r) (hs : m.sh = some s) (ho : s.op = []) : Sim n { m with sh := none } { r with bg := false } := by
  rcases h.ph with ⟨h1, _⟩ | ⟨s1, h1, ⟨tot, h2⟩, h3⟩
  · rw [hs] at h1; cases h1
  · have e : s1 = s := by rw [hs] at h1; exact (Option.some.inj h1).symm
    subst e
    refine ⟨⟨h.ok.st, h.ok.sw, h.ok.cw⟩, h.st, h.len, h.w, .inl ⟨rfl, rfl, tot, rfl, h2.len, h2.dia, h2.a, fun w => ?_⟩, .inl ⟨h3.sn.rc, h3.sn.sh, h3.sn.so, h3.sn.co, h3.sn.sc, h3.sn.cc⟩, h.rg⟩
    by_cases hq : m.q w = []
    · show Fl.mkn (m.q w) = 0
      rw [hq]; rfl
    · obtain ⟨i, j, hi, hj, e1, e2⟩ := h.rg w.1 w.2 hq
      have ew : w = ((i : Int), (j : Int)) := by rw [← e1, ← e2]
      subst ew
      by_cases e : i = j
      · subst e; exact (hq (h2.dia i)).elim
      · have := h2.c1 i j hi hj e (Snap.allRec h2 ho hi)
        rw [Sim.noOpen h2 ho] at this
        exact this
theorem Sim.copy (h : Sim n m r) : Sim n m (cpG r n n 0 r.so r.so 0) := by
  have hw : ∀ i j, i < n → j < n → (cpG r n n 0 r.so r.so 0).w i j = r.w i j := fun i j hi hj => if_pos (by omega)
  have sn : Rm.Sn n r → Rm.Sn n (cpG r n n 0 r.so r.so 0) := fun x => ⟨x.rc, x.sh, x.so, fun i hi => if_pos (by rw [x.so]; exact hi), x.so, fun i hi => if_pos (by rw [x.so]; exact hi)⟩
  refine ⟨⟨h.ok.st, rfl, fun i hi => if_pos hi⟩, h.st, h.len, fun i j hi hj => (hw i j hi hj).trans (h.w i j hi hj), ?_, h.sz.imp sn (fun x => x), h.rg⟩
  rcases h.ph with ⟨h1, h2, tot, h3⟩ | ⟨s, h1, ⟨tot, h2⟩, h3⟩
  · exact .inl ⟨h1, h2, tot, h3⟩
  · refine .inr ⟨s, h1, ⟨tot, h2⟩, h3.bg, sn h3.sn, h3.rc, h3.sh, fun i j hi hj => ?_, fun i j hi hj => ?_⟩
    · rw [← h3.o i j hi hj]; exact if_pos (by rw [h3.sn.so]; exact hi)
    · rw [← h3.c i j hi hj]; exact if_pos (by rw [h3.sn.so]; omega)
/-- How long lists are. -/
structure Bd (n c : Nat) (m : Fl) (r : Rm) : Prop where
  le : m.le (c * (n + 1))
  leC : m.leC c
  rle : r.le c
  rleC : r.leC c
theorem Bd.up {c c' : Nat} (h : Bd n c m r) (hc : c ≤ c') : Bd n c' m r := ⟨Fl.le_mono h.le (Nat.mul_le_mul_right _ hc), fun s hs w => Nat.le_trans (h.leC s hs w) hc, fun i j => Nat.le_trans (h.rle i j) hc, fun i j => Nat.le_trans (h.rleC i j) hc⟩
theorem Bd.new (l : List Int) : Bd l.length 0 (Fl.new_ l) (newR l l.length) := ⟨by rw [Nat.zero_mul]; exact Fl.le_new l, Fl.leC_new l, fun i j => Nat.le_refl 0, fun i j => Nat.le_refl 0⟩
theorem Bd.pass {c : Nat} (h : Bd n c m r) : Bd n (c + 1) (m.pass p q v) (r.pass p q v) :=
  ⟨Fl.le_mono (Fl.le_pass h.le) (by rw [Nat.succ_mul]; omega), fun s hs w => Nat.le_succ_of_le (h.leC s hs w), Rm.le_put (m := { r with st := r.st.set p (Fl.wr (r.at_ p - v)) }) h.rle, fun i j => Nat.le_succ_of_le (h.rleC i j)⟩
theorem c_tell (m : Rm) (p : Nat) : ∀ k, (m.tell p k).c = m.c
  | 0 => rfl
  | k + 1 => by
    unfold Rm.tell
    split
    · exact c_tell m p k
    · exact c_tell m p k
theorem c_recd : (r.recd p).c = r.c := c_tell _ _ _
theorem rle_dlv {c : Nat} (h1 : r.le c) : (r.dlv p q).le (c + 1) := by
  unfold Rm.dlv
  cases hw : r.w p q with
  | nil => exact fun i j => Nat.le_succ_of_le (h1 i j)
  | cons x l =>
    have hl : l.length ≤ c := by have := h1 p q; rw [hw, List.length_cons] at this; omega
    have hd : (r.drop1 p q l).le c := Rm.le_drop1 h1 hl
    cases x with
    | num v =>
      dsimp only
      unfold Rm.arrN
      dsimp only
      split <;> exact fun i j => Nat.le_succ_of_le (hd i j)
    | mark =>
      dsimp only
      unfold Rm.arrM
      dsimp only
      split
      · exact fun i j => Nat.le_succ_of_le (hd i j)
      · exact Rm.le_tell (m := (r.drop1 p q l).rec1 q) hd q _
theorem rleC_dlv {c : Nat} (h1 : r.leC c) : (r.dlv p q).leC (c + 1) := by
  unfold Rm.dlv
  cases hw : r.w p q with
  | nil => exact fun i j => Nat.le_succ_of_le (h1 i j)
  | cons x l =>
    cases x with
    | num v =>
      dsimp only
      unfold Rm.arrN
      dsimp only
      split
      · intro i j
        show (Rm.up2 r.c p q (r.c p q ++ [v]) i j).length ≤ _
        rw [up2_if]
        split
        · rw [List.length_append]; have := h1 p q; simp; omega
        · exact Nat.le_succ_of_le (h1 i j)
      · exact fun i j => Nat.le_succ_of_le (h1 i j)
    | mark =>
      dsimp only
      unfold Rm.arrM
      dsimp only
      split
      · exact fun i j => Nat.le_succ_of_le (h1 i j)
      · intro i j
        show (((r.drop1 p q l).recd q).c i j).length ≤ _
        rw [c_recd]
        exact Nat.le_succ_of_le (h1 i j)
theorem Bd.dlv {c : Nat} (h : Bd n c m r) (hl : m.st.length = n) : Bd n (c + 1) (m.dlv p q) (r.dlv p q) :=
  ⟨Fl.le_mono (Fl.le_dlv h.le) (by rw [Nat.succ_mul, hl]; omega), Fl.leC_dlv h.leC, rle_dlv h.rle, rleC_dlv h.rleC⟩
theorem Bd.begin_ {c : Nat} (h : Bd n c m r) (hl : m.st.length = n) : Bd n (c + 1) (m.begin_ p) ((openG r n n n n).recd p) := by
  refine ⟨Fl.le_mono (Fl.le_begin h.le) (by rw [Nat.succ_mul, hl]; omega), fun s hs w => Nat.le_trans (Fl.leC_begin s hs w) (by omega), Rm.le_tell (m := (openG r n n n n).rec1 p) h.rle p _, fun i j => ?_⟩
  rw [c_recd]; exact Nat.zero_le _
theorem Bd.taken {c : Nat} (h : Bd n c m r) : Bd n c { m with sh := none } { r with bg := false } := ⟨h.le, fun s hs => (by cases hs), h.rle, h.rleC⟩
theorem Bd.copy {c : Nat} (h : Bd n c m r) (a b x y z : Nat) : Bd n c m (cpG r n a b x y z) := by
  refine ⟨h.le, h.leC, fun i j => ?_, fun i j => ?_⟩
  · show (if _ then r.w i j else []).length ≤ _
    split
    · exact h.rle i j
    · exact Nat.zero_le _
  · show (if _ then r.c i j else []).length ≤ _
    split
    · exact h.rleC i j
    · exact Nat.zero_le _
end
end
end Go.Proofs.YtdaedcoolcicoaaGreat
namespace Go.Proofs.YtdaedcoolcicoaaGreat
noncomputable section
open Go Go.X Go.Arm
theorem nElem {h : AH} {v : Value} {l : List Int} {i : Nat} (H : Sd h 1 v l.length (l.map iv)) (hi : i < l.length) : ∃ pa, aIndex Tryz.prog 64 v (.int .i64 i) = some (.pointer (some pa)) ∧ aLoad Tryz.prog 2 pa h = some (iv ((l[i]?).getD 0)) := by
  obtain ⟨b, o, x, _, e2, e3, e4⟩ := H.load1 u64r s2r (d := .int .i64) (by kernel_rfl) rfl hi .i64
  rw [getD_map (d := 0) iv hi e2] at e4
  exact ⟨_, e3, e4⟩
theorem same_ok {h : AH} {a b : Value} {l : List Int} (HA : Sd h 1 a l.length (l.map iv)) (HB : Sd h 1 b l.length (l.map iv)) (hl : l.length < 1000000000) :
    Arm.Calls Tryz.prog 42 [a, b] h (fun r => r = (.bool true, h)) := by
  refine Calls_of_W (n := 26) (fn := Tryz.f42) (by kernel_rfl) rfl rfl (Nat.le_of_ble_eq_true rfl) trivial ⟨.inr (by simp), rfl⟩ ?_
  refine W_seq ?_
  refine W_region ?_
  refine L_g 1 (by kernel_rfl) ?_
  refine L_nil ?_
  refine W_seq ?_
  refine W_seq ?_
  refine W_region ?_
  refine L_g 1 (by kernel_rfl) ?_
  refine L_ln _ rfl rfl (by kernel_rfl) (HA.len u64r) ?_
  refine L_g 1 (by kernel_rfl) ?_
  refine L_ln _ rfl rfl (by kernel_rfl) (HB.len u64r) ?_
  refine L_i ((l.length : Int)) ((l.length : Int)) (.bool false) rfl rfl (by kernel_rfl) (by kernel_rfl) rfl (by simp) ?_
  refine L_nil ?_
  refine W_cond false (by kernel_rfl) (fun e => by cases e) (fun _ => ?_)
  refine W_skip ?_
  refine W_seq ?_
  refine W_seq ?_
  refine W_region ?_
  refine L_g 1 (by kernel_rfl) ?_
  refine L_nil ?_
  refine W_block ?_
  refine W_loop (fun i fr hh => ∃ k, k ≤ l.length ∧ i = l.length - k ∧ fr 0 = a ∧ fr 1 = b ∧ fr 5 = .int .i64 k ∧ h = hh) (l.length) ?_ ?_
  ·
    exact ⟨0, Nat.zero_le _, rfl, by kernel_rfl, by kernel_rfl, by kernel_rfl, rfl⟩
  rintro i1 fr1 hh ⟨k, hk, hi1, y0, y1, y5, rfl⟩
  refine W_set (k := 0) y0 ?_
  refine W_set (k := 1) y1 ?_
  refine W_set (k := 5) y5 ?_
  refine W_seq ?_
  refine W_seq ?_
  refine W_region ?_
  refine L_g 2 (by kernel_rfl) ?_
  refine L_ln _ rfl rfl (by kernel_rfl) (HA.len u64r) ?_
  refine L_g 1 (by kernel_rfl) ?_
  refine L_nil ?_
  refine W_cond (decide ((k : Int) < (l.length : Nat))) (by kernel_rfl) (fun hb => ?_) (fun hb => ?_)
  ·
    have hlt : k < l.length := by simp at hb; omega
    obtain ⟨pa, ea, la⟩ := nElem HA hlt
    obtain ⟨pb, eb, lb⟩ := nElem HB hlt
    refine W_skip ?_
    refine W_seq ?_
    refine W_block ?_
    refine W_seq ?_
    refine W_drawn (by kernel_rfl) ?_
    refine D_l (l := [0, 1, 2, 3, 4, 5, 6, 7, 8]) (by kernel_rfl) (by kernel_rfl) Rk_nil ?_
    refine NS_b 2 (by kernel_rfl) ?_
    refine NS_ix _ rfl rfl (by kernel_rfl) (by kernel_rfl) (by kernel_rfl) (by kernel_rfl) (ea) ?_
    refine NS_ld _ rfl rfl (by kernel_rfl) (by kernel_rfl) (by kernel_rfl) (la) ?_
    refine NS_b 2 (by kernel_rfl) ?_
    refine NS_ix _ rfl rfl (by kernel_rfl) (by kernel_rfl) (by kernel_rfl) (by kernel_rfl) (eb) ?_
    refine NS_ld _ rfl rfl (by kernel_rfl) (by kernel_rfl) (by kernel_rfl) (lb) ?_
    refine NS_i (((l[k]?).getD 0)) (((l[k]?).getD 0)) (.bool false) rfl rfl (by kernel_rfl) (by kernel_rfl) (by kernel_rfl) (by kernel_rfl) rfl (by simp) ?_
    refine NS_nil ?_
    refine W_cond false (by kernel_rfl) (fun e => by cases e) (fun _ => ?_)
    refine W_skip ?_
    refine W_region ?_
    refine L_g 1 (by kernel_rfl) ?_
    refine L_i ((k : Int)) (1) (.int .i64 ((k + 1 : Nat) : Int)) rfl rfl (by kernel_rfl) (by kernel_rfl) rfl (inc_ok (by omega)) ?_
    refine L_g 1 (by kernel_rfl) ?_
    refine L_nil ?_
    exact ⟨l.length - (k + 1), by omega, k + 1, by omega, rfl, by kernel_rfl, by kernel_rfl, by kernel_rfl, rfl⟩
  ·
    refine W_exit ?_
    repeat with_reducible refine then_exit ?_
    refine exit_here ?_
    refine W_seq ?_
    refine W_region ?_
    refine L_g 1 (by kernel_rfl) ?_
    refine L_nil ?_
    refine W_ret ?_
    repeat first | with_reducible refine then_ret ?_ | with_reducible refine blk_ret ?_
    refine done_of (v := .bool true) (.inl rfl) (by kernel_rfl) ?_
    rfl
/-- What lists of lists of lists of numbers hold. -/
def Vw (h : AH) (v : Value) (n : Nat) (c : Nat → Nat → List Int) : Prop := ∃ cs, Sd h 1 v n cs ∧ ∀ i, i < n → ∃ u ds, cs[i]? = some u ∧ Sd h 1 u n ds ∧ ∀ j, j < n → ∃ z, ds[j]? = some z ∧ Sd h 1 z (c i j).length ((c i j).map iv)
theorem Vw.row {h : AH} {v : Value} {n i : Nat} {c : Nat → Nat → List Int} (H : Vw h v n c) (hi : i < n) : ∃ pa u, aIndex Tryz.prog 78 v (.int .i64 i) = some (.pointer (some pa)) ∧ aLoad Tryz.prog 107 pa h = some u ∧ aLen Tryz.prog 107 u h = some (.int .i64 n) ∧
    ∀ j, j < n → ∃ pb z, aIndex Tryz.prog 107 u (.int .i64 j) = some (.pointer (some pb)) ∧ aLoad Tryz.prog 64 pb h = some z ∧ Sd h 1 z (c i j).length ((c i j).map iv) := by
  obtain ⟨cs, h1, h2⟩ := H
  obtain ⟨u, ds, e1, e2, e3⟩ := h2 i hi
  obtain ⟨b, o, x, _, a2, a3, a4⟩ := h1.load1 u78r s107 (d := .slice 64) (by kernel_rfl) rfl hi .i64
  rw [e1] at a2
  cases a2
  refine ⟨_, u, a3, a4, e2.len u107r, fun j hj => ?_⟩
  obtain ⟨z, z1, z2⟩ := e3 j hj
  obtain ⟨b', o', x', _, d2, d3, d4⟩ := e2.load1 u107r s64r (d := .slice 2) (by kernel_rfl) rfl hj .i64
  rw [z1] at d2
  cases d2
  exact ⟨_, z, d3, d4, z2⟩
theorem Vw.lenV {h : AH} {v : Value} {n : Nat} {c : Nat → Nat → List Int} (H : Vw h v n c) : aLen Tryz.prog 78 v h = some (.int .i64 n) := by
  obtain ⟨cs, h1, _⟩ := H
  exact h1.len u78r
set_option maxHeartbeats 1000000 in
theorem shots_ok {h : AH} {a b : Value} {n K : Nat} {c : Nat → Nat → List Int} (HA : Vw h a n c) (HB : Vw h b n c) (hn : n < 1000000) (hc : ∀ i j, (c i j).length ≤ K) (hK : K < 400000000) :
    Arm.Calls Tryz.prog 43 [a, b] h (fun r => r = (.bool true, h)) := by
  refine Calls_of_W (n := 54) (fn := Tryz.f43) (by kernel_rfl) rfl rfl (Nat.le_of_ble_eq_true rfl) trivial ⟨.inr (by simp), rfl⟩ ?_
  refine W_seq ?_
  refine W_region ?_
  refine L_g 1 (by kernel_rfl) ?_
  refine L_nil ?_
  refine W_seq ?_
  refine W_seq ?_
  refine W_region ?_
  refine L_g 1 (by kernel_rfl) ?_
  refine L_ln _ rfl rfl (by kernel_rfl) (HA.lenV) ?_
  refine L_g 1 (by kernel_rfl) ?_
  refine L_ln _ rfl rfl (by kernel_rfl) (HB.lenV) ?_
  refine L_i ((n : Int)) ((n : Int)) (.bool false) rfl rfl (by kernel_rfl) (by kernel_rfl) rfl (by simp) ?_
  refine L_nil ?_
  refine W_cond false (by kernel_rfl) (fun e => by cases e) (fun _ => ?_)
  refine W_skip ?_
  refine W_seq ?_
  refine W_seq ?_
  refine W_region ?_
  refine L_g 1 (by kernel_rfl) ?_
  refine L_nil ?_
  refine W_block ?_
  refine W_loop (fun i fr hh => ∃ k, k ≤ n ∧ i = n - k ∧ fr 0 = a ∧ fr 1 = b ∧ fr 5 = .int .i64 k ∧ h = hh) (n) ?_ ?_
  ·
    exact ⟨0, Nat.zero_le _, rfl, by kernel_rfl, by kernel_rfl, by kernel_rfl, rfl⟩
  rintro i1 fr1 hh ⟨k, hk, hi1, y0, y1, y5, rfl⟩
  refine W_set (k := 0) y0 ?_
  refine W_set (k := 1) y1 ?_
  refine W_set (k := 5) y5 ?_
  refine W_seq ?_
  refine W_seq ?_
  refine W_region ?_
  refine L_g 2 (by kernel_rfl) ?_
  refine L_ln _ rfl rfl (by kernel_rfl) (HA.lenV) ?_
  refine L_g 1 (by kernel_rfl) ?_
  refine L_nil ?_
  refine W_cond (decide ((k : Int) < (n : Nat))) (by kernel_rfl) (fun hb => ?_) (fun hb => ?_)
  ·
    have hlt : k < n := by simp at hb; omega
    obtain ⟨pa, ua, ea, la, na, fa⟩ := HA.row hlt
    obtain ⟨pb, ub, eb, lb, nb, fb⟩ := HB.row hlt
    refine W_skip ?_
    refine W_seq ?_
    refine W_block ?_
    refine W_seq ?_
    refine W_seq ?_
    refine W_drawn (by kernel_rfl) ?_
    refine D_l (l := [0, 1, 2, 3, 4, 5, 6, 7, 8, 9, 10]) (by kernel_rfl) (by kernel_rfl) Rk_nil ?_
    refine NS_b 2 (by kernel_rfl) ?_
    refine NS_ix _ rfl rfl (by kernel_rfl) (by kernel_rfl) (by kernel_rfl) (by kernel_rfl) (ea) ?_
    refine NS_ld _ rfl rfl (by kernel_rfl) (by kernel_rfl) (by kernel_rfl) (la) ?_
    refine NS_ln _ rfl rfl (by kernel_rfl) (by kernel_rfl) (by kernel_rfl) (na) ?_
    refine NS_b 2 (by kernel_rfl) ?_
    refine NS_ix _ rfl rfl (by kernel_rfl) (by kernel_rfl) (by kernel_rfl) (by kernel_rfl) (eb) ?_
    refine NS_ld _ rfl rfl (by kernel_rfl) (by kernel_rfl) (by kernel_rfl) (lb) ?_
    refine NS_ln _ rfl rfl (by kernel_rfl) (by kernel_rfl) (by kernel_rfl) (nb) ?_
    refine NS_i ((n : Int)) ((n : Int)) (.bool false) rfl rfl (by kernel_rfl) (by kernel_rfl) (by kernel_rfl) (by kernel_rfl) rfl (by simp) ?_
    refine NS_nil ?_
    refine W_cond false (by kernel_rfl) (fun e => by cases e) (fun _ => ?_)
    refine W_skip ?_
    refine W_seq ?_
    refine W_region ?_
    refine L_g 1 (by kernel_rfl) ?_
    refine L_nil ?_
    refine W_block ?_
    refine W_loop (fun i fr hh => ∃ j, j ≤ n ∧ i = n - j ∧ fr 0 = a ∧ fr 1 = b ∧ fr 5 = .int .i64 k ∧ fr 6 = .int .i64 j ∧ h = hh) (n) ?_ ?_
    ·
      exact ⟨0, Nat.zero_le _, rfl, by kernel_rfl, by kernel_rfl, by kernel_rfl, by kernel_rfl, rfl⟩
    rintro i2 fr2 hh ⟨j, hj, hi2, y0, y1, y5, y6, rfl⟩
    refine W_set (k := 0) y0 ?_
    refine W_set (k := 1) y1 ?_
    refine W_set (k := 5) y5 ?_
    refine W_set (k := 6) y6 ?_
    refine W_seq ?_
    refine W_seq ?_
    refine W_region ?_
    refine L_g 3 (by kernel_rfl) ?_
    refine L_ix _ rfl rfl (by kernel_rfl) (by kernel_rfl) (ea) ?_
    refine L_ld _ rfl rfl (by kernel_rfl) (la) ?_
    refine L_ln _ rfl rfl (by kernel_rfl) (na) ?_
    refine L_g 1 (by kernel_rfl) ?_
    refine L_nil ?_
    refine W_cond (decide ((j : Int) < (n : Nat))) (by kernel_rfl) (fun hb => ?_) (fun hb => ?_)
    ·
      have hlt2 : j < n := by simp at hb; omega
      obtain ⟨qa, za, ga, ma, sa⟩ := fa j hlt2
      obtain ⟨qb, zb, gb, mb, sb⟩ := fb j hlt2
      refine W_skip ?_
      refine W_seq ?_
      refine W_block ?_
      refine W_seq ?_
      refine W_drawn (by kernel_rfl) ?_
      refine D_e (e := 14) (l := [0, 1, 2, 3, 4, 5, 6, 7, 8, 9, 10, 11, 12, 13]) (s' := []) (by kernel_rfl) (by kernel_rfl) rfl (by kernel_rfl) Rk_nil ?_
      refine NS_b 2 (by kernel_rfl) ?_
      refine NS_ix _ rfl rfl (by kernel_rfl) (by kernel_rfl) (by kernel_rfl) (by kernel_rfl) (ea) ?_
      refine NS_ld _ rfl rfl (by kernel_rfl) (by kernel_rfl) (by kernel_rfl) (la) ?_
      refine NS_b 1 (by kernel_rfl) ?_
      refine NS_ix _ rfl rfl (by kernel_rfl) (by kernel_rfl) (by kernel_rfl) (by kernel_rfl) (ga) ?_
      refine NS_ld _ rfl rfl (by kernel_rfl) (by kernel_rfl) (by kernel_rfl) (ma) ?_
      refine NS_b 2 (by kernel_rfl) ?_
      refine NS_ix _ rfl rfl (by kernel_rfl) (by kernel_rfl) (by kernel_rfl) (by kernel_rfl) (eb) ?_
      refine NS_ld _ rfl rfl (by kernel_rfl) (by kernel_rfl) (by kernel_rfl) (lb) ?_
      refine NS_b 1 (by kernel_rfl) ?_
      refine NS_ix _ rfl rfl (by kernel_rfl) (by kernel_rfl) (by kernel_rfl) (by kernel_rfl) (gb) ?_
      refine NS_ld _ rfl rfl (by kernel_rfl) (by kernel_rfl) (by kernel_rfl) (mb) ?_
      refine NS_nil ?_
      refine L_c rfl rfl (by kernel_rfl) (same_ok sa sb (by have := hc k j; omega)) ?_
      rintro v9 h9 e9
      cases e9
      refine L_nil ⟨rfl, ?_⟩
      refine D_l (l := [15]) (by kernel_rfl) (by kernel_rfl) Rk_nil ?_
      refine NS_b 1 (by kernel_rfl) ?_
      refine NS_nil ?_
      refine W_cond false (by kernel_rfl) (fun e => by cases e) (fun _ => ?_)
      refine W_skip ?_
      refine W_region ?_
      refine L_g 1 (by kernel_rfl) ?_
      refine L_i ((j : Int)) (1) (.int .i64 ((j + 1 : Nat) : Int)) rfl rfl (by kernel_rfl) (by kernel_rfl) rfl (inc_ok (by omega)) ?_
      refine L_g 1 (by kernel_rfl) ?_
      refine L_nil ?_
      exact ⟨n - (j + 1), by omega, j + 1, by omega, rfl, by kernel_rfl, by kernel_rfl, by kernel_rfl, by kernel_rfl, rfl⟩
    ·
      have hge : ¬ j < n := by simp at hb; omega
      refine W_exit ?_
      repeat with_reducible refine then_exit ?_
      refine exit_here ?_
      refine W_region ?_
      refine L_g 1 (by kernel_rfl) ?_
      refine L_i ((k : Int)) (1) (.int .i64 ((k + 1 : Nat) : Int)) rfl rfl (by kernel_rfl) (by kernel_rfl) rfl (inc_ok (by omega)) ?_
      refine L_g 1 (by kernel_rfl) ?_
      refine L_nil ?_
      have hjn : j = n := by omega
      exact ⟨n - (k + 1), by omega, k + 1, by omega, rfl, by kernel_rfl, by kernel_rfl, by kernel_rfl, rfl⟩
  ·
    refine W_exit ?_
    repeat with_reducible refine then_exit ?_
    refine exit_here ?_
    refine W_seq ?_
    refine W_region ?_
    refine L_g 1 (by kernel_rfl) ?_
    refine L_nil ?_
    refine W_ret ?_
    repeat first | with_reducible refine then_ret ?_ | with_reducible refine blk_ret ?_
    refine done_of (v := .bool true) (.inl rfl) (by kernel_rfl) ?_
    rfl
end
end Go.Proofs.YtdaedcoolcicoaaGreat
namespace Go.Proofs.YtdaedcoolcicoaaGreat
noncomputable section
open Go Go.X Go.Arm
/-- A flow whose blocks are A, among the blocks X that may change. -/
inductive FQ (h : AH) (f : Nat) (A X : List Nat) (m : Fl) : Prop
  | off {sb wb : Nat} {st : Value} (hA : A = [f, sb, wb]) (hs : m.sh = none) (H : F0 h f sb wb st (.pointer none) X m.st m.ws) : FQ h f A X m
  | on {sb wb g a c o : Nat} {st : Value} {s : Sh} (hA : A = [f, sb, wb, g, a, c, o]) (hs : m.sh = some s) (H : F0 h f sb wb st (ptr g) X m.st m.ws) (G : S0 h g a c o X s) (nd : [f, sb, wb, g, a, c, o].Nodup) : FQ h f A X m
/-- A flow after steps. -/
def QP (h : AH) (f : Nat) (A X : List Nat) (m : Fl) (h' : AH) : Prop := ∃ A' N, FQ h' f A' (X ++ N) m ∧ Sm (· ∈ A) h h' ∧ (∀ x, x ∈ A' → x ∈ A ∨ h.next ≤ x) ∧ ∀ x, x ∈ N → h.next ≤ x ∧ x < h'.next
section
variable {h h' : AH} {S : Nat → Prop} {f sb wb g a c o : Nat} {st sv : Value} {A X N : List Nat} {m : Fl} {l : List Int} {ws : List ((Int × Int) × List Th)} {s : Sh} {p q K : Nat} {v : Int}
theorem rq_grow {k : Nat} {u : Value} {n : Nat} {cs : List Value} (g : Gr h k u n cs) (hb : ∀ b, vb u = some b → b ∉ X) (t : Sm S h h') (hS : ∀ x, S x → x ∈ X ∨ h.next ≤ x) (hN : ∀ x, x ∈ N → h.next ≤ x ∧ x < h'.next) : Gr h' k u n cs ∧ ∀ b, vb u = some b → b ∉ X ++ N := by
  refine ⟨g.sm t (fun b hb' hx => ?_), fun b hb' hm => ?_⟩
  · rcases hS b hx with e | e
    · exact hb b hb' e
    · have := g.lt hb'; omega
  · rcases List.mem_append.1 hm with e | e
    · exact hb b hb' e
    · have := g.lt hb'; have := (hN b e).1; omega
theorem F0.grow (H : F0 h f sb wb st sv X l ws) (t : Sm S h h') (h1 : ¬ S f) (h2 : ¬ S sb) (h3 : ¬ S wb) (hS : ∀ x, S x → x ∈ X ∨ h.next ≤ x) (hN : ∀ x, x ∈ N → h.next ≤ x ∧ x < h'.next) : F0 h' f sb wb st sv (X ++ N) l ws :=
  ⟨H.cl.sm t h1, H.gr.sm t (fun b hb => by rw [H.vb] at hb; cases hb; exact h2), H.vb, H.mp.sm t h3 (fun _ _ ⟨u, e, g, hb⟩ => ⟨u, e, (rq_grow g hb t hS hN).1, (rq_grow g hb t hS hN).2⟩),
    List.mem_append_left _ H.f1, List.mem_append_left _ H.s1, List.mem_append_left _ H.w1, H.nd, fun x hx => by
      rcases List.mem_append.1 hx with e | e
      · exact Nat.lt_of_lt_of_le (H.lt x e) t.nx
      · exact (hN x e).2⟩
theorem S0.grow (G : S0 h g a c o X s) (t : Sm S h h') (h1 : ¬ S g) (h2 : ¬ S a) (h3 : ¬ S c) (h4 : ¬ S o) (hS : ∀ x, S x → x ∈ X ∨ h.next ≤ x) (hN : ∀ x, x ∈ N → h.next ≤ x ∧ x < h'.next) : S0 h' g a c o (X ++ N) s :=
  ⟨G.cl.sm t h1, G.ma.sm t h2 (fun _ _ r => r), G.mc.sm t h3 (fun _ _ ⟨u, e, g, hb⟩ => ⟨u, e, (rq_grow g hb t hS hN).1, (rq_grow g hb t hS hN).2⟩), G.mo.sm t h4 (fun _ _ r => r),
    List.mem_append_left _ G.g1, List.mem_append_left _ G.a1, List.mem_append_left _ G.c1, List.mem_append_left _ G.o1⟩
/-- Other blocks change, and there are more of them. -/
theorem FQ.grow (H : FQ h f A X m) (t : Sm S h h') (hA : ∀ x, x ∈ A → ¬ S x) (hS : ∀ x, S x → x ∈ X ∨ h.next ≤ x) (hN : ∀ x, x ∈ N → h.next ≤ x ∧ x < h'.next) : FQ h' f A (X ++ N) m := by
  cases H with
  | off e hs H => subst e; exact .off rfl hs (H.grow t (hA _ (by simp)) (hA _ (by simp)) (hA _ (by simp)) hS hN)
  | on e hs H G nd => subst e; exact .on rfl hs (H.grow t (hA _ (by simp)) (hA _ (by simp)) (hA _ (by simp)) hS hN) (G.grow t (hA _ (by simp)) (hA _ (by simp)) (hA _ (by simp)) (hA _ (by simp)) hS hN) nd
theorem FQ.ext (H : FQ h f A X m) (t : Sm Nix h h') : FQ h' f A X m := by
  have := H.grow (N := []) t (fun _ _ x => x) (fun _ x => x.elim) (fun x hx => by cases hx)
  rwa [List.append_nil] at this
theorem FQ.f0 (H : FQ h f A X m) : ∃ sb wb st sv, F0 h f sb wb st sv X m.st m.ws := by
  cases H with
  | off _ _ H => exact ⟨_, _, _, _, H⟩
  | on _ _ H _ _ => exact ⟨_, _, _, _, H⟩
theorem FQ.sub (H : FQ h f A X m) : ∀ x, x ∈ A → x ∈ X := by
  cases H with
  | off e _ H =>
    subst e
    intro x hx
    simp only [List.mem_cons, List.not_mem_nil, or_false] at hx
    rcases hx with rfl | rfl | rfl
    · exact H.f1
    · exact H.s1
    · exact H.w1
  | on e _ H G _ =>
    subst e
    intro x hx
    simp only [List.mem_cons, List.not_mem_nil, or_false] at hx
    rcases hx with rfl | rfl | rfl | rfl | rfl | rfl | rfl
    · exact H.f1
    · exact H.s1
    · exact H.w1
    · exact G.g1
    · exact G.a1
    · exact G.c1
    · exact G.o1
theorem FQ.lt (H : FQ h f A X m) : ∀ x, x ∈ X → x < h.next := by
  obtain ⟨_, _, _, _, H⟩ := H.f0
  exact H.lt
theorem QP.same (H : FQ h' f A X m) (t : Sm (· ∈ A) h h') : QP h f A X m h' := ⟨A, [], by rw [List.append_nil]; exact H, t, fun x hx => .inl hx, fun x hx => by cases hx⟩
theorem nd7 {f sb wb g a c o : Nat} (nd : [f, sb, wb, g, a, c, o].Nodup) : g ≠ f ∧ g ≠ sb ∧ g ≠ wb ∧ a ≠ f ∧ a ≠ sb ∧ a ≠ wb ∧ c ≠ f ∧ c ≠ sb ∧ c ≠ wb ∧ o ≠ f ∧ o ≠ sb ∧ o ≠ wb := by
  simp only [List.nodup_cons, List.mem_cons, List.not_mem_nil, or_false, not_or, List.nodup_nil, not_false_eq_true, and_true] at nd
  obtain ⟨⟨_, _, h1, h2, h3, h4⟩, ⟨_, h5, h6, h7, h8⟩, ⟨h9, h10, h11, h12⟩, _⟩ := nd
  exact ⟨fun e => h1 e.symm, fun e => h5 e.symm, fun e => h9 e.symm, fun e => h2 e.symm, fun e => h6 e.symm, fun e => h10 e.symm, fun e => h3 e.symm, fun e => h7 e.symm, fun e => h11 e.symm, fun e => h4 e.symm, fun e => h8 e.symm, fun e => h12 e.symm⟩
theorem FQ.pass (H : FQ h f A X m) (hp : p < m.st.length) (hq : q < m.st.length) (hne : p ≠ q) (hle : m.le K) (hK : K < 4000000000) :
    Arm.Calls Tryz.prog 36 [ptr f, .int .i64 p, .int .i64 q, .int .i64 v] h (fun r => r.1 = .int .i64 0 ∧ QP h f A X (m.pass p q v) r.2) := by
  cases H with
  | off e hs H =>
    subst e
    refine RX_mono (pass_ok H hp hq hne hle hK) ?_
    rintro ⟨v, h'⟩ ⟨e, H', t⟩
    exact ⟨e, .same (.off rfl hs H') (t.mono (fun x hx => by rcases hx with rfl | rfl <;> simp))⟩
  | on e hs H G nd =>
    subst e
    refine RX_mono (pass_ok H hp hq hne hle hK) ?_
    rintro ⟨v, h'⟩ ⟨e, H', t⟩
    have n7 := nd7 nd
    exact ⟨e, .same (.on rfl hs H' (G.sm t (by omega) (by omega) (by omega) (by omega) (fun x hx => by rcases hx with rfl | rfl; exact H.s1; exact H.w1)) nd) (t.mono (fun x hx => by rcases hx with rfl | rfl <;> simp))⟩
theorem FQ.dlv (H : FQ h f A X m) (hp : p < m.st.length) (hq : q < m.st.length) (hne : p ≠ q) (hn : m.st.length < 1000000) (hle : m.le K) (hC : m.leC K) (hK : K < 4000000000) (hok : m.sh = none → Th.mark ∉ m.q ((p : Nat), (q : Nat))) :
    Arm.Calls Tryz.prog 44 [ptr f, .int .i64 p, .int .i64 q] h (fun r => r.1 = .tuple ⟨[.bool (!(m.q ((p : Nat), (q : Nat))).isEmpty), .int .i64 0]⟩ ∧ QP h f A X (m.dlv p q) r.2) := by
  have H0 := H
  match hm : m.q ((p : Nat), (q : Nat)) with
  | [] =>
    obtain ⟨_, _, _, _, F⟩ := H.f0
    refine RX_mono (dlv_nil F hp hq hne hm) ?_
    rintro ⟨v, h'⟩ ⟨e, t⟩
    rw [Fl.dlv_nil hm]
    exact ⟨e, .same (H.ext t) t.of⟩
  | .num v :: r =>
    rw [Fl.dlv_num hm]
    cases H with
    | @off sb wb st e hs H =>
      subst e
      refine RX_mono (dlv_num (R := fun x => F0 x.2 f sb wb st (.pointer none) X ((m.drop1 ((p : Nat), (q : Nat)) r).arrN p q v).st ((m.drop1 ((p : Nat), (q : Nat)) r).arrN p q v).ws ∧ Sm (· ∈ [f, sb, wb]) h x.2) H hp hq hne hm (fun h' H' t => ?_)) ?_
      · refine RX_mono (num_off (m := m.drop1 ((p : Nat), (q : Nat)) r) (p := p) (v := v) H' hq) ?_
        rintro ⟨u, h2⟩ ⟨_, H2, t2⟩
        exact ⟨H2, (t.mono (fun x hx => by subst hx; simp)).then (t2.mono (fun x hx => by subst hx; simp))⟩
      · rintro ⟨u, h2⟩ ⟨e, _, H2, t2⟩
        exact ⟨e, .same (.off rfl (by rw [Fl.sh_arrN]; show Option.map _ m.sh = none; rw [hs]; rfl) H2) t2⟩
    | @on sb wb g a c o st s e hs H G nd =>
      subst e
      have n7 := nd7 nd
      refine RX_mono (dlv_num (R := fun x => F0 x.2 f sb wb st (ptr g) X ((m.drop1 ((p : Nat), (q : Nat)) r).arrN p q v).st ((m.drop1 ((p : Nat), (q : Nat)) r).arrN p q v).ws ∧
        S0 x.2 g a c o X (if Fl.isRec s q && Fl.isOpen s ((p : Nat), (q : Nat)) then { s with ct := kset s.ct ((p : Nat), (q : Nat)) (Fl.ctOf s ((p : Nat), (q : Nat)) ++ [v]) } else s) ∧ Sm (· ∈ [f, sb, wb, g, a, c, o]) h x.2) H hp hq hne hm (fun h' H' t => ?_)) ?_
      · refine RX_mono (num_on (m := m.drop1 ((p : Nat), (q : Nat)) r) (p := p) (v := v) H' (G.sm t (by omega) (by omega) (by omega) (by omega) (fun x hx => by subst hx; exact H.w1)) nd hq (by have := hC s hs ((p : Nat), (q : Nat)); omega)) ?_
        rintro ⟨u, h2⟩ ⟨_, H2, G2, t2⟩
        exact ⟨H2, G2, (t.mono (fun x hx => by subst hx; simp)).then (t2.mono (fun x hx => by rcases hx with rfl | rfl <;> simp))⟩
      · rintro ⟨u, h2⟩ ⟨e, _, H2, G2, t2⟩
        exact ⟨e, .same (.on rfl (by rw [Fl.sh_arrN]; show Option.map _ m.sh = _; rw [hs]; rfl) H2 G2 nd) t2⟩
  | .mark :: r =>
    cases H with
    | off e hs H => exact (hok hs (by rw [hm]; exact List.mem_cons_self)).elim
    | @on sb wb g a c o st s e hs H G nd =>
      subst e
      rw [Fl.dlv_mark hm hs]
      have n7 := nd7 nd
      refine RX_mono (dlv_mark (R := fun x => F0 x.2 f sb wb st (ptr g) X ((m.drop1 ((p : Nat), (q : Nat)) r).arrM s p q).st ((m.drop1 ((p : Nat), (q : Nat)) r).arrM s p q).ws ∧
        (∃ s', ((m.drop1 ((p : Nat), (q : Nat)) r).arrM s p q).sh = some s' ∧ S0 x.2 g a c o X s') ∧ Sm (· ∈ [f, sb, wb, g, a, c, o]) h x.2) H hp hq hne hm (fun h' H' t => ?_)) ?_
      · refine RX_mono (mark_on (m := m.drop1 ((p : Nat), (q : Nat)) r) (p := p) H' (G.sm t (by omega) (by omega) (by omega) (by omega) (fun x hx => by subst hx; exact H.w1)) nd hs hq hn (K := K) (Fl.le_drop1 hle (by have := hle ((p : Nat), (q : Nat)); rw [hm, List.length_cons] at this; omega)) hK) ?_
        rintro ⟨u, h2⟩ ⟨_, H2, G2, t2⟩
        exact ⟨H2, G2, (t.mono (fun x hx => by subst hx; simp)).then (t2.mono (fun x hx => by rcases hx with rfl | rfl | rfl <;> simp))⟩
      · rintro ⟨u, h2⟩ ⟨e, _, H2, ⟨s', e', G2⟩, t2⟩
        exact ⟨e, .same (.on rfl e' H2 G2 nd) t2⟩
theorem FQ.begin_ (H : FQ h f A X m) (hs : m.sh = none) (hp : p < m.st.length) (hn : m.st.length < 1000000) (hle : m.le K) (hK : K < 4000000000) :
    Arm.Calls Tryz.prog 38 [ptr f, .int .i64 p] h (fun r => r.1 = .int .i64 0 ∧ QP h f A X (m.begin_ p) r.2) := by
  cases H with
  | on _ hs' _ _ _ => rw [hs] at hs'; cases hs'
  | off e _ H =>
    subst e
    refine RX_mono (begin_ok H hp hn hle hK) ?_
    rintro ⟨v, h'⟩ ⟨e, g, a, c, o, H', ⟨s', e', G'⟩, nd, t, hg, ha, hc, ho⟩
    refine ⟨e, _, [g, a, c, o], .on rfl e' H' G' nd, t.mono (fun x hx => by rcases hx with rfl | rfl <;> simp), fun x hx => ?_, fun x hx => ?_⟩
    · simp only [List.mem_cons, List.not_mem_nil, or_false] at hx ⊢
      omega
    · have := H'.lt x (List.mem_append_right _ hx)
      simp only [List.mem_cons, List.not_mem_nil, or_false] at hx
      exact ⟨by omega, this⟩
theorem FQ.begin_on (H : FQ h f A X m) (hs : m.sh = some s) (hp : p < m.st.length) : Arm.Calls Tryz.prog 38 [ptr f, .int .i64 p] h (fun r => r.1 = .int .i64 6 ∧ Sm Nix h r.2) := by
  cases H with
  | off _ hs' _ => rw [hs] at hs'; cases hs'
  | on _ _ H _ _ => exact Go.Proofs.YtdaedcoolcicoaaGreat.begin_on H hp
theorem FQ.copy (H : FQ h f A X m) (hn0 : 0 < m.st.length) (hn : m.st.length < 1000000) :
    Arm.Calls Tryz.prog 34 [ptr f] h (fun r => ∃ f2 A2, r.1 = ptr f2 ∧ FQ r.2 f2 A2 (X ++ A2) m ∧ Sm Nix h r.2 ∧ ∀ x, x ∈ A2 → h.next ≤ x ∧ x < r.2.next) := by
  cases H with
  | off e hs H =>
    refine RX_mono (copy_off H hn0 hn) ?_
    rintro ⟨v, h'⟩ ⟨f2, sb2, wb2, st2, e, H', t, h1, h2, h3⟩
    refine ⟨f2, _, e, .off rfl hs H', t, fun x hx => ?_⟩
    have := H'.lt x (List.mem_append_right _ hx)
    simp only [List.mem_cons, List.not_mem_nil, or_false] at hx
    exact ⟨by omega, this⟩
  | on e hs H G nd =>
    refine RX_mono (copy_on H G hn0 hn) ?_
    rintro ⟨v, h'⟩ ⟨f2, sb2, wb2, st2, g2, a2, c2, o2, e, H', G', nd', t, h1, h2, h3, h4, h5, h6, h7⟩
    refine ⟨f2, _, e, .on rfl hs H' G' nd', t, fun x hx => ?_⟩
    have := H'.lt x (List.mem_append_right _ hx)
    simp only [List.mem_cons, List.not_mem_nil, or_false] at hx
    exact ⟨by omega, this⟩
theorem FQ.taken_off (H : FQ h f A X m) (hs : m.sh = none) :
    Arm.Calls Tryz.prog 40 [ptr f] h (fun r => r.1 = .tuple ⟨[.agg ⟨[.slice none 0 0, .slice none 0 0]⟩, .bool false, .int .i64 6]⟩ ∧ Sm Nix h r.2) := by
  cases H with
  | on _ hs' _ _ _ => rw [hs] at hs'; cases hs'
  | off e _ H => exact Go.Proofs.YtdaedcoolcicoaaGreat.taken_off H
theorem FQ.taken_part (H : FQ h f A X m) (hs : m.sh = some s) (hop : s.op ≠ []) :
    Arm.Calls Tryz.prog 40 [ptr f] h (fun r => r.1 = .tuple ⟨[.agg ⟨[.slice none 0 0, .slice none 0 0]⟩, .bool false, .int .i64 0]⟩ ∧ Sm Nix h r.2) := by
  cases H with
  | off _ hs' _ => rw [hs] at hs'; cases hs'
  | on _ hs' H G _ => rw [hs] at hs'; cases hs'; exact Go.Proofs.YtdaedcoolcicoaaGreat.taken_part H G hop
theorem FQ.taken (H : FQ h f A X m) (hs : m.sh = some s) (hop : s.op = []) (hn : m.st.length < 1000000) (hC : m.leC K) (hK : K < 4000000000) :
    Arm.Calls Tryz.prog 40 [ptr f] h (fun r => ∃ a b, r.1 = .tuple ⟨[.agg ⟨[.slice (some ⟨a, 0, none⟩) m.st.length m.st.length, .slice (some ⟨b, 0, none⟩) m.st.length m.st.length]⟩, .bool true, .int .i64 0]⟩ ∧
      Sts r.2 a m.st.length m.st.length s ∧ Rws r.2 h.next b m.st.length m.st.length s ∧ h.next ≤ a ∧ h.next ≤ b ∧ QP h f A X { m with sh := none } r.2) := by
  cases H with
  | off _ hs' _ => rw [hs] at hs'; cases hs'
  | on e hs' H G nd =>
    rw [hs] at hs'
    cases hs'
    subst e
    refine RX_mono (taken_on H G nd hop hn (hC _ hs) hK) ?_
    rintro ⟨v, h'⟩ ⟨a, b, e, h1, h2, h3, h4, H', t⟩
    exact ⟨a, b, e, h1, h2, h3, h4, _, [], by rw [List.append_nil]; exact .off rfl rfl H', t.mono (fun x hx => by subst hx; simp), fun x hx => by simp only [List.mem_cons, List.not_mem_nil, or_false] at hx ⊢; omega, fun x hx => by cases hx⟩
end
end
end Go.Proofs.YtdaedcoolcicoaaGreat
namespace Go.Proofs.YtdaedcoolcicoaaGreat
noncomputable section
open Go Go.X Go.Arm
/-- A flow of the program and one of the reference. -/
structure P1 (h0 h : AH) (w rw : Nat) (A X : List Nat) (V : RL → Value) (m : Fl) (r : Rm) : Prop where
  a : FQ h w A X m
  ra : RR h rw V r
  xa : ∀ x, RF rw V x → x ∈ X
  ara : ∀ x, x ∈ A → ¬ RF rw V x
  t : Sm (fun x => h0.next ≤ x) h0 h
  lo : ∀ x, x ∈ X → h0.next ≤ x
structure S4 (h0 h : AH) (ks : List (Nat × List Value)) (w rw w2 rw2 : Nat) (A B X : List Nat) (V W : RL → Value) (m : Fl) (r : Rm) (m2 : Fl) (r2 : Rm) : Prop where
  p : P1 h0 h w rw A X V m r
  b : FQ h w2 B X m2
  rb : RR h rw2 W r2
  xb : ∀ x, RF rw2 W x → x ∈ X
  ab : ∀ x, x ∈ A → x ∉ B
  arb : ∀ x, x ∈ A → ¬ RF rw2 W x
  bra : ∀ x, x ∈ B → ¬ RF rw V x
  brb : ∀ x, x ∈ B → ¬ RF rw2 W x
  rr : ∀ x, RF rw V x → ¬ RF rw2 W x
  kp : ∀ e, e ∈ ks → Cl h e.1 e.2 ∧ e.1 ∉ X
def Sv (h0 h : AH) (ks : List (Nat × List Value)) (w rw w2 rw2 : Nat) (m : Fl) (r : Rm) (m2 : Fl) (r2 : Rm) : Prop := ∃ A B X V W, S4 h0 h ks w rw w2 rw2 A B X V W m r m2 r2
section
variable {h0 h h' : AH} {ks : List (Nat × List Value)} {w rw w2 rw2 n : Nat} {A B X : List Nat} {V W : RL → Value} {m m' m2 : Fl} {r r' r2 : Rm} {s : Sh}
theorem P1.ext (I : P1 h0 h w rw A X V m r) (t : Sm Nix h h') : P1 h0 h' w rw A X V m r := ⟨I.a.ext t, I.ra.ext t, I.xa, I.ara, I.t.ext t, I.lo⟩
theorem S4.ext (I : S4 h0 h ks w rw w2 rw2 A B X V W m r m2 r2) (t : Sm Nix h h') : S4 h0 h' ks w rw w2 rw2 A B X V W m r m2 r2 := ⟨I.p.ext t, I.b.ext t, I.rb.ext t, I.xb, I.ab, I.arb, I.bra, I.brb, I.rr, fun e he => ⟨(I.kp e he).1.ext t, (I.kp e he).2⟩⟩
theorem Sv.ext (I : Sv h0 h ks w rw w2 rw2 m r m2 r2) (t : Sm Nix h h') : Sv h0 h' ks w rw w2 rw2 m r m2 r2 := by
  obtain ⟨A, B, X, V, W, I⟩ := I
  exact ⟨A, B, X, V, W, I.ext t⟩
theorem Sv.swap (I : Sv h0 h ks w rw w2 rw2 m r m2 r2) : Sv h0 h ks w2 rw2 w rw m2 r2 m r := by
  obtain ⟨A, B, X, V, W, I⟩ := I
  exact ⟨B, A, X, W, V, ⟨I.b, I.rb, I.xb, I.brb, I.p.t, I.p.lo⟩, I.p.a, I.p.ra, I.p.xa, fun x hx hy => I.ab x hy hx, I.bra, I.arb, I.p.ara, fun x hx hy => I.rr x hy hx, I.kp⟩
theorem S4.prog (I : S4 h0 h ks w rw w2 rw2 A B X V W m r m2 r2) (Q : QP h w A X m' h') : Sv h0 h' ks w rw w2 rw2 m' r m2 r2 := by
  obtain ⟨A', N, H, t, hA, hN⟩ := Q
  have sub := I.p.a.sub
  have hx := I.p.t.nx
  have bX := I.b.sub
  refine ⟨A', B, X ++ N, V, W, ⟨H, I.p.ra.sm t (fun b hb hx => I.p.ara b hx hb), fun x hx => List.mem_append_left _ (I.p.xa x hx), fun x hx hy => ?_, I.p.t.trans t (fun x hx => .inl (I.p.lo x (sub x hx))), fun x hx => ?_⟩,
    I.b.grow t (fun x hx hy => I.ab x hy hx) (fun x hx => .inl (sub x hx)) hN, I.rb.sm t (fun b hb hx => I.arb b hx hb), fun x hx => List.mem_append_left _ (I.xb x hx), fun x hx hy => ?_, fun x hx hy => ?_, I.bra, I.brb, I.rr, fun e he => ?_⟩
  · rcases hA x hx with e | e
    · exact I.p.ara x e hy
    · have := I.p.ra.lt hy; omega
  · rcases List.mem_append.1 hx with e | e
    · exact I.p.lo x e
    · have := (hN x e).1; omega
  · rcases hA x hx with e | e
    · exact I.ab x e hy
    · have := I.b.lt x (bX x hy); omega
  · rcases hA x hx with e | e
    · exact I.arb x e hy
    · have := I.rb.lt hy; omega
  · obtain ⟨c, hc⟩ := I.kp e he
    refine ⟨c.sm t (fun hx => hc (sub _ hx)), fun hm => ?_⟩
    rcases List.mem_append.1 hm with y | y
    · exact hc y
    · have := c.lt; have := (hN _ y).1; omega
def news (h h' : AH) : List Nat := (List.range h'.next).filter fun x => decide (h.next ≤ x)
theorem mem_news {x : Nat} : x ∈ news h h' ↔ h.next ≤ x ∧ x < h'.next := by
  unfold news
  rw [List.mem_filter, List.mem_range, decide_eq_true_eq]
  omega
theorem S4.ref (I : S4 h0 h ks w rw w2 rw2 A B X V W m r m2 r2) (Q : RP h rw V r' h') : Sv h0 h' ks w rw w2 rw2 m r' m2 r2 := by
  obtain ⟨V', H, t, hV⟩ := Q
  have hx := I.p.t.nx
  refine ⟨A, B, X ++ news h h', V', W, ⟨I.p.a.grow t (fun x hx hy => I.p.ara x hx hy) (fun x hx => .inl (I.p.xa x hx)) (fun x hx => mem_news.1 hx), H, fun x hx => ?_, fun x hx hy => ?_, I.p.t.trans t (fun x hx => .inl (I.p.lo x (I.p.xa x hx))), fun x hx => ?_⟩,
    I.b.grow t (fun x hx hy => I.bra x hx hy) (fun x hx => .inl (I.p.xa x hx)) (fun x hx => mem_news.1 hx), I.rb.sm t (fun b hb hx => I.rr b hx hb), fun x hx => List.mem_append_left _ (I.xb x hx), I.ab, I.arb, fun x hx hy => ?_, I.brb, fun x hx hy => ?_, fun e he => ?_⟩
  · rcases hV x hx with e | e
    · exact List.mem_append_left _ (I.p.xa x e)
    · exact List.mem_append_right _ (mem_news.2 ⟨e, H.lt hx⟩)
  · rcases hV x hy with e | e
    · exact I.p.ara x hx e
    · have := I.p.a.lt x (I.p.a.sub x hx); omega
  · rcases List.mem_append.1 hx with e | e
    · exact I.p.lo x e
    · have := (mem_news.1 e).1; omega
  · rcases hV x hy with e | e
    · exact I.bra x hx e
    · have := I.b.lt x (I.b.sub x hx); omega
  · rcases hV x hx with e | e
    · exact I.rr x e hy
    · have := I.rb.lt hy; omega
  · obtain ⟨c, hc⟩ := I.kp e he
    refine ⟨c.sm t (fun hx => hc (I.p.xa _ hx)), fun hm => ?_⟩
    rcases List.mem_append.1 hm with y | y
    · exact hc y
    · have := c.lt; have := (mem_news.1 y).1; omega
theorem Sv.t (I : Sv h0 h ks w rw w2 rw2 m r m2 r2) : Sm (fun x => h0.next ≤ x) h0 h := by
  obtain ⟨A, B, X, V, W, I⟩ := I
  exact I.p.t
/-- A block is kept, too. -/
theorem Sv.add (I : Sv h0 h ks w rw w2 rw2 m r m2 r2) (t : Sm Nix h h') {b : Nat} {l : List Value} (c : Cl h' b l) (hb : h.next ≤ b) : Sv h0 h' ((b, l) :: ks) w rw w2 rw2 m r m2 r2 := by
  obtain ⟨A, B, X, V, W, I⟩ := I
  have I' := I.ext t
  refine ⟨A, B, X, V, W, I'.p, I'.b, I'.rb, I'.xb, I'.ab, I'.arb, I'.bra, I'.brb, I'.rr, fun e he => ?_⟩
  rcases List.mem_cons.1 he with rfl | he
  · exact ⟨c, fun hm => by have := I.p.a.lt b hm; omega⟩
  · exact I'.kp e he
theorem Sv.drop (I : Sv h0 h ks w rw w2 rw2 m r m2 r2) : Sv h0 h [] w rw w2 rw2 m r m2 r2 := by
  obtain ⟨A, B, X, V, W, I⟩ := I
  exact ⟨A, B, X, V, W, I.p, I.b, I.rb, I.xb, I.ab, I.arb, I.bra, I.brb, I.rr, fun e he => by cases he⟩
theorem Sv.kept (I : Sv h0 h ks w rw w2 rw2 m r m2 r2) {e : Nat × List Value} (he : e ∈ ks) : Cl h e.1 e.2 := by
  obtain ⟨A, B, X, V, W, I⟩ := I
  exact (I.kp e he).1
/-- A flow of each was made. -/
theorem P1.new {h1 : AH} {A : List Nat} (H : FQ h1 w A A m) (t1 : Sm Nix h h1) (hA : ∀ x, x ∈ A → h.next ≤ x) (R : RR h' rw V r) (t2 : Sm Nix h1 h') (hV : ∀ x, RF rw V x → h1.next ≤ x) : P1 h h' w rw A (A ++ news h1 h') V m r := by
  refine ⟨H.grow t2 (fun _ _ x => x) (fun _ x => x.elim) (fun x hx => mem_news.1 hx), R, fun x hx => List.mem_append_right _ (mem_news.2 ⟨hV x hx, R.lt hx⟩), fun x hx hy => ?_, (t1.ext t2).of, fun x hx => ?_⟩
  · have := hV x hy
    have := H.lt x hx
    omega
  · rcases List.mem_append.1 hx with e | e
    · exact hA x e
    · have := (mem_news.1 e).1; have := t1.nx; omega
/-- Both were copied. -/
theorem P1.copies {h1 : AH} {c rc : Nat} {C : List Nat} {W : RL → Value} (I : P1 h0 h w rw A X V m r) (H : FQ h1 c C (X ++ C) m) (t1 : Sm Nix h h1) (hC : ∀ x, x ∈ C → h.next ≤ x ∧ x < h1.next) (R : RR h' rc W r2) (t2 : Sm Nix h1 h') (hW : ∀ x, RF rc W x → h1.next ≤ x) :
    Sv h0 h' [] w rw c rc m r m r2 := by
  have h0x := I.t.nx
  have hx1 := t1.nx
  refine ⟨A, C, (X ++ C) ++ news h1 h', V, W, ⟨?_, (I.ra.ext t1).ext t2, fun x hx => List.mem_append_left _ (List.mem_append_left _ (I.xa x hx)), I.ara, (I.t.ext t1).ext t2, fun x hx => ?_⟩, H.grow t2 (fun _ _ x => x) (fun _ x => x.elim) (fun x hx => mem_news.1 hx), R,
    fun x hx => List.mem_append_right _ (mem_news.2 ⟨hW x hx, R.lt hx⟩), fun x hx hy => ?_, fun x hx hy => ?_, fun x hx hy => ?_, fun x hx hy => ?_, fun x hx hy => ?_, fun e he => by cases he⟩
  · exact (I.a.grow t1 (fun _ _ x => x) (fun _ x => x.elim) hC).grow t2 (fun _ _ x => x) (fun _ x => x.elim) (fun x hx => mem_news.1 hx)
  · rcases List.mem_append.1 hx with e | e
    · rcases List.mem_append.1 e with e | e
      · exact I.lo x e
      · have := (hC x e).1; omega
    · have := (mem_news.1 e).1; omega
  · have := I.a.lt x (I.a.sub x hx); have := (hC x hy).1; omega
  · have := I.a.lt x (I.a.sub x hx); have := hW x hy; omega
  · have := I.ra.lt hy; have := (hC x hx).1; omega
  · have := hW x hy; have := (hC x hx).2; omega
  · have := I.ra.lt hx; have := hW x hy; omega
end
/-! What both say of states and channels. -/
section
variable {h : AH} {f n K : Nat} {A X : List Nat} {V : RL → Value} {m : Fl} {r : Rm} {s : Sh} {p q : Int}
def stV (m : Fl) (n : Nat) (p : Int) : Int := if chk1 n p = 0 then m.at_ p.toNat else 0
def unV (m : Fl) (n : Nat) (p q : Int) : List Int := if chk2 n p q = 0 then numsOf (m.q (p, q)) else []
theorem chk1_iff {n : Nat} {p : Int} : chk1 n p = 0 ↔ 0 ≤ p ∧ p < n := by
  unfold chk1
  split <;> omega
theorem inc1 {k : Nat} (hk : k < 1000000000) : Value.int .i64 (IntKind.i64.wrap ((k : Int) - 1 + 1)) = .int .i64 (((k + 1 : Nat) : Int) - 1) := by
  have : IntKind.i64.wrap ((k : Int) - 1 + 1) = ((k + 1 : Nat) : Int) - 1 := by rw [IntKind.wrap_i64]; omega
  rw [this]
theorem chk_out {n k : Nat} {p : Int} (hc : ¬ chk1 n p = 0) (hl : k = n) : p < 0 ∨ (k : Int) ≤ p := by
  have h : ¬ (0 ≤ p ∧ p < n) := fun x => hc (chk1_iff.2 x)
  subst hl
  omega
theorem chk1_ne {n : Nat} {p : Int} (h : chk1 n p ≠ 0) : chk1 n p = 11 := by
  unfold chk1 at h ⊢
  split at h
  · rename_i e; rw [if_pos e]
  · exact (h rfl).elim
theorem chk2_iff {n : Nat} {p q : Int} : chk2 n p q = 0 ↔ 0 ≤ p ∧ p < n ∧ 0 ≤ q ∧ q < n ∧ p ≠ q := by
  unfold chk2
  split
  · omega
  · split
    · omega
    · split <;> omega
theorem FQ.state (H : FQ h f A X m) (hl : m.st.length = n) (p : Int) : Arm.Calls Tryz.prog 47 [ptr f, .int .i64 p] h (fun r => r.1 = .tuple ⟨[.int .i64 (stV m n p), .int .i64 (chk1 n p)]⟩ ∧ Sm Nix h r.2) := by
  obtain ⟨_, _, _, _, F⟩ := H.f0
  subst hl
  by_cases hc : chk1 m.st.length p = 0
  · obtain ⟨h1, h2⟩ := chk1_iff.1 hc
    obtain ⟨k, rfl⟩ := Int.eq_ofNat_of_zero_le h1
    unfold stV
    rw [if_pos hc, hc]
    exact state_ok F (by omega)
  · unfold stV
    rw [if_neg hc]
    exact state_err (q := 0) (v := 0) F hc
theorem _root_.Go.Arm.RR.state (H : RR h f V r) (S : Sim n m r) (p : Int) : Arm.Calls Tryz.prog 95 [ptr f, .int .i64 p] h (fun r => r.1 = .tuple ⟨[.int .i64 (stV m n p), .int .i64 (chk1 n p)]⟩ ∧ Sm Nix h r.2) := by
  have hl : r.st.length = n := by rw [S.st]; exact S.len
  by_cases hc : chk1 n p = 0
  · obtain ⟨h1, h2⟩ := chk1_iff.1 hc
    obtain ⟨k, rfl⟩ := Int.eq_ofNat_of_zero_le h1
    refine RX_mono (rstate_ok (p := k) H (by omega)) ?_
    rintro ⟨v, h'⟩ e
    cases e
    unfold stV
    rw [if_pos hc, hc, S.at]
    exact ⟨rfl, .refl⟩
  · refine RX_mono (rstate_err (p := p) H (chk_out hc hl)) ?_
    rintro ⟨v, h'⟩ e
    cases e
    unfold stV
    rw [if_neg hc, chk1_ne hc]
    exact ⟨rfl, .refl⟩
theorem FQ.under (H : FQ h f A X m) (hl : m.st.length = n) (hle : m.le K) (hK : K < 400000000) (p q : Int) : Arm.Calls Tryz.prog 48 [ptr f, .int .i64 p, .int .i64 q] h (fun r => ∃ u, r.1 = .tuple ⟨[u, .int .i64 (chk2 n p q)]⟩ ∧ Sd r.2 1 u (unV m n p q).length ((unV m n p q).map iv) ∧ Sm Nix h r.2) := by
  obtain ⟨_, _, _, _, F⟩ := H.f0
  subst hl
  by_cases hc : chk2 m.st.length p q = 0
  · obtain ⟨h1, h2, h3, h4, h5⟩ := chk2_iff.1 hc
    obtain ⟨k, rfl⟩ := Int.eq_ofNat_of_zero_le h1
    obtain ⟨l, rfl⟩ := Int.eq_ofNat_of_zero_le h3
    unfold unV
    rw [if_pos hc, hc]
    refine RX_mono (under_ok F (by omega) (by omega) (by omega) hle hK) ?_
    rintro ⟨v, h'⟩ ⟨u, e, g, t⟩
    exact ⟨u, e, g.sd, t⟩
  · unfold unV
    rw [if_neg hc]
    refine RX_mono (under_err F hc) ?_
    rintro ⟨v, h'⟩ ⟨e, t⟩
    exact ⟨_, e, Sd.nil, t⟩
theorem _root_.Go.Arm.RR.under (H : RR h f V r) (S : Sim n m r) (hle : r.le K) (hK : K < 400000000) (p q : Int) : Arm.Calls Tryz.prog 96 [ptr f, .int .i64 p, .int .i64 q] h (fun r => ∃ u, r.1 = .tuple ⟨[u, .int .i64 (chk2 n p q)]⟩ ∧ Sd r.2 1 u (unV m n p q).length ((unV m n p q).map iv) ∧ Sm Nix h r.2) := by
  have hl : r.st.length = n := by rw [S.st]; exact S.len
  have hO := S.ok
  by_cases hc : chk2 n p q = 0
  · obtain ⟨h1, h2, h3, h4, h5⟩ := chk2_iff.1 hc
    obtain ⟨k, rfl⟩ := Int.eq_ofNat_of_zero_le h1
    obtain ⟨l, rfl⟩ := Int.eq_ofNat_of_zero_le h3
    unfold unV
    rw [if_pos hc, hc]
    refine RX_mono (runder_ok (p := k) (q := l) H (by rw [hl]; exact hO) (by omega) (by omega) (by omega) hle hK) ?_
    rintro ⟨v, h'⟩ ⟨u, e, g, t⟩
    rw [S.w k l (by omega) (by omega)] at g
    exact ⟨u, e, g.sd, t⟩
  · unfold unV
    rw [if_neg hc]
    refine RX_mono (runder_err H (by rw [hl]; exact hc)) ?_
    rintro ⟨v, h'⟩ e
    cases e
    rw [hl]
    exact ⟨_, rfl, Sd.nil, .refl⟩
theorem unV_le (hle : m.le K) : (unV m n p q).length ≤ K := by
  unfold unV
  split
  · exact Nat.le_trans (numsOf_le _) (hle _)
  · exact Nat.zero_le _
end
end
end Go.Proofs.YtdaedcoolcicoaaGreat
namespace Go.Proofs.YtdaedcoolcicoaaGreat
noncomputable section
open Go Go.X Go.Arm
set_option maxHeartbeats 1000000 in
theorem looks_ok {h : AH} {w rw n K : Nat} {A X : List Nat} {V : RL → Value} {m : Fl} {r : Rm} (H : FQ h w A X m) (R : RR h rw V r) (S : Sim n m r) (hle : m.le K) (hrl : r.le K) (hK : K < 400000000) (hn : n < 1000000) :
    Arm.Calls Tryz.prog 46 [ptr w, ptr rw] h (fun x => x.1 = .bool true ∧ Sm Nix h x.2) := by
  refine Calls_of_W (n := 76) (fn := Tryz.f46) (by kernel_rfl) rfl rfl (Nat.le_of_ble_eq_true rfl) trivial ⟨.inr (by simp), rfl⟩ ?_
  refine W_seq ?_
  refine W_region ?_
  refine L_g 1 (by kernel_rfl) ?_
  refine L_nil ?_
  refine W_seq ?_
  refine W_seq ?_
  refine W_region ?_
  refine L_g 1 (by kernel_rfl) ?_
  refine L_nil ?_
  refine W_block ?_
  refine W_loop (fun i fr hh => ∃ k, k ≤ n + 2 ∧ i = n + 2 - k ∧ fr 0 = ptr w ∧ fr 1 = ptr rw ∧ fr 5 = .int .i64 ((k : Int) - 1) ∧ Sm Nix h hh) (n + 2) ?_ ?_
  ·
    exact ⟨0, Nat.zero_le _, rfl, by kernel_rfl, by kernel_rfl, by kernel_rfl, .refl⟩
  rintro i1 fr1 h2 ⟨k, hk, hi1, y0, y1, y5, t2⟩
  have R2 := R.ext t2
  have H2 := H.ext t2
  refine W_set (k := 0) y0 ?_
  refine W_set (k := 1) y1 ?_
  refine W_set (k := 5) y5 ?_
  refine W_seq ?_
  refine W_seq ?_
  refine W_region ?_
  refine L_g 4 (by kernel_rfl) ?_
  refine L_ld _ rfl rfl (by kernel_rfl) (R2.cl.ld (o := 0) (by kernel_rfl) rfl) ?_
  refine L_ln _ rfl rfl (by kernel_rfl) ((Ws.lenV (n := n) (by have := R2.stWs; rw [S.ok.st] at this; exact this) u64r)) ?_
  refine L_i (((k : Int) - 1)) ((n : Nat)) (.bool (decide (k < n + 2))) rfl rfl (by kernel_rfl) (by kernel_rfl) rfl (by congr 1; rw [decide_eq_decide]; omega) ?_
  refine L_nil ?_
  refine W_cond (decide (k < n + 2)) (by kernel_rfl) (fun hb => ?_) (fun hb => ?_)
  ·
    have hlt : k < n + 2 := by simpa using hb
    refine W_skip ?_
    refine W_seq ?_
    refine W_block ?_
    refine W_seq ?_
    refine W_region ?_
    refine L_g 2 (by kernel_rfl) ?_
    refine L_c rfl rfl (by kernel_rfl) (H2.state S.len ((k : Int) - 1)) ?_
    rintro v3 h3 ⟨e3, t3⟩
    dsimp only at e3 t3
    subst e3
    have R3 := R2.ext t3
    refine L_g 5 (by kernel_rfl) ?_
    refine L_nil ?_
    refine W_seq ?_
    refine W_region ?_
    refine L_g 2 (by kernel_rfl) ?_
    refine L_c rfl rfl (by kernel_rfl) (R3.state S ((k : Int) - 1)) ?_
    rintro v4 h4 ⟨e4, t4⟩
    dsimp only at e4 t4
    subst e4
    have T4 := (t2.ext t3).ext t4
    refine L_g 5 (by kernel_rfl) ?_
    refine L_nil ?_
    refine W_seq ?_
    refine W_seq ?_
    refine W_region ?_
    refine L_g 2 (by kernel_rfl) ?_
    refine L_i ((stV m n ((k : Int) - 1))) ((stV m n ((k : Int) - 1))) (.bool false) rfl rfl (by kernel_rfl) (by kernel_rfl) rfl (by simp) ?_
    refine L_g 3 (by kernel_rfl) ?_
    refine L_want (by kernel_rfl) ?_
    refine L_i ((chk1 n ((k : Int) - 1))) ((chk1 n ((k : Int) - 1))) (.bool false) rfl rfl (by kernel_rfl) (by kernel_rfl) rfl (by simp) ?_
    refine L_g 1 (by kernel_rfl) ?_
    refine L_nil ?_
    refine W_cond false (by kernel_rfl) (fun e => by cases e) (fun _ => ?_)
    refine W_skip ?_
    refine W_seq ?_
    refine W_region ?_
    refine L_g 1 (by kernel_rfl) ?_
    refine L_nil ?_
    refine W_block ?_
    refine W_loop (fun i fr hh => ∃ l, l ≤ n + 2 ∧ i = n + 2 - l ∧ fr 0 = ptr w ∧ fr 1 = ptr rw ∧ fr 5 = .int .i64 ((k : Int) - 1) ∧ fr 10 = .int .i64 ((l : Int) - 1) ∧ Sm Nix h hh) (n + 2) ?_ ?_
    ·
      exact ⟨0, Nat.zero_le _, rfl, by kernel_rfl, by kernel_rfl, by kernel_rfl, by kernel_rfl, T4⟩
    rintro i2 fr2 h5 ⟨l, hl, hi2, y0, y1, y5, y10, t5⟩
    have R5 := R.ext t5
    have H5 := H.ext t5
    refine W_set (k := 0) y0 ?_
    refine W_set (k := 1) y1 ?_
    refine W_set (k := 5) y5 ?_
    refine W_set (k := 10) y10 ?_
    refine W_seq ?_
    refine W_seq ?_
    refine W_region ?_
    refine L_g 4 (by kernel_rfl) ?_
    refine L_ld _ rfl rfl (by kernel_rfl) (R5.cl.ld (o := 0) (by kernel_rfl) rfl) ?_
    refine L_ln _ rfl rfl (by kernel_rfl) ((Ws.lenV (n := n) (by have := R5.stWs; rw [S.ok.st] at this; exact this) u64r)) ?_
    refine L_i (((l : Int) - 1)) ((n : Nat)) (.bool (decide (l < n + 2))) rfl rfl (by kernel_rfl) (by kernel_rfl) rfl (by congr 1; rw [decide_eq_decide]; omega) ?_
    refine L_nil ?_
    refine W_cond (decide (l < n + 2)) (by kernel_rfl) (fun hb => ?_) (fun hb => ?_)
    ·
      have hlt2 : l < n + 2 := by simpa using hb
      refine W_skip ?_
      refine W_seq ?_
      refine W_block ?_
      refine W_seq ?_
      refine W_region ?_
      refine L_g 3 (by kernel_rfl) ?_
      refine L_c rfl rfl (by kernel_rfl) (H5.under S.len hle hK ((k : Int) - 1) ((l : Int) - 1)) ?_
      rintro v6 h6 ⟨u6, e6, g6, t6⟩
      dsimp only at e6 g6 t6
      subst e6
      have R6 := R5.ext t6
      refine L_g 5 (by kernel_rfl) ?_
      refine L_nil ?_
      refine W_seq ?_
      refine W_region ?_
      refine L_g 3 (by kernel_rfl) ?_
      refine L_c rfl rfl (by kernel_rfl) (R6.under S hrl hK ((k : Int) - 1) ((l : Int) - 1)) ?_
      rintro v7 h7 ⟨u7, e7, g7, t7⟩
      dsimp only at e7 g7 t7
      subst e7
      refine L_g 5 (by kernel_rfl) ?_
      refine L_nil ?_
      refine W_seq ?_
      refine W_region ?_
      refine L_g 2 (by kernel_rfl) ?_
      refine L_c rfl rfl (by kernel_rfl) (same_ok (g6.ext t7) g7 (by have := unV_le (n := n) (p := (k : Int) - 1) (q := (l : Int) - 1) hle; omega)) ?_
      rintro v8 h8 e8
      cases e8
      refine L_g 4 (by kernel_rfl) ?_
      refine L_want (by kernel_rfl) ?_
      refine L_i ((chk2 n ((k : Int) - 1) ((l : Int) - 1))) ((chk2 n ((k : Int) - 1) ((l : Int) - 1))) (.bool false) rfl rfl (by kernel_rfl) (by kernel_rfl) rfl (by simp) ?_
      refine L_g 1 (by kernel_rfl) ?_
      refine L_nil ?_
      refine W_cond false (by kernel_rfl) (fun e => by cases e) (fun _ => ?_)
      refine W_skip ?_
      refine W_region ?_
      refine L_g 1 (by kernel_rfl) ?_
      refine L_i (((l : Int) - 1)) (1) (.int .i64 (((l + 1 : Nat) : Int) - 1)) rfl rfl (by kernel_rfl) (by kernel_rfl) rfl (inc1 (by omega)) ?_
      refine L_g 1 (by kernel_rfl) ?_
      refine L_nil ?_
      exact ⟨n + 2 - (l + 1), by omega, l + 1, by omega, rfl, by kernel_rfl, by kernel_rfl, by kernel_rfl, by kernel_rfl, (t5.ext t6).ext t7⟩
    ·
      have hge2 : ¬ l < n + 2 := by simpa using hb
      refine W_exit ?_
      repeat with_reducible refine then_exit ?_
      refine exit_here ?_
      refine W_region ?_
      refine L_g 1 (by kernel_rfl) ?_
      refine L_i (((k : Int) - 1)) (1) (.int .i64 (((k + 1 : Nat) : Int) - 1)) rfl rfl (by kernel_rfl) (by kernel_rfl) rfl (inc1 (by omega)) ?_
      refine L_g 1 (by kernel_rfl) ?_
      refine L_nil ?_
      exact ⟨n + 2 - (k + 1), by omega, k + 1, by omega, rfl, by kernel_rfl, by kernel_rfl, by kernel_rfl, t5⟩
  ·
    refine W_exit ?_
    repeat with_reducible refine then_exit ?_
    refine exit_here ?_
    refine W_seq ?_
    refine W_region ?_
    refine L_g 1 (by kernel_rfl) ?_
    refine L_nil ?_
    refine W_ret ?_
    repeat first | with_reducible refine then_ret ?_ | with_reducible refine blk_ret ?_
    refine done_of (v := .bool true) (.inl rfl) (by kernel_rfl) ?_
    exact ⟨rfl, t2⟩
end
end Go.Proofs.YtdaedcoolcicoaaGreat
namespace Go.Proofs.YtdaedcoolcicoaaGreat
noncomputable section
open Go Go.X Go.Arm
def passM (m : Fl) (n : Nat) (p q v : Int) : Fl := if chk2 n p q = 0 then m.pass p.toNat q.toNat v else m
def passR (r : Rm) (n : Nat) (p q v : Int) : Rm := if chk2 n p q = 0 then r.pass p.toNat q.toNat v else r
def dlvM (m : Fl) (n : Nat) (p q : Int) : Fl := if chk2 n p q = 0 then m.dlv p.toNat q.toNat else m
def dlvR (r : Rm) (n : Nat) (p q : Int) : Rm := if chk2 n p q = 0 then r.dlv p.toNat q.toNat else r
def dlvB (m : Fl) (n : Nat) (p q : Int) : Bool := if chk2 n p q = 0 then !(m.q (p, q)).isEmpty else false
def begM (m : Fl) (n : Nat) (p : Int) : Fl := if chk1 n p = 0 then (match m.sh with | none => m.begin_ p.toNat | some _ => m) else m
def begR (m : Fl) (r : Rm) (n : Nat) (p : Int) : Rm := if chk1 n p = 0 then (match m.sh with | none => (openG r n n n n).recd p.toNat | some _ => r) else r
def begE (m : Fl) (n : Nat) (p : Int) : Int := if chk1 n p = 0 then (match m.sh with | none => 0 | some _ => 6) else 11
/-- What Taken gives: whether, the error, states, how many, channels, the flow. -/
structure Tk where
  d : Bool
  e : Int
  l : List Int
  n : Nat
  c : Nat → Nat → List Int
def tk (m : Fl) (n : Nat) : Tk := match m.sh with
  | none => ⟨false, 6, [], 0, fun _ _ => []⟩
  | some s => if s.op = [] then ⟨true, 0, (List.range n).map fun i : Nat => (kget s.st (i : Int)).getD 0, n, fun i j => Fl.ctOf s ((i : Nat), (j : Nat))⟩ else ⟨false, 0, [], 0, fun _ _ => []⟩
def tkM (m : Fl) : Fl := match m.sh with
  | none => m
  | some s => if s.op = [] then { m with sh := none } else m
def tkR (m : Fl) (r : Rm) : Rm := match m.sh with
  | none => r
  | some s => if s.op = [] then { r with bg := false } else r
section
variable {h0 h : AH} {ks : List (Nat × List Value)} {w rw w2 rw2 n k : Nat} {m m' m2 : Fl} {r r2 : Rm} {p q v : Int}
theorem works_ok {h : AH} : Arm.Calls Tryz.prog 11 [] h (fun r => r = (.bool true, h)) := ⟨_, eRun_known (P := Tryz.prog) rfl h rfl, fun a ha => by cases List.mem_singleton.1 ha; rfl⟩
theorem Bd.K (B : Bd n k m r) (hk : k ≤ 80) (hn : n ≤ 6) : m.le 560 := Fl.le_mono B.le (Nat.mul_le_mul hk (show n + 1 ≤ 7 by omega))
theorem Sim.okm (S : Sim n m r) (hs : m.sh = none) (w : Int × Int) : Th.mark ∉ m.q w := by
  rcases S.ph with ⟨_, _, _, h⟩ | ⟨s, h, _⟩
  · exact Fl.mkn_mem (h.nm w)
  · rw [hs] at h; cases h
theorem op_pass1 (I : Sv h0 h ks w rw w2 rw2 m r m2 r2) (S : Sim n m r) (B : Bd n k m r) (hk : k ≤ 80) (hn : n ≤ 6) :
    Arm.Calls Tryz.prog 36 [ptr w, .int .i64 p, .int .i64 q, .int .i64 v] h (fun x => x.1 = .int .i64 (chk2 n p q) ∧ Sv h0 x.2 ks w rw w2 rw2 (passM m n p q v) r m2 r2) := by
  obtain ⟨A, C, X, V, W, I⟩ := I
  have hl := S.len
  by_cases hc : chk2 n p q = 0
  · obtain ⟨h1, h2, h3, h4, h5⟩ := chk2_iff.1 hc
    obtain ⟨a, rfl⟩ := Int.eq_ofNat_of_zero_le h1
    obtain ⟨b, rfl⟩ := Int.eq_ofNat_of_zero_le h3
    unfold passM
    rw [if_pos hc, hc]
    refine RX_mono (I.p.a.pass (p := a) (q := b) (v := v) (by omega) (by omega) (by omega) (B.K hk hn) (by decide)) ?_
    rintro ⟨u, h'⟩ ⟨e, Q⟩
    exact ⟨e, I.prog Q⟩
  · unfold passM
    rw [if_neg hc]
    obtain ⟨_, _, _, _, F⟩ := I.p.a.f0
    rw [← hl] at hc ⊢
    refine RX_mono (pass_err F hc) ?_
    rintro ⟨u, h'⟩ ⟨e, t⟩
    exact ⟨e, _, _, _, _, _, I.ext t⟩
theorem op_pass2 (I : Sv h0 h ks w rw w2 rw2 m' r m2 r2) (S : Sim n m r) (B : Bd n k m r) (hk : k ≤ 80) :
    Arm.Calls Tryz.prog 37 [ptr rw, .int .i64 p, .int .i64 q, .int .i64 v] h (fun x => x.1 = .int .i64 (chk2 n p q) ∧ Sv h0 x.2 ks w rw w2 rw2 m' (passR r n p q v) m2 r2) := by
  obtain ⟨A, C, X, V, W, I⟩ := I
  have hl := S.ok.st
  by_cases hc : chk2 n p q = 0
  · obtain ⟨h1, h2, h3, h4, h5⟩ := chk2_iff.1 hc
    obtain ⟨a, rfl⟩ := Int.eq_ofNat_of_zero_le h1
    obtain ⟨b, rfl⟩ := Int.eq_ofNat_of_zero_le h3
    unfold passR
    rw [if_pos hc, hc]
    refine RX_mono (rpass_ok (p := a) (q := b) (v := v) I.p.ra (by rw [hl]; exact S.ok) (by omega) (by omega) (by omega) B.rle (by omega)) ?_
    rintro ⟨u, h'⟩ ⟨e, Q⟩
    exact ⟨e, I.ref Q⟩
  · unfold passR
    rw [if_neg hc]
    rw [← hl] at hc ⊢
    refine RX_mono (rpass_err I.p.ra hc) ?_
    rintro ⟨u, h'⟩ e
    cases e
    exact ⟨rfl, _, _, _, _, _, I⟩
theorem sim_pass (S : Sim n m r) (B : Bd n k m r) : Sim n (passM m n p q v) (passR r n p q v) ∧ Bd n (k + 1) (passM m n p q v) (passR r n p q v) := by
  unfold passM passR
  by_cases hc : chk2 n p q = 0
  · obtain ⟨h1, h2, h3, h4, h5⟩ := chk2_iff.1 hc
    rw [if_pos hc, if_pos hc]
    exact ⟨S.pass (by omega) (by omega) (by omega), B.pass⟩
  · rw [if_neg hc, if_neg hc]
    exact ⟨S, B.up (Nat.le_succ _)⟩
theorem op_dlv1 (I : Sv h0 h ks w rw w2 rw2 m r m2 r2) (S : Sim n m r) (B : Bd n k m r) (hk : k ≤ 80) (hn : n ≤ 6) :
    Arm.Calls Tryz.prog 44 [ptr w, .int .i64 p, .int .i64 q] h (fun x => x.1 = .tuple ⟨[.bool (dlvB m n p q), .int .i64 (chk2 n p q)]⟩ ∧ Sv h0 x.2 ks w rw w2 rw2 (dlvM m n p q) r m2 r2) := by
  obtain ⟨A, C, X, V, W, I⟩ := I
  have hl := S.len
  by_cases hc : chk2 n p q = 0
  · obtain ⟨h1, h2, h3, h4, h5⟩ := chk2_iff.1 hc
    obtain ⟨a, rfl⟩ := Int.eq_ofNat_of_zero_le h1
    obtain ⟨b, rfl⟩ := Int.eq_ofNat_of_zero_le h3
    unfold dlvM dlvB
    rw [if_pos hc, if_pos hc, hc]
    refine RX_mono (I.p.a.dlv (p := a) (q := b) (K := 560) (by omega) (by omega) (by omega) (by omega) (B.K hk hn) (fun s hs w => Nat.le_trans (B.leC s hs w) (by omega)) (by decide) (fun hs => S.okm hs _)) ?_
    rintro ⟨u, h'⟩ ⟨e, Q⟩
    exact ⟨e, I.prog Q⟩
  · unfold dlvM dlvB
    rw [if_neg hc, if_neg hc]
    obtain ⟨_, _, _, _, F⟩ := I.p.a.f0
    rw [← hl] at hc ⊢
    refine RX_mono (dlv_err (v := 0) F hc) ?_
    rintro ⟨u, h'⟩ ⟨e, t⟩
    exact ⟨e, _, _, _, _, _, I.ext t⟩
theorem op_dlv2 (I : Sv h0 h ks w rw w2 rw2 m' r m2 r2) (S : Sim n m r) (B : Bd n k m r) (hk : k ≤ 80) (hn : n ≤ 6) :
    Arm.Calls Tryz.prog 45 [ptr rw, .int .i64 p, .int .i64 q] h (fun x => x.1 = .tuple ⟨[.bool (dlvB m n p q), .int .i64 (chk2 n p q)]⟩ ∧ Sv h0 x.2 ks w rw w2 rw2 m' (dlvR r n p q) m2 r2) := by
  obtain ⟨A, C, X, V, W, I⟩ := I
  have hl := S.ok.st
  by_cases hc : chk2 n p q = 0
  · obtain ⟨h1, h2, h3, h4, h5⟩ := chk2_iff.1 hc
    obtain ⟨a, rfl⟩ := Int.eq_ofNat_of_zero_le h1
    obtain ⟨b, rfl⟩ := Int.eq_ofNat_of_zero_le h3
    unfold dlvR dlvB
    rw [if_pos hc, if_pos hc, hc]
    show Arm.Calls Tryz.prog 45 _ _ (fun x => _ ∧ Sv h0 x.2 ks w rw w2 rw2 m' (r.dlv a b) m2 r2)
    have hw := S.w a b (by omega) (by omega)
    rw [← hw]
    match hm : r.w a b with
    | [] =>
      refine RX_mono (rdlv_nil (p := a) (q := b) I.p.ra (by rw [hl]; exact S.ok) (by omega) (by omega) (by omega) hm) ?_
      rintro ⟨u, h'⟩ e
      cases e
      have : r.dlv a b = r := by unfold Rm.dlv; rw [hm]
      rw [this]
      exact ⟨rfl, _, _, _, _, _, I⟩
    | .num v :: l =>
      refine RX_mono (rdlv_num (p := a) (q := b) I.p.ra (by rw [hl]; exact S.ok) (by omega) (by omega) (by omega) hm (K := 80) (fun hb => ?_) (fun i j => Nat.le_trans (B.rle i j) hk) (fun i j => Nat.le_trans (B.rleC i j) hk) (by decide)) ?_
      · rw [hl]
        rcases S.ph with ⟨_, h6, _⟩ | ⟨s, _, _, h6⟩
        · rw [h6] at hb; cases hb
        · exact h6.sn
      · rintro ⟨u, h'⟩ ⟨e, Q⟩
        exact ⟨e, I.ref Q⟩
    | .mark :: l =>
      refine RX_mono (rdlv_mark (p := a) (q := b) I.p.ra (by rw [hl]; exact S.ok) (by omega) (by omega) (by omega) hm (K := 80) ?_ (by omega) (fun i j => Nat.le_trans (B.rle i j) hk) (by decide)) ?_
      · rw [hl]
        rcases S.ph with ⟨h6, _⟩ | ⟨s, _, _, h6⟩
        · exact (S.okm h6 _ (by rw [← hw, hm]; exact List.mem_cons_self)).elim
        · exact h6.sn
      · rintro ⟨u, h'⟩ ⟨e, Q⟩
        exact ⟨e, I.ref Q⟩
  · unfold dlvR dlvB
    rw [if_neg hc, if_neg hc]
    rw [← hl] at hc ⊢
    refine RX_mono (rdlv_err I.p.ra hc) ?_
    rintro ⟨u, h'⟩ e
    cases e
    exact ⟨rfl, _, _, _, _, _, I⟩
theorem sim_dlv (S : Sim n m r) (B : Bd n k m r) : Sim n (dlvM m n p q) (dlvR r n p q) ∧ Bd n (k + 1) (dlvM m n p q) (dlvR r n p q) := by
  unfold dlvM dlvR
  by_cases hc : chk2 n p q = 0
  · obtain ⟨h1, h2, h3, h4, h5⟩ := chk2_iff.1 hc
    rw [if_pos hc, if_pos hc]
    exact ⟨S.dlv (by omega) (by omega) (by omega), B.dlv S.len⟩
  · rw [if_neg hc, if_neg hc]
    exact ⟨S, B.up (Nat.le_succ _)⟩
theorem op_beg1 (I : Sv h0 h ks w rw w2 rw2 m r m2 r2) (S : Sim n m r) (B : Bd n k m r) (hk : k ≤ 80) (hn : n ≤ 6) :
    Arm.Calls Tryz.prog 38 [ptr w, .int .i64 p] h (fun x => x.1 = .int .i64 (begE m n p) ∧ Sv h0 x.2 ks w rw w2 rw2 (begM m n p) r m2 r2) := by
  obtain ⟨A, C, X, V, W, I⟩ := I
  have hl := S.len
  by_cases hc : chk1 n p = 0
  · obtain ⟨h1, h2⟩ := chk1_iff.1 hc
    obtain ⟨a, rfl⟩ := Int.eq_ofNat_of_zero_le h1
    unfold begM begE
    rw [if_pos hc, if_pos hc]
    cases hs : m.sh with
    | none =>
      dsimp only
      refine RX_mono (I.p.a.begin_ (p := a) hs (by omega) (by omega) (B.K hk hn) (by decide)) ?_
      rintro ⟨u, h'⟩ ⟨e, Q⟩
      exact ⟨e, I.prog Q⟩
    | some s =>
      dsimp only
      refine RX_mono (I.p.a.begin_on (p := a) hs (by omega)) ?_
      rintro ⟨u, h'⟩ ⟨e, t⟩
      exact ⟨e, _, _, _, _, _, I.ext t⟩
  · unfold begM begE
    rw [if_neg hc, if_neg hc]
    obtain ⟨_, _, _, _, F⟩ := I.p.a.f0
    rw [← hl] at hc
    refine RX_mono (begin_err (q := 0) (v := 0) F hc) ?_
    rintro ⟨u, h'⟩ ⟨e, t⟩
    rw [chk1_ne hc] at e
    exact ⟨e, _, _, _, _, _, I.ext t⟩
theorem op_beg2 (I : Sv h0 h ks w rw w2 rw2 m' r m2 r2) (S : Sim n m r) (B : Bd n k m r) (hk : k ≤ 80) (hn : n ≤ 6) :
    Arm.Calls Tryz.prog 39 [ptr rw, .int .i64 p] h (fun x => x.1 = .int .i64 (begE m n p) ∧ Sv h0 x.2 ks w rw w2 rw2 m' (begR m r n p) m2 r2) := by
  obtain ⟨A, C, X, V, W, I⟩ := I
  have hl := S.ok.st
  by_cases hc : chk1 n p = 0
  · obtain ⟨h1, h2⟩ := chk1_iff.1 hc
    obtain ⟨a, rfl⟩ := Int.eq_ofNat_of_zero_le h1
    unfold begR begE
    rw [if_pos hc, if_pos hc]
    rcases S.ph with ⟨hs, hb, _⟩ | ⟨s, hs, _, hS⟩
    · rw [hs]
      dsimp only
      have := rbegin_ok (p := a) I.p.ra (by rw [hl]; exact S.ok) (by omega) hb (by omega) B.rle (by omega)
      rw [hl] at this
      refine RX_mono this ?_
      rintro ⟨u, h'⟩ ⟨e, Q⟩
      exact ⟨e, I.ref Q⟩
    · rw [hs]
      dsimp only
      refine RX_mono (rbegin_on (p := a) I.p.ra (by omega) hS.bg) ?_
      rintro ⟨u, h'⟩ e
      cases e
      exact ⟨rfl, _, _, _, _, _, I⟩
  · unfold begR begE
    rw [if_neg hc, if_neg hc]
    refine RX_mono (rbegin_err I.p.ra (chk_out hc hl)) ?_
    rintro ⟨u, h'⟩ e
    cases e
    exact ⟨rfl, _, _, _, _, _, I⟩
theorem sim_beg (S : Sim n m r) (B : Bd n k m r) : Sim n (begM m n p) (begR m r n p) ∧ Bd n (k + 1) (begM m n p) (begR m r n p) := by
  unfold begM begR
  by_cases hc : chk1 n p = 0
  · obtain ⟨h1, h2⟩ := chk1_iff.1 hc
    rw [if_pos hc, if_pos hc]
    cases hs : m.sh with
    | none => exact ⟨S.begin_ hs (by omega), B.begin_ S.len⟩
    | some s => exact ⟨S, B.up (Nat.le_succ _)⟩
  · rw [if_neg hc, if_neg hc]
    exact ⟨S, B.up (Nat.le_succ _)⟩
theorem Vw.nil {h : AH} (c : Nat → Nat → List Int) : Vw h (.slice none 0 0) 0 c := ⟨[], Sd.nil, fun i hi => by omega⟩
theorem Vw.congr {h : AH} {v : Value} {n : Nat} {c c' : Nat → Nat → List Int} (H : Vw h v n c) (hc : ∀ i j, i < n → j < n → c' i j = c i j) : Vw h v n c' := by
  obtain ⟨cs, h1, h2⟩ := H
  refine ⟨cs, h1, fun i hi => ?_⟩
  obtain ⟨u, ds, e1, e2, e3⟩ := h2 i hi
  refine ⟨u, ds, e1, e2, fun j hj => ?_⟩
  rw [hc i j hi hj]; exact e3 j hj
theorem Vw.ext {h h' : AH} {v : Value} {n : Nat} {c : Nat → Nat → List Int} (H : Vw h v n c) (t : Sm Nix h h') : Vw h' v n c := by
  obtain ⟨cs, h1, h2⟩ := H
  refine ⟨cs, h1.ext t, fun i hi => ?_⟩
  obtain ⟨u, ds, e1, e2, e3⟩ := h2 i hi
  exact ⟨u, ds, e1, e2.ext t, fun j hj => (e3 j hj).imp fun z hz => ⟨hz.1, hz.2.ext t⟩⟩
theorem op_tk1 (I : Sv h0 h ks w rw w2 rw2 m r m2 r2) (S : Sim n m r) (B : Bd n k m r) (hk : k ≤ 80) (hn : n ≤ 6) :
    Arm.Calls Tryz.prog 40 [ptr w] h (fun x => ∃ u1 u2, x.1 = .tuple ⟨[.agg ⟨[u1, u2]⟩, .bool (tk m n).d, .int .i64 (tk m n).e]⟩ ∧ Sv h0 x.2 ks w rw w2 rw2 (tkM m) r m2 r2 ∧ h.next ≤ x.2.next ∧ rw < h.next ∧
      ∀ h' T, Sm T x.2 h' → (∀ y, T y → y < h.next ∨ x.2.next ≤ y) → Sd h' 1 u1 (tk m n).l.length ((tk m n).l.map iv) ∧ Vw h' u2 (tk m n).n (tk m n).c) := by
  obtain ⟨A, C, X, V, W, I⟩ := I
  have hl := S.len
  have hrw := I.p.ra.cl.lt
  rcases S.ph with ⟨hs, _, _⟩ | ⟨s, hs, _, hS⟩
  · have e1 : tk m n = ⟨false, 6, [], 0, fun _ _ => []⟩ := by unfold tk; rw [hs]
    have e2 : tkM m = m := by unfold tkM; rw [hs]
    rw [e1, e2]
    refine RX_mono (I.p.a.taken_off hs) ?_
    rintro ⟨u, h'⟩ ⟨e, t⟩
    exact ⟨_, _, e, ⟨_, _, _, _, _, I.ext t⟩, t.nx, hrw, fun h2 T _ _ => ⟨Sd.nil, Vw.nil _⟩⟩
  · by_cases ho : s.op = []
    · have e1 : tk m n = ⟨true, 0, (List.range n).map fun i : Nat => (kget s.st (i : Int)).getD 0, n, fun i j => Fl.ctOf s ((i : Nat), (j : Nat))⟩ := by unfold tk; rw [hs]; exact if_pos ho
      have e2 : tkM m = { m with sh := none } := by unfold tkM; rw [hs]; exact if_pos ho
      rw [e1, e2]
      refine RX_mono (I.p.a.taken hs ho (by omega) B.leC (by omega)) ?_
      rw [hl]
      rintro ⟨u, h'⟩ ⟨a, b, e, ⟨ca, A1, la, ra⟩, ⟨cb, B1, lb, rb⟩, ha, hb, Q⟩
      have nx : h.next ≤ h'.next := Q.choose_spec.choose_spec.2.1.nx
      refine ⟨_, _, e, I.prog Q, nx, hrw, fun h2 T t hT => ?_⟩
      have out : ∀ y, h.next ≤ y → y < h'.next → ¬ T y := fun y h1 h2 hy => by
        have hT := hT y hy
        dsimp only at hT
        rcases hT with e | e <;> omega
      dsimp only at A1 B1 ra rb ⊢
      constructor
      · have eca : ca = ((List.range n).map fun i : Nat => (kget s.st (i : Int)).getD 0).map iv := by
          apply List.ext_getElem?
          intro i
          by_cases hi : i < n
          · rw [ra i hi]; simp [hi]
          · rw [List.getElem?_eq_none (by omega), List.getElem?_eq_none (by simp; omega)]
        rw [List.length_map, List.length_range, ← eca]
        exact (A1.sm t (out a ha A1.lt)).sd la
      · refine ⟨cb, (B1.sm t (out b hb B1.lt)).sd lb, fun i hi => ?_⟩
        obtain ⟨R, e1, row⟩ := rb i hi
        have row2 := row.sm t hT
        obtain ⟨_, cr, c1, c2, c3⟩ := row2
        refine ⟨_, cr, e1, c1.sd c2, fun j hj => ?_⟩
        obtain ⟨z, z1, z2, _⟩ := c3 j hj
        exact ⟨z, z1, z2.sd⟩
    · have e1 : tk m n = ⟨false, 0, [], 0, fun _ _ => []⟩ := by unfold tk; rw [hs]; exact if_neg ho
      have e2 : tkM m = m := by unfold tkM; rw [hs]; exact if_neg ho
      rw [e1, e2]
      refine RX_mono (I.p.a.taken_part hs ho) ?_
      rintro ⟨u, h'⟩ ⟨e, t⟩
      exact ⟨_, _, e, ⟨_, _, _, _, _, I.ext t⟩, t.nx, hrw, fun h2 T _ _ => ⟨Sd.nil, Vw.nil _⟩⟩
theorem op_tk2 (I : Sv h0 h ks w rw w2 rw2 m' r m2 r2) (S : Sim n m r) (hn : n ≤ 6) :
    Arm.Calls Tryz.prog 41 [ptr rw] h (fun x => ∃ u1 u2, x.1 = .tuple ⟨[.agg ⟨[u1, u2]⟩, .bool (tk m n).d, .int .i64 (tk m n).e]⟩ ∧ (∃ a c b d e f, u1 = .slice a b c ∧ u2 = .slice d e f) ∧ Sv h0 x.2 ks w rw w2 rw2 m' (tkR m r) m2 r2 ∧ Sm (fun y => y = rw) h x.2 ∧
      Sd x.2 1 u1 (tk m n).l.length ((tk m n).l.map iv) ∧ Vw x.2 u2 (tk m n).n (tk m n).c) := by
  obtain ⟨A, C, X, V, W, I⟩ := I
  have hl := S.ok.st
  rcases S.ph with ⟨hs, hb, _⟩ | ⟨s, hs, ⟨tot, hN⟩, hS⟩
  · have e1 : tk m n = ⟨false, 6, [], 0, fun _ _ => []⟩ := by unfold tk; rw [hs]
    have e2 : tkR m r = r := by unfold tkR; rw [hs]
    rw [e1, e2]
    refine RX_mono (rtaken_off I.p.ra hb) ?_
    rintro ⟨u, h'⟩ ⟨e, t⟩
    exact ⟨_, _, e, ⟨_, _, _, _, _, _, rfl, rfl⟩, ⟨_, _, _, _, _, I.ext t⟩, t.of, Sd.nil, Vw.nil _⟩
  · have full := Sim.full hN hS
    refine RX_mono (rtaken_ok I.p.ra (by rw [hl]; exact S.ok) (by rw [hl]; exact hS.sn) hS.bg (by omega)) ?_
    rw [hl]
    rintro ⟨u, h'⟩ (⟨e, t, a, b, ha, hb, hbad⟩ | ⟨e, hg, R, t⟩)
    · have ho : ¬ s.op = [] := fun x => by
        have := full.2 x a b ha hb
        rcases hbad with y | y
        · rw [this.1] at y; cases y
        · rw [this.2] at y; cases y
      have e1 : tk m n = ⟨false, 0, [], 0, fun _ _ => []⟩ := by unfold tk; rw [hs]; exact if_neg ho
      have e2 : tkR m r = r := by unfold tkR; rw [hs]; exact if_neg ho
      rw [e1, e2]
      exact ⟨_, _, e, ⟨_, _, _, _, _, _, rfl, rfl⟩, ⟨_, _, _, _, _, I.ext t⟩, t.of, Sd.nil, Vw.nil _⟩
    · have ho : s.op = [] := full.1 hg
      have e1 : tk m n = ⟨true, 0, (List.range n).map fun i : Nat => (kget s.st (i : Int)).getD 0, n, fun i j => Fl.ctOf s ((i : Nat), (j : Nat))⟩ := by unfold tk; rw [hs]; exact if_pos ho
      have e2 : tkR m r = { r with bg := false } := by unfold tkR; rw [hs]; exact if_pos ho
      rw [e1, e2]
      dsimp only at R t
      have G1 : Ws h' 1 (V .sh) r.sh.length (r.sh.map nv) := (R.lay.gr .sh).ws
      have G2 : Ws h' 1 (V .ct) r.sc ((List.range r.sc).map fun i => V (.cr i)) := (R.lay.gr .ct).ws
      obtain ⟨a1, c1, f1⟩ := G1.sd.form
      obtain ⟨a2, c2, f2⟩ := G2.sd.form
      refine ⟨_, _, e, ⟨a1, c1, _, a2, _, c2, f1, f2⟩, I.ref ⟨V, R, t.mono (fun x hx => .inl hx), fun b hb => .inl hb⟩, t, ?_, ?_⟩
      · have el : r.sh = (List.range n).map fun i : Nat => (kget s.st (i : Int)).getD 0 := by
          apply List.ext_getElem?
          intro i
          by_cases hi : i < n
          · have := hS.sh i hi (Snap.allRec hN ho hi)
            rw [List.getElem?_eq_getElem (by rw [hS.sn.sh]; exact hi)] at this ⊢
            rw [List.getElem?_map, List.getElem?_range hi]
            show some _ = some ((kget s.st ((i : Nat) : Int)).getD 0)
            rw [← this]; rfl
          · rw [List.getElem?_eq_none (by rw [hS.sn.sh]; omega), List.getElem?_eq_none (by simp; omega)]
        dsimp only
        rw [← el]
        exact G1.sd
      · refine ⟨_, by have := G2.sd; rw [hS.sn.sc] at this; exact this, fun i hi => ?_⟩
        have G3 : Ws h' 1 (V (.cr i)) (r.cc i) ((List.range (r.cc i)).map fun j => V (.cc i j)) := (R.lay.gr (.cr i)).ws
        rw [hS.sn.cc i hi] at G3
        refine ⟨_, _, by rw [List.getElem?_map, List.getElem?_range hi]; rfl, G3.sd, fun j hj => ⟨V (.cc i j), by rw [List.getElem?_map, List.getElem?_range hj]; rfl, ?_⟩⟩
        have G4 : Gr h' 1 (V (.cc i j)) (r.c i j).length ((r.c i j).map nv) := R.lay.gr (.cc i j)
        rw [hS.c i j hi hj] at G4
        exact G4.sd
theorem sim_tk (S : Sim n m r) (B : Bd n k m r) : Sim n (tkM m) (tkR m r) ∧ Bd n (k + 1) (tkM m) (tkR m r) := by
  unfold tkM tkR
  cases hs : m.sh with
  | none => exact ⟨S, B.up (Nat.le_succ _)⟩
  | some s =>
    dsimp only
    by_cases ho : s.op = []
    · rw [if_pos ho, if_pos ho]
      exact ⟨S.taken hs ho, B.taken.up (Nat.le_succ _)⟩
    · rw [if_neg ho, if_neg ho]
      exact ⟨S, B.up (Nat.le_succ _)⟩
theorem tk_le (S : Sim n m r) (B : Bd n k m r) (hk : k ≤ 80) (hn : n ≤ 6) : (tk m n).l.length ≤ 6 ∧ (tk m n).n ≤ 6 ∧ ∀ i j, ((tk m n).c i j).length ≤ 80 := by
  rcases S.ph with ⟨hs, _, _⟩ | ⟨s, hs, _, hS⟩
  · have e1 : tk m n = ⟨false, 6, [], 0, fun _ _ => []⟩ := by unfold tk; rw [hs]
    rw [e1]; simp
  · by_cases ho : s.op = []
    · have e1 : tk m n = ⟨true, 0, (List.range n).map fun i : Nat => (kget s.st (i : Int)).getD 0, n, fun i j => Fl.ctOf s ((i : Nat), (j : Nat))⟩ := by unfold tk; rw [hs]; exact if_pos ho
      rw [e1]
      refine ⟨by simpa using hn, hn, fun i j => Nat.le_trans (B.leC s hs _) hk⟩
    · have e1 : tk m n = ⟨false, 0, [], 0, fun _ _ => []⟩ := by unfold tk; rw [hs]; exact if_neg ho
      rw [e1]; simp
theorem op_copy2 {V : RL → Value} (R : RR h rw V r) (S : Sim n m r) (B : Bd n k m r) (hk : k ≤ 80) (hn : n ≤ 6) (h1 : 0 < n) :
    Arm.Calls Tryz.prog 35 [ptr rw] h (fun x => ∃ rc W, x.1 = ptr rc ∧ RR x.2 rc W (cpG r n n 0 r.so r.so 0) ∧ Sm Nix h x.2 ∧ ∀ b, RF rc W b → h.next ≤ b) := by
  have hl := S.ok.st
  have hz : (∀ i, i < r.so → r.co i = r.st.length ∧ i < r.sc ∧ r.cc i = r.st.length) ∧ r.rc.length < 1000000 ∧ r.sh.length < 1000000 ∧ r.so < 1000000 := by
    rw [hl]
    rcases S.sz with h | ⟨h2, h3, h4⟩
    · refine ⟨fun i hi => ?_, by rw [h.rc]; omega, by rw [h.sh]; omega, by rw [h.so]; omega⟩
      rw [h.so] at hi
      exact ⟨h.co i hi, by rw [h.sc]; exact hi, h.cc i hi⟩
    · rw [h2, h3, h4]
      exact ⟨fun i hi => by omega, by simp, by simp, by decide⟩
  have := rcopy_ok (K := 80) R (by rw [hl]; exact S.ok) hz.1 (by omega) hz.2.1 hz.2.2.1 hz.2.2.2 (by omega) (fun i j => Nat.le_trans (B.rle i j) hk) (fun i j => Nat.le_trans (B.rleC i j) hk) (by decide)
  rw [hl] at this
  exact this
end
end
end Go.Proofs.YtdaedcoolcicoaaGreat
namespace Go.Proofs.YtdaedcoolcicoaaGreat
noncomputable section
open Go Go.X Go.Arm
structure Ac where
  what : Int
  p : Int
  q : Int
  v : Int
def acw (a : Ac) : List Value := [.int .u8 a.what, .int .i64 a.p, .int .i64 a.q, .int .i64 a.v]
theorem u65 : Tryz.prog.underlying 65 = some (.slice 75) := by kernel_rfl
theorem s75 : szOf Tryz.prog 75 = some 4 := by kernel_rfl
theorem acw_at : ∀ {l : List Ac} {i : Nat} {a : Ac}, l[i]? = some a → ∀ j, j < 4 → (l.flatMap acw)[i * 4 + j]? = (acw a)[j]?
  | [], i, a, e, _, _ => by simp at e
  | y :: r, 0, a, e, j, hj => by
    have e : some y = some a := by simpa using e
    cases e
    rw [List.flatMap_cons, List.getElem?_append_left (by show 0 * 4 + j < 4; omega)]
    simp
  | y :: r, i + 1, a, e, j, hj => by
    have e : r[i]? = some a := by simpa using e
    have ih := acw_at e j hj
    rw [List.flatMap_cons, List.getElem?_append_right (by show 4 ≤ _; omega)]
    show (r.flatMap acw)[(i + 1) * 4 + j - 4]? = _
    rw [show (i + 1) * 4 + j - 4 = i * 4 + j by omega]
    exact ih
theorem ld_four {P : Program} {el : TypeId} {h : AH} {b o : Nat} {l : List Value} (hs : aggT P el 4 = true) (hl : l.length = 4) (hc : ∀ j, j < 4 → h.cell ⟨b, o + j, none⟩ = l[j]?) : aLoad P el ⟨b, o, none⟩ h = some (.agg ⟨l⟩) := by
  unfold aggT at hs
  cases hu : P.underlying el with
  | none => rw [hu] at hs; cases hs
  | some d =>
    rw [hu] at hs
    simp only [Bool.and_eq_true] at hs
    cases hz : szOf P el with
    | none => rw [hz] at hs; cases hs.2
    | some j =>
      rw [hz] at hs
      have : j = 4 := Nat.eq_of_beq_eq_true hs.2
      subst this
      unfold aLoad
      simp only [hu, hs.1, if_true, hz]
      match l, hl with
      | [x, y, z, w], _ =>
        have e : h.cells ⟨b, o, none⟩ 0 4 = some [x, y, z, w] := by
          have c0 := hc 0 (by omega)
          have c1 := hc 1 (by omega)
          have c2 := hc 2 (by omega)
          have c3 := hc 3 (by omega)
          simp only [AH.cells]
          rw [show h.cell ⟨b, o + 0, none⟩ = some x from c0, show h.cell ⟨b, o + (0 + 1), none⟩ = some y from c1, show h.cell ⟨b, o + (0 + 1 + 1), none⟩ = some z from c2, show h.cell ⟨b, o + (0 + 1 + 1 + 1), none⟩ = some w from c3]
        rw [e]
theorem acAt {h : AH} {v : Value} {l : List Ac} {i : Nat} (G : Sd h 4 v l.length (l.flatMap acw)) (hi : i < l.length) : ∃ pa a, l[i]? = some a ∧ aIndex Tryz.prog 65 v (.int .i64 i) = some (.pointer (some pa)) ∧ aLoad Tryz.prog 75 pa h = some (.agg ⟨acw a⟩) := by
  obtain ⟨b, o, _, e2, e3⟩ := G.at u65 s75 hi .i64
  have ex : l[i]? = some l[i] := List.getElem?_eq_getElem hi
  exact ⟨_, l[i], ex, e2, ld_four (by kernel_rfl) rfl (fun j hj => (e3 j hj).trans (acw_at ex j hj))⟩
theorem rem_eq8 {xo yo : Operand} {h : AH} (a b : Int) : aBin Tryz.prog .rem 5 xo yo (.int .u8 a) (.int .u8 b) h = aPure Tryz.prog (Op.intDiv .rem .u8 a b) := by kernel_rfl
theorem ev_rem8 {n : Nat} {f : Fr} {h : AH} {x : Operand} {a d : Int} (hx : ev n f x = some (.int .u8 a)) (h0 : 0 ≤ a ∧ a < 256) (hd : a % 7 = d) : evVal Tryz.prog n f h (.binOp .rem 5 x (.const (.int .u8 7)) 5) = some (.int .u8 d) := by
  have hy : ev n f (.const (.int .u8 7)) = some (.int .u8 7) := rfl
  simp only [evVal, hx, hy]
  rw [rem_eq8]
  unfold Op.intDiv
  rw [if_neg (by decide)]
  show aPure Tryz.prog (Sem.pure (.int .u8 (Int.tmod a 7))) = _
  rw [Int.tmod_eq_emod_of_nonneg h0.1, hd]
  rfl
end
end Go.Proofs.YtdaedcoolcicoaaGreat
namespace Go.Proofs.YtdaedcoolcicoaaGreat
noncomputable section
open Go Go.X Go.Arm
theorem ev_beq {n : Nat} {f : Fr} {h : AH} {x y : Operand} {b : Bool} (hx : ev n f x = some (.bool b)) (hy : ev n f y = some (.bool b)) : evVal Tryz.prog n f h (.binOp .eql 4 x y 4) = some (.bool true) := by
  simp only [evVal, hx, hy]
  cases b <;> kernel_rfl
set_option maxHeartbeats 16000000 in
theorem flows_ok {h : AH} {s0v lv : Value} {l : List Int} {L : List Ac} (H0 : Sd h 1 s0v l.length (l.map iv)) (HL : Sd h 4 lv L.length (L.flatMap acw)) (hL : ∀ a, a ∈ L → 0 ≤ a.what ∧ a.what < 256) :
    Arm.Calls Tryz.prog 8 [s0v, lv] h (fun r => r.1 = .bool true) := by
  refine Calls_of_W (n := 194) (fn := Tryz.f8) (by kernel_rfl) rfl rfl (Nat.le_of_ble_eq_true rfl) trivial ⟨.inr (by simp), rfl⟩ ?_
  refine W_seq ?_
  refine W_region ?_
  refine L_g 1 (by kernel_rfl) ?_
  refine L_nil ?_
  refine W_seq ?_
  refine W_seq ?_
  have hcase : (6 < l.length ∧ l.length ≤ 64) ∨ 80 < l.length ∨ (64 < l.length ∧ l.length ≤ 80 ∧ 80 < L.length) ∨ (l.length ≤ 6 ∧ 80 < L.length) ∨ (64 < l.length ∧ l.length ≤ 80 ∧ L.length ≤ 80) ∨ (l.length < 1 ∧ L.length ≤ 80) ∨ (1 ≤ l.length ∧ l.length ≤ 6 ∧ L.length ≤ 80) := by omega
  rcases hcase with hc | hc | hc | hc | hc | hc | hc
  ·
    refine W_region ?_
    refine L_g 1 (by kernel_rfl) ?_
    refine L_ln _ rfl rfl (by kernel_rfl) (H0.len u64r) ?_
    refine L_i ((l.length : Int)) (6) (.bool true) rfl rfl (by kernel_rfl) (by kernel_rfl) rfl (by first | (simp; done) | (simp; omega)) ?_
    refine L_g 2 (by kernel_rfl) ?_
    refine L_want (by kernel_rfl) ?_
    refine L_ln _ rfl rfl (by kernel_rfl) (H0.len u64r) ?_
    refine L_want (by kernel_rfl) ?_
    refine L_i ((l.length : Int)) (64) (.bool true) rfl rfl (by kernel_rfl) (by kernel_rfl) rfl (by first | (simp; done) | (simp; omega)) ?_
    refine L_g 11 (by kernel_rfl) ?_
    refine L_nil ?_
    refine W_cond true (by kernel_rfl) (fun _ => ?_) (fun e => by cases e)
    refine W_seq ?_
    refine W_region ?_
    refine L_c rfl rfl (by kernel_rfl) (works_ok) ?_
    rintro v3 h3 e3
    cases e3
    refine L_g 1 (by kernel_rfl) ?_
    refine L_nil ?_
    refine W_ret ?_
    repeat first | with_reducible refine then_ret ?_ | with_reducible refine blk_ret ?_
    refine done_of (v := .bool true) (.inl rfl) (by kernel_rfl) ?_
    rfl
  ·
    refine W_region ?_
    refine L_g 1 (by kernel_rfl) ?_
    refine L_ln _ rfl rfl (by kernel_rfl) (H0.len u64r) ?_
    refine L_i ((l.length : Int)) (6) (.bool true) rfl rfl (by kernel_rfl) (by kernel_rfl) rfl (by first | (simp; done) | (simp; omega)) ?_
    refine L_g 2 (by kernel_rfl) ?_
    refine L_want (by kernel_rfl) ?_
    refine L_ln _ rfl rfl (by kernel_rfl) (H0.len u64r) ?_
    refine L_want (by kernel_rfl) ?_
    refine L_i ((l.length : Int)) (64) (.bool false) rfl rfl (by kernel_rfl) (by kernel_rfl) rfl (by first | (simp; done) | (simp; omega)) ?_
    refine L_g 3 (by kernel_rfl) ?_
    refine L_want (by kernel_rfl) ?_
    refine L_ln _ rfl rfl (by kernel_rfl) (H0.len u64r) ?_
    refine L_want (by kernel_rfl) ?_
    refine L_i ((l.length : Int)) (80) (.bool true) rfl rfl (by kernel_rfl) (by kernel_rfl) rfl (by first | (simp; done) | (simp; omega)) ?_
    refine L_g 6 (by kernel_rfl) ?_
    refine L_nil ?_
    refine W_cond true (by kernel_rfl) (fun _ => ?_) (fun e => by cases e)
    refine W_seq ?_
    refine W_region ?_
    refine L_c rfl rfl (by kernel_rfl) (works_ok) ?_
    rintro v3 h3 e3
    cases e3
    refine L_g 1 (by kernel_rfl) ?_
    refine L_nil ?_
    refine W_ret ?_
    repeat first | with_reducible refine then_ret ?_ | with_reducible refine blk_ret ?_
    refine done_of (v := .bool true) (.inl rfl) (by kernel_rfl) ?_
    rfl
  ·
    refine W_region ?_
    refine L_g 1 (by kernel_rfl) ?_
    refine L_ln _ rfl rfl (by kernel_rfl) (H0.len u64r) ?_
    refine L_i ((l.length : Int)) (6) (.bool true) rfl rfl (by kernel_rfl) (by kernel_rfl) rfl (by first | (simp; done) | (simp; omega)) ?_
    refine L_g 2 (by kernel_rfl) ?_
    refine L_want (by kernel_rfl) ?_
    refine L_ln _ rfl rfl (by kernel_rfl) (H0.len u64r) ?_
    refine L_want (by kernel_rfl) ?_
    refine L_i ((l.length : Int)) (64) (.bool false) rfl rfl (by kernel_rfl) (by kernel_rfl) rfl (by first | (simp; done) | (simp; omega)) ?_
    refine L_g 3 (by kernel_rfl) ?_
    refine L_want (by kernel_rfl) ?_
    refine L_ln _ rfl rfl (by kernel_rfl) (H0.len u64r) ?_
    refine L_want (by kernel_rfl) ?_
    refine L_i ((l.length : Int)) (80) (.bool false) rfl rfl (by kernel_rfl) (by kernel_rfl) rfl (by first | (simp; done) | (simp; omega)) ?_
    refine L_g 3 (by kernel_rfl) ?_
    refine L_want (by kernel_rfl) ?_
    refine L_ln _ rfl rfl (by kernel_rfl) (HL.len u65) ?_
    refine L_want (by kernel_rfl) ?_
    refine L_i ((L.length : Int)) (80) (.bool true) rfl rfl (by kernel_rfl) (by kernel_rfl) rfl (by first | (simp; done) | (simp; omega)) ?_
    refine L_g 1 (by kernel_rfl) ?_
    refine L_nil ?_
    refine W_cond true (by kernel_rfl) (fun _ => ?_) (fun e => by cases e)
    refine W_seq ?_
    refine W_region ?_
    refine L_c rfl rfl (by kernel_rfl) (works_ok) ?_
    rintro v3 h3 e3
    cases e3
    refine L_g 1 (by kernel_rfl) ?_
    refine L_nil ?_
    refine W_ret ?_
    repeat first | with_reducible refine then_ret ?_ | with_reducible refine blk_ret ?_
    refine done_of (v := .bool true) (.inl rfl) (by kernel_rfl) ?_
    rfl
  ·
    refine W_region ?_
    refine L_g 1 (by kernel_rfl) ?_
    refine L_ln _ rfl rfl (by kernel_rfl) (H0.len u64r) ?_
    refine L_i ((l.length : Int)) (6) (.bool false) rfl rfl (by kernel_rfl) (by kernel_rfl) rfl (by first | (simp; done) | (simp; omega)) ?_
    refine L_g 7 (by kernel_rfl) ?_
    refine L_want (by kernel_rfl) ?_
    refine L_ln _ rfl rfl (by kernel_rfl) (H0.len u64r) ?_
    refine L_want (by kernel_rfl) ?_
    refine L_i ((l.length : Int)) (80) (.bool false) rfl rfl (by kernel_rfl) (by kernel_rfl) rfl (by first | (simp; done) | (simp; omega)) ?_
    refine L_g 3 (by kernel_rfl) ?_
    refine L_want (by kernel_rfl) ?_
    refine L_ln _ rfl rfl (by kernel_rfl) (HL.len u65) ?_
    refine L_want (by kernel_rfl) ?_
    refine L_i ((L.length : Int)) (80) (.bool true) rfl rfl (by kernel_rfl) (by kernel_rfl) rfl (by first | (simp; done) | (simp; omega)) ?_
    refine L_g 1 (by kernel_rfl) ?_
    refine L_nil ?_
    refine W_cond true (by kernel_rfl) (fun _ => ?_) (fun e => by cases e)
    refine W_seq ?_
    refine W_region ?_
    refine L_c rfl rfl (by kernel_rfl) (works_ok) ?_
    rintro v3 h3 e3
    cases e3
    refine L_g 1 (by kernel_rfl) ?_
    refine L_nil ?_
    refine W_ret ?_
    repeat first | with_reducible refine then_ret ?_ | with_reducible refine blk_ret ?_
    refine done_of (v := .bool true) (.inl rfl) (by kernel_rfl) ?_
    rfl
  ·
    refine W_region ?_
    refine L_g 1 (by kernel_rfl) ?_
    refine L_ln _ rfl rfl (by kernel_rfl) (H0.len u64r) ?_
    refine L_i ((l.length : Int)) (6) (.bool true) rfl rfl (by kernel_rfl) (by kernel_rfl) rfl (by first | (simp; done) | (simp; omega)) ?_
    refine L_g 2 (by kernel_rfl) ?_
    refine L_want (by kernel_rfl) ?_
    refine L_ln _ rfl rfl (by kernel_rfl) (H0.len u64r) ?_
    refine L_want (by kernel_rfl) ?_
    refine L_i ((l.length : Int)) (64) (.bool false) rfl rfl (by kernel_rfl) (by kernel_rfl) rfl (by first | (simp; done) | (simp; omega)) ?_
    refine L_g 3 (by kernel_rfl) ?_
    refine L_want (by kernel_rfl) ?_
    refine L_ln _ rfl rfl (by kernel_rfl) (H0.len u64r) ?_
    refine L_want (by kernel_rfl) ?_
    refine L_i ((l.length : Int)) (80) (.bool false) rfl rfl (by kernel_rfl) (by kernel_rfl) rfl (by first | (simp; done) | (simp; omega)) ?_
    refine L_g 3 (by kernel_rfl) ?_
    refine L_want (by kernel_rfl) ?_
    refine L_ln _ rfl rfl (by kernel_rfl) (HL.len u65) ?_
    refine L_want (by kernel_rfl) ?_
    refine L_i ((L.length : Int)) (80) (.bool false) rfl rfl (by kernel_rfl) (by kernel_rfl) rfl (by first | (simp; done) | (simp; omega)) ?_
    refine L_g 1 (by kernel_rfl) ?_
    refine L_nil ?_
    refine W_cond false (by kernel_rfl) (fun e => by cases e) (fun _ => ?_)
    refine W_skip ?_
    refine W_seq ?_
    refine W_region ?_
    refine L_g 1 (by kernel_rfl) ?_
    refine L_c rfl rfl (by kernel_rfl) (new_err H0 (by omega)) ?_
    rintro v1 h1 e1
    cases e1
    refine L_g 5 (by kernel_rfl) ?_
    refine L_nil ?_
    refine W_seq ?_
    refine W_region ?_
    refine L_g 1 (by kernel_rfl) ?_
    refine L_c rfl rfl (by kernel_rfl) (rnew_err H0 (by omega)) ?_
    rintro v2 h2 e2
    cases e2
    refine L_g 5 (by kernel_rfl) ?_
    refine L_nil ?_
    refine W_seq ?_
    refine W_seq ?_
    refine W_region ?_
    refine L_g 3 (by kernel_rfl) ?_
    refine L_nil ?_
    refine W_cond false (by kernel_rfl) (fun e => by cases e) (fun _ => ?_)
    refine W_skip ?_
    refine W_seq ?_
    refine W_seq ?_
    refine W_region ?_
    refine L_g 2 (by kernel_rfl) ?_
    refine L_nil ?_
    refine W_cond true (by kernel_rfl) (fun _ => ?_) (fun e => by cases e)
    refine W_seq ?_
    refine W_region ?_
    refine L_g 3 (by kernel_rfl) ?_
    refine L_want (by kernel_rfl) ?_
    refine L_c rfl rfl (by kernel_rfl) (works_ok) ?_
    rintro v3 h3 e3
    cases e3
    refine L_g 2 (by kernel_rfl) ?_
    refine L_nil ?_
    refine W_ret ?_
    repeat first | with_reducible refine then_ret ?_ | with_reducible refine blk_ret ?_
    refine done_of (v := .bool true) (.inl rfl) (by kernel_rfl) ?_
    rfl
  ·
    refine W_region ?_
    refine L_g 1 (by kernel_rfl) ?_
    refine L_ln _ rfl rfl (by kernel_rfl) (H0.len u64r) ?_
    refine L_i ((l.length : Int)) (6) (.bool false) rfl rfl (by kernel_rfl) (by kernel_rfl) rfl (by first | (simp; done) | (simp; omega)) ?_
    refine L_g 7 (by kernel_rfl) ?_
    refine L_want (by kernel_rfl) ?_
    refine L_ln _ rfl rfl (by kernel_rfl) (H0.len u64r) ?_
    refine L_want (by kernel_rfl) ?_
    refine L_i ((l.length : Int)) (80) (.bool false) rfl rfl (by kernel_rfl) (by kernel_rfl) rfl (by first | (simp; done) | (simp; omega)) ?_
    refine L_g 3 (by kernel_rfl) ?_
    refine L_want (by kernel_rfl) ?_
    refine L_ln _ rfl rfl (by kernel_rfl) (HL.len u65) ?_
    refine L_want (by kernel_rfl) ?_
    refine L_i ((L.length : Int)) (80) (.bool false) rfl rfl (by kernel_rfl) (by kernel_rfl) rfl (by first | (simp; done) | (simp; omega)) ?_
    refine L_g 1 (by kernel_rfl) ?_
    refine L_nil ?_
    refine W_cond false (by kernel_rfl) (fun e => by cases e) (fun _ => ?_)
    refine W_skip ?_
    refine W_seq ?_
    refine W_region ?_
    refine L_g 1 (by kernel_rfl) ?_
    refine L_c rfl rfl (by kernel_rfl) (new_err H0 (by omega)) ?_
    rintro v1 h1 e1
    cases e1
    refine L_g 5 (by kernel_rfl) ?_
    refine L_nil ?_
    refine W_seq ?_
    refine W_region ?_
    refine L_g 1 (by kernel_rfl) ?_
    refine L_c rfl rfl (by kernel_rfl) (rnew_err H0 (by omega)) ?_
    rintro v2 h2 e2
    cases e2
    refine L_g 5 (by kernel_rfl) ?_
    refine L_nil ?_
    refine W_seq ?_
    refine W_seq ?_
    refine W_region ?_
    refine L_g 3 (by kernel_rfl) ?_
    refine L_nil ?_
    refine W_cond false (by kernel_rfl) (fun e => by cases e) (fun _ => ?_)
    refine W_skip ?_
    refine W_seq ?_
    refine W_seq ?_
    refine W_region ?_
    refine L_g 2 (by kernel_rfl) ?_
    refine L_nil ?_
    refine W_cond true (by kernel_rfl) (fun _ => ?_) (fun e => by cases e)
    refine W_seq ?_
    refine W_region ?_
    refine L_g 3 (by kernel_rfl) ?_
    refine L_want (by kernel_rfl) ?_
    refine L_c rfl rfl (by kernel_rfl) (works_ok) ?_
    rintro v3 h3 e3
    cases e3
    refine L_g 2 (by kernel_rfl) ?_
    refine L_nil ?_
    refine W_ret ?_
    repeat first | with_reducible refine then_ret ?_ | with_reducible refine blk_ret ?_
    refine done_of (v := .bool true) (.inl rfl) (by kernel_rfl) ?_
    rfl
  ·
    refine W_region ?_
    refine L_g 1 (by kernel_rfl) ?_
    refine L_ln _ rfl rfl (by kernel_rfl) (H0.len u64r) ?_
    refine L_i ((l.length : Int)) (6) (.bool false) rfl rfl (by kernel_rfl) (by kernel_rfl) rfl (by first | (simp; done) | (simp; omega)) ?_
    refine L_g 7 (by kernel_rfl) ?_
    refine L_want (by kernel_rfl) ?_
    refine L_ln _ rfl rfl (by kernel_rfl) (H0.len u64r) ?_
    refine L_want (by kernel_rfl) ?_
    refine L_i ((l.length : Int)) (80) (.bool false) rfl rfl (by kernel_rfl) (by kernel_rfl) rfl (by first | (simp; done) | (simp; omega)) ?_
    refine L_g 3 (by kernel_rfl) ?_
    refine L_want (by kernel_rfl) ?_
    refine L_ln _ rfl rfl (by kernel_rfl) (HL.len u65) ?_
    refine L_want (by kernel_rfl) ?_
    refine L_i ((L.length : Int)) (80) (.bool false) rfl rfl (by kernel_rfl) (by kernel_rfl) rfl (by first | (simp; done) | (simp; omega)) ?_
    refine L_g 1 (by kernel_rfl) ?_
    refine L_nil ?_
    refine W_cond false (by kernel_rfl) (fun e => by cases e) (fun _ => ?_)
    refine W_skip ?_
    refine W_seq ?_
    refine W_region ?_
    refine L_g 1 (by kernel_rfl) ?_
    refine L_c rfl rfl (by kernel_rfl) (new_ok (X := []) (fun x hx => by cases hx) H0 (by omega) (by omega)) ?_
    rintro v1 h1 ⟨w, sb, wb, st, e1, F1, t1, nf, ns, nw⟩
    dsimp only at e1 F1 t1
    subst e1
    have Q1 : FQ h1 w [w, sb, wb] [w, sb, wb] (Fl.new_ l) := .off rfl rfl F1
    refine L_g 5 (by kernel_rfl) ?_
    refine L_nil ?_
    refine W_seq ?_
    refine W_region ?_
    refine L_g 1 (by kernel_rfl) ?_
    refine L_c rfl rfl (by kernel_rfl) (rnew_ok (H0.ext t1) (by omega) (by omega)) ?_
    rintro v2 h2 ⟨rf, V, e2, R2, t2, nV⟩
    dsimp only at e2 R2 t2
    subst e2
    have I2 := P1.new Q1 t1 (fun x hx => by simp only [List.mem_cons, List.not_mem_nil, or_false] at hx; omega) R2 t2 nV
    refine L_g 5 (by kernel_rfl) ?_
    refine L_nil ?_
    refine W_seq ?_
    refine W_seq ?_
    refine W_region ?_
    refine L_g 3 (by kernel_rfl) ?_
    refine L_nil ?_
    refine W_cond false (by kernel_rfl) (fun e => by cases e) (fun _ => ?_)
    refine W_skip ?_
    refine W_seq ?_
    refine W_seq ?_
    refine W_region ?_
    refine L_g 2 (by kernel_rfl) ?_
    refine L_nil ?_
    refine W_cond false (by kernel_rfl) (fun e => by cases e) (fun _ => ?_)
    refine W_skip ?_
    refine W_seq ?_
    refine W_region ?_
    refine L_g 1 (by kernel_rfl) ?_
    refine L_c rfl rfl (by kernel_rfl) (I2.a.copy (show 0 < l.length by omega) (show l.length < 1000000 by omega)) ?_
    rintro v3 h3 ⟨c, C, e3, Q3, t3, nC⟩
    dsimp only at e3 Q3 t3 nC
    subst e3
    refine L_g 1 (by kernel_rfl) ?_
    refine L_c rfl rfl (by kernel_rfl) (op_copy2 (I2.ra.ext t3) Sim.new (Bd.new l) (by omega) (by omega) (by omega)) ?_
    rintro v4 h4 ⟨rc, W, e4, R4, t4, nW⟩
    dsimp only at e4 R4 t4 nW
    subst e4
    have I4 := P1.copies I2 Q3 t3 nC R4 t4 nW
    refine L_g 2 (by kernel_rfl) ?_
    refine L_nil ?_
    refine W_seq ?_
    refine W_seq ?_
    refine W_region ?_
    refine L_g 1 (by kernel_rfl) ?_
    refine L_nil ?_
    refine W_block ?_
    refine W_loop (fun i fr hh => ∃ k w rf c rc m r m2 r2, k ≤ L.length ∧ i = L.length - k ∧ fr 1 = lv ∧ fr 5 = ptr w ∧ fr 7 = ptr rf ∧ fr 9 = ptr c ∧ fr 10 = ptr rc ∧ fr 11 = .int .i64 k ∧
          Sv h hh [] w rf c rc m r m2 r2 ∧ Sim l.length m r ∧ Sim l.length m2 r2 ∧ Bd l.length k m r ∧ Bd l.length k m2 r2) (L.length) ?_ ?_
    ·
      exact ⟨0, w, rf, c, rc, _, _, _, _, Nat.zero_le _, rfl, by kernel_rfl, by kernel_rfl, by kernel_rfl, by kernel_rfl, by kernel_rfl, by kernel_rfl, I4, Sim.new, Sim.new.copy, Bd.new l, (Bd.new l).copy _ _ _ _ _⟩
    rintro i1 fr1 h5 ⟨k, w, rf, c, rc, m, r, m2, r2, hk, hi1, y1, y5, y7, y9, y10, y11, I5, S5, S6, B5, B6⟩
    have HL5 := HL.sm I5.t (fun b hb hx => by have := HL.lt hb; omega)
    refine W_set (k := 1) y1 ?_
    refine W_set (k := 5) y5 ?_
    refine W_set (k := 7) y7 ?_
    refine W_set (k := 9) y9 ?_
    refine W_set (k := 10) y10 ?_
    refine W_set (k := 11) y11 ?_
    refine W_seq ?_
    refine W_seq ?_
    refine W_region ?_
    refine L_g 2 (by kernel_rfl) ?_
    refine L_ln _ rfl rfl (by kernel_rfl) (HL5.len u65) ?_
    refine L_i ((k : Int)) ((L.length : Nat)) (.bool (decide (k < L.length))) rfl rfl (by kernel_rfl) (by kernel_rfl) rfl (by congr 1; rw [decide_eq_decide]; omega) ?_
    refine L_nil ?_
    refine W_cond (decide (k < L.length)) (by kernel_rfl) (fun hb => ?_) (fun hb => ?_)
    ·
      have hlt : k < L.length := by simpa using hb
      obtain ⟨pa, a, ea, ia, la⟩ := acAt HL5 hlt
      have wa := hL a (List.mem_of_getElem? ea)
      refine W_skip ?_
      refine W_seq ?_
      refine W_block ?_
      refine W_seq ?_
      refine W_region ?_
      refine L_g 2 (by kernel_rfl) ?_
      refine L_ix _ rfl rfl (by kernel_rfl) (by kernel_rfl) (ia) ?_
      refine L_ld _ rfl rfl (by kernel_rfl) (la) ?_
      refine L_nw (Al.cells [Value.int .u8 0, Value.int .i64 0, Value.int .i64 0, Value.int .i64 0]) (.ptr) rfl rfl (by kernel_rfl) ?_
      have c6 : Cl (h5.push (Al.cells [Value.int .u8 0, Value.int .i64 0, Value.int .i64 0, Value.int .i64 0]).obj) h5.next [Value.int .u8 0, Value.int .i64 0, Value.int .i64 0, Value.int .i64 0] := Cl.new h5 _
      have t6 : Sm Nix h5 (h5.push (Al.cells [Value.int .u8 0, Value.int .i64 0, Value.int .i64 0, Value.int .i64 0]).obj) := .push h5 _
      have n6 : (h5.push (Al.cells [Value.int .u8 0, Value.int .i64 0, Value.int .i64 0, Value.int .i64 0]).obj).next = h5.next + 1 := rfl
      generalize h5.push (Al.cells [Value.int .u8 0, Value.int .i64 0, Value.int .i64 0, Value.int .i64 0]).obj = h6 at c6 t6 n6 ⊢
      obtain ⟨h7, e7, cA, t7, n7⟩ := c6.storeS (P := Tryz.prog) (T := 75) (v := .agg ⟨acw a⟩) (cs := acw a) (by kernel_rfl) rfl rfl (fun y hy => by
        unfold acw at hy
        simp only [List.mem_cons, List.not_mem_nil, or_false] at hy
        rcases hy with rfl | rfl | rfl | rfl <;> rfl)
      have I6 := I5.add (t6.trans t7 (fun x hx => .inr (by omega))) cA (Nat.le_refl _)
      refine L_st _ rfl rfl rfl (by kernel_rfl) (by kernel_rfl) (e7) ?_
      refine L_nil ?_
      refine W_seq ?_
      refine W_region ?_
      refine L_g 1 (by kernel_rfl) ?_
      refine L_nil ?_
      refine W_seq ?_
      refine W_seq ?_
      have hd : a.what % 7 = 0 ∨ a.what % 7 = 1 ∨ a.what % 7 = 2 ∨ a.what % 7 = 3 ∨ a.what % 7 = 4 ∨ a.what % 7 = 5 ∨ a.what % 7 = 6 := by omega
      rcases hd with hd | hd | hd | hd | hd | hd | hd
      ·
        refine W_region ?_
        refine L_g 1 (by kernel_rfl) ?_
        refine L_ld _ rfl rfl (by kernel_rfl) ((I6.kept (e := (h5.next, acw a)) (by simp)).ld (o := 0) (by kernel_rfl) rfl) ?_
        refine L_p (.int .u8 0) rfl (ev_rem8 (by kernel_rfl) wa hd) ?_
        refine L_nil ?_
        refine W_block ?_
        refine W_seq ?_
        refine W_region ?_
        refine L_g 2 (by kernel_rfl) ?_
        refine L_nil ?_
        refine W_cond true (by kernel_rfl) (fun _ => ?_) (fun e => by cases e)
        refine W_drawn (by kernel_rfl) ?_
        refine D_e (e := 7) (l := [0, 1, 2, 3, 4, 5, 6, 8, 9, 10, 11, 12, 13, 14]) (s' := [8, 9, 10, 11, 12, 13, 14]) (by kernel_rfl) (by kernel_rfl) rfl (by kernel_rfl) Rk_nil ?_
        refine NS_b 2 (by kernel_rfl) ?_
        refine NS_ld _ rfl rfl (by kernel_rfl) (by kernel_rfl) (by kernel_rfl) ((I6.kept (e := (h5.next, acw a)) (by simp)).ld (o := 1) (by kernel_rfl) rfl) ?_
        refine NS_b 1 (by kernel_rfl) ?_
        refine NS_ld _ rfl rfl (by kernel_rfl) (by kernel_rfl) (by kernel_rfl) ((I6.kept (e := (h5.next, acw a)) (by simp)).ld (o := 2) (by kernel_rfl) rfl) ?_
        refine NS_b 1 (by kernel_rfl) ?_
        refine NS_ld _ rfl rfl (by kernel_rfl) (by kernel_rfl) (by kernel_rfl) ((I6.kept (e := (h5.next, acw a)) (by simp)).ld (o := 3) (by kernel_rfl) rfl) ?_
        refine NS_b 2 (by kernel_rfl) ?_
        refine NS_ld _ rfl rfl (by kernel_rfl) (by kernel_rfl) (by kernel_rfl) ((I6.kept (e := (h5.next, acw a)) (by simp)).ld (o := 1) (by kernel_rfl) rfl) ?_
        refine NS_b 1 (by kernel_rfl) ?_
        refine NS_ld _ rfl rfl (by kernel_rfl) (by kernel_rfl) (by kernel_rfl) ((I6.kept (e := (h5.next, acw a)) (by simp)).ld (o := 2) (by kernel_rfl) rfl) ?_
        refine NS_b 1 (by kernel_rfl) ?_
        refine NS_ld _ rfl rfl (by kernel_rfl) (by kernel_rfl) (by kernel_rfl) ((I6.kept (e := (h5.next, acw a)) (by simp)).ld (o := 3) (by kernel_rfl) rfl) ?_
        refine NS_nil ?_
        refine L_c rfl rfl (by kernel_rfl) (op_pass1 (p := a.p) (q := a.q) (v := a.v) I6 S5 B5 (by omega) (by omega)) ?_
        rintro v7 h8 ⟨e8, I7⟩
        dsimp only at e8 I7
        subst e8
        refine L_nil ⟨rfl, ?_⟩
        refine D_e (e := 15) (l := []) (s' := []) (by kernel_rfl) (by kernel_rfl) rfl (by kernel_rfl) (Rk_1 rfl rfl (Rk_1 rfl rfl (Rk_ld _ rfl rfl rfl (by kernel_rfl) ((I7.kept (e := (h5.next, acw a)) (by simp)).ld (o := 1) (by kernel_rfl) rfl) (by kernel_rfl) (Rk_1 rfl rfl (Rk_ld _ rfl rfl rfl (by kernel_rfl) ((I7.kept (e := (h5.next, acw a)) (by simp)).ld (o := 2) (by kernel_rfl) rfl) (by kernel_rfl) (Rk_1 rfl rfl (Rk_ld _ rfl rfl rfl (by kernel_rfl) ((I7.kept (e := (h5.next, acw a)) (by simp)).ld (o := 3) (by kernel_rfl) rfl) (by kernel_rfl) Rk_nil))))))) ?_
        refine NS_nil ?_
        refine L_c rfl rfl (by kernel_rfl) (op_pass2 (p := a.p) (q := a.q) (v := a.v) I7 S5 B5 (by omega)) ?_
        rintro v8 h9 ⟨e9, I8⟩
        dsimp only at e9 I8
        subst e9
        obtain ⟨S9, B9⟩ := sim_pass (n := l.length) (p := a.p) (q := a.q) (v := a.v) S5 B5
        have I9 := I8.drop
        have S10 := S6
        have B10 := B6.up (Nat.le_succ k)
        refine L_nil ⟨rfl, ?_⟩
        refine D_l (l := [16, 17]) (by kernel_rfl) (by kernel_rfl) Rk_nil ?_
        refine NS_i ((chk2 l.length a.p a.q)) ((chk2 l.length a.p a.q)) (.bool true) rfl rfl (by kernel_rfl) (by kernel_rfl) (by kernel_rfl) (by kernel_rfl) rfl (by simp) ?_
        refine NS_b 1 (by kernel_rfl) ?_
        refine NS_nil ?_
        refine W_seq ?_
        refine W_region ?_
        refine L_g 5 (by kernel_rfl) ?_
        obtain ⟨A9, C9, X9, V9, W9, J9⟩ := I9
        refine L_want (by kernel_rfl) ?_
        refine L_c rfl rfl (by kernel_rfl) (looks_ok (K := 560) J9.p.a J9.p.ra S9 (B9.K (by omega) (by omega)) (fun i j => Nat.le_trans (B9.rle i j) (by omega)) (by decide) (by omega)) ?_
        rintro v17 h17 ⟨e17, t17⟩
        dsimp only at e17 t17
        subst e17
        have IA : Sv h h17 [] _ _ _ _ _ _ _ _ := ⟨A9, C9, X9, V9, W9, J9.ext t17⟩
        refine L_g 2 (by kernel_rfl) ?_
        refine L_nil ?_
        refine W_cond false (by kernel_rfl) (fun e => by cases e) (fun _ => ?_)
        refine W_skip ?_
        refine W_region ?_
        refine L_g 1 (by kernel_rfl) ?_
        refine L_i ((k : Int)) (1) (.int .i64 ((k + 1 : Nat) : Int)) rfl rfl (by kernel_rfl) (by kernel_rfl) rfl (inc_ok (by omega)) ?_
        refine L_g 1 (by kernel_rfl) ?_
        refine L_nil ?_
        exact ⟨L.length - (k + 1), by omega, k + 1, _, _, _, _, _, _, _, _, by omega, rfl, by kernel_rfl, by kernel_rfl, by kernel_rfl, by kernel_rfl, by kernel_rfl, by kernel_rfl, IA, S9, S10, B9, B10⟩
      ·
        refine W_region ?_
        refine L_g 1 (by kernel_rfl) ?_
        refine L_ld _ rfl rfl (by kernel_rfl) ((I6.kept (e := (h5.next, acw a)) (by simp)).ld (o := 0) (by kernel_rfl) rfl) ?_
        refine L_p (.int .u8 1) rfl (ev_rem8 (by kernel_rfl) wa hd) ?_
        refine L_nil ?_
        refine W_block ?_
        refine W_seq ?_
        refine W_region ?_
        refine L_g 2 (by kernel_rfl) ?_
        refine L_nil ?_
        refine W_cond false (by kernel_rfl) (fun e => by cases e) (fun _ => ?_)
        refine W_seq ?_
        refine W_region ?_
        refine L_g 2 (by kernel_rfl) ?_
        refine L_nil ?_
        refine W_cond false (by kernel_rfl) (fun e => by cases e) (fun _ => ?_)
        refine W_seq ?_
        refine W_region ?_
        refine L_g 2 (by kernel_rfl) ?_
        refine L_nil ?_
        refine W_cond false (by kernel_rfl) (fun e => by cases e) (fun _ => ?_)
        refine W_seq ?_
        refine W_region ?_
        refine L_g 2 (by kernel_rfl) ?_
        refine L_nil ?_
        refine W_cond false (by kernel_rfl) (fun e => by cases e) (fun _ => ?_)
        refine W_seq ?_
        refine W_region ?_
        refine L_g 2 (by kernel_rfl) ?_
        refine L_ld _ rfl rfl (by kernel_rfl) ((I6.kept (e := (h5.next, acw a)) (by simp)).ld (o := 1) (by kernel_rfl) rfl) ?_
        refine L_g 1 (by kernel_rfl) ?_
        refine L_ld _ rfl rfl (by kernel_rfl) ((I6.kept (e := (h5.next, acw a)) (by simp)).ld (o := 2) (by kernel_rfl) rfl) ?_
        refine L_c rfl rfl (by kernel_rfl) (op_dlv1 (p := a.p) (q := a.q) I6 S5 B5 (by omega) (by omega)) ?_
        rintro v7 h8 ⟨e8, I7⟩
        dsimp only at e8 I7
        subst e8
        refine L_g 5 (by kernel_rfl) ?_
        refine L_nil ?_
        refine W_seq ?_
        refine W_region ?_
        refine L_g 2 (by kernel_rfl) ?_
        refine L_ld _ rfl rfl (by kernel_rfl) ((I7.kept (e := (h5.next, acw a)) (by simp)).ld (o := 1) (by kernel_rfl) rfl) ?_
        refine L_g 1 (by kernel_rfl) ?_
        refine L_ld _ rfl rfl (by kernel_rfl) ((I7.kept (e := (h5.next, acw a)) (by simp)).ld (o := 2) (by kernel_rfl) rfl) ?_
        refine L_c rfl rfl (by kernel_rfl) (op_dlv2 (p := a.p) (q := a.q) I7 S5 B5 (by omega) (by omega)) ?_
        rintro v8 h9 ⟨e9, I8⟩
        dsimp only at e9 I8
        subst e9
        obtain ⟨S9, B9⟩ := sim_dlv (n := l.length) (p := a.p) (q := a.q) S5 B5
        have I9 := I8.drop
        have S10 := S6
        have B10 := B6.up (Nat.le_succ k)
        refine L_g 5 (by kernel_rfl) ?_
        refine L_nil ?_
        refine W_region ?_
        refine L_g 2 (by kernel_rfl) ?_
        refine L_p (.bool true) rfl (ev_beq (b := dlvB m l.length a.p a.q) (by kernel_rfl) (by kernel_rfl)) ?_
        refine L_g 3 (by kernel_rfl) ?_
        refine L_want (by kernel_rfl) ?_
        refine L_i ((chk2 l.length a.p a.q)) ((chk2 l.length a.p a.q)) (.bool true) rfl rfl (by kernel_rfl) (by kernel_rfl) rfl (by simp) ?_
        refine L_g 2 (by kernel_rfl) ?_
        refine L_nil ?_
        refine W_seq ?_
        refine W_region ?_
        refine L_g 5 (by kernel_rfl) ?_
        obtain ⟨A9, C9, X9, V9, W9, J9⟩ := I9
        refine L_want (by kernel_rfl) ?_
        refine L_c rfl rfl (by kernel_rfl) (looks_ok (K := 560) J9.p.a J9.p.ra S9 (B9.K (by omega) (by omega)) (fun i j => Nat.le_trans (B9.rle i j) (by omega)) (by decide) (by omega)) ?_
        rintro v17 h17 ⟨e17, t17⟩
        dsimp only at e17 t17
        subst e17
        have IA : Sv h h17 [] _ _ _ _ _ _ _ _ := ⟨A9, C9, X9, V9, W9, J9.ext t17⟩
        refine L_g 2 (by kernel_rfl) ?_
        refine L_nil ?_
        refine W_cond false (by kernel_rfl) (fun e => by cases e) (fun _ => ?_)
        refine W_skip ?_
        refine W_region ?_
        refine L_g 1 (by kernel_rfl) ?_
        refine L_i ((k : Int)) (1) (.int .i64 ((k + 1 : Nat) : Int)) rfl rfl (by kernel_rfl) (by kernel_rfl) rfl (inc_ok (by omega)) ?_
        refine L_g 1 (by kernel_rfl) ?_
        refine L_nil ?_
        exact ⟨L.length - (k + 1), by omega, k + 1, _, _, _, _, _, _, _, _, by omega, rfl, by kernel_rfl, by kernel_rfl, by kernel_rfl, by kernel_rfl, by kernel_rfl, by kernel_rfl, IA, S9, S10, B9, B10⟩
      ·
        refine W_region ?_
        refine L_g 1 (by kernel_rfl) ?_
        refine L_ld _ rfl rfl (by kernel_rfl) ((I6.kept (e := (h5.next, acw a)) (by simp)).ld (o := 0) (by kernel_rfl) rfl) ?_
        refine L_p (.int .u8 2) rfl (ev_rem8 (by kernel_rfl) wa hd) ?_
        refine L_nil ?_
        refine W_block ?_
        refine W_seq ?_
        refine W_region ?_
        refine L_g 2 (by kernel_rfl) ?_
        refine L_nil ?_
        refine W_cond false (by kernel_rfl) (fun e => by cases e) (fun _ => ?_)
        refine W_seq ?_
        refine W_region ?_
        refine L_g 2 (by kernel_rfl) ?_
        refine L_nil ?_
        refine W_cond false (by kernel_rfl) (fun e => by cases e) (fun _ => ?_)
        refine W_seq ?_
        refine W_region ?_
        refine L_g 2 (by kernel_rfl) ?_
        refine L_nil ?_
        refine W_cond false (by kernel_rfl) (fun e => by cases e) (fun _ => ?_)
        refine W_seq ?_
        refine W_region ?_
        refine L_g 2 (by kernel_rfl) ?_
        refine L_nil ?_
        refine W_cond false (by kernel_rfl) (fun e => by cases e) (fun _ => ?_)
        refine W_seq ?_
        refine W_region ?_
        refine L_g 2 (by kernel_rfl) ?_
        refine L_ld _ rfl rfl (by kernel_rfl) ((I6.kept (e := (h5.next, acw a)) (by simp)).ld (o := 1) (by kernel_rfl) rfl) ?_
        refine L_g 1 (by kernel_rfl) ?_
        refine L_ld _ rfl rfl (by kernel_rfl) ((I6.kept (e := (h5.next, acw a)) (by simp)).ld (o := 2) (by kernel_rfl) rfl) ?_
        refine L_c rfl rfl (by kernel_rfl) (op_dlv1 (p := a.p) (q := a.q) I6 S5 B5 (by omega) (by omega)) ?_
        rintro v7 h8 ⟨e8, I7⟩
        dsimp only at e8 I7
        subst e8
        refine L_g 5 (by kernel_rfl) ?_
        refine L_nil ?_
        refine W_seq ?_
        refine W_region ?_
        refine L_g 2 (by kernel_rfl) ?_
        refine L_ld _ rfl rfl (by kernel_rfl) ((I7.kept (e := (h5.next, acw a)) (by simp)).ld (o := 1) (by kernel_rfl) rfl) ?_
        refine L_g 1 (by kernel_rfl) ?_
        refine L_ld _ rfl rfl (by kernel_rfl) ((I7.kept (e := (h5.next, acw a)) (by simp)).ld (o := 2) (by kernel_rfl) rfl) ?_
        refine L_c rfl rfl (by kernel_rfl) (op_dlv2 (p := a.p) (q := a.q) I7 S5 B5 (by omega) (by omega)) ?_
        rintro v8 h9 ⟨e9, I8⟩
        dsimp only at e9 I8
        subst e9
        obtain ⟨S9, B9⟩ := sim_dlv (n := l.length) (p := a.p) (q := a.q) S5 B5
        have I9 := I8.drop
        have S10 := S6
        have B10 := B6.up (Nat.le_succ k)
        refine L_g 5 (by kernel_rfl) ?_
        refine L_nil ?_
        refine W_region ?_
        refine L_g 2 (by kernel_rfl) ?_
        refine L_p (.bool true) rfl (ev_beq (b := dlvB m l.length a.p a.q) (by kernel_rfl) (by kernel_rfl)) ?_
        refine L_g 3 (by kernel_rfl) ?_
        refine L_want (by kernel_rfl) ?_
        refine L_i ((chk2 l.length a.p a.q)) ((chk2 l.length a.p a.q)) (.bool true) rfl rfl (by kernel_rfl) (by kernel_rfl) rfl (by simp) ?_
        refine L_g 2 (by kernel_rfl) ?_
        refine L_nil ?_
        refine W_seq ?_
        refine W_region ?_
        refine L_g 5 (by kernel_rfl) ?_
        obtain ⟨A9, C9, X9, V9, W9, J9⟩ := I9
        refine L_want (by kernel_rfl) ?_
        refine L_c rfl rfl (by kernel_rfl) (looks_ok (K := 560) J9.p.a J9.p.ra S9 (B9.K (by omega) (by omega)) (fun i j => Nat.le_trans (B9.rle i j) (by omega)) (by decide) (by omega)) ?_
        rintro v17 h17 ⟨e17, t17⟩
        dsimp only at e17 t17
        subst e17
        have IA : Sv h h17 [] _ _ _ _ _ _ _ _ := ⟨A9, C9, X9, V9, W9, J9.ext t17⟩
        refine L_g 2 (by kernel_rfl) ?_
        refine L_nil ?_
        refine W_cond false (by kernel_rfl) (fun e => by cases e) (fun _ => ?_)
        refine W_skip ?_
        refine W_region ?_
        refine L_g 1 (by kernel_rfl) ?_
        refine L_i ((k : Int)) (1) (.int .i64 ((k + 1 : Nat) : Int)) rfl rfl (by kernel_rfl) (by kernel_rfl) rfl (inc_ok (by omega)) ?_
        refine L_g 1 (by kernel_rfl) ?_
        refine L_nil ?_
        exact ⟨L.length - (k + 1), by omega, k + 1, _, _, _, _, _, _, _, _, by omega, rfl, by kernel_rfl, by kernel_rfl, by kernel_rfl, by kernel_rfl, by kernel_rfl, by kernel_rfl, IA, S9, S10, B9, B10⟩
      ·
        refine W_region ?_
        refine L_g 1 (by kernel_rfl) ?_
        refine L_ld _ rfl rfl (by kernel_rfl) ((I6.kept (e := (h5.next, acw a)) (by simp)).ld (o := 0) (by kernel_rfl) rfl) ?_
        refine L_p (.int .u8 3) rfl (ev_rem8 (by kernel_rfl) wa hd) ?_
        refine L_nil ?_
        refine W_block ?_
        refine W_seq ?_
        refine W_region ?_
        refine L_g 2 (by kernel_rfl) ?_
        refine L_nil ?_
        refine W_cond false (by kernel_rfl) (fun e => by cases e) (fun _ => ?_)
        refine W_seq ?_
        refine W_region ?_
        refine L_g 2 (by kernel_rfl) ?_
        refine L_nil ?_
        refine W_cond false (by kernel_rfl) (fun e => by cases e) (fun _ => ?_)
        refine W_seq ?_
        refine W_region ?_
        refine L_g 2 (by kernel_rfl) ?_
        refine L_nil ?_
        refine W_cond false (by kernel_rfl) (fun e => by cases e) (fun _ => ?_)
        refine W_seq ?_
        refine W_region ?_
        refine L_g 2 (by kernel_rfl) ?_
        refine L_nil ?_
        refine W_cond false (by kernel_rfl) (fun e => by cases e) (fun _ => ?_)
        refine W_seq ?_
        refine W_region ?_
        refine L_g 2 (by kernel_rfl) ?_
        refine L_ld _ rfl rfl (by kernel_rfl) ((I6.kept (e := (h5.next, acw a)) (by simp)).ld (o := 1) (by kernel_rfl) rfl) ?_
        refine L_g 1 (by kernel_rfl) ?_
        refine L_ld _ rfl rfl (by kernel_rfl) ((I6.kept (e := (h5.next, acw a)) (by simp)).ld (o := 2) (by kernel_rfl) rfl) ?_
        refine L_c rfl rfl (by kernel_rfl) (op_dlv1 (p := a.p) (q := a.q) I6 S5 B5 (by omega) (by omega)) ?_
        rintro v7 h8 ⟨e8, I7⟩
        dsimp only at e8 I7
        subst e8
        refine L_g 5 (by kernel_rfl) ?_
        refine L_nil ?_
        refine W_seq ?_
        refine W_region ?_
        refine L_g 2 (by kernel_rfl) ?_
        refine L_ld _ rfl rfl (by kernel_rfl) ((I7.kept (e := (h5.next, acw a)) (by simp)).ld (o := 1) (by kernel_rfl) rfl) ?_
        refine L_g 1 (by kernel_rfl) ?_
        refine L_ld _ rfl rfl (by kernel_rfl) ((I7.kept (e := (h5.next, acw a)) (by simp)).ld (o := 2) (by kernel_rfl) rfl) ?_
        refine L_c rfl rfl (by kernel_rfl) (op_dlv2 (p := a.p) (q := a.q) I7 S5 B5 (by omega) (by omega)) ?_
        rintro v8 h9 ⟨e9, I8⟩
        dsimp only at e9 I8
        subst e9
        obtain ⟨S9, B9⟩ := sim_dlv (n := l.length) (p := a.p) (q := a.q) S5 B5
        have I9 := I8.drop
        have S10 := S6
        have B10 := B6.up (Nat.le_succ k)
        refine L_g 5 (by kernel_rfl) ?_
        refine L_nil ?_
        refine W_region ?_
        refine L_g 2 (by kernel_rfl) ?_
        refine L_p (.bool true) rfl (ev_beq (b := dlvB m l.length a.p a.q) (by kernel_rfl) (by kernel_rfl)) ?_
        refine L_g 3 (by kernel_rfl) ?_
        refine L_want (by kernel_rfl) ?_
        refine L_i ((chk2 l.length a.p a.q)) ((chk2 l.length a.p a.q)) (.bool true) rfl rfl (by kernel_rfl) (by kernel_rfl) rfl (by simp) ?_
        refine L_g 2 (by kernel_rfl) ?_
        refine L_nil ?_
        refine W_seq ?_
        refine W_region ?_
        refine L_g 5 (by kernel_rfl) ?_
        obtain ⟨A9, C9, X9, V9, W9, J9⟩ := I9
        refine L_want (by kernel_rfl) ?_
        refine L_c rfl rfl (by kernel_rfl) (looks_ok (K := 560) J9.p.a J9.p.ra S9 (B9.K (by omega) (by omega)) (fun i j => Nat.le_trans (B9.rle i j) (by omega)) (by decide) (by omega)) ?_
        rintro v17 h17 ⟨e17, t17⟩
        dsimp only at e17 t17
        subst e17
        have IA : Sv h h17 [] _ _ _ _ _ _ _ _ := ⟨A9, C9, X9, V9, W9, J9.ext t17⟩
        refine L_g 2 (by kernel_rfl) ?_
        refine L_nil ?_
        refine W_cond false (by kernel_rfl) (fun e => by cases e) (fun _ => ?_)
        refine W_skip ?_
        refine W_region ?_
        refine L_g 1 (by kernel_rfl) ?_
        refine L_i ((k : Int)) (1) (.int .i64 ((k + 1 : Nat) : Int)) rfl rfl (by kernel_rfl) (by kernel_rfl) rfl (inc_ok (by omega)) ?_
        refine L_g 1 (by kernel_rfl) ?_
        refine L_nil ?_
        exact ⟨L.length - (k + 1), by omega, k + 1, _, _, _, _, _, _, _, _, by omega, rfl, by kernel_rfl, by kernel_rfl, by kernel_rfl, by kernel_rfl, by kernel_rfl, by kernel_rfl, IA, S9, S10, B9, B10⟩
      ·
        refine W_region ?_
        refine L_g 1 (by kernel_rfl) ?_
        refine L_ld _ rfl rfl (by kernel_rfl) ((I6.kept (e := (h5.next, acw a)) (by simp)).ld (o := 0) (by kernel_rfl) rfl) ?_
        refine L_p (.int .u8 4) rfl (ev_rem8 (by kernel_rfl) wa hd) ?_
        refine L_nil ?_
        refine W_block ?_
        refine W_seq ?_
        refine W_region ?_
        refine L_g 2 (by kernel_rfl) ?_
        refine L_nil ?_
        refine W_cond false (by kernel_rfl) (fun e => by cases e) (fun _ => ?_)
        refine W_seq ?_
        refine W_region ?_
        refine L_g 2 (by kernel_rfl) ?_
        refine L_nil ?_
        refine W_cond true (by kernel_rfl) (fun _ => ?_) (fun e => by cases e)
        refine W_drawn (by kernel_rfl) ?_
        refine D_e (e := 3) (l := [0, 1, 2, 4, 5, 6]) (s' := [4, 5, 6]) (by kernel_rfl) (by kernel_rfl) rfl (by kernel_rfl) Rk_nil ?_
        refine NS_b 2 (by kernel_rfl) ?_
        refine NS_ld _ rfl rfl (by kernel_rfl) (by kernel_rfl) (by kernel_rfl) ((I6.kept (e := (h5.next, acw a)) (by simp)).ld (o := 1) (by kernel_rfl) rfl) ?_
        refine NS_b 2 (by kernel_rfl) ?_
        refine NS_ld _ rfl rfl (by kernel_rfl) (by kernel_rfl) (by kernel_rfl) ((I6.kept (e := (h5.next, acw a)) (by simp)).ld (o := 1) (by kernel_rfl) rfl) ?_
        refine NS_nil ?_
        refine L_c rfl rfl (by kernel_rfl) (op_beg1 (p := a.p) I6 S5 B5 (by omega) (by omega)) ?_
        rintro v7 h8 ⟨e8, I7⟩
        dsimp only at e8 I7
        subst e8
        refine L_nil ⟨rfl, ?_⟩
        refine D_e (e := 7) (l := []) (s' := []) (by kernel_rfl) (by kernel_rfl) rfl (by kernel_rfl) (Rk_1 rfl rfl (Rk_1 rfl rfl (Rk_ld _ rfl rfl rfl (by kernel_rfl) ((I7.kept (e := (h5.next, acw a)) (by simp)).ld (o := 1) (by kernel_rfl) rfl) (by kernel_rfl) Rk_nil))) ?_
        refine NS_nil ?_
        refine L_c rfl rfl (by kernel_rfl) (op_beg2 (p := a.p) I7 S5 B5 (by omega) (by omega)) ?_
        rintro v8 h9 ⟨e9, I8⟩
        dsimp only at e9 I8
        subst e9
        obtain ⟨S9, B9⟩ := sim_beg (n := l.length) (p := a.p) S5 B5
        have I9 := I8.drop
        have S10 := S6
        have B10 := B6.up (Nat.le_succ k)
        refine L_nil ⟨rfl, ?_⟩
        refine D_l (l := [8, 9]) (by kernel_rfl) (by kernel_rfl) Rk_nil ?_
        refine NS_i ((begE m l.length a.p)) ((begE m l.length a.p)) (.bool true) rfl rfl (by kernel_rfl) (by kernel_rfl) (by kernel_rfl) (by kernel_rfl) rfl (by simp) ?_
        refine NS_b 1 (by kernel_rfl) ?_
        refine NS_nil ?_
        refine W_seq ?_
        refine W_region ?_
        refine L_g 5 (by kernel_rfl) ?_
        obtain ⟨A9, C9, X9, V9, W9, J9⟩ := I9
        refine L_want (by kernel_rfl) ?_
        refine L_c rfl rfl (by kernel_rfl) (looks_ok (K := 560) J9.p.a J9.p.ra S9 (B9.K (by omega) (by omega)) (fun i j => Nat.le_trans (B9.rle i j) (by omega)) (by decide) (by omega)) ?_
        rintro v17 h17 ⟨e17, t17⟩
        dsimp only at e17 t17
        subst e17
        have IA : Sv h h17 [] _ _ _ _ _ _ _ _ := ⟨A9, C9, X9, V9, W9, J9.ext t17⟩
        refine L_g 2 (by kernel_rfl) ?_
        refine L_nil ?_
        refine W_cond false (by kernel_rfl) (fun e => by cases e) (fun _ => ?_)
        refine W_skip ?_
        refine W_region ?_
        refine L_g 1 (by kernel_rfl) ?_
        refine L_i ((k : Int)) (1) (.int .i64 ((k + 1 : Nat) : Int)) rfl rfl (by kernel_rfl) (by kernel_rfl) rfl (inc_ok (by omega)) ?_
        refine L_g 1 (by kernel_rfl) ?_
        refine L_nil ?_
        exact ⟨L.length - (k + 1), by omega, k + 1, _, _, _, _, _, _, _, _, by omega, rfl, by kernel_rfl, by kernel_rfl, by kernel_rfl, by kernel_rfl, by kernel_rfl, by kernel_rfl, IA, S9, S10, B9, B10⟩
      ·
        refine W_region ?_
        refine L_g 1 (by kernel_rfl) ?_
        refine L_ld _ rfl rfl (by kernel_rfl) ((I6.kept (e := (h5.next, acw a)) (by simp)).ld (o := 0) (by kernel_rfl) rfl) ?_
        refine L_p (.int .u8 5) rfl (ev_rem8 (by kernel_rfl) wa hd) ?_
        refine L_nil ?_
        refine W_block ?_
        refine W_seq ?_
        refine W_region ?_
        refine L_g 2 (by kernel_rfl) ?_
        refine L_nil ?_
        refine W_cond false (by kernel_rfl) (fun e => by cases e) (fun _ => ?_)
        refine W_seq ?_
        refine W_region ?_
        refine L_g 2 (by kernel_rfl) ?_
        refine L_nil ?_
        refine W_cond false (by kernel_rfl) (fun e => by cases e) (fun _ => ?_)
        refine W_seq ?_
        refine W_region ?_
        refine L_g 2 (by kernel_rfl) ?_
        refine L_nil ?_
        refine W_cond true (by kernel_rfl) (fun _ => ?_) (fun e => by cases e)
        refine W_seq ?_
        refine W_region ?_
        refine L_g 1 (by kernel_rfl) ?_
        refine L_c rfl rfl (by kernel_rfl) (op_tk1 I6 S5 B5 (by omega) (by omega)) ?_
        rintro v7 h8 ⟨u1, u2, e8, I7, nx8, hrf, keep⟩
        dsimp only at e8 I7 nx8 keep
        subst e8
        obtain ⟨k1, k2⟩ := keep h8 Nix .refl (fun _ x => x.elim)
        obtain ⟨ua, uc, ue⟩ := k1.form
        obtain ⟨_, k3, _⟩ := k2
        obtain ⟨va, vc, ve⟩ := k3.form
        subst ue ve
        refine L_g 4 (by kernel_rfl) ?_
        refine L_nw (Al.cells [Value.slice none 0 0, Value.slice none 0 0]) (.ptr) rfl rfl (by kernel_rfl) ?_
        have c10 : Cl (h8.push (Al.cells [Value.slice none 0 0, Value.slice none 0 0]).obj) h8.next [Value.slice none 0 0, Value.slice none 0 0] := Cl.new h8 _
        have t10 : Sm Nix h8 (h8.push (Al.cells [Value.slice none 0 0, Value.slice none 0 0]).obj) := .push h8 _
        have n10 : (h8.push (Al.cells [Value.slice none 0 0, Value.slice none 0 0]).obj).next = h8.next + 1 := rfl
        generalize h8.push (Al.cells [Value.slice none 0 0, Value.slice none 0 0]).obj = h10 at c10 t10 n10 ⊢
        obtain ⟨h11, e11, cS, t11, n11⟩ := c10.storeS (P := Tryz.prog) (T := 80) (v := .agg ⟨[.slice ua (tk m l.length).l.length uc, .slice va (tk m l.length).n vc]⟩) (cs := [.slice ua (tk m l.length).l.length uc, .slice va (tk m l.length).n vc]) (by kernel_rfl) rfl rfl (fun x hx => by simp only [List.mem_cons, List.not_mem_nil, or_false] at hx; rcases hx with rfl | rfl <;> rfl)
        have T11 : Sm Nix h8 h11 := t10.trans t11 (fun x hx => .inr (by omega))
        have I11 := I7.add T11 cS (Nat.le_refl _)
        refine L_st _ rfl rfl rfl (by kernel_rfl) (by kernel_rfl) (e11) ?_
        refine L_g 2 (by kernel_rfl) ?_
        refine L_nil ?_
        refine W_seq ?_
        refine W_region ?_
        refine L_g 1 (by kernel_rfl) ?_
        refine L_c rfl rfl (by kernel_rfl) (op_tk2 I11 S5 (by omega)) ?_
        rintro v8 h12 ⟨z1, z2, e12, ⟨a1, c1, b1, a2, b2, c2, f1, f2⟩, I12, t12, q1, q2⟩
        dsimp only at e12 I12 t12 q1 q2
        subst e12 f1 f2
        obtain ⟨p1, p2⟩ := keep h12 (fun y => y = rf) (T11.of.trans t12 (fun x hx => .inl hx)) (fun y hy => .inl (by omega))
        refine L_g 4 (by kernel_rfl) ?_
        refine L_nw (Al.cells [Value.slice none 0 0, Value.slice none 0 0]) (.ptr) rfl rfl (by kernel_rfl) ?_
        have c13 : Cl (h12.push (Al.cells [Value.slice none 0 0, Value.slice none 0 0]).obj) h12.next [Value.slice none 0 0, Value.slice none 0 0] := Cl.new h12 _
        have t13 : Sm Nix h12 (h12.push (Al.cells [Value.slice none 0 0, Value.slice none 0 0]).obj) := .push h12 _
        have n13 : (h12.push (Al.cells [Value.slice none 0 0, Value.slice none 0 0]).obj).next = h12.next + 1 := rfl
        generalize h12.push (Al.cells [Value.slice none 0 0, Value.slice none 0 0]).obj = h13 at c13 t13 n13 ⊢
        obtain ⟨h14, e14, cT, t14, n14⟩ := c13.storeS (P := Tryz.prog) (T := 83) (v := .agg ⟨[.slice a1 b1 c1, .slice a2 b2 c2]⟩) (cs := [.slice a1 b1 c1, .slice a2 b2 c2]) (by kernel_rfl) rfl rfl (fun x hx => by simp only [List.mem_cons, List.not_mem_nil, or_false] at hx; rcases hx with rfl | rfl <;> rfl)
        have T14 : Sm Nix h12 h14 := t13.trans t14 (fun x hx => .inr (by omega))
        have I8 := I12.add T14 cT (Nat.le_refl _)
        obtain ⟨tl1, tl2, tl3⟩ := tk_le S5 B5 (by omega) (by omega)
        have p1 := p1.ext T14
        have p2 := p2.ext T14
        have q1 := q1.ext T14
        have q2 := q2.ext T14
        obtain ⟨S9, B9⟩ := sim_tk (n := l.length) S5 B5
        have I9 := I8.drop
        have S10 := S6
        have B10 := B6.up (Nat.le_succ k)
        refine L_st _ rfl rfl rfl (by kernel_rfl) (by kernel_rfl) (e14) ?_
        refine L_g 2 (by kernel_rfl) ?_
        refine L_nil ?_
        refine W_region ?_
        refine L_g 1 (by kernel_rfl) ?_
        refine L_ld _ rfl rfl (by kernel_rfl) ((I8.kept (e := (h8.next, [.slice ua (tk m l.length).l.length uc, .slice va (tk m l.length).n vc])) (by simp)).ld (o := 0) (by kernel_rfl) rfl) ?_
        refine L_g 1 (by kernel_rfl) ?_
        refine L_ld _ rfl rfl (by kernel_rfl) ((I8.kept (e := (h12.next, [.slice a1 b1 c1, .slice a2 b2 c2])) (by simp)).ld (o := 0) (by kernel_rfl) rfl) ?_
        refine L_c rfl rfl (by kernel_rfl) (same_ok p1 q1 (by omega)) ?_
        rintro v15 h15 e15
        cases e15
        refine L_g 2 (by kernel_rfl) ?_
        refine L_want (by kernel_rfl) ?_
        refine L_ld _ rfl rfl (by kernel_rfl) ((I8.kept (e := (h8.next, [.slice ua (tk m l.length).l.length uc, .slice va (tk m l.length).n vc])) (by simp)).ld (o := 1) (by kernel_rfl) rfl) ?_
        refine L_g 1 (by kernel_rfl) ?_
        refine L_want (by kernel_rfl) ?_
        refine L_ld _ rfl rfl (by kernel_rfl) ((I8.kept (e := (h12.next, [.slice a1 b1 c1, .slice a2 b2 c2])) (by simp)).ld (o := 1) (by kernel_rfl) rfl) ?_
        refine L_want (by kernel_rfl) ?_
        refine L_c rfl rfl (by kernel_rfl) (shots_ok (K := 80) p2 q2 (by omega) tl3 (by decide)) ?_
        rintro v16 h16 e16
        cases e16
        refine L_g 4 (by kernel_rfl) ?_
        refine L_want (by kernel_rfl) ?_
        refine L_p (.bool true) rfl (ev_beq (b := (tk m l.length).d) (by kernel_rfl) (by kernel_rfl)) ?_
        refine L_g 4 (by kernel_rfl) ?_
        refine L_want (by kernel_rfl) ?_
        refine L_i ((tk m l.length).e) ((tk m l.length).e) (.bool true) rfl rfl (by kernel_rfl) (by kernel_rfl) rfl (by simp) ?_
        refine L_g 2 (by kernel_rfl) ?_
        refine L_nil ?_
        refine W_seq ?_
        refine W_region ?_
        refine L_g 5 (by kernel_rfl) ?_
        obtain ⟨A9, C9, X9, V9, W9, J9⟩ := I9
        refine L_want (by kernel_rfl) ?_
        refine L_c rfl rfl (by kernel_rfl) (looks_ok (K := 560) J9.p.a J9.p.ra S9 (B9.K (by omega) (by omega)) (fun i j => Nat.le_trans (B9.rle i j) (by omega)) (by decide) (by omega)) ?_
        rintro v17 h17 ⟨e17, t17⟩
        dsimp only at e17 t17
        subst e17
        have IA : Sv h h17 [] _ _ _ _ _ _ _ _ := ⟨A9, C9, X9, V9, W9, J9.ext t17⟩
        refine L_g 2 (by kernel_rfl) ?_
        refine L_nil ?_
        refine W_cond false (by kernel_rfl) (fun e => by cases e) (fun _ => ?_)
        refine W_skip ?_
        refine W_region ?_
        refine L_g 1 (by kernel_rfl) ?_
        refine L_i ((k : Int)) (1) (.int .i64 ((k + 1 : Nat) : Int)) rfl rfl (by kernel_rfl) (by kernel_rfl) rfl (inc_ok (by omega)) ?_
        refine L_g 1 (by kernel_rfl) ?_
        refine L_nil ?_
        exact ⟨L.length - (k + 1), by omega, k + 1, _, _, _, _, _, _, _, _, by omega, rfl, by kernel_rfl, by kernel_rfl, by kernel_rfl, by kernel_rfl, by kernel_rfl, by kernel_rfl, IA, S9, S10, B9, B10⟩
      ·
        refine W_region ?_
        refine L_g 1 (by kernel_rfl) ?_
        refine L_ld _ rfl rfl (by kernel_rfl) ((I6.kept (e := (h5.next, acw a)) (by simp)).ld (o := 0) (by kernel_rfl) rfl) ?_
        refine L_p (.int .u8 6) rfl (ev_rem8 (by kernel_rfl) wa hd) ?_
        refine L_nil ?_
        refine W_block ?_
        refine W_seq ?_
        refine W_region ?_
        refine L_g 2 (by kernel_rfl) ?_
        refine L_nil ?_
        refine W_cond false (by kernel_rfl) (fun e => by cases e) (fun _ => ?_)
        refine W_seq ?_
        refine W_region ?_
        refine L_g 2 (by kernel_rfl) ?_
        refine L_nil ?_
        refine W_cond false (by kernel_rfl) (fun e => by cases e) (fun _ => ?_)
        refine W_seq ?_
        refine W_region ?_
        refine L_g 2 (by kernel_rfl) ?_
        refine L_nil ?_
        refine W_cond false (by kernel_rfl) (fun e => by cases e) (fun _ => ?_)
        refine W_seq ?_
        refine W_region ?_
        refine L_g 2 (by kernel_rfl) ?_
        refine L_nil ?_
        refine W_cond true (by kernel_rfl) (fun _ => ?_) (fun e => by cases e)
        refine W_seq ?_
        refine W_region ?_
        refine L_g 4 (by kernel_rfl) ?_
        refine L_nil ?_
        refine W_region ?_
        refine L_g 1 (by kernel_rfl) ?_
        obtain ⟨A7, C7, X7, V7, W7, J7⟩ := I6
        refine L_c rfl rfl (by kernel_rfl) (J7.p.a.copy (by rw [S5.len]; omega) (by rw [S5.len]; omega)) ?_
        rintro v7 h8 ⟨c9, D8, e8, Q8, t8, nD⟩
        dsimp only at e8 Q8 t8 nD
        subst e8
        refine L_g 1 (by kernel_rfl) ?_
        refine L_c rfl rfl (by kernel_rfl) (op_copy2 (J7.p.ra.ext t8) S5 B5 (by omega) (by omega) (by omega)) ?_
        rintro v8 h9 ⟨rc9, W8, e9, R9, t9, nW8⟩
        dsimp only at e9 R9 t9 nW8
        subst e9
        have I9 := (P1.copies J7.p Q8 t8 nD R9 t9 nW8).swap
        have S9 := S5.copy
        have S10 := S5
        have B9 := (B5.copy l.length 0 r.so r.so 0).up (Nat.le_succ k)
        have B10 := B5.up (Nat.le_succ k)
        refine L_g 2 (by kernel_rfl) ?_
        refine L_nil ?_
        refine W_seq ?_
        refine W_region ?_
        refine L_g 5 (by kernel_rfl) ?_
        obtain ⟨A9, C9, X9, V9, W9, J9⟩ := I9
        refine L_want (by kernel_rfl) ?_
        refine L_c rfl rfl (by kernel_rfl) (looks_ok (K := 560) J9.p.a J9.p.ra S9 (B9.K (by omega) (by omega)) (fun i j => Nat.le_trans (B9.rle i j) (by omega)) (by decide) (by omega)) ?_
        rintro v17 h17 ⟨e17, t17⟩
        dsimp only at e17 t17
        subst e17
        have IA : Sv h h17 [] _ _ _ _ _ _ _ _ := ⟨A9, C9, X9, V9, W9, J9.ext t17⟩
        refine L_g 2 (by kernel_rfl) ?_
        refine L_nil ?_
        refine W_cond false (by kernel_rfl) (fun e => by cases e) (fun _ => ?_)
        refine W_skip ?_
        refine W_region ?_
        refine L_g 1 (by kernel_rfl) ?_
        refine L_i ((k : Int)) (1) (.int .i64 ((k + 1 : Nat) : Int)) rfl rfl (by kernel_rfl) (by kernel_rfl) rfl (inc_ok (by omega)) ?_
        refine L_g 1 (by kernel_rfl) ?_
        refine L_nil ?_
        exact ⟨L.length - (k + 1), by omega, k + 1, _, _, _, _, _, _, _, _, by omega, rfl, by kernel_rfl, by kernel_rfl, by kernel_rfl, by kernel_rfl, by kernel_rfl, by kernel_rfl, IA, S9, S10, B9, B10⟩
    ·
      have hge : ¬ k < L.length := by simpa using hb
      refine W_exit ?_
      repeat with_reducible refine then_exit ?_
      refine exit_here ?_
      refine W_seq ?_
      refine W_region ?_
      refine L_g 2 (by kernel_rfl) ?_
      obtain ⟨A9, C9, X9, V9, W9, J9⟩ := I5
      refine L_c rfl rfl (by kernel_rfl) (looks_ok (K := 560) J9.b J9.rb S6 (B6.K (by omega) (by omega)) (fun i j => Nat.le_trans (B6.rle i j) (by omega)) (by decide) (by omega)) ?_
      rintro v17 h17 ⟨e17, t17⟩
      dsimp only at e17 t17
      subst e17
      refine L_g 1 (by kernel_rfl) ?_
      refine L_want (by kernel_rfl) ?_
      refine L_c rfl rfl (by kernel_rfl) (works_ok) ?_
      rintro v18 h18 e18
      cases e18
      refine L_g 2 (by kernel_rfl) ?_
      refine L_nil ?_
      refine W_ret ?_
      repeat first | with_reducible refine then_ret ?_ | with_reducible refine blk_ret ?_
      refine done_of (v := .bool true) (.inl rfl) (by kernel_rfl) ?_
      rfl
end
end Go.Proofs.YtdaedcoolcicoaaGreat
