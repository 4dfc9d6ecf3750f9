/- Worlds of the program and walks of its functions. -/
import Derived.Test.YtmehemeoaplepaaZq
import Derived.Test.YtmehemeoaplepaaZp
import Derived.Test.YtmehemeoaplepaaZo
namespace Go.Mt
open Go.Arm
section
variable {C : Ct} {Γ : Gs} {W : Wd} {p q : Nat}
def sr0 (peer tag : Int) (sync : Bool) : Rq := ⟨0, peer, 3, tag, 0, true, sync, false, false, false, 0, 0, [], [], 0, [], false, St.z⟩
def nxP (W : Wd) (p : Nat) : Pr := { W.pr p with next := (W.pr p).next + 1, reqs := (W.pr p).reqs ++ [(W.pr p).next] }
theorem In.add (H : In C C.n Γ W) (_K : Cs C Γ) (hk : Γ.k + 1 < big) (hp : p < C.n) (r : Rq) : W.add p r = some ((W.setPr p (nxP W p)).setRq p (W.pr p).next { r with no := (W.pr p).next }) := by
 obtain ⟨h1, h2, h3⟩ := H.lt p hp
 unfold Wd.add
 rw [if_pos ⟨by omega, fun h => Nat.lt_irrefl _ (h1 _ h)⟩]
 show some (Wd.setRq (Wd.setPr (Wd.setPr W p _) p _) p _ _) = _
 rw [Wd.setPr_setPr]
 rfl
theorem In.send (H : In C C.n Γ W) (F : Wf C Γ) (K : Ck C Γ) (hp : p < C.n) (hq : q < C.n) {tag : Int} {sync : Bool} {d : By} (hd : (d.length : Int) ≤ C.room) (hcb : C.c0 + (Γ.k : Int) < (big : Int)) :
  ∃ m W2 W3, m.p = p ∧ m.peer = (q : Int) ∧ m.send = true ∧ m.tag = tag ∧ m.d = d ∧ m.sync = sync ∧ m.no = (W.pr p).next ∧ (m.ea = true → sync = false) ∧ W.add p (sr0 q tag sync) = some W2 ∧ W2.start p (W.pr p).next d = some W3 ∧ (W3.rq p (W.pr p).next).no = (W.pr p).next ∧
    In C C.n (Γ.sends m) W3 ∧ Wf C (Γ.sends m) := by
 have hk := K.k
 have hb : 1000 < big := by decide
 have hdb : d.length < big := by have := K.cs.rb; omega
 have hadd := H.add K.cs (by omega) hp (sr0 q tag sync)
 generalize hN : (W.pr p).next = N at hadd ⊢
 have hml : (W.pr p).msgs.length < big := by
  rw [H.msgs p hp, List.length_map]
  exact Nat.lt_of_le_of_lt (nodup_len Γ.k _ ((F.arrn p).filter _) fun x hx => (F.arr p x (List.mem_filter.1 hx).1).1) K.cs.kb
 have hwl : (W.way (p : Int) (q : Int)).length < big := by
  rw [H.way p q hp hq, List.length_map]
  exact Nat.lt_of_le_of_lt (nodup_len Γ.k _ (F.wayn _ _) fun x hx => (F.way _ _ x hx).1) K.cs.kb
 obtain ⟨hcl, hcr⟩ := H.crd p hp
 obtain ⟨hc1, hc2⟩ := hcr q hq
 have hcb2 : (Γ.cb p).length ≤ Γ.k := nodup_len _ _ (F.cbn p).1 fun x hx => ((F.cbn p).2 x hx).1
 obtain ⟨ea, hea⟩ : ∃ ea : Bool, ea = true ↔ (sync = false ∧ (d.length : Int) ≤ W.lim ∧ 0 < (W.pr p).crds.getD q 0) := ⟨decide (sync = false ∧ (d.length : Int) ≤ W.lim ∧ 0 < (W.pr p).crds.getD q 0), by simp⟩
 have hfresh : ∀ (ea : Bool) i, i < Γ.k → (Γ.mv i).p = p → (Γ.mv i).no ≠ N := fun _ i hi h e => by
  have h1 := H.reqs i hi
  rw [h, e, ← hN] at h1
  exact Nat.lt_irrefl _ ((H.lt p hp).1 _ h1)
 have hto : ∀ m : Mv, m.peer = (q : Int) → m.to = q := fun m h => by unfold Mv.to; rw [h, Int.toNat_natCast]
 -- the start, up to the sending
 have hstart : ∀ W3, ((W.setPr p (nxP W p)).setRq p N ⟨N, q, 3, tag, 0, true, sync, false, true, false, 0, 0, d, [], 0, [], false, ⟨q, tag, (d.length : Nat), 0⟩⟩).send p N ⟨p, 3, tag, (d.length : Nat), 0⟩ = some W3 →
    ((W.setPr p (nxP W p)).setRq p N { sr0 q tag sync with no := N }).start p N d = some W3 := fun W3 h => by
  unfold Wd.start
  rw [Wd.setRq_at]
  unfold sr0
  dsimp only
  rw [if_neg (fun h => h ⟨by show 0 * 0 < big; decide, hdb, by show ((W.setPr p (nxP W p)).pr p).msgs.length < big; rw [Wd.setPr_at]; exact hml, Int.le_refl _⟩), if_pos rfl, Wd.setRq_setRq]
  exact h
 have hmk : ∀ (ea : Bool) (W3 : Wd), W3.n = W.n → W3.lim = W.lim → W3.way = (W.setWay p q (W.way p q ++ [pkG ⟨p, q, true, tag, d, N, sync, ea⟩ .msg])).way → (∀ q', q' ≠ p → W3.pr q' = W.pr q') → (∃ cr, W3.pr p = { nxP W p with crds := cr } ∧ cr.length = C.n ∧ ∀ r, r < C.n → 0 ≤ cr.getD r 0 ∧ cr.getD r 0 ≤ (W.pr p).crds.getD r 0) →
    (∀ q' no, ¬ (q' = p ∧ no = N) → W3.rq q' no = W.rq q' no) → W3.rq p N = sendR ⟨p, q, true, tag, d, N, sync, ea⟩ .msg → In C C.n (Γ.sends ⟨p, q, true, tag, d, N, sync, ea⟩) W3 ∧ Wf C (Γ.sends ⟨p, q, true, tag, d, N, sync, ea⟩) := fun ea W3 a1 a2 a3 a4 ⟨cr, a5, a6, a7⟩ a8 a9 => by
  refine ⟨H.sends F rfl hp (by rw [hto _ rfl]; exact hq) hN.symm a1 a2 (by rw [hto _ rfl]; exact a3) a4 (by rw [a5]; rfl) (by rw [a5]; rfl) (by rw [a5]; rfl) (by rw [a5]; rfl) (by rw [a5]; show _ ++ [(W.pr p).next] = _; rw [hN]) (by rw [a5]; rfl) (by rw [a5]; exact a6) (fun r hr => by rw [a5]; exact a7 r hr) a8 a9,
    F.sends rfl hp (by rw [hto _ rfl]) (by rw [hto _ rfl]; exact hq) hd (hfresh ea)⟩
 have hpeer : ¬ ((q : Int) = -2) := by omega
 have hput : ∀ (W' : Wd) (x : Pk), W'.way = W.way → W'.put p q x = some (W'.setWay p q (W.way p q ++ [x])) := fun W' x h => by
  unfold Wd.put; rw [h, if_pos hwl]
 have hcN : ((W.setPr p (nxP W p)).pr p).crds = (W.pr p).crds := by rw [Wd.setPr_at]; rfl
 cases hee : ea with
 | true =>
  obtain ⟨g1, g2, g3⟩ := hea.1 hee
  refine ⟨⟨p, q, true, tag, d, N, sync, true⟩, _, (((W.setPr p { nxP W p with crds := (W.pr p).crds.set q ((W.pr p).crds.getD q 0 - 1) }).setWay p q (W.way p q ++ [.eager ⟨p, 3, tag, (d.length : Nat), 0⟩ d])).setRq p N (sendR ⟨p, q, true, tag, d, N, sync, true⟩ .msg)), rfl, rfl, rfl, rfl, rfl, rfl, rfl, fun _ => g1, hadd, hstart _ ?_, by rw [Wd.setRq_at]; rfl, ?_⟩
  · unfold Wd.send
    rw [Wd.setRq_at]
    dsimp only
    rw [if_neg hpeer, if_neg (by rintro (h | h | h); rw [g1] at h; cases h; exact Nat.lt_irrefl 0 h; exact absurd h (Int.not_lt.2 g2))]
    show (if 0 ≤ (q : Int) ∧ (q : Int) < ((W.setPr p (nxP W p)).pr p).crds.length then _ else none) = _
    rw [hcN, if_pos ⟨by omega, by omega⟩]
    show (if ((W.setPr p (nxP W p)).pr p).crds.getD (q : Int).toNat 0 = 0 then _ else _) = _
    rw [hcN, Int.toNat_natCast, if_neg (by omega)]
    show (if 0 < ((W.setPr p (nxP W p)).pr p).crds.getD q 0 ∧ ((W.setPr p (nxP W p)).pr p).crds.getD q 0 < (big : Int) then _ else none) = _
    rw [hcN, if_pos ⟨g3, by omega⟩]
    rw [hput]
    rotate_left
    · rfl
    have hpp : ∀ X, ((W.setPr p (nxP W p)).setRq p N X).pr p = nxP W p := fun X => Wd.setPr_at _ _ _
    rw [hpp]
    show some (Wd.setRq (Wd.setWay (Wd.setRq (Wd.setPr (Wd.setPr W p _) p _) p N _) _ _ _) p N _) = _
    rw [Wd.setPr_setPr]
    show some (Wd.setWay (Wd.setRq (Wd.setRq (Wd.setPr W p _) p N _) p N _) _ _ _) = _
    rw [Wd.setRq_setRq]
    rfl
  · refine hmk true _ rfl rfl rfl (fun q' h => Wd.setPr_ne _ _ h) ⟨_, Wd.setPr_at _ _ _, by rw [List.length_set]; exact hcl, fun r hr => ?_⟩ (fun q' no h => Wd.setRq_ne _ _ h) (Wd.setRq_at _ _ _ _)
    rw [getD_set _ _ (by rw [hcl]; exact hq)]
    have := hcr r hr
    split
    · subst_vars; omega
    · omega
 | false =>
  have g0 : ¬ (sync = false ∧ (d.length : Int) ≤ W.lim ∧ 0 < (W.pr p).crds.getD q 0) := fun h => by rw [hea.2 h] at hee; cases hee
  refine ⟨⟨p, q, true, tag, d, N, sync, false⟩, _, (((W.setPr p (nxP W p)).setRq p N (sendR ⟨p, q, true, tag, d, N, sync, false⟩ .msg)).setWay p q (W.way p q ++ [.ask ⟨p, 3, tag, (d.length : Nat), 0⟩ N])), rfl, rfl, rfl, rfl, rfl, rfl, rfl, fun h => (by cases h), hadd, hstart _ ?_, ?_, ?_⟩
  · unfold Wd.send
    rw [Wd.setRq_at]
    dsimp only
    rw [if_neg hpeer]
    by_cases g1 : sync = true ∨ 0 > 0 ∨ ((d.length : Nat) : Int) > W.lim
    · refine (if_pos g1).trans ?_
      rw [hput]
      rotate_left
      · rfl
      rfl
    · refine (if_neg g1).trans ?_
      have g2 : sync = false := by
        cases h : sync with
        | true => exact (g1 (.inl h)).elim
        | false => rfl
      have g3 : (d.length : Int) ≤ W.lim := by
        refine Int.not_lt.1 fun h => g1 (.inr (.inr h))
      have g4 : (W.pr p).crds.getD q 0 = 0 := by
        have : ¬ 0 < (W.pr p).crds.getD q 0 := fun h => g0 ⟨g2, g3, h⟩
        omega
      show (if 0 ≤ (q : Int) ∧ (q : Int) < ((W.setPr p (nxP W p)).pr p).crds.length then _ else none) = _
      rw [hcN, if_pos ⟨by omega, by omega⟩]
      show (if ((W.setPr p (nxP W p)).pr p).crds.getD (q : Int).toNat 0 = 0 then _ else _) = _
      rw [hcN, Int.toNat_natCast, if_pos g4, hput]
      rotate_left
      · rfl
      rfl
  · show (((W.setPr p (nxP W p)).setRq p N _).rq p N).no = N
    rw [Wd.setRq_at]; rfl
  · exact hmk false _ rfl rfl rfl (fun q' h => Wd.setPr_ne _ _ h) ⟨_, Wd.setPr_at _ _ _, hcl, fun r hr => ⟨(hcr r hr).1, Int.le_refl _⟩⟩ (fun q' no h => Wd.setRq_ne _ _ h) (Wd.setRq_at _ _ _ _)
end
end Go.Mt
namespace Go.Mt
open Go.Arm
section
variable {C : Ct} {Γ : Gs} {W : Wd}
def Gs.recvs (Γ : Gs) (m : Mv) (o : Option Nat) : Gs := { Γ.adds m with
 post := ups Γ.post m.p (Γ.post m.p ++ [Γ.k])
 tk := match o with | none => Γ.tk | some i => ups Γ.tk i .back
 way := match o with | none => Γ.way | some i => Γ.way2 m.p (Γ.mv i).p i }
theorem recvs_tk {m : Mv} {o : Option Nat} {x : Nat} (h : o ≠ some x) : (Γ.recvs m o).tk x = Γ.tk x := by
 cases o with
 | none => rfl
 | some i => exact ups_ne _ _ (fun e : x = i => h (by rw [e]))
theorem recvs_tki {m : Mv} {i : Nat} : (Γ.recvs m (some i)).tk i = .back := ups_at _ _ _
theorem recvs_mt (F : Wf C Γ) {m : Mv} {o : Option Nat} {q : Nat} (h : q ≠ m.p) : (Γ.recvs m o).mt q = Γ.mt q := by
 show greedy _ (Γ.arr q) (ups Γ.post m.p _ q) = _
 rw [ups_ne _ _ h]; exact adds_mt F q
theorem Wf.recvs (F : Wf C Γ) {m : Mv} {o : Option Nat} (hs : m.send = false) (hp : m.p < C.n) (hd : (m.d.length : Int) ≤ C.room) (hno : ∀ i, i < Γ.k → (Γ.mv i).p = m.p → (Γ.mv i).no ≠ m.no)
   (ho : ∀ i, o = some i → i ∈ Γ.arr m.p ∧ Γ.tk i = .wait) (hmt : ∀ j x, (Γ.recvs m o).mt m.p j = some x ↔ (Γ.mt m.p j = some x ∨ (j = Γ.k ∧ o = some x))) : Wf C (Γ.recvs m o) := by
 have hmv : ∀ x, x < Γ.k → (Γ.recvs m o).mv x = Γ.mv x := fun x hx => ups_ne _ _ (Nat.ne_of_lt hx)
 have hmvk : (Γ.recvs m o).mv Γ.k = m := ups_at _ _ _
 have hk : ∀ x, x < (Γ.recvs m o).k → x < Γ.k ∨ x = Γ.k := fun x hx => by have hx : x < Γ.k + 1 := hx; omega
 have hlt : ∀ x, x < Γ.k → x < (Γ.recvs m o).k := fun x hx => Nat.lt_succ_of_lt hx
 have how : ∀ a b x, x ∈ Γ.way a b → o ≠ some x := fun a b x hx e => by
   have h1 := (ho x e).2
   obtain ⟨_, _, hc⟩ := F.way a b x hx
   rcases hc with ⟨h | h, _⟩ | ⟨h, _⟩ <;> rw [h1] at h <;> cases h
 have hoi : ∀ b x, x ∈ Γ.inb b → o ≠ some x := fun b x hx e => by
   have h1 := (ho x e).2
   obtain ⟨_, _, hc⟩ := F.inb b x hx
   rcases hc with ⟨h | h, _⟩ | ⟨h, _⟩ <;> rw [h1] at h <;> cases h
 have hway : ∀ a b x, x ∈ (Γ.recvs m o).way a b → x ∈ Γ.way a b ∨ (o = some x ∧ a = m.p ∧ b = (Γ.mv x).p) := fun a b x hx => by
   cases o with
   | none => exact .inl hx
   | some i =>
     have hx : x ∈ Γ.way2 m.p (Γ.mv i).p i a b := hx
     by_cases e : a = m.p ∧ b = (Γ.mv i).p
     · obtain ⟨rfl, rfl⟩ := e
       rw [way2_at] at hx
       rcases List.mem_append.1 hx with h | h
       · exact .inl h
       · obtain rfl := List.mem_singleton.1 h; exact .inr ⟨rfl, rfl, rfl⟩
     · rw [way2_ne _ e] at hx; exact .inl hx
 have hway' : ∀ a b x, x ∈ Γ.way a b → x ∈ (Γ.recvs m o).way a b := fun a b x hx => by
   cases o with
   | none => exact hx
   | some i =>
     show x ∈ Γ.way2 m.p (Γ.mv i).p i a b
     by_cases e : a = m.p ∧ b = (Γ.mv i).p
     · obtain ⟨rfl, rfl⟩ := e; rw [way2_at]; exact List.mem_append_left _ hx
     · rw [way2_ne _ e]; exact hx
 have htk0 : ∀ x, (Γ.recvs m o).tk x ≠ .back → (Γ.recvs m o).tk x = Γ.tk x := fun x hx => by
   by_cases e : o = some x
   · subst e; exact (hx recvs_tki).elim
   · exact recvs_tk e
 have hfr : ∀ q x, q ≠ m.p → (Γ.recvs m o).fr q x = Γ.fr q x := fun q x hq => by
   show free _ (Γ.arr q) (ups Γ.post m.p _ q) x = _
   rw [ups_ne _ _ hq]; exact adds_fr F q x
 have hfrp : ∀ x, (Γ.recvs m o).fr m.p x = true ↔ (Γ.fr m.p x = true ∧ o ≠ some x) := fun x => by
   refine Iff.trans free_iff (Iff.trans ?_ (and_congr_left' free_iff.symm))
   constructor
   · exact fun h => ⟨fun j hj => h j ((hmt j x).2 (.inl hj)), fun e => h Γ.k ((hmt _ x).2 (.inr ⟨rfl, e⟩))⟩
   · rintro ⟨h1, h2⟩ j hj
     rcases (hmt j x).1 hj with h | ⟨_, h⟩
     · exact h1 j h
     · exact h2 h
 have hnk : ∀ {x}, x < Γ.k → x ≠ Γ.k := fun h => Nat.ne_of_lt h
 refine ⟨fun x hx => ?_, fun x y hx hy h1 h2 => ?_, fun q x hx => ?_, F.arrn, fun q x hx => ?_, fun q => ?_, fun a b x hx => ?_, fun a b => ?_, fun b x hx => ?_, F.inbn, fun a b c x hx h => ?_, fun x hx hs1 h1 => ?_, fun x hx hs1 h1 => ?_, fun a b => ?_, fun x hx hs9 h1 => ?_, fun q => ⟨(F.cbn q).1, fun x hx => ?_⟩⟩
 · rcases hk x hx with h | rfl
   · rw [hmv x h]; exact F.mv x h
   · rw [hmvk]; exact ⟨hp, hd, fun h => by rw [hs] at h; cases h⟩
 · rcases hk x hx with h3 | rfl <;> rcases hk y hy with h4 | rfl
   · rw [hmv x h3, hmv y h4] at h1 h2; exact F.inj x y h3 h4 h1 h2
   · rw [hmv x h3, hmvk] at h1 h2; exact (hno x h3 h1 h2).elim
   · rw [hmvk, hmv y h4] at h1 h2; exact (hno y h4 h1.symm h2.symm).elim
   · rfl
 · obtain ⟨h1, h2, h3, h4, h5⟩ := F.arr q x hx
   rw [hmv x h1]
   refine ⟨hlt x h1, h2, h3, ?_, ?_⟩
   · by_cases e : o = some x
     · subst e; rw [recvs_tki]; decide
     · rw [recvs_tk e]; exact h4
   · by_cases e : o = some x
     · have hq : q = m.p := by
         have := (F.arr _ x (ho x e).1).2.2.1
         exact h3.symm.trans this
       subst hq
       refine ⟨fun h => ?_, fun h => ?_⟩
       · subst e; rw [recvs_tki] at h; cases h
       · exact (((hfrp x).1 h).2 e).elim
     · rw [recvs_tk e, h5]
       by_cases e2 : q = m.p
       · subst e2; exact ⟨fun h => (hfrp x).2 ⟨h, e⟩, fun h => ((hfrp x).1 h).1⟩
       · rw [hfr q x e2]
 · have hx : x ∈ ups Γ.post m.p (Γ.post m.p ++ [Γ.k]) q := hx
   by_cases e : q = m.p
   · subst e
     rw [ups_at] at hx
     rcases List.mem_append.1 hx with h | h
     · obtain ⟨h1, h2, h3⟩ := F.post _ x h
       rw [hmv x h1]; exact ⟨hlt x h1, h2, h3⟩
     · obtain rfl := List.mem_singleton.1 h
       rw [hmvk]; exact ⟨Nat.lt_succ_self _, hs, rfl⟩
   · rw [ups_ne _ _ e] at hx
     obtain ⟨h1, h2, h3⟩ := F.post q x hx
     rw [hmv x h1]; exact ⟨hlt x h1, h2, h3⟩
 · show (ups Γ.post m.p (Γ.post m.p ++ [Γ.k]) q).Nodup
   by_cases e : q = m.p
   · subst e
     rw [ups_at]
     refine List.nodup_append.2 ⟨F.postn _, by simp, fun x h1 y h2 e => ?_⟩
     rw [List.mem_singleton.1 h2] at e
     exact hnk (F.post _ x h1).1 e
   · rw [ups_ne _ _ e]; exact F.postn q
 · rcases hway a b x hx with h | ⟨h, rfl, rfl⟩
   · obtain ⟨h1, h2, h3⟩ := F.way a b x h
     rw [hmv x h1, recvs_tk (how a b x h)]; exact ⟨hlt x h1, h2, h3⟩
   · obtain ⟨g1, g2⟩ := ho x h
     obtain ⟨h1, h2, h3, _⟩ := F.arr _ x g1
     subst h
     rw [hmv x h1, recvs_tki]; exact ⟨hlt x h1, h2, .inr ⟨rfl, h3, rfl⟩⟩
 · cases o with
   | none => exact F.wayn a b
   | some i =>
     show (Γ.way2 m.p (Γ.mv i).p i a b).Nodup
     by_cases e : a = m.p ∧ b = (Γ.mv i).p
     · obtain ⟨rfl, rfl⟩ := e
       rw [way2_at]
       refine List.nodup_append.2 ⟨F.wayn _ _, by simp, fun x h1 y h2 e => ?_⟩
       rw [List.mem_singleton.1 h2] at e
       exact how _ _ x h1 (by rw [e])
     · rw [way2_ne _ e]; exact F.wayn _ _
 · obtain ⟨h1, h2, h3⟩ := F.inb b x hx
   rw [hmv x h1, recvs_tk (hoi b x hx)]; exact ⟨hlt x h1, h2, h3⟩
 · rcases hway a b x h with h | ⟨h, _, _⟩
   · exact F.dis a b c x hx h
   · exact hoi c x hx h
 · rcases hk x hx with h | rfl
   · rw [hmv x h] at hs1 ⊢
     by_cases e : o = some x
     · obtain ⟨g1, g2⟩ := ho x e
       rw [(F.arr _ x g1).2.2.1]; exact g1
     · rw [recvs_tk e] at h1; exact F.fin x h hs1 h1
   · rw [hmvk, hs] at hs1; cases hs1
 · rcases hk x hx with h | rfl
   · rw [hmv x h] at hs1
     by_cases e : o = some x
     · subst e
       refine .inl ⟨m.p, (Γ.mv x).p, ?_⟩
       show x ∈ Γ.way2 m.p (Γ.mv x).p x m.p (Γ.mv x).p
       rw [way2_at]; exact List.mem_append_right _ (List.mem_singleton.2 rfl)
     · rw [recvs_tk e] at h1
       rcases F.lost x h hs1 h1 with ⟨a, b, h2⟩ | h2
       · exact .inl ⟨a, b, hway' a b x h2⟩
       · exact .inr h2
   · rw [hmvk, hs] at hs1; cases hs1
 · have h1 := F.ord a b
   have e1 : ((Γ.arr b).filter fun i => ((Γ.recvs m o).mv i).p == a) = (Γ.arr b).filter fun i => (Γ.mv i).p == a := List.filter_congr fun x hx => by rw [hmv x (F.arr b x hx).1]
   have e2 : ((Γ.inb b).filter fun i => (Γ.recvs m o).tk i == .msg && ((Γ.recvs m o).mv i).p == a) = (Γ.inb b).filter fun i => Γ.tk i == .msg && (Γ.mv i).p == a := List.filter_congr fun x hx => by rw [hmv x (F.inb b x hx).1, recvs_tk (hoi b x hx)]
   have e3 : ((Γ.way a b).filter fun i => (Γ.recvs m o).tk i == .msg) = (Γ.way a b).filter fun i => Γ.tk i == .msg := List.filter_congr fun x hx => by rw [recvs_tk (how a b x hx)]
   have e4 : (((Γ.recvs m o).way a b).filter fun i => (Γ.recvs m o).tk i == .msg) = (Γ.way a b).filter fun i => Γ.tk i == .msg := by
     cases o with
     | none => rfl
     | some i =>
       show ((Γ.way2 m.p (Γ.mv i).p i a b).filter _) = _
       by_cases e : a = m.p ∧ b = (Γ.mv i).p
       · obtain ⟨rfl, rfl⟩ := e
         rw [way2_at, List.filter_append, e3, List.filter_cons_of_neg (by rw [recvs_tki]; decide)]
         exact List.append_nil _
       · rw [way2_ne _ e]; exact e3
   show (((Γ.arr b).filter fun i => ((Γ.recvs m o).mv i).p == a) ++ ((Γ.inb b).filter fun i => (Γ.recvs m o).tk i == .msg && ((Γ.recvs m o).mv i).p == a) ++ (((Γ.recvs m o).way a b).filter fun i => (Γ.recvs m o).tk i == .msg)).Pairwise (· < ·)
   rw [e1, e2, e4]; exact h1
 · rw [htk0 x (by rw [h1]; decide)] at h1
   rcases hk x hx with h | rfl
   · rw [hmv x h] at hs9 ⊢; exact F.bd x h hs9 h1
   · rw [hmvk, hs] at hs9; cases hs9
 · obtain ⟨h1, h2⟩ := (F.cbn q).2 x hx
   refine ⟨hlt x h1, ?_⟩
   rw [recvs_tk (fun e => by rw [(ho x e).2] at h2; cases h2)]; exact h2
end
end Go.Mt
namespace Go.Mt
open Go.Arm
section
variable {C : Ct} {Γ : Gs} {W : Wd}
theorem In.recvs {W' : Wd} (H : In C C.n Γ W) (F : Wf C Γ) {m : Mv} {o : Option Nat} (hs : m.send = false) (hp : m.p < C.n) (hno : m.no = (W.pr m.p).next)
   (ho : ∀ i, o = some i → i ∈ Γ.arr m.p ∧ Γ.tk i = .wait) (hmt : (Γ.recvs m o).mt m.p = match o with | none => Γ.mt m.p | some i => ups (Γ.mt m.p) Γ.k (some i))
   (hn : W'.n = W.n) (hlim : W'.lim = W.lim) (hway : ∀ a b : Int, W'.way a b = match o with | none => W.way a b | some i => (W.setWay m.p (Γ.mv i).p (W.way m.p (Γ.mv i).p ++ [pkG (Γ.mv i) .back])).way a b) (hpr : ∀ q, q ≠ m.p → W'.pr q = W.pr q)
   (hinb : (W'.pr m.p).inb = (W.pr m.p).inb) (hms : (W'.pr m.p).msgs = ((Γ.arr m.p).filter fun i => Γ.fr m.p i && !(o == some i)).map fun i => msG (Γ.mv i)) (hrc : (W'.pr m.p).rcvs = match o with | none => (W.pr m.p).rcvs ++ [m.no] | some _ => (W.pr m.p).rcvs)
   (hex : (W'.pr m.p).exps = match o with | none => (W.pr m.p).exps | some i => if (Γ.mv i).ea = true then (W.pr m.p).exps else kset (W.pr m.p).exps (((Γ.mv i).p : Int), ((Γ.mv i).no : Int)) m.no)
   (hre : (W'.pr m.p).reqs = (W.pr m.p).reqs ++ [m.no]) (hne : (W'.pr m.p).next = (W.pr m.p).next + 1) (hcl : (W'.pr m.p).crds = (W.pr m.p).crds)
   (hrq : ∀ q no, ¬ (q = m.p ∧ no = m.no) → W'.rq q no = W.rq q no) (hrk : W'.rq m.p m.no = recvR C.room m (o.map fun i => (Γ.mv i, .back))) : In C C.n (Γ.recvs m o) W' := by
 have ppr : ∀ {α : Type} (f : Pr → α), f (W'.pr m.p) = f (W.pr m.p) → ∀ q, f (W'.pr q) = f (W.pr q) := fun f h q => by
   by_cases e : q = m.p
   · subst e; exact h
   · rw [hpr q e]
 have hmv : ∀ x, x < Γ.k → (Γ.recvs m o).mv x = Γ.mv x := fun x hx => ups_ne _ _ (Nat.ne_of_lt hx)
 have hmvk : (Γ.recvs m o).mv Γ.k = m := ups_at _ _ _
 have hk : ∀ x, x < (Γ.recvs m o).k → x < Γ.k ∨ x = Γ.k := fun x hx => by have hx : x < Γ.k + 1 := hx; omega
 have how : ∀ a b x, x ∈ Γ.way a b → o ≠ some x := fun a b x hx e => by
   have h1 := (ho x e).2
   obtain ⟨_, _, hc⟩ := F.way a b x hx
   rcases hc with ⟨h | h, _⟩ | ⟨h, _⟩ <;> rw [h1] at h <;> cases h
 have hoi : ∀ b x, x ∈ Γ.inb b → o ≠ some x := fun b x hx e => by
   have h1 := (ho x e).2
   obtain ⟨_, _, hc⟩ := F.inb b x hx
   rcases hc with ⟨h | h, _⟩ | ⟨h, _⟩ <;> rw [h1] at h <;> cases h
 have hpk : ∀ x, x < Γ.k → o ≠ some x → (Γ.recvs m o).pk x = Γ.pk x := fun x hx h => by unfold Gs.pk; rw [hmv x hx, recvs_tk h]
 have hnew : ∀ x, x < Γ.k → ¬ ((Γ.mv x).p = m.p ∧ (Γ.mv x).no = m.no) := fun x hx h => by
   have h1 := H.reqs x hx
   rw [h.1, h.2] at h1
   have := (H.lt m.p hp).1 _ h1
   omega
 have hkp : ∀ q, Γ.k ∉ Γ.post q := fun q h => Nat.lt_irrefl _ (F.post q _ h).1
 have hmtk : ∀ q, Γ.mt q Γ.k = none := fun q => by
   cases h : Γ.mt q Γ.k with
   | none => rfl
   | some y => exact (hkp q (greedy_mem _ _ h).1).elim
 have hold : ∀ a b, (Γ.way a b).map (Γ.recvs m o).pk = (Γ.way a b).map Γ.pk := fun a b => List.map_congr_left fun x hx => hpk x (F.way a b x hx).1 (how a b x hx)
 have hmtlt : ∀ q x, x < Γ.k → (Γ.recvs m o).mt q x = Γ.mt q x := fun q x hx => by
   by_cases e : q = m.p
   · subst e
     rw [hmt]
     cases o with
     | none => rfl
     | some i => exact ups_ne _ _ (Nat.ne_of_lt hx)
   · rw [recvs_mt F e]
 refine ⟨hn.trans H.n, hlim.trans H.lim, fun a b ha hb => ?_, fun a b hab => ?_, fun q hq => ?_, fun q hq => ?_, fun q hq => ?_, fun x hx hs1 => ?_, fun x hx hs1 => ?_, fun x hx => ?_, fun q hq => ?_, fun x hx hs1 he h1 y hy => ?_, fun q hq => ?_⟩
 · rw [hway]
   cases o with
   | none => exact (H.way a b ha hb).trans (hold a b).symm
   | some i =>
     show (W.setWay _ _ _).way a b = (Γ.way2 m.p (Γ.mv i).p i a b).map (Γ.recvs m (some i)).pk
     by_cases e : a = m.p ∧ b = (Γ.mv i).p
     · obtain ⟨rfl, rfl⟩ := e
       rw [Wd.setWay_at, way2_at, List.map_append, hold, H.way _ _ ha hb]
       have hik := (F.arr _ i (ho i rfl).1).1
       show _ ++ [_] = _ ++ [pkG ((Γ.recvs m (some i)).mv i) ((Γ.recvs m (some i)).tk i)]
       rw [hmv i hik, recvs_tki]
     · rw [Wd.setWay_ne _ _ (fun h => e ⟨by have := h.1; omega, by have := h.2; omega⟩), way2_ne _ e, hold]
       exact H.way a b ha hb
 · rw [hway]
   cases o with
   | none => exact H.wayx a b hab
   | some i =>
     show (W.setWay _ _ _).way a b = []
     have hik := (F.arr _ i (ho i rfl).1).1
     rw [Wd.setWay_ne _ _ (fun h => hab ⟨_, _, hp, (F.mv i hik).1, h.1, h.2⟩)]
     exact H.wayx a b hab
 · rw [ppr (fun x => x.inb) hinb, H.inb q hq]
   split
   · rfl
   · refine List.map_congr_left fun x hx => ?_
     have := (F.inb q x hx).1
     rw [hpk x this (hoi q x hx), hmv x this, recvs_tk (hoi q x hx)]
 · by_cases e : q = m.p
   · subst e
     rw [hms]
     have : ((Γ.recvs m o).arr m.p).filter ((Γ.recvs m o).fr m.p) = (Γ.arr m.p).filter fun i => Γ.fr m.p i && !(o == some i) := by
       refine List.filter_congr fun x hx => ?_
       have : (Γ.recvs m o).fr m.p x = true ↔ (Γ.fr m.p x && !(o == some x)) = true := by
         rw [Bool.and_eq_true]
         refine Iff.trans free_iff ?_
         have h1 : Γ.fr m.p x = true ↔ ∀ j, Γ.mt m.p j ≠ some x := free_iff
         rw [h1]
         have h2 : ∀ j, greedy (fitG (Γ.recvs m o).mv) ((Γ.recvs m o).arr m.p) ((Γ.recvs m o).post m.p) j = (Γ.recvs m o).mt m.p j := fun _ => rfl
         simp only [h2, hmt]
         cases o with
         | none => simp
         | some i =>
           simp only [Bool.not_eq_true', beq_eq_false_iff_ne]
           constructor
           · intro h
             refine ⟨fun j hj => ?_, fun e => h Γ.k (by rw [ups_at]; exact e)⟩
             have hjk : j ≠ Γ.k := fun e => by rw [e, hmtk] at hj; cases hj
             exact h j (by rw [ups_ne _ _ hjk]; exact hj)
           · rintro ⟨h3, h4⟩ j hj
             by_cases e : j = Γ.k
             · subst e; rw [ups_at] at hj; exact h4 hj
             · rw [ups_ne _ _ e] at hj; exact h3 j hj
       cases h1 : (Γ.recvs m o).fr m.p x <;> cases h2 : (Γ.fr m.p x && !(o == some x)) <;> simp_all
     rw [this]
     refine List.map_congr_left fun x hx => ?_
     rw [hmv x (F.arr _ x (List.mem_filter.1 hx).1).1]
   · rw [hpr q e, H.msgs q hq]
     have hf : (Γ.recvs m o).fr q = Γ.fr q := by
       funext x
       show free _ (Γ.arr q) (ups Γ.post m.p _ q) x = _
       rw [ups_ne _ _ e]; exact adds_fr F q x
     rw [hf]
     refine List.map_congr_left fun x hx => ?_
     rw [hmv x (F.arr q x (List.mem_filter.1 hx).1).1]
 · by_cases e : q = m.p
   · subst e
     show _ = ((ups Γ.post m.p (Γ.post m.p ++ [Γ.k]) m.p).filter _).map _
     rw [ups_at, hrc, List.filter_append, List.map_append]
     have h1 : ((Γ.post m.p).filter fun j => ((Γ.recvs m o).mt m.p j).isNone).map (fun j => ((Γ.recvs m o).mv j).no) = (W.pr m.p).rcvs := by
       rw [H.rcvs _ hq]
       have : (Γ.post m.p).filter (fun j => ((Γ.recvs m o).mt m.p j).isNone) = (Γ.post m.p).filter fun j => (Γ.mt m.p j).isNone := List.filter_congr fun x hx => by rw [hmtlt _ x (F.post _ x hx).1]
       rw [this]
       exact List.map_congr_left fun x hx => by rw [hmv x (F.post _ x (List.mem_filter.1 hx).1).1]
     rw [h1]
     cases o with
     | none =>
       have : ((Γ.recvs m none).mt m.p Γ.k).isNone = true := by rw [hmt]; show (Γ.mt m.p Γ.k).isNone = true; rw [hmtk]; rfl
       rw [List.filter_cons_of_pos (by exact this)]
       show _ ++ [_] = _ ++ [((Γ.recvs m none).mv Γ.k).no]
       rw [hmvk]
     | some i =>
       have : ((Γ.recvs m (some i)).mt m.p Γ.k).isNone = false := by rw [hmt]; show (ups (Γ.mt m.p) Γ.k (some i) Γ.k).isNone = false; rw [ups_at]; rfl
       rw [List.filter_cons_of_neg (by rw [this]; decide)]
       exact (List.append_nil _).symm
   · rw [hpr q e, H.rcvs q hq, recvs_mt F e]
     show _ = ((ups Γ.post m.p (Γ.post m.p ++ [Γ.k]) q).filter _).map _
     rw [ups_ne _ _ e]
     exact List.map_congr_left fun x hx => by rw [hmv x (F.post _ x (List.mem_filter.1 hx).1).1]
 · rcases hk x hx with h | rfl
   · rw [hmv x h] at hs1 ⊢
     rw [hrq _ _ (hnew x h), H.rqs x h hs1]
     by_cases e : o = some x
     · subst e
       rw [recvs_tki, (ho x rfl).2]; rfl
     · rw [recvs_tk e]
   · rw [hmvk, hs] at hs1; cases hs1
 · rcases hk x hx with h | rfl
   · rw [hmv x h] at hs1 ⊢
     rw [hrq _ _ (hnew x h), hmtlt _ x h, H.rqr x h hs1]
     cases hm : Γ.mt (Γ.mv x).p x with
     | none => rfl
     | some y =>
       have hy := F.arr _ y (greedy_mem _ _ hm).2.1
       have hoy : o ≠ some y := fun e => by
         have h1 := (ho y e).2
         have h2 := hy.2.2.2.2.1 h1
         exact free_iff.1 h2 x hm
       show recvR _ _ (some (Γ.mv y, Γ.tk y)) = recvR _ _ (some ((Γ.recvs m o).mv y, (Γ.recvs m o).tk y))
       rw [hmv y hy.1, recvs_tk hoy]
   · rw [hmvk, hrk, hmt]
     cases o with
     | none => show _ = recvR _ _ ((Γ.mt m.p Γ.k).map _); rw [hmtk]; rfl
     | some i =>
       have hik := (F.arr _ i (ho i rfl).1).1
       show _ = recvR _ _ (((ups (Γ.mt m.p) Γ.k (some i)) Γ.k).map _)
       rw [ups_at]
       show recvR _ _ (some (Γ.mv i, .back)) = recvR _ _ (some ((Γ.recvs m (some i)).mv i, (Γ.recvs m (some i)).tk i))
       rw [hmv i hik, recvs_tki]
 · rcases hk x hx with h | rfl
   · rw [hmv x h]
     by_cases e : (Γ.mv x).p = m.p
     · rw [e, hre]; have := H.reqs x h; rw [e] at this; exact List.mem_append_left _ this
     · rw [hpr _ e]; exact H.reqs x h
   · rw [hmvk, hre]; exact List.mem_append_right _ (List.mem_singleton.2 rfl)
 · obtain ⟨h1, h2, h3⟩ := H.lt q hq
   show _ ∧ _ ≤ Γ.k + 1 ∧ _ ≤ Γ.k + 1 + 1
   by_cases e : q = m.p
   · subst e
     rw [hre, hne, List.length_append, List.length_singleton]
     refine ⟨fun x hx => ?_, by omega, by omega⟩
     rcases List.mem_append.1 hx with h | h
     · have := h1 x h; omega
     · rw [List.mem_singleton.1 h]; omega
   · rw [hpr q e]; exact ⟨h1, by omega, by omega⟩
 · rcases hk x hx with h | rfl
   · rw [hmv x h] at hs1 he hy ⊢
     by_cases e : o = some x
     · have hto := (F.arr _ x (ho x e).1).2.2.1
       rw [hto] at hy ⊢
       have hfx : Γ.fr m.p x = true := (F.arr _ x (ho x e).1).2.2.2.2.1 (ho x e).2
       subst e
       have hyk : y = Γ.k := by
         refine Classical.byContradiction fun hc => ?_
         rw [hmt] at hy
         have hy : ups (Γ.mt m.p) Γ.k (some x) y = some x := hy
         rw [ups_ne _ _ hc] at hy
         exact free_iff.1 hfx y hy
       subst hyk
       rw [hmvk, hex]
       show kget (if (Γ.mv x).ea = true then _ else _) _ = _
       rw [he, if_neg (by decide)]
       exact ks_at _ _ _
     · rw [recvs_tk e] at h1
       have hyk : y ≠ Γ.k := fun e2 => by
         subst e2
         by_cases e3 : (Γ.mv x).to = m.p
         · rw [e3, hmt] at hy
           cases o with
           | none => have hy : Γ.mt m.p Γ.k = some x := hy; rw [hmtk] at hy; cases hy
           | some i => have hy : ups (Γ.mt m.p) Γ.k (some i) Γ.k = some x := hy; rw [ups_at] at hy; exact e hy
         · rw [recvs_mt F e3, hmtk] at hy; cases hy
       have hylt : y < Γ.k := by
         have h2 : y ∈ (Γ.recvs m o).post (Γ.mv x).to := (greedy_mem _ _ hy).1
         have h2 : y ∈ ups Γ.post m.p (Γ.post m.p ++ [Γ.k]) (Γ.mv x).to := h2
         by_cases e3 : (Γ.mv x).to = m.p
         · rw [e3, ups_at] at h2
           rcases List.mem_append.1 h2 with h3 | h3
           · exact (F.post _ y h3).1
           · exact (hyk (List.mem_singleton.1 h3)).elim
         · rw [ups_ne _ _ e3] at h2; exact (F.post _ y h2).1
       rw [hmtlt _ y hylt] at hy
       have h5 := H.exs x h hs1 he h1 y hy
       rw [hmv y hylt]
       by_cases e3 : (Γ.mv x).to = m.p
       · rw [e3] at h5 ⊢
         rw [hex]
         cases o with
         | none => exact h5
         | some i =>
           show kget (if (Γ.mv i).ea = true then _ else _) _ = _
           split
           · exact h5
           · have hik := (F.arr _ i (ho i rfl).1).1
             refine (ks_ne _ fun e2 => e ?_).trans h5
             have e4 : ((Γ.mv x).p : Int) = (Γ.mv i).p := (Prod.mk.inj e2).1
             have e5 : ((Γ.mv x).no : Int) = (Γ.mv i).no := (Prod.mk.inj e2).2
             rw [F.inj x i h hik (by omega) (by omega)]
       · rw [hpr _ e3]; exact h5
   · rw [hmvk, hs] at hs1; cases hs1
 · rw [ppr (fun x => x.crds) hcl]; exact H.crd q hq
end
end Go.Mt
namespace Go.Mt
open Go.Arm
section
variable {C : Ct} {Γ : Gs} {W : Wd} {p : Nat}
def rr0 (peer tag room : Int) : Rq := ⟨0, peer, 3, tag, room, false, false, false, false, false, 0, 0, [], [], 0, [], false, St.z⟩
theorem In.recv (H : In C C.n Γ W) (F : Wf C Γ) (K : Ck C Γ) (hp : p < C.n) {peer tag : Int} (hpe : peer ≠ -2) :
  ∃ m o W2 W3, m.p = p ∧ m.peer = peer ∧ m.send = false ∧ m.tag = tag ∧ (m.d = [] ∧ m.sync = false ∧ m.ea = false) ∧ m.no = (W.pr p).next ∧ W.add p (rr0 peer tag C.room) = some W2 ∧ W2.start p (W.pr p).next [] = some W3 ∧ (W3.rq p (W.pr p).next).no = (W.pr p).next ∧
    In C C.n (Γ.recvs m o) W3 ∧ Wf C (Γ.recvs m o) := by
 have hk := K.k
 have hb : 1000 < big := by decide
 have hadd := H.add K.cs (by omega) hp (rr0 peer tag C.room)
 generalize hN : (W.pr p).next = N at hadd ⊢
 have hroom := K.cs.room
 have hml : (W.pr p).msgs.length < big := by
  rw [H.msgs p hp, List.length_map]
  exact Nat.lt_of_le_of_lt (nodup_len Γ.k _ ((F.arrn p).filter _) fun x hx => (F.arr p x (List.mem_filter.1 hx).1).1) K.cs.kb
 have hrl : (W.pr p).rcvs.length < big := by
  rw [H.rcvs p hp, List.length_map]
  exact Nat.lt_of_le_of_lt (nodup_len Γ.k _ ((F.postn p).filter _) fun x hx => (F.post p x (List.mem_filter.1 hx).1).1) K.cs.kb
 have hwl : ∀ q, q < C.n → (W.way (p : Int) (q : Int)).length < big := fun q hq => by
  rw [H.way p q hp hq, List.length_map]
  exact Nat.lt_of_le_of_lt (nodup_len Γ.k _ (F.wayn _ _) fun x hx => (F.way _ _ x hx).1) K.cs.kb
 generalize hm : (⟨p, peer, false, tag, [], N, false, false⟩ : Mv) = m
 have mp : m.p = p := by rw [← hm]
 have mno : m.no = N := by rw [← hm]
 have msd : m.send = false := by rw [← hm]
 have md3 : m.d = [] ∧ m.sync = false ∧ m.ea = false := by rw [← hm]; exact ⟨rfl, rfl, rfl⟩
 have hfresh : ∀ i, i < Γ.k → (Γ.mv i).p = m.p → (Γ.mv i).no ≠ m.no := fun i hi h e => by
  have h1 := H.reqs i hi
  rw [h, e, mp, mno, ← hN] at h1
  exact Nat.lt_irrefl _ ((H.lt p hp).1 _ h1)
 have hkp : Γ.k ∉ Γ.post p := fun h => Nat.lt_irrefl _ (F.post p _ h).1
 have hgp := greedy_post (fits := fitG (Γ.adds m).mv) hkp (Γ.arr p) (F.arrn p)
 have hfree : ∀ i, free (fitG (Γ.adds m).mv) (Γ.arr p) (Γ.post p) i = Γ.fr p i := fun i => adds_fr F p i
 have hmt0 : greedy (fitG (Γ.adds m).mv) (Γ.arr p) (Γ.post p) = Γ.mt p := adds_mt F p
 simp only [hfree, hmt0] at hgp
 have hmtr : ∀ o, (Γ.recvs m o).mt m.p = greedy (fitG (Γ.adds m).mv) (Γ.arr p) (Γ.post p ++ [Γ.k]) := fun o => by
  show greedy (fitG (Γ.adds m).mv) (Γ.arr m.p) (ups Γ.post m.p (Γ.post m.p ++ [Γ.k]) m.p) = _
  rw [ups_at, mp]
 have hfi : (W.pr p).msgs.findIdx? (fun m' => (recvR C.room m none).fits m'.en) = ((Γ.arr p).filter (Γ.fr p)).findIdx? fun i => fitG (Γ.adds m).mv i Γ.k := by
  rw [H.msgs p hp, List.findIdx?_map]
  refine findIdx_congr fun i hi => ?_
  show (recvR C.room m none).fits (msG (Γ.mv i)).en = _
  rw [msG_en, fits_g]
  unfold fitG
  rw [adds_at, adds_mv (F.arr p i (List.mem_filter.1 hi).1).1]
 have hdl : ((m.d.length : Nat) : Int) ≤ C.room := by rw [← hm]; exact hroom
 have hno : m.no = (W.pr m.p).next := by rw [mno, mp, hN]
 have hr0 : (⟨N, peer, 3, tag, C.room, false, false, false, true, false, 0, 0, [], [], 0, [], false, St.z⟩ : Rq) = recvR C.room m none := by rw [← hm]; rfl
 -- the start, up to the look at what waits
 have hstart : ∀ W3, (match (W.pr p).msgs.findIdx? (fun m' => (recvR C.room m none).fits m'.en) with
    | some i => (((W.setPr p (nxP W p)).setRq p N (recvR C.room m none)).setPr p { nxP W p with msgs := (W.pr p).msgs.eraseIdx i }).mtch p N ((W.pr p).msgs.getD i (.ask ⟨p, 3, tag, 0, 0⟩ 0))
    | none => some (((W.setPr p (nxP W p)).setRq p N (recvR C.room m none)).setPr p { nxP W p with rcvs := (W.pr p).rcvs ++ [N] })) = some W3 →
    (∀ i, (W.pr p).msgs.findIdx? (fun m' => (recvR C.room m none).fits m'.en) = some i → i < (W.pr p).msgs.length) →
    ((W.setPr p (nxP W p)).setRq p N { rr0 peer tag C.room with no := N }).start p N [] = some W3 := fun W3 h hlt => by
  have hpp : ∀ X, ((W.setPr p (nxP W p)).setRq p N X).pr p = nxP W p := fun X => Wd.setPr_at _ _ _
  unfold Wd.start
  rw [Wd.setRq_at, hpp]
  unfold rr0
  dsimp only
  rw [if_neg (fun h => h ⟨by show 0 * 0 < big; decide, by show 0 < big; decide, hml, hroom⟩), if_neg (by decide), if_neg hpe, Wd.setRq_setRq, hr0]
  show (match (W.pr p).msgs.findIdx? (fun m' => (recvR C.room m none).fits m'.en) with | some i => _ | none => _) = _
  cases hf : (W.pr p).msgs.findIdx? (fun m' => (recvR C.room m none).fits m'.en) with
  | none =>
    rw [hf] at h
    dsimp only at h ⊢
    exact (if_pos hrl).trans h
  | some i =>
    rw [hf] at h
    dsimp only at h ⊢
    have hg : ∀ d1 d2 : Ms, (W.pr p).msgs.getD i d1 = (W.pr p).msgs.getD i d2 := fun d1 d2 => by
      rw [List.getD_eq_getElem?_getD, List.getD_eq_getElem?_getD, List.getElem?_eq_getElem (hlt i hf)]; rfl
    rw [← h, hg _ (.ask ⟨p, 3, tag, 0, 0⟩ 0)]
    rfl
 cases hf : ((Γ.arr p).filter (Γ.fr p)).findIdx? (fun i => fitG (Γ.adds m).mv i Γ.k) with
 | none =>
  have hB : greedy (fitG (Γ.adds m).mv) (Γ.arr p) (Γ.post p ++ [Γ.k]) = Γ.mt p := by
    rcases hgp with ⟨i, h1, _⟩ | ⟨_, h2⟩
    · have h3 := List.find?_some h1
      have h4 := List.mem_of_find?_eq_some h1
      simp only [Bool.and_eq_true] at h3
      have := List.findIdx?_eq_none_iff.1 hf i (List.mem_filter.2 ⟨h4, h3.1⟩)
      rw [h3.2] at this; cases this
    · exact h2
  have hmt : (Γ.recvs m none).mt m.p = Γ.mt m.p := by rw [hmtr, hB, mp]
  refine ⟨m, none, _, ((W.setPr p { nxP W p with rcvs := (W.pr p).rcvs ++ [N] }).setRq p N (recvR C.room m none)), mp, by rw [← hm], msd, by rw [← hm], md3, mno, hadd, hstart _ ?_ (fun i h => ?_), ?_, ?_, ?_⟩
  · rw [hfi, hf]
    show some (Wd.setRq (Wd.setPr (Wd.setPr W p _) p _) p N _) = _
    rw [Wd.setPr_setPr]
  · rw [hfi, hf] at h; cases h
  · rw [Wd.setRq_at, ← hm]; rfl
  · subst mp
    refine H.recvs F msd hp hno (fun i h => by cases h) hmt rfl rfl (fun a b => rfl) (fun q h => Wd.setPr_ne _ _ h) ?_ ?_ ?_ ?_ ?_ ?_ ?_ (fun q no h => Wd.setRq_ne _ _ (by rw [← mno]; exact h)) ?_
    · show ((W.setPr m.p _).pr m.p).inb = _; rw [Wd.setPr_at]; rfl
    · show ((W.setPr m.p _).pr m.p).msgs = _
      rw [Wd.setPr_at]
      refine (H.msgs _ hp).trans ?_
      congr 1
      exact List.filter_congr fun x _ => by simp
    · show ((W.setPr m.p _).pr m.p).rcvs = (W.pr m.p).rcvs ++ [m.no]; rw [Wd.setPr_at, mno]
    · show ((W.setPr m.p _).pr m.p).exps = (W.pr m.p).exps; rw [Wd.setPr_at]; rfl
    · show ((W.setPr m.p _).pr m.p).reqs = _; rw [Wd.setPr_at]; show _ ++ [(W.pr m.p).next] = _; rw [hno]
    · show ((W.setPr m.p _).pr m.p).next = _; rw [Wd.setPr_at]; rfl
    · show ((W.setPr m.p _).pr m.p).crds = _; rw [Wd.setPr_at]; rfl
    · rw [mno]; exact Wd.setRq_at _ _ _ _
  · refine F.recvs msd (by rw [mp]; exact hp) hdl hfresh (fun i h => by cases h) fun j x => ?_
    rw [hmt]; simp
 | some idx =>
  obtain ⟨i, g1, g2, g3, g4, g5⟩ := findIdx_find hf
  obtain ⟨gi1, gi2⟩ := List.mem_filter.1 g3
  obtain ⟨hik, his, hito, _, hiw⟩ := F.arr p i gi1
  have hiwt : Γ.tk i = .wait := hiw.2 gi2
  have hA : greedy (fitG (Γ.adds m).mv) (Γ.arr p) (Γ.post p ++ [Γ.k]) = ups (Γ.mt p) Γ.k (some i) := by
    have hfd : (Γ.arr p).find? (fun i => Γ.fr p i && fitG (Γ.adds m).mv i Γ.k) = some i := by
      rw [← g1, List.find?_filter]
      exact find_congr fun x _ => by simp
    rcases hgp with ⟨i', h1, h2⟩ | ⟨h1, _⟩
    · rw [hfd] at h1; cases h1; exact h2
    · rw [hfd] at h1; cases h1
  have hmt : (Γ.recvs m (some i)).mt m.p = ups (Γ.mt m.p) Γ.k (some i) := by rw [hmtr, hA, mp]
  have hin := (F.mv i hik).1
  have hput : ∀ (W' : Wd) (x : Pk), W'.way = W.way → W'.put p (Γ.mv i).p x = some (W'.setWay p (Γ.mv i).p (W.way p (Γ.mv i).p ++ [x])) := fun W' x h => by
    unfold Wd.put; rw [h, if_pos (hwl _ hin)]
  have hget : (W.pr p).msgs.getD idx (.ask ⟨p, 3, tag, 0, 0⟩ 0) = msG (Γ.mv i) := by
    rw [H.msgs p hp, List.getD_eq_getElem?_getD, List.getElem?_map, g2]; rfl
  have hidx : idx < (W.pr p).msgs.length := by
    rw [H.msgs p hp, List.length_map]; exact (List.getElem?_eq_some_iff.1 g2).1
  have hers : (W.pr p).msgs.eraseIdx idx = ((Γ.arr p).filter fun x => Γ.fr p x && !(some i == some x)).map fun i => msG (Γ.mv i) := by
    rw [H.msgs p hp, map_erase, g5 ((F.arrn p).filter _), List.filter_filter]
    congr 1
    refine List.filter_congr fun x _ => ?_
    by_cases e : x = i
    · subst e; simp
    · have e2 : ¬ i = x := fun h => e h.symm
      have h1 : (x == i) = false := by simpa using e
      have h3 : (some i == some x) = false := by simpa using e2
      show (!(x == i) && Γ.fr p x) = (Γ.fr p x && !(some i == some x))
      rw [h1, h3, Bool.and_comm]
  have hdl2 := (F.mv i hik).2.1
  have hd2 : (Γ.mv i).d.length < big := by have := K.cs.rb; omega
  obtain ⟨E', hE⟩ : ∃ E', E' = if (Γ.mv i).ea = true then (W.pr p).exps else kset (W.pr p).exps (((Γ.mv i).p : Int), ((Γ.mv i).no : Int)) N := ⟨_, rfl⟩
  have hpp : ∀ X Y, (((W.setPr p X).setRq p N Y).pr p) = X := fun X Y => Wd.setPr_at _ _ _
  refine ⟨m, some i, _, (((W.setPr p { nxP W p with msgs := (W.pr p).msgs.eraseIdx idx, exps := E' }).setRq p N (recvR C.room m (some (Γ.mv i, .back)))).setWay p (Γ.mv i).p (W.way p (Γ.mv i).p ++ [pkG (Γ.mv i) .back])), mp, by rw [← hm], msd, by rw [← hm], md3, mno, hadd, hstart _ ?_ (fun k h => ?_), ?_, ?_, ?_⟩
  · rw [hfi, hf]
    dsimp only
    rw [hget]
    cases hea : (Γ.mv i).ea with
    | true =>
      rw [hea, if_pos rfl] at hE
      subst hE
      have hmm : msG (Γ.mv i) = .eager (enG (Γ.mv i)) (Γ.mv i).d := by unfold msG; rw [if_pos hea]
      have hr : ({ recvR C.room m none with st := ⟨(enG (Γ.mv i)).src, (enG (Γ.mv i)).tag, (enG (Γ.mv i)).size, 0⟩ } : Rq).gets (Γ.mv i).d = recvR C.room m (some (Γ.mv i, .back)) := by
        unfold Rq.gets recvR doneG enG
        dsimp only
        rw [if_neg (fun h => by have := h.2; omega), hea]
        rfl
      rw [hmm]
      unfold Wd.mtch
      dsimp only
      have hrq : (((W.setPr p (nxP W p)).setRq p N (recvR C.room m none)).setPr p { nxP W p with msgs := (W.pr p).msgs.eraseIdx idx }).rq p N = recvR C.room m none := Wd.setRq_at _ _ _ _
      rw [hrq, if_pos ⟨hd2, hroom⟩]
      show Wd.put (Wd.setRq (Wd.setPr (Wd.setRq (Wd.setPr W p _) p N _) p _) p N (({ recvR C.room m none with st := ⟨(enG (Γ.mv i)).src, (enG (Γ.mv i)).tag, (enG (Γ.mv i)).size, 0⟩ } : Rq).gets (Γ.mv i).d)) p ((Γ.mv i).p : Int) .credit = _
      rw [hr, hput]
      rotate_left
      · rfl
      unfold pkG
      dsimp only
      rw [if_pos hea]
      show some (Wd.setWay (Wd.setRq (Wd.setRq (Wd.setPr (Wd.setPr W p _) p _) p N _) p N _) _ _ _) = _
      rw [Wd.setPr_setPr, Wd.setRq_setRq]
      rfl
    | false =>
      rw [hea, if_neg (by decide)] at hE
      subst hE
      have hmm : msG (Γ.mv i) = .ask (enG (Γ.mv i)) (Γ.mv i).no := by unfold msG; rw [if_neg (by rw [hea]; decide)]
      have hr : ({ recvR C.room m none with st := ⟨(enG (Γ.mv i)).src, (enG (Γ.mv i)).tag, (enG (Γ.mv i)).size, 0⟩ } : Rq) = recvR C.room m (some (Γ.mv i, .back)) := by
        unfold recvR doneG enG
        dsimp only
        rw [hea]
        rfl
      rw [hmm]
      unfold Wd.mtch
      dsimp only
      have hrq : (((W.setPr p (nxP W p)).setRq p N (recvR C.room m none)).setPr p { nxP W p with msgs := (W.pr p).msgs.eraseIdx idx }).rq p N = recvR C.room m none := Wd.setRq_at _ _ _ _
      have hprq : (((W.setPr p (nxP W p)).setRq p N (recvR C.room m none)).setPr p { nxP W p with msgs := (W.pr p).msgs.eraseIdx idx }).pr p = { nxP W p with msgs := (W.pr p).msgs.eraseIdx idx } := Wd.setPr_at _ _ _
      rw [hrq, hprq]
      show Wd.put (Wd.setPr (Wd.setRq (Wd.setPr (Wd.setRq (Wd.setPr W p _) p N _) p _) p N ({ recvR C.room m none with st := ⟨(enG (Γ.mv i)).src, (enG (Γ.mv i)).tag, (enG (Γ.mv i)).size, 0⟩ } : Rq)) p _) p ((Γ.mv i).p : Int) (.clear (Γ.mv i).no) = _
      rw [hr, hput]
      rotate_left
      · rfl
      unfold pkG
      dsimp only
      rw [if_neg (by rw [hea]; decide)]
      show some (Wd.setWay (Wd.setRq (Wd.setRq (Wd.setPr (Wd.setPr (Wd.setPr W p _) p _) p _) p N _) p N _) _ _ _) = _
      rw [Wd.setPr_setPr, Wd.setPr_setPr, Wd.setRq_setRq]
      rfl
  · rw [hfi, hf] at h; cases h; exact hidx
  · show ((Wd.setRq _ p N _).rq p N).no = N
    rw [Wd.setRq_at, ← hm]; rfl
  · subst mp
    refine H.recvs F msd hp hno (fun x h => by cases h; exact ⟨gi1, hiwt⟩) hmt rfl rfl (fun a b => rfl) (fun q h => Wd.setPr_ne _ _ h) ?_ ?_ ?_ ?_ ?_ ?_ ?_ (fun q no h => Wd.setRq_ne _ _ (by rw [← mno]; exact h)) ?_
    · show ((W.setPr m.p _).pr m.p).inb = _; rw [Wd.setPr_at]; rfl
    · show ((W.setPr m.p _).pr m.p).msgs = _; rw [Wd.setPr_at]; exact hers
    · show ((W.setPr m.p _).pr m.p).rcvs = (W.pr m.p).rcvs; rw [Wd.setPr_at]; rfl
    · show ((W.setPr m.p _).pr m.p).exps = if (Γ.mv i).ea = true then _ else _; rw [Wd.setPr_at, mno]; exact hE
    · show ((W.setPr m.p _).pr m.p).reqs = _; rw [Wd.setPr_at]; show _ ++ [(W.pr m.p).next] = _; rw [hno]
    · show ((W.setPr m.p _).pr m.p).next = _; rw [Wd.setPr_at]; rfl
    · show ((W.setPr m.p _).pr m.p).crds = _; rw [Wd.setPr_at]; rfl
    · rw [mno]; exact Wd.setRq_at _ _ _ _
  · refine F.recvs msd (by rw [mp]; exact hp) hdl hfresh (fun x h => by cases h; rw [mp]; exact ⟨gi1, hiwt⟩) fun j x => ?_
    rw [hmt, mp]
    have hmk : Γ.mt p Γ.k = none := by
      cases h : Γ.mt p Γ.k with
      | none => rfl
      | some y => exact (hkp (greedy_mem _ _ h).1).elim
    by_cases e : j = Γ.k
    · subst e; rw [ups_at, hmk]; simp
    · rw [ups_ne _ _ e]; simp [e]
end
end Go.Mt
namespace Go.Mt
open Go.Arm
section
variable {C : Ct} {Γ : Gs} {W : Wd}
def gs0 : Gs := ⟨0, fun _ => ⟨0, 0, false, 0, [], 0, false, false⟩, fun _ => [], fun _ => [], fun _ _ => [], fun _ => [], fun _ => .fin, fun _ => []⟩
theorem In.born {n : Nat} {e c room : Int} {q : Rq} (hc : 0 ≤ c) (hW : W = ⟨e, n, fun _ => ⟨1, [], [], [], [], [], List.replicate n c⟩, fun _ _ => q, fun _ _ => []⟩) : In ⟨n, e, room, c⟩ n gs0 W ∧ Wf ⟨n, e, room, c⟩ gs0 := by
 subst hW
 refine ⟨⟨rfl, rfl, fun _ _ _ _ => rfl, fun _ _ _ => rfl, fun p hp => ?_, fun _ _ => rfl, fun _ _ => rfl, fun i hi => absurd hi (Nat.not_lt_zero _), fun i hi => absurd hi (Nat.not_lt_zero _), fun i hi => absurd hi (Nat.not_lt_zero _), fun p hp => ⟨fun x hx => (by cases hx), Nat.le_refl _, Nat.le_refl _⟩, fun i hi => absurd hi (Nat.not_lt_zero _), fun p hp => ⟨List.length_replicate, fun r hr => ?_⟩⟩,
   ⟨fun i hi => absurd hi (Nat.not_lt_zero _), fun i j hi => absurd hi (Nat.not_lt_zero _), fun p i hi => (by cases hi), fun _ => List.nodup_nil, fun p i hi => (by cases hi), fun _ => List.nodup_nil, fun a b i hi => (by cases hi), fun _ _ => List.nodup_nil, fun b i hi => (by cases hi), fun _ => List.nodup_nil, fun a b c i hi => (by cases hi), fun i hi => absurd hi (Nat.not_lt_zero _), fun i hi => absurd hi (Nat.not_lt_zero _), fun a b => List.Pairwise.nil, fun i hi => absurd hi (Nat.not_lt_zero _), fun p => ⟨List.nodup_nil, fun i hi => (by cases hi)⟩⟩⟩
 · show [] = if p = n then [] else ([] : List (Int × Pk))
   split <;> rfl
 · have hr : r < n := hr
   show 0 ≤ (List.replicate n c).getD r 0 ∧ (List.replicate n c).getD r 0 ≤ c + ((0 : Nat) : Int)
   have : (List.replicate n c).getD r 0 = c := by
    rw [List.getD_eq_getElem?_getD, List.getElem?_replicate, if_pos hr]; rfl
   rw [this]; omega
theorem In.deliver {a b : Nat} (H : In C C.n Γ W) (F : Wf C Γ) (K : Ck C Γ) (ha : a < C.n) (hb : b < C.n) : W.way a b = [] ∨ ∃ x l Γ', W.way a b = x :: l ∧ (W.pr b).inb.length < big ∧
  In C C.n Γ' ((W.setWay a b l).setPr b { W.pr b with inb := (W.pr b).inb ++ [((a : Int), x)] }) ∧ Wf C Γ' ∧ Ew Γ Γ' := by
 cases hw : W.way a b with
 | nil => exact .inl rfl
 | cons x l =>
  obtain ⟨h1, h2⟩ := H.mvs F (j := 1) ha hb
  refine .inr ⟨x, l, _, rfl, ?_, ?_, h2, ⟨rfl, rfl, rfl⟩⟩
  · rw [H.inb b hb, if_neg (Nat.ne_of_lt hb), List.length_map]
    exact Nat.lt_of_le_of_lt (nodup_len Γ.k _ (F.inbn b) fun x hx => (F.inb b x hx).1) K.cs.kb
  · have : W.mv a b 1 = (W.setWay a b l).setPr b { W.pr b with inb := (W.pr b).inb ++ [((a : Int), x)] } := by
     unfold Wd.mv
     rw [hw]
     rfl
    rw [← this]; exact h1
theorem Wf.rest (F : Wf C Γ) (Q : Gq Γ) {i : Nat} (hi : i < Γ.k) (hs : (Γ.mv i).send = true) : (Γ.tk i = .wait ∧ Γ.fr (Γ.mv i).to i = true) ∨ (Γ.tk i = .fin ∧ ∃ j, Γ.mt (Γ.mv i).to j = some i) := by
 have hno : ¬ ((∃ a b, i ∈ Γ.way a b) ∨ ∃ b, i ∈ Γ.inb b) := by
   rintro (⟨a, b, h⟩ | ⟨b, h⟩)
   · rw [Q.1] at h; cases h
   · rw [Q.2] at h; cases h
 have h1 : ∀ t, Γ.tk i = t → t = .wait ∨ t = .fin := fun t ht => by
   cases t with
   | msg => exact (hno (F.lost i hi hs (.inl ht))).elim
   | back => exact (hno (F.lost i hi hs (.inr (.inl ht)))).elim
   | body => exact (hno (F.lost i hi hs (.inr (.inr ht)))).elim
   | wait => exact .inl rfl
   | fin => exact .inr rfl
 rcases h1 _ rfl with h | h
 · have ha := F.fin i hi hs (by rw [h]; decide)
   exact .inl ⟨h, (F.arr _ i ha).2.2.2.2.1 h⟩
 · obtain ⟨j, hj, _⟩ := F.got hi hs (by rw [h]; decide) (by rw [h]; decide)
   exact .inr ⟨h, j, hj⟩
theorem Wf.arrived (F : Wf C Γ) (Q : Gq Γ) (a b : Nat) : ((Γ.arr b).filter fun i => (Γ.mv i).p == a).Pairwise (· < ·) ∧ ∀ i, i < Γ.k → (Γ.mv i).send = true → (Γ.mv i).to = b → i ∈ Γ.arr b := by
 refine ⟨?_, fun i hi hs hb => ?_⟩
 · have h1 := F.ord a b
   rw [List.append_assoc] at h1
   exact (List.pairwise_append.1 h1).1
 · rw [← hb]
   rcases F.rest Q hi hs with ⟨h, _⟩ | ⟨h, _⟩ <;> exact F.fin i hi hs (by rw [h]; decide)
end
end Go.Mt
namespace Go.Mt
open Go.Arm
structure Pl (C : Ct) (sp : Nat → Mv) (no : Nat → Nat) (k : Nat) (Γ : Gs) (W : Wd) : Prop where
 hi : In C C.n Γ W
 hf : Wf C Γ
 hk : Γ.k = k
 mv : ∀ i, i < k → ∃ ea : Bool, (ea = true → (sp i).sync = false) ∧ Γ.mv i = { sp i with no := no i, ea := ea }
 post : ∀ p, Γ.post p = (List.range k).filter fun j => !(sp j).send && (sp j).p == p
section
variable {C : Ct} {sp : Nat → Mv} {no : Nat → Nat} {k : Nat} {Γ Γ' : Gs} {W W' : Wd}
theorem Pl.ew (P : Pl C sp no k Γ W) (E : Ew Γ Γ') (I : In C C.n Γ' W') (F : Wf C Γ') : Pl C sp no k Γ' W' :=
 ⟨I, F, E.k.trans P.hk, fun i hi => by rw [E.mv]; exact P.mv i hi, fun p => by rw [E.post]; exact P.post p⟩
theorem Pl.send (P : Pl C sp no k Γ W) {m : Mv} (I : In C C.n (Γ.sends m) W') (F : Wf C (Γ.sends m)) (hs : (sp k).send = true) (hm : m = { sp k with no := m.no, ea := m.ea }) (hsy : m.ea = true → (sp k).sync = false) : Pl C sp (ups no k m.no) (k + 1) (Γ.sends m) W' := by
 refine ⟨I, F, congrArg (· + 1) P.hk, fun i hi => ?_, fun p => ?_⟩
 · show ∃ ea : Bool, (ea = true → (sp i).sync = false) ∧ ups Γ.mv Γ.k m i = _
   rw [P.hk]
   by_cases e : i = k
   · subst e; rw [ups_at, ups_at]; exact ⟨m.ea, hsy, hm⟩
   · rw [ups_ne _ _ e, ups_ne _ _ e]; exact P.mv i (by omega)
 · show Γ.post p = _
   rw [P.post, List.range_succ, List.filter_append, List.filter_cons_of_neg (by rw [hs]; simp)]
   exact (List.append_nil _).symm
theorem Pl.recv (P : Pl C sp no k Γ W) {m : Mv} {o : Option Nat} (I : In C C.n (Γ.recvs m o) W') (F : Wf C (Γ.recvs m o)) (hs : (sp k).send = false) (hp : m.p = (sp k).p) (hm : m = { sp k with no := m.no, ea := m.ea }) (hsy : m.ea = true → (sp k).sync = false) : Pl C sp (ups no k m.no) (k + 1) (Γ.recvs m o) W' := by
 refine ⟨I, F, congrArg (· + 1) P.hk, fun i hi => ?_, fun p => ?_⟩
 · show ∃ ea : Bool, (ea = true → (sp i).sync = false) ∧ ups Γ.mv Γ.k m i = _
   rw [P.hk]
   by_cases e : i = k
   · subst e; rw [ups_at, ups_at]; exact ⟨m.ea, hsy, hm⟩
   · rw [ups_ne _ _ e, ups_ne _ _ e]; exact P.mv i (by omega)
 · show ups Γ.post m.p (Γ.post m.p ++ [Γ.k]) p = _
   rw [List.range_succ, List.filter_append]
   by_cases e : p = m.p
   · subst e
     rw [ups_at, P.post, P.hk, List.filter_cons_of_pos (by rw [hs, hp]; simp)]
     rfl
   · rw [ups_ne _ _ e, P.post, List.filter_cons_of_neg (by rw [hs, ← hp]; simp [Ne.symm e])]
     exact (List.append_nil _).symm
theorem Pl.gotm (P : Pl C sp no k Γ W) {p i j : Nat} (h : Γ.mt p j = some i) : i < k ∧ (sp i).send = true ∧ (sp i).to = p ∧ j < k ∧ (sp j).send = false ∧ (sp j).p = p ∧ ((sp j).peer = -1 ∨ (sp j).peer = ((sp i).p : Int)) ∧ ((sp j).tag = -1 ∨ (sp j).tag = (sp i).tag) := by
 obtain ⟨h1, h2, h3⟩ := greedy_mem _ _ h
 obtain ⟨a1, a2, a3, _⟩ := P.hf.arr p i h2
 obtain ⟨b1, b2, b3⟩ := P.hf.post p j h1
 rw [P.hk] at a1 b1
 obtain ⟨ea, _, e1⟩ := P.mv i a1
 obtain ⟨eb, _, e2⟩ := P.mv j b1
 rw [e1] at a2 a3
 rw [e2] at b2 b3
 unfold fitG at h3
 rw [e1, e2] at h3
 simp only [Bool.and_eq_true, Bool.or_eq_true, beq_iff_eq] at h3
 exact ⟨a1, a2, a3, b1, b2, b3, h3.1, h3.2⟩
end
end Go.Mt
namespace Go.Mt
open Go.Arm
theorem call_rest {W : Wd} {p : Nat} (h : (W.pr p).inb = []) : W.call p = some W := by
 unfold Wd.call
 rw [h, if_pos (by decide)]
 show some (W.setPr p { W.pr p with inb := [] }) = _
 rw [← h]
 show some (W.setPr p (W.pr p)) = _
 rw [Wd.setPr_same]
section
variable {C : Ct} {sp : Nat → Mv} {no : Nat → Nat} {k : Nat} {Γ : Gs} {W W' : Wd}
structure Ts (C : Ct) (sp : Nat → Mv) (no : Nat → Nat) (k : Nat) (W : Wd) (un : Nat → Prop) (W' : Wd) : Prop where
 n : W'.n = C.n
 inb : ∀ p, p < C.n → (W'.pr p).inb = []
 rcvs : ∀ p, (W'.pr p).rcvs = (W.pr p).rcvs
 msgs : ∀ p, (W'.pr p).msgs = (W.pr p).msgs
 rq : ∀ i, i < k → un i → W'.rq (sp i).p (no i) = W.rq (sp i).p (no i) ∧ no i ∈ (W'.pr (sp i).p).reqs
 nd : ∀ p, p < C.n → (W'.pr p).reqs.length ≤ k
theorem Pl.attr (P : Pl C sp no k Γ W) {i : Nat} (hi : i < k) : (Γ.mv i).p = (sp i).p ∧ (Γ.mv i).no = no i ∧ (Γ.mv i).send = (sp i).send ∧ (Γ.mv i).d = (sp i).d ∧ (Γ.mv i).tag = (sp i).tag ∧ (Γ.mv i).to = (sp i).to ∧ (Γ.mv i).sync = (sp i).sync := by
 obtain ⟨ea, _, e⟩ := P.mv i hi
 rw [e]
 exact ⟨rfl, rfl, rfl, rfl, rfl, rfl, rfl⟩
theorem Pl.ts (P : Pl C sp no k Γ W) (Q : Gq Γ) : Ts C sp no k W (fun _ => True) W := by
 refine ⟨P.hi.n, fun p hp => ?_, fun _ => rfl, fun _ => rfl, fun i hi _ => ⟨rfl, ?_⟩, fun p hp => by have := (P.hi.lt p hp).2.1; rw [P.hk] at this; exact this⟩
 · rw [P.hi.inb p hp, if_neg (Nat.ne_of_lt hp), Q.2]; rfl
 · obtain ⟨e1, e2, _⟩ := P.attr hi
   have := P.hi.reqs i (by rw [P.hk]; exact hi)
   rw [e1, e2] at this; exact this
theorem Pl.inj (P : Pl C sp no k Γ W) {i j : Nat} (hi : i < k) (hj : j < k) (hp : (sp i).p = (sp j).p) (hn : no i = no j) : i = j := by
 obtain ⟨e1, e2, _⟩ := P.attr hi
 obtain ⟨e3, e4, _⟩ := P.attr hj
 exact P.hf.inj i j (by rw [P.hk]; exact hi) (by rw [P.hk]; exact hj) (by rw [e1, e3, hp]) (by rw [e2, e4, hn])
theorem Ts.over (P : Pl C sp no k Γ W) {un : Nat → Prop} (T : Ts C sp no k W un W') {i : Nat} (hi : i < k) (hp : (W'.rq (sp i).p (no i)).no = no i) : Ts C sp no k W (fun j => un j ∧ j ≠ i) (W'.over (sp i).p (no i)) := by
 have hpr : ∀ q, (W'.over (sp i).p (no i)).pr q = W'.pr q ∨ (q = (sp i).p ∧ (W'.over (sp i).p (no i)).pr q = { W'.pr q with reqs := (W'.pr q).reqs.erase (no i) }) := fun q => by
   unfold Wd.over
   dsimp only
   split
   · exact .inl rfl
   · by_cases e : q = (sp i).p
     · subst e
       refine .inr ⟨rfl, ?_⟩
       rw [Wd.setPr_at, hp]
     · exact .inl (Wd.setPr_ne _ _ e)
 have hrq : ∀ q x, ¬ (q = (sp i).p ∧ x = no i) → (W'.over (sp i).p (no i)).rq q x = W'.rq q x := fun q x h => by
   unfold Wd.over
   dsimp only
   split
   · exact Wd.setRq_ne _ _ h
   · show (Wd.setRq _ _ _ _).rq q x = _
     exact Wd.setRq_ne _ _ h
 refine ⟨(Wd.over_n _ _ _).trans T.n, fun p hp => ?_, fun p => ?_, fun p => ?_, fun j hj hu => ?_, fun p hp => ?_⟩
 · rcases hpr p with h | ⟨_, h⟩ <;> rw [h] <;> exact T.inb p hp
 · rcases hpr p with h | ⟨_, h⟩ <;> rw [h] <;> exact T.rcvs p
 · rcases hpr p with h | ⟨_, h⟩ <;> rw [h] <;> exact T.msgs p
 · obtain ⟨h1, h2⟩ := T.rq j hj hu.1
   have hne : ¬ ((sp j).p = (sp i).p ∧ no j = no i) := fun h => hu.2 (P.inj hj hi h.1 h.2)
   refine ⟨(hrq _ _ hne).trans h1, ?_⟩
   rcases hpr (sp j).p with h | ⟨h3, h⟩
   · rw [h]; exact h2
   · rw [h]
     exact (List.mem_erase_of_ne (fun e => hne ⟨h3, e⟩)).2 h2
 · rcases hpr p with h | ⟨_, h⟩ <;> rw [h]
   · exact T.nd p hp
   · exact Nat.le_trans (List.length_erase_le) (T.nd p hp)
theorem Pl.recvd (P : Pl C sp no k Γ W) (Q : Gq Γ) {j : Nat} (hj : j < k) (hs : (sp j).send = false) :
  (Γ.mt (sp j).p j = none ∧ (W.rq (sp j).p (no j)).act = true ∧ (W.rq (sp j).p (no j)).done = false ∧ (W.rq (sp j).p (no j)).no = no j) ∨
  ∃ i, Γ.mt (sp j).p j = some i ∧ (W.rq (sp j).p (no j)).act = true ∧ (W.rq (sp j).p (no j)).done = true ∧ (W.rq (sp j).p (no j)).send = false ∧ (W.rq (sp j).p (no j)).no = no j ∧ (W.rq (sp j).p (no j)).data = (sp i).d ∧ (W.rq (sp j).p (no j)).st = ⟨(sp i).p, (sp i).tag, ((sp i).d.length : Nat), 0⟩ := by
 obtain ⟨e1, e2, e3, _⟩ := P.attr hj
 have hr := P.hi.rqr j (by rw [P.hk]; exact hj) (e3.trans hs)
 rw [e1, e2] at hr
 rw [hr]
 cases hm : Γ.mt (sp j).p j with
 | none => exact .inl ⟨rfl, rfl, rfl, e2⟩
 | some i =>
  obtain ⟨hik, his, hito, _⟩ := P.gotm hm
  obtain ⟨f1, f2, f3, f4, f5, f6, _⟩ := P.attr hik
  have hfin : Γ.tk i = .fin := by
    rcases P.hf.rest Q (by rw [P.hk]; exact hik) (f3.trans his) with ⟨_, h⟩ | ⟨h, _⟩
    · rw [f6, hito] at h
      exact (free_iff.1 h j hm).elim
    · exact h
  refine .inr ⟨i, rfl, rfl, ?_, rfl, e2, ?_, ?_⟩
  · show doneG (Γ.mv i) (Γ.tk i) = true
    rw [hfin]; unfold doneG; simp
  · show (if doneG (Γ.mv i) (Γ.tk i) = true then (Γ.mv i).d else []) = _
    rw [hfin, if_pos (by unfold doneG; simp), f4]
  · show (⟨((Γ.mv i).p : Int), (Γ.mv i).tag, (((Γ.mv i).d.length : Nat) : Int), 0⟩ : St) = _
    rw [f1, f5, f4]
theorem Pl.sent (P : Pl C sp no k Γ W) (Q : Gq Γ) {i : Nat} (hi : i < k) (hs : (sp i).send = true) : (W.rq (sp i).p (no i)).act = true ∧ (W.rq (sp i).p (no i)).send = true ∧ (W.rq (sp i).p (no i)).no = no i ∧
   ((∃ j, Γ.mt (sp i).to j = some i) → (W.rq (sp i).p (no i)).done = true) ∧ ((∀ j, Γ.mt (sp i).to j ≠ some i) → (sp i).sync = true → (W.rq (sp i).p (no i)).done = false) := by
 obtain ⟨e1, e2, e3, _, _, e6, e7⟩ := P.attr hi
 have hik : i < Γ.k := by rw [P.hk]; exact hi
 have hr := P.hi.rqs i hik (e3.trans hs)
 rw [e1, e2] at hr
 rw [hr]
 refine ⟨rfl, rfl, e2, fun ⟨j, hj⟩ => ?_, fun h hsy => ?_⟩
 · show ((Γ.mv i).ea || Γ.tk i == .body || Γ.tk i == .fin) = true
   rcases P.hf.rest Q hik (e3.trans hs) with ⟨_, h⟩ | ⟨h, _⟩
   · rw [e6] at h; exact (free_iff.1 h j hj).elim
   · rw [h]; simp
 · show ((Γ.mv i).ea || Γ.tk i == .body || Γ.tk i == .fin) = false
   rcases P.hf.rest Q hik (e3.trans hs) with ⟨h1, _⟩ | ⟨_, j, hj⟩
   · rw [h1]
     obtain ⟨ea, hea, e⟩ := P.mv i hi
     rw [e]
     cases ea with
     | true => rw [hea rfl] at hsy; cases hsy
     | false => rfl
   · rw [e6] at hj; exact (h j hj).elim
end
end Go.Mt
namespace Go.Mt
open Go.Arm
theorem sorted_ext : ∀ {l m : List Nat}, l.Pairwise (· < ·) → m.Pairwise (· < ·) → (∀ x, x ∈ l ↔ x ∈ m) → l = m
 | [], [], _, _, _ => rfl
 | [], y :: m, _, _, h => by cases (h y).2 List.mem_cons_self
 | x :: l, [], _, _, h => by cases (h x).1 List.mem_cons_self
 | x :: l, y :: m, h1, h2, h => by
  obtain ⟨a1, a2⟩ := List.pairwise_cons.1 h1
  obtain ⟨b1, b2⟩ := List.pairwise_cons.1 h2
  have e : x = y := by
    have hx := (h x).1 List.mem_cons_self
    have hy := (h y).2 List.mem_cons_self
    rcases List.mem_cons.1 hx with e | e
    · exact e
    · rcases List.mem_cons.1 hy with e2 | e2
      · exact e2.symm
      · have := b1 x e; have := a1 y e2; omega
  subst e
  rw [sorted_ext a2 b2 fun z => ?_]
  constructor
  · intro hz
    rcases List.mem_cons.1 ((h z).1 (List.mem_cons_of_mem _ hz)) with e | e
    · have := a1 z hz; omega
    · exact e
  · intro hz
    rcases List.mem_cons.1 ((h z).2 (List.mem_cons_of_mem _ hz)) with e | e
    · have := b1 z hz; omega
    · exact e
theorem greedy_pkind {fits : Nat → Nat → Bool} {post : List Nat} {q : Nat → Bool} : ∀ (arr : List Nat), (∀ i, i ∈ arr → ∀ j, j ∈ post → fits i j = true → q j = true) → greedy fits arr post = greedy fits arr (post.filter q) := by
 refine rev_ind (fun _ => rfl) fun arr x ih h => ?_
 rw [greedy_snoc, greedy_snoc, ← ih fun i hi => h i (List.mem_append_left _ hi)]
 have : (post.filter q).find? (fun j => (greedy fits arr post j).isNone && fits x j) = post.find? (fun j => (greedy fits arr post j).isNone && fits x j) := by
  rw [List.find?_filter]
  refine find_congr fun j hj => ?_
  cases hf : fits x j with
  | false => simp
  | true => cases greedy fits arr post j <;> simp [h x (List.mem_append_right _ (List.mem_singleton.2 rfl)) j hj hf]
 unfold gstep
 rw [this]
theorem greedy_mkind {fits : Nat → Nat → Bool} {post : List Nat} {cm cr : Nat → Bool} (hc : ∀ i j, j ∈ post → fits i j = true → cm i = cr j) : ∀ (arr : List Nat) {j : Nat}, cr j = true → greedy fits arr post j = greedy fits (arr.filter cm) post j := by
 refine rev_ind (fun _ => rfl) fun arr x ih j hj => ?_
 rw [List.filter_append, greedy_snoc]
 cases e : cm x with
 | true =>
  have : [x].filter cm = [x] := by simp [e]
  rw [this, greedy_snoc]
  have hf : post.find? (fun k => (greedy fits arr post k).isNone && fits x k) = post.find? (fun k => (greedy fits (arr.filter cm) post k).isNone && fits x k) := find_congr fun k hk => by
    cases hf : fits x k with
    | false => simp
    | true => rw [ih ((hc x k hk hf).symm.trans e)]
  unfold gstep
  rw [hf]
  cases post.find? (fun k => (greedy fits (arr.filter cm) post k).isNone && fits x k) with
  | none => exact ih hj
  | some k =>
    by_cases e2 : j = k
    · subst e2; dsimp only; rw [ups_at, ups_at]
    · dsimp only; rw [ups_ne _ _ e2, ups_ne _ _ e2]; exact ih hj
 | false =>
  have : [x].filter cm = [] := by simp [e]
  rw [this, List.append_nil]
  rcases gstep_cases (fits := fits) post (greedy fits arr post) x with ⟨p, g1, g2, g3, g4, g5⟩ | ⟨g3, g4, g5⟩
  · have hjp : j ≠ p := fun e2 => by
      subst e2
      have := hc x j g1 g3
      rw [e, hj] at this; cases this
    rw [g5, ups_ne _ _ hjp]; exact ih hj
  · rw [g5]; exact ih hj
def fitA (sp : Nat → Mv) (i j : Nat) : Bool := (sp j).p == (sp i).to && (sp j).peer == ((sp i).p : Int) && ((sp j).tag == -1 || (sp j).tag == (sp i).tag)
section
variable {C : Ct} {sp : Nat → Mv} {no : Nat → Nat} {k : Nat} {Γ : Gs} {W : Wd}
theorem Pl.matches (P : Pl C sp no k Γ W) (Q : Gq Γ) (hsrc : ∀ j, j < k → (sp j).send = false → 0 ≤ (sp j).peer) {j : Nat} (hj : j < k) (hs : (sp j).send = false) :
  Γ.mt (sp j).p j = greedy (fitA sp) ((List.range k).filter fun i => (sp i).send) ((List.range k).filter fun i => !(sp i).send) j := by
 obtain ⟨s, hpe⟩ : ∃ s : Nat, (sp j).peer = s := ⟨(sp j).peer.toNat, by have := hsrc j hj hs; omega⟩
 generalize hp : (sp j).p = p
 -- the right side, by its kind
 rw [greedy_mkind (cm := fun i => (sp i).to == p && (sp i).p == s) (cr := fun j => (sp j).p == p && (sp j).peer == (s : Int)) (fun i j' _ hf => by
  unfold fitA at hf
  simp only [Bool.and_eq_true, beq_iff_eq] at hf
  show ((sp i).to == p && (sp i).p == s) = ((sp j').p == p && (sp j').peer == (s : Int))
  rw [hf.1.1, hf.1.2]
  congr 1
  by_cases e : (sp i).p = s
  · rw [e]; simp
  · have e1 : ((sp i).p == s) = false := by simpa using e
    have e2 : (((sp i).p : Int) == (s : Int)) = false := by rw [beq_eq_false_iff_ne]; omega
    rw [e1, e2]) _ (show ((sp j).p == p && (sp j).peer == (s : Int)) = true by rw [hp, hpe]; simp)]
 rw [greedy_pkind (q := fun j => (sp j).p == p && (sp j).peer == (s : Int)) _ (fun i hi j' _ hf => by
  have hi : ((sp i).to == p && (sp i).p == s) = true := (List.mem_filter.1 hi).2
  show ((sp j').p == p && (sp j').peer == (s : Int)) = true
  unfold fitA at hf
  rw [Bool.and_eq_true, Bool.and_eq_true, beq_iff_eq, beq_iff_eq] at hf
  rw [Bool.and_eq_true, beq_iff_eq, beq_iff_eq] at hi ⊢
  exact ⟨hf.1.1.trans hi.1, hf.1.2.trans (by rw [hi.2])⟩)]
 -- the left side
 have hl : Γ.mt p j = greedy (fitG Γ.mv) ((Γ.arr p).filter fun i => (Γ.mv i).p == s) ((Γ.post p).filter fun j => (sp j).peer == (s : Int)) j := by
  show greedy _ _ _ j = _
  have hpost : ∀ j', j' ∈ Γ.post p → (Γ.mv j').peer = (sp j').peer ∧ 0 ≤ (sp j').peer := fun j' hj' => by
    obtain ⟨a, b, _⟩ := P.hf.post p j' hj'
    rw [P.hk] at a
    obtain ⟨ea, _, e⟩ := P.mv j' a
    rw [e] at b
    exact ⟨by rw [e], hsrc j' a b⟩
  rw [greedy_mkind (cm := fun i => (Γ.mv i).p == s) (cr := fun j => (sp j).peer == (s : Int)) (fun i j' hj' hf => by
    obtain ⟨h1, h2⟩ := hpost j' hj'
    unfold fitG at hf
    rw [h1] at hf
    simp only [Bool.and_eq_true, Bool.or_eq_true, beq_iff_eq] at hf
    have h3 : (sp j').peer = ((Γ.mv i).p : Int) := by
      rcases hf.1 with h | h
      · omega
      · exact h
    show ((Γ.mv i).p == s) = ((sp j').peer == (s : Int))
    rw [h3]
    by_cases e : (Γ.mv i).p = s
    · rw [e]; simp
    · have e1 : ((Γ.mv i).p == s) = false := by simpa using e
      have e2 : (((Γ.mv i).p : Int) == (s : Int)) = false := by rw [beq_eq_false_iff_ne]; omega
      rw [e1, e2]) _ (show ((sp j).peer == (s : Int)) = true by rw [hpe]; simp)]
  rw [greedy_pkind (q := fun j => (sp j).peer == (s : Int)) _ (fun i hi j' hj' hf => by
    have hi : ((Γ.mv i).p == s) = true := (List.mem_filter.1 hi).2
    obtain ⟨h1, h2⟩ := hpost j' hj'
    show ((sp j').peer == (s : Int)) = true
    unfold fitG at hf
    rw [h1] at hf
    simp only [Bool.and_eq_true, Bool.or_eq_true, beq_iff_eq] at hf
    rw [beq_iff_eq] at hi ⊢
    rcases hf.1 with h | h
    · omega
    · rw [h, hi])]
 rw [hl]
 have ha : ((Γ.arr p).filter fun i => (Γ.mv i).p == s) = ((List.range k).filter fun i => (sp i).send).filter fun i => (sp i).to == p && (sp i).p == s := by
  refine sorted_ext (P.hf.arrived Q s p).1 ((List.pairwise_lt_range.filter _).filter _) fun x => ?_
  simp only [List.mem_filter, List.mem_range, Bool.and_eq_true, beq_iff_eq]
  constructor
  · rintro ⟨h1, h2⟩
    obtain ⟨a1, a2, a3, _⟩ := P.hf.arr p x h1
    rw [P.hk] at a1
    obtain ⟨e1, _, e3, _, _, e6, _⟩ := P.attr a1
    exact ⟨⟨a1, e3.symm.trans a2⟩, e6.symm.trans a3, e1.symm.trans h2⟩
  · rintro ⟨⟨h1, h2⟩, h3, h4⟩
    obtain ⟨e1, _, e3, _, _, e6, _⟩ := P.attr h1
    exact ⟨(P.hf.arrived Q s p).2 x (by rw [P.hk]; exact h1) (e3.trans h2) (e6.trans h3), e1.trans h4⟩
 have hb : ((Γ.post p).filter fun j => (sp j).peer == (s : Int)) = ((List.range k).filter fun i => !(sp i).send).filter fun j => (sp j).p == p && (sp j).peer == (s : Int) := by
  rw [P.post, List.filter_filter, List.filter_filter]
  exact List.filter_congr fun x _ => by
    cases (sp x).send <;> simp [Bool.and_comm]
 rw [ha, hb]
 refine congrFun (greedy_congr _ fun i hi j' hj' => ?_) j
 obtain ⟨hi1, hi2⟩ := List.mem_filter.1 hi
 obtain ⟨hj1, hj2⟩ := List.mem_filter.1 hj'
 have hik := List.mem_range.1 (List.mem_filter.1 hi1).1
 have hjk := List.mem_range.1 (List.mem_filter.1 hj1).1
 obtain ⟨e1, _, g1⟩ := P.mv i hik
 obtain ⟨e2, _, g2⟩ := P.mv j' hjk
 simp only [Bool.and_eq_true, beq_iff_eq] at hi2 hj2
 unfold fitG fitA
 rw [g1, g2]
 dsimp only
 rw [hj2.1, hj2.2, hi2.1, hi2.2]
 have : ((s : Int) == -1) = false := by simp
 rw [this]; simp
end
end Go.Mt

namespace Go.Mt
open Go.Arm
structure Cg (C : Ct) : Prop where
 n : C.n < 9
 r0 : 0 ≤ C.room
 r1 : C.room < 100
 c0 : 0 ≤ C.c0
 c1 : C.c0 ≤ 64
def Pn (C : Ct) (sp : Nat → Mv) (no : Nat → Nat) (k : Nat) (W : Wd) : Prop := ∃ Γ, Pl C sp no k Γ W
section
variable {C : Ct} {sp : Nat → Mv} {no : Nat → Nat} {k : Nat} {Γ : Gs} {W W' : Wd}
theorem Pl.ck (P : Pl C sp no k Γ W) (G : Cg C) (hk : k ≤ 24) : Ck C Γ := by
 have e := P.hk
 have := G.r1
 have := G.c1
 have hb : (1000000000 : Nat) = big := rfl
 exact ⟨⟨G.r0, by omega, by omega, by omega⟩, by omega⟩
theorem Pn.n (P : Pn C sp no k W) : W.n = C.n := by obtain ⟨Γ, P⟩ := P; exact P.hi.n
theorem Pn.len (P : Pn C sp no k W) {p : Nat} (hp : p < C.n) : (W.pr p).reqs.length ≤ k ∧ (W.pr p).next ≤ k + 1 := by
 obtain ⟨Γ, P⟩ := P
 obtain ⟨_, h1, h2⟩ := P.hi.lt p hp
 rw [P.hk] at h1 h2
 exact ⟨h1, h2⟩
theorem Pn.send (P : Pn C sp no k W) (G : Cg C) (hk : k < 24) {p q : Nat} {tag : Int} {sync : Bool} {d : By} (hs : (sp k).send = true) (hsp : sp k = { sp k with p := p, peer := (q : Int), tag := tag, d := d, sync := sync, ea := false }) (hp : p < C.n) (hq : q < C.n) (hd : (d.length : Int) ≤ C.room) :
  ∃ W2 W3, W.add p (sr0 q tag sync) = some W2 ∧ W2.start p (W.pr p).next d = some W3 ∧ (W3.rq p (W.pr p).next).no = (W.pr p).next ∧ Pn C sp (ups no k (W.pr p).next) (k + 1) W3 := by
 obtain ⟨Γ, P⟩ := P
 have K := P.ck G (Nat.le_of_lt hk)
 obtain ⟨m, W2, W3, h1, h2, h3, h4, h5, h6, h7, h8, h9, h10, h11, I, F⟩ := P.hi.send P.hf K hp hq hd (tag := tag) (sync := sync) (by rw [P.hk]; exact (by have := G.c1; have hb : (1000000000 : Nat) = big := rfl; omega))
 refine ⟨W2, W3, h9, h10, h11, Γ.sends m, ?_⟩
 rw [← h7]
 refine P.send I F hs ?_ (fun h => by rw [hsp]; exact h8 h)
 obtain ⟨mp, mpeer, ms, mt, md, mno, msy, mea⟩ := m
 dsimp only at h1 h2 h3 h4 h5 h6 h7
 rw [hsp]
 subst h1 h2 h3 h4 h5 h6
 dsimp only
 rw [hs]
theorem Pn.recv (P : Pn C sp no k W) (G : Cg C) (hk : k < 24) {p : Nat} {peer tag : Int} (hs : (sp k).send = false) (hsp : sp k = { sp k with p := p, peer := peer, tag := tag, d := [], sync := false, ea := false }) (hp : p < C.n) (hpe : peer ≠ -2) :
  ∃ W2 W3, W.add p (rr0 peer tag C.room) = some W2 ∧ W2.start p (W.pr p).next [] = some W3 ∧ (W3.rq p (W.pr p).next).no = (W.pr p).next ∧ Pn C sp (ups no k (W.pr p).next) (k + 1) W3 := by
 obtain ⟨Γ, P⟩ := P
 have K := P.ck G (Nat.le_of_lt hk)
 obtain ⟨m, o, W2, W3, h1, h2, h3, h4, ⟨h5, h6, h8⟩, h7, h9, h10, h11, I, F⟩ := P.hi.recv P.hf K hp hpe (tag := tag)
 refine ⟨W2, W3, h9, h10, h11, Γ.recvs m o, ?_⟩
 rw [← h7]
 refine P.recv I F hs (by rw [h1, hsp]) ?_ (fun h => by rw [h8] at h; cases h)
 obtain ⟨mp, mpeer, ms, mt, md, mno, msy, mea⟩ := m
 dsimp only at h1 h2 h3 h4 h5 h6 h7 h8
 rw [hsp]
 subst h1 h2 h3 h4 h5 h6 h8
 dsimp only
 rw [hs]
theorem Pn.deliver (P : Pn C sp no k W) (G : Cg C) (hk : k ≤ 24) {a b : Nat} (ha : a < C.n) (hb : b < C.n) : W.way a b = [] ∨ ∃ x l, W.way a b = x :: l ∧ (W.pr b).inb.length < big ∧ Pn C sp no k ((W.setWay a b l).setPr b { W.pr b with inb := (W.pr b).inb ++ [((a : Int), x)] }) := by
 obtain ⟨Γ, P⟩ := P
 rcases P.hi.deliver P.hf (P.ck G hk) ha hb with h | ⟨x, l, Γ', h1, h2, h3, h4, h5⟩
 · exact .inl h
 · exact .inr ⟨x, l, h1, h2, Γ', P.ew h5 h3 h4⟩
theorem Pn.call (P : Pn C sp no k W) (G : Cg C) (hk : k ≤ 24) {p : Nat} (hp : p < C.n) : ∃ W', W.call p = some W' ∧ Pn C sp no k W' := by
 obtain ⟨Γ, P⟩ := P
 obtain ⟨Γ', W', h1, h2, h3, h4, _⟩ := P.hi.call P.hf (P.ck G hk).cs hp
 exact ⟨W', h1, Γ', P.ew h4.ew h2 h3⟩
theorem Pn.settle (P : Pn C sp no k W) (G : Cg C) (hk : k ≤ 24) : ∃ j Γ' W', j < 2000 ∧ Wd.Settles j W W' ∧ Pl C sp no k Γ' W' ∧ Gq Γ' := by
 obtain ⟨Γ, P⟩ := P
 obtain ⟨j, Γ', W', h1, h2, h3, h4, h5, h6⟩ := P.hi.settles P.hf (P.ck G hk)
 exact ⟨j, Γ', W', h1, h2, P.ew h5 h3 h4, h6⟩
theorem Pn.born {n : Nat} {e c room : Int} (hc : 0 ≤ c) : Pn ⟨n, e, room, c⟩ sp no 0 (Go.Arm.Wd.new n e c) := by
 obtain ⟨h1, h2⟩ := In.born (n := n) (e := e) (c := c) (room := room) (q := rq0) hc (W := Go.Arm.Wd.new n e c) rfl
 exact ⟨gs0, h1, h2, rfl, fun i hi => absurd hi (Nat.not_lt_zero _), fun p => rfl⟩
theorem Ts.mono {un un' : Nat → Prop} (T : Ts C sp no k W un W') (h : ∀ i, i < k → un' i → un i) : Ts C sp no k W un' W' :=
 ⟨T.n, T.inb, T.rcvs, T.msgs, fun i hi hu => T.rq i hi (h i hi hu), T.nd⟩
theorem Ts.call {un : Nat → Prop} (T : Ts C sp no k W un W') {p : Nat} (hp : p < C.n) : W'.call p = some W' := call_rest (T.inb p hp)
end
end Go.Mt
namespace Go.Mt
open Go.Arm
def sumN (f : Nat → Nat) : Nat → Nat
 | 0 => 0
 | n + 1 => sumN f n + f n
theorem sumN_add (f g : Nat → Nat) : ∀ n, sumN (fun p => f p + g p) n = sumN f n + sumN g n
 | 0 => rfl
 | n + 1 => by unfold sumN; rw [sumN_add f g n]; omega
theorem sumN_zero {f : Nat → Nat} : ∀ n, (∀ p, p < n → f p = 0) → sumN f n = 0
 | 0, _ => rfl
 | n + 1, h => by unfold sumN; rw [sumN_zero n fun p hp => h p (by omega), h n (by omega)]
theorem sumN_one {a : Nat} : ∀ n, a < n → sumN (fun p => if a = p then 1 else 0) n = 1
 | 0, h => absurd h (Nat.not_lt_zero _)
 | n + 1, h => by
  unfold sumN
  by_cases e : a = n
  · subst e; rw [if_pos rfl, sumN_zero a fun p hp => if_neg (by omega)]
  · rw [if_neg e, sumN_one n (by omega)]
theorem sumN_congr {f g : Nat → Nat} : ∀ n, (∀ p, p < n → f p = g p) → sumN f n = sumN g n
 | 0, _ => rfl
 | n + 1, h => by unfold sumN; rw [sumN_congr n fun p hp => h p (by omega), h n (by omega)]
theorem sum_by {q : Nat → Bool} {f : Nat → Nat} {n : Nat} : ∀ (l : List Nat), (∀ i, i ∈ l → q i = true → f i < n) → sumN (fun p => (l.filter fun i => q i && f i == p).length) n = (l.filter q).length
 | [], _ => sumN_zero n fun _ _ => rfl
 | x :: l, h => by
  have ih := sum_by (q := q) (f := f) (n := n) l fun i hi => h i (List.mem_cons_of_mem _ hi)
  cases hq : q x with
  | false =>
   rw [List.filter_cons_of_neg (by rw [hq]; decide), ← ih]
   refine sumN_congr n fun p _ => ?_
   rw [List.filter_cons_of_neg (by rw [hq]; simp)]
  | true =>
   rw [List.filter_cons_of_pos hq, List.length_cons, ← ih, ← sumN_one n (h x List.mem_cons_self hq), ← sumN_add]
   refine sumN_congr n fun p _ => ?_
   by_cases e : f x = p
   · rw [List.filter_cons_of_pos (by rw [hq, e]; simp), if_pos e, List.length_cons]
   · rw [List.filter_cons_of_neg (by rw [hq]; simpa using e), if_neg e]; rfl
section
variable {C : Ct} {sp : Nat → Mv} {no : Nat → Nat} {k : Nat} {Γ : Gs} {W W' : Wd}
theorem Pl.pn (P : Pl C sp no k Γ W) {i : Nat} (hi : i < k) : (sp i).p < C.n ∧ ((sp i).send = true → (sp i).to < C.n) := by
 obtain ⟨e1, _, e3, _, _, e6, _⟩ := P.attr hi
 obtain ⟨h1, _, h3⟩ := P.hf.mv i (by rw [P.hk]; exact hi)
 rw [e1] at h1
 exact ⟨h1, fun h => by rw [← e6]; exact (h3 (e3.trans h)).2⟩
theorem Pl.waits (P : Pl C sp no k Γ W) : sumN (fun p => (W.pr p).rcvs.length) C.n = ((List.range k).filter fun j => !(sp j).send && (Γ.mt (sp j).p j).isNone).length := by
 rw [← sum_by (q := fun j => !(sp j).send && (Γ.mt (sp j).p j).isNone) (f := fun j => (sp j).p) (List.range k) fun i hi _ => (P.pn (List.mem_range.1 hi)).1]
 refine sumN_congr _ fun p hp => ?_
 rw [P.hi.rcvs p hp, List.length_map, P.post, List.filter_filter]
 congr 1
 refine List.filter_congr fun j _ => ?_
 by_cases e : (sp j).p = p
 · rw [e]; cases (sp j).send <;> cases (Γ.mt p j).isNone <;> rfl
 · have : ((sp j).p == p) = false := by simpa using e
   rw [this]; simp
theorem Pl.lefts (P : Pl C sp no k Γ W) (Q : Gq Γ) : sumN (fun p => (W.pr p).msgs.length) C.n = ((List.range k).filter fun i => (sp i).send && Γ.fr (sp i).to i).length := by
 rw [← sum_by (q := fun i => (sp i).send && Γ.fr (sp i).to i) (f := fun i => (sp i).to) (List.range k) fun i hi hq => (P.pn (List.mem_range.1 hi)).2 (by rw [Bool.and_eq_true] at hq; exact hq.1)]
 refine sumN_congr _ fun p hp => ?_
 rw [P.hi.msgs p hp, List.length_map]
 refine List.Perm.length_eq ((List.perm_ext_iff_of_nodup ((P.hf.arrn p).filter _) (List.nodup_range.filter _)).2 fun i => ?_)
 simp only [List.mem_filter, List.mem_range, Bool.and_eq_true, beq_iff_eq]
 constructor
 · rintro ⟨h1, h2⟩
   obtain ⟨a1, a2, a3, _⟩ := P.hf.arr p i h1
   rw [P.hk] at a1
   obtain ⟨_, _, e3, _, _, e6, _⟩ := P.attr a1
   rw [e3] at a2
   rw [e6] at a3
   exact ⟨a1, ⟨a2, by rw [a3]; exact h2⟩, a3⟩
 · rintro ⟨h1, ⟨h2, h3⟩, h4⟩
   obtain ⟨_, _, e3, _, _, e6, _⟩ := P.attr h1
   rw [h4] at h3
   exact ⟨(P.hf.arrived Q (sp i).p p).2 i (by rw [P.hk]; exact h1) (e3.trans h2) (e6.trans h4), h3⟩
end
def wa (sp : Nat → Mv) (n k : Nat) : Nat → Option Nat := greedy (fitA sp) ((List.range k).filter fun i => (sp i).send) ((List.range n).filter fun i => !(sp i).send)
theorem wa_skip {sp : Nat → Mv} {n k : Nat} (h : (sp k).send = false) : wa sp n (k + 1) = wa sp n k := by
 unfold wa
 rw [List.range_succ, List.filter_append, List.filter_cons_of_neg (p := fun i => (sp i).send) (by rw [h]; decide)]
 show greedy _ (_ ++ []) _ = _
 rw [List.append_nil]
def cnd (sp : Nat → Mv) (w : Nat → Option Nat) (i j : Nat) : Bool := !(sp j).send && ((w j).isNone && fitA sp i j)
theorem wa_send {sp : Nat → Mv} {n k : Nat} (h : (sp k).send = true) : wa sp n (k + 1) = match (List.range n).find? (cnd sp (wa sp n k) k) with
  | some j => ups (wa sp n k) j (some k)
  | none => wa sp n k := by
 have e : (List.range (k + 1)).filter (fun i => (sp i).send) = ((List.range k).filter fun i => (sp i).send) ++ [k] := by
  rw [List.range_succ, List.filter_append]
  exact congrArg _ (List.filter_cons_of_pos (l := []) (p := fun i => (sp i).send) h)
 conv => lhs; unfold wa
 rw [e, greedy_snoc]
 unfold gstep
 rw [List.find?_filter]
 show (match (List.range n).find? (fun a => decide ((!(sp a).send) = true ∧ ((wa sp n k a).isNone && fitA sp k a) = true)) with
  | some j => ups (wa sp n k) j (some k)
  | none => wa sp n k) = _
 have e2 : (fun a => decide ((!(sp a).send) = true ∧ ((wa sp n k a).isNone && fitA sp k a) = true)) = cnd sp (wa sp n k) k := by
  funext a
  unfold cnd
  cases (sp a).send <;> cases ((wa sp n k a).isNone && fitA sp k a) <;> rfl
 rw [e2]
theorem wa_mem {sp : Nat → Mv} {n k i j : Nat} (h : wa sp n k j = some i) : j < n ∧ (sp j).send = false ∧ i < k ∧ (sp i).send = true ∧ fitA sp i j = true := by
 obtain ⟨h1, h2, h3⟩ := greedy_mem _ _ h
 obtain ⟨a1, a2⟩ := List.mem_filter.1 h1
 obtain ⟨b1, b2⟩ := List.mem_filter.1 h2
 exact ⟨List.mem_range.1 a1, by simpa using a2, List.mem_range.1 b1, b2, h3⟩
theorem find_at {p : Nat → Bool} {n j : Nat} (hj : j < n) (h0 : ∀ x, x < j → p x = false) (h1 : p j = true) : (List.range n).find? p = some j :=
 List.find?_range_eq_some.2 ⟨h1, List.mem_range.2 hj, fun x hx => by rw [h0 x hx]; rfl⟩
theorem find_no {p : Nat → Bool} {n : Nat} (h0 : ∀ x, x < n → p x = false) : (List.range n).find? p = none :=
 List.find?_eq_none.2 fun x hx => by rw [h0 x (List.mem_range.1 hx)]; decide
section
variable {C : Ct} {sp : Nat → Mv} {no : Nat → Nat} {k : Nat} {Γ : Gs} {W W' : Wd}
theorem Pl.wa (P : Pl C sp no k Γ W) (Q : Gq Γ) (hsrc : ∀ j, j < k → (sp j).send = false → 0 ≤ (sp j).peer) :
   (∀ j, j < k → (sp j).send = false → Γ.mt (sp j).p j = wa sp k k j) ∧ (∀ i, i < k → (sp i).send = true → (Γ.fr (sp i).to i = true ↔ ∀ j, wa sp k k j ≠ some i)) := by
 have h1 : ∀ j, j < k → (sp j).send = false → Γ.mt (sp j).p j = Go.Mt.wa sp k k j := fun j hj hs => P.matches Q hsrc hj hs
 refine ⟨h1, fun i hi hs => ?_⟩
 unfold Gs.fr
 rw [free_iff]
 constructor
 · intro h j hj
   obtain ⟨a1, a2, a3, a4, a5⟩ := wa_mem hj
   rw [← h1 j a1 a2] at hj
   have := (P.gotm hj).2.2.1
   rw [← this] at hj
   exact h j hj
 · intro h j hj
   have hj : Γ.mt (sp i).to j = some i := hj
   obtain ⟨a1, a2, a3, a4, a5, a6, _⟩ := P.gotm hj
   rw [← a6, h1 j a4 a5] at hj
   exact h j hj
end
end Go.Mt
namespace Go.Arm
noncomputable section
open Go Go.X Go.Mt
structure Mo where
 p : Nat
 q : Nat
 snd : Bool
 tag : Int
 size : Nat
 sync : Bool
structure Mo.ok (m : Mo) : Prop where
 p : m.p < 256
 q : m.q < 256
 t0 : -128 ≤ m.tag
 t1 : m.tag < 128
 s : m.size < 256
def mo6 (m : Mo) : List Value := [.int .u8 (m.p : Int), .int .u8 (m.q : Int), .bool m.snd, .int .i8 m.tag, .int .u8 (m.size : Int), .bool m.sync]
theorem mo6_len (m : Mo) : (mo6 m).length = 6 := rfl
def tgO (m : Mo) : Int := m.tag % 4
theorem tgO_r (m : Mo) : 0 ≤ tgO m ∧ tgO m < 4 := by unfold tgO; omega
def mo0 : Mo := ⟨0, 0, false, 0, 0, false⟩
def dS (i sz : Nat) : By := match sz with
 | 0 => []
 | k + 1 => UInt8.ofNat (100 + i) :: List.replicate k (UInt8.ofNat (i + 1))
theorem dS_len (i sz : Nat) : (dS i sz).length = sz := by cases sz <;> simp [dS]
def spS (n : Nat) (l : List Mo) (i : Nat) : Mv :=
 let m := l.getD i mo0
 if m.snd then ⟨m.p % n, ((m.q % n : Nat) : Int), true, tgO m, dS i (m.size % 12), 0, m.sync, false⟩ else ⟨m.p % n, ((m.q % n : Nat) : Int), false, if m.tag < 0 then -1 else tgO m, [], 0, false, false⟩
section
variable {n i : Nat} {l : List Mo} {m : Mo}
theorem getD_at (h : l[i]? = some m) : l.getD i mo0 = m := by rw [List.getD_eq_getElem?_getD, h]; rfl
theorem spS_s (h : l[i]? = some m) (hs : m.snd = true) : spS n l i = ⟨m.p % n, ((m.q % n : Nat) : Int), true, tgO m, dS i (m.size % 12), 0, m.sync, false⟩ := by unfold spS; rw [getD_at h]; exact if_pos hs
theorem spS_r (h : l[i]? = some m) (hs : m.snd = false) : spS n l i = ⟨m.p % n, ((m.q % n : Nat) : Int), false, if m.tag < 0 then -1 else tgO m, [], 0, false, false⟩ := by unfold spS; rw [getD_at h]; exact if_neg (by rw [hs]; decide)
theorem spS_send (h : l[i]? = some m) : (spS n l i).send = m.snd := by
 cases hs : m.snd with
 | true => rw [spS_s h hs]
 | false => rw [spS_r h hs]
theorem spS_p (h : l[i]? = some m) : (spS n l i).p = m.p % n := by
 cases hs : m.snd with
 | true => rw [spS_s h hs]
 | false => rw [spS_r h hs]
end
inductive Tx
 | no
 | cl (l : List Value)
 | gr (k n : Nat) (cs : List Value)
 | mi (m : List (Int × Value))
 | m3 (m : List ((Int × Int × Int) × Value))
def AtX (h : AH) (v : Value) : Tx → Prop
 | .no => True
 | .cl l => ∃ b, v = .slice (some ⟨b, 0, none⟩) l.length l.length ∧ Cl h b l
 | .gr k n cs => Gr h k v n cs
 | .mi m => ∃ b, v = .map (some b) ∧ Mp h b nv Eq m
 | .m3 m => ∃ b, v = .map (some b) ∧ Mp h b k3 Eq m
section
variable {h h' : AH} {S : Nat → Prop} {v : Value}
theorem AtX.sm {x : Tx} (A : AtX h v x) (s : Sm S h h') (hb : ∀ b, vbx v = some b → ¬ S b) : AtX h' v x := by
 cases x with
 | no => trivial
 | cl l => obtain ⟨b, rfl, c⟩ := A; exact ⟨b, rfl, c.sm s (hb b rfl)⟩
 | gr k n cs => exact Gr.smx A s hb
 | mi m => obtain ⟨b, rfl, c⟩ := A; exact ⟨b, rfl, c.sm s (hb b rfl) (fun _ _ e => e)⟩
 | m3 m => obtain ⟨b, rfl, c⟩ := A; exact ⟨b, rfl, c.sm s (hb b rfl) (fun _ _ e => e)⟩
theorem AtX.lt {x : Tx} (A : AtX h v x) (hx : x ≠ .no) {b : Nat} (hb : vbx v = some b) : b < h.next := by
 cases x with
 | no => exact (hx rfl).elim
 | cl l => obtain ⟨b', rfl, c⟩ := A; cases hb; exact c.lt
 | gr k n cs => exact Sd.ltx (Gr.sd A) hb
 | mi m => obtain ⟨b', rfl, c⟩ := A; cases hb; exact c.1
 | m3 m => obtain ⟨b', rfl, c⟩ := A; cases hb; exact c.1
def q4 {α : Type} (z a b c d : α) : Nat → α
 | 0 => a
 | 1 => b
 | 2 => c
 | 3 => d
 | _ => z
theorem q4_0 {α : Type} (z a b c d x : α) : ups (q4 z a b c d) 0 x = q4 z x b c d := by
 funext i; match i with | 0 => rfl | 1 => rfl | 2 => rfl | 3 => rfl | _ + 4 => rfl
theorem q4_1 {α : Type} (z a b c d x : α) : ups (q4 z a b c d) 1 x = q4 z a x c d := by
 funext i; match i with | 0 => rfl | 1 => rfl | 2 => rfl | 3 => rfl | _ + 4 => rfl
theorem q4_2 {α : Type} (z a b c d x : α) : ups (q4 z a b c d) 2 x = q4 z a b x d := by
 funext i; match i with | 0 => rfl | 1 => rfl | 2 => rfl | 3 => rfl | _ + 4 => rfl
end
def rg {α : Type} (f : Nat → α) (n : Nat) : List α := (List.range n).map f
theorem rg_len {α : Type} (f : Nat → α) (n : Nat) : (rg f n).length = n := by unfold rg; rw [List.length_map, List.length_range]
theorem rg_at {α : Type} {f : Nat → α} {n i : Nat} (h : i < n) : (rg f n)[i]? = some (f i) := by unfold rg; rw [List.getElem?_map, List.getElem?_range h]; rfl
theorem rg_set {α : Type} {f : Nat → α} {n i : Nat} {x : α} : (rg f n).set i x = rg (ups f i x) n := by
 unfold rg
 refine List.ext_getElem? fun j => ?_
 rw [List.getElem?_set, List.getElem?_map, List.getElem?_map, List.length_map, List.length_range]
 by_cases e : i = j
 · subst e
   rw [if_pos rfl]
   by_cases h : i < n
   · rw [if_pos h, List.getElem?_range h]; show _ = some (ups f i x i); rw [ups_at]
   · rw [if_neg h, List.getElem?_eq_none (by rw [List.length_range]; omega)]; rfl
 · rw [if_neg e]
   by_cases h : j < n
   · rw [List.getElem?_range h]; show _ = some (ups f i x j); rw [ups_ne _ _ (fun e2 => e e2.symm)]; rfl
   · rw [List.getElem?_eq_none (by rw [List.length_range]; omega)]; rfl
theorem rg_congr {α : Type} {f g : Nat → α} {n : Nat} (h : ∀ i, i < n → f i = g i) : rg f n = rg g n := List.map_congr_left fun i hi => h i (List.mem_range.1 hi)
theorem rg_const {x : Value} (n : Nat) : zrep n [x] = rg (fun _ => x) n := by
 induction n with
 | zero => rfl
 | succ n ih =>
  unfold rg at ih ⊢
  rw [List.range_succ_eq_map, List.map_cons, List.map_map]
  show x :: zrep n [x] = _
  rw [ih]; rfl
end
end Go.Arm
namespace Go.Proofs.Ytmehemeoaplepaa
open Go Go.ChangeShapes Go.WideShapes Go.ChangeAt Go.RowKit
theorem six {l : List Value} (h : l.length = 6) : ∃ a b c d e f, l = [a, b, c, d, e, f] := by
 match l, h with
 | [a, b, c, d, e, f], _ => exact ⟨a, b, c, d, e, f, rfl⟩
theorem wfi8 {n : Int} (h3 : (Lit.int .i8 n).wf = true) : -128 ≤ n ∧ n < 128 := by
 simp [Lit.wf] at h3
 have e1 : IntKind.i8.min = -128 := by decide
 have e2 : IntKind.i8.max = 127 := by decide
 rw [e1, e2] at h3
 omega
theorem und30 : Try.prog.underlying 30 = some (.int .i8) := by kernel_rfl
theorem openMo {H : Type} {enc : TypeId × Value → H} {w : World} {base : Nat} {spare : Nat → Bool} {held : Bool} (fuel : Nat) (cs : List Value) (x : DataW H × List MemPlace) (h : DataW.trod enc Try.prog w base spare held fuel 32 cs = some x) : ∃ a : Arm.Mo, a.ok ∧ cs = Arm.mo6 a := by
 obtain ⟨xs, n, _, _, hl, hxs, hf⟩ := DataW.trod_struct Try.underlying32 h
 have hcell : Try.prog.cellsOf 32 = 6 := by kernel_rfl
 have hc5 : Try.prog.cellsOf 5 = 1 := by kernel_rfl
 have hc4 : Try.prog.cellsOf 4 = 1 := by kernel_rfl
 have hc30 : Try.prog.cellsOf 30 = 1 := by kernel_rfl
 rw [hcell] at hl
 obtain ⟨c0, c1, c2, c3, c4, c5, rfl⟩ := six hl
 have hx : ∀ i, i < 6 → ∃ y, xs[i]? = some y := fun i hi => ⟨_, List.getElem?_eq_getElem (by rw [hxs]; exact hi)⟩
 obtain ⟨y0, e0⟩ := hx 0 (by decide)
 obtain ⟨y1, e1⟩ := hx 1 (by decide)
 obtain ⟨y2, e2⟩ := hx 2 (by decide)
 obtain ⟨y3, e3⟩ := hx 3 (by decide)
 obtain ⟨y4, e4⟩ := hx 4 (by decide)
 obtain ⟨y5, e5⟩ := hx 5 (by decide)
 have f0 : DataW.trod enc Try.prog w base spare held n 5 (([c0, c1, c2, c3, c4, c5].drop 0).take (Try.prog.cellsOf 5)) = some y0 := (hf 0 _ rfl).trans e0
 have f1 : DataW.trod enc Try.prog w base spare held n 5 (([c0, c1, c2, c3, c4, c5].drop 1).take (Try.prog.cellsOf 5)) = some y1 := (hf 1 _ rfl).trans e1
 have f2 : DataW.trod enc Try.prog w base spare held n 4 (([c0, c1, c2, c3, c4, c5].drop 2).take (Try.prog.cellsOf 4)) = some y2 := (hf 2 _ rfl).trans e2
 have f3 : DataW.trod enc Try.prog w base spare held n 30 (([c0, c1, c2, c3, c4, c5].drop 3).take (Try.prog.cellsOf 30)) = some y3 := (hf 3 _ rfl).trans e3
 have f4 : DataW.trod enc Try.prog w base spare held n 5 (([c0, c1, c2, c3, c4, c5].drop 4).take (Try.prog.cellsOf 5)) = some y4 := (hf 4 _ rfl).trans e4
 have f5 : DataW.trod enc Try.prog w base spare held n 4 (([c0, c1, c2, c3, c4, c5].drop 5).take (Try.prog.cellsOf 4)) = some y5 := (hf 5 _ rfl).trans e5
 rw [hc5] at f0 f1 f4
 rw [hc4] at f2 f5
 rw [hc30] at f3
 obtain ⟨n0, h0, _, w0⟩ := DataW.trod_int Try.underlying5 f0
 obtain ⟨n1, h1, _, w1⟩ := DataW.trod_int Try.underlying5 f1
 obtain ⟨n2, h2, _⟩ := DataW.trod_bool Try.underlying4 f2
 obtain ⟨n3, h3, _, w3⟩ := DataW.trod_int und30 f3
 obtain ⟨n4, h4, _, w4⟩ := DataW.trod_int Try.underlying5 f4
 obtain ⟨n5, h5, _⟩ := DataW.trod_bool Try.underlying4 f5
 simp at h0 h1 h2 h3 h4 h5
 subst h0 h1 h2 h3 h4 h5
 have g0 := wf8 w0
 have g1 := wf8 w1
 have g3 := wfi8 w3
 have g4 := wf8 w4
 refine ⟨⟨n0.toNat, n1.toNat, n2, n3, n4.toNat, n5⟩, ⟨?_, ?_, ?_, ?_, ?_⟩, ?_⟩
 · show n0.toNat < 256; omega
 · show n1.toNat < 256; omega
 · exact g3.1
 · exact g3.2
 · show n4.toNat < 256; omega
 · unfold Arm.mo6
   dsimp only
   rw [Int.toNat_of_nonneg g0.1, Int.toNat_of_nonneg g1.1, Int.toNat_of_nonneg g4.1]
theorem moves_of {W : World} {H : Type} {enc : TypeId × Value → H} {held : Bool} {b0 : Option Addr} {len0 cap0 : Nat} {d : DataW H} {ps : List MemPlace}
  (h : DataW.Trod enc Try.prog W 0 (fun _ => true) held 22 (.slice b0 len0 cap0) d ps) (hz : W.noneFrozen ps) : ∃ l : List Arm.Mo, (∀ x, x ∈ l → x.ok) ∧ Go.X.HeldK 6 W (.slice b0 len0 cap0) l.length (l.flatMap Arm.mo6) :=
 Go.X.heldK_of (k := 6) (f := Arm.mo6) (ok := Arm.Mo.ok) (by decide) (fun a => rfl) (fun a x hx φ => by
  unfold Arm.mo6 at hx
  simp only [List.mem_cons, List.not_mem_nil, or_false] at hx
  rcases hx with rfl | rfl | rfl | rfl | rfl | rfl <;> first | exact .int _ _ | exact .bool _) Try.underlying22 (by kernel_rfl) openMo h hz
end Go.Proofs.Ytmehemeoaplepaa



