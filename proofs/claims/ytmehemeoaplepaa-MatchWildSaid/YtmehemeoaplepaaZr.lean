/- Worlds of the program and walks of its functions. -/
import Derived.Test.YtmehemeoaplepaaZq
import Derived.Test.YtmehemeoaplepaaZo
import Derived.Test.YtmehemeoaplepaaZp
namespace Go.Mt
open Go.Arm
section
variable {C : Ct} {Γ : Gs} {W : Wd}
theorem In.recvs {W' : Wd} (H : In C C.n Γ W) (F : Wf C Γ) {m : Mv} {o : Option Nat} (hs : m.send = false) (hp : m.p < C.n) (hno : m.no = (W.pr m.p).next)
   (ho : ∀ i, o = some i → i ∈ Γ.arr m.p ∧ Γ.tk i = .wait) (hmt : (Γ.recvs m o).mt m.p = match o with | none => Γ.mt m.p | some i => ups (Γ.mt m.p) Γ.k (some i))
   (hn : W'.n = W.n) (hlim : W'.lim = W.lim) (hway : ∀ a b : Int, W'.way a b = match o with | none => W.way a b | some i => (W.setWay m.p (Γ.mv i).p (W.way m.p (Γ.mv i).p ++ [pkG (Γ.mv i) .back])).way a b) (hpr : ∀ q, q ≠ m.p → W'.pr q = W.pr q)
   (hinb : (W'.pr m.p).inb = (W.pr m.p).inb) (hms : (W'.pr m.p).msgs = ((Γ.arr m.p).filter fun i => Γ.fr m.p i && !(o == some i)).map fun i => msG (Γ.mv i)) (hrc : (W'.pr m.p).rcvs = match o with | none => (W.pr m.p).rcvs ++ [m.no] | some _ => (W.pr m.p).rcvs)
   (hex : (W'.pr m.p).exps = match o with | none => (W.pr m.p).exps | some i => if (Γ.mv i).ea = true then (W.pr m.p).exps else kset (W.pr m.p).exps (((Γ.mv i).p : Int), ((Γ.mv i).no : Int)) m.no)
   (hre : (W'.pr m.p).reqs = (W.pr m.p).reqs ++ [m.no]) (hne : (W'.pr m.p).next = (W.pr m.p).next + 1) (hcl : (W'.pr m.p).crds = (W.pr m.p).crds)
   (hrq : ∀ q no, ¬ (q = m.p ∧ no = m.no) → W'.rq q no = W.rq q no) (hrk : W'.rq m.p m.no = recvR C.room m (o.map fun i => (Γ.mv i, .back))) : In C C.n (Γ.recvs m o) W' := by
 have ppr : ∀ {α : Type} (f : Pr → α), f (W'.pr m.p) = f (W.pr m.p) → ∀ q, f (W'.pr q) = f (W.pr q) := fun f h q => by
   by_cases e : q = m.p
   · subst e; exact h
   · rw [hpr q e]
 have hmv : ∀ x, x < Γ.k → (Γ.recvs m o).mv x = Γ.mv x := fun x hx => ups_ne _ _ (Nat.ne_of_lt hx)
 have hmvk : (Γ.recvs m o).mv Γ.k = m := ups_at _ _ _
 have hk : ∀ x, x < (Γ.recvs m o).k → x < Γ.k ∨ x = Γ.k := fun x hx => by have hx : x < Γ.k + 1 := hx; omega
 have how : ∀ a b x, x ∈ Γ.way a b → o ≠ some x := fun a b x hx e => by
   have h1 := (ho x e).2
   obtain ⟨_, _, hc⟩ := F.way a b x hx
   rcases hc with ⟨h | h, _⟩ | ⟨h, _⟩ <;> rw [h1] at h <;> cases h
 have hoi : ∀ b x, x ∈ Γ.inb b → o ≠ some x := fun b x hx e => by
   have h1 := (ho x e).2
   obtain ⟨_, _, hc⟩ := F.inb b x hx
   rcases hc with ⟨h | h, _⟩ | ⟨h, _⟩ <;> rw [h1] at h <;> cases h
 have hpk : ∀ x, x < Γ.k → o ≠ some x → (Γ.recvs m o).pk x = Γ.pk x := fun x hx h => by unfold Gs.pk; rw [hmv x hx, recvs_tk h]
 have hnew : ∀ x, x < Γ.k → ¬ ((Γ.mv x).p = m.p ∧ (Γ.mv x).no = m.no) := fun x hx h => by
   have h1 := H.reqs x hx
   rw [h.1, h.2] at h1
   have := (H.lt m.p hp).1 _ h1
   omega
 have hkp : ∀ q, Γ.k ∉ Γ.post q := fun q h => Nat.lt_irrefl _ (F.post q _ h).1
 have hmtk : ∀ q, Γ.mt q Γ.k = none := fun q => by
   cases h : Γ.mt q Γ.k with
   | none => rfl
   | some y => exact (hkp q (greedy_mem _ _ h).1).elim
 have hold : ∀ a b, (Γ.way a b).map (Γ.recvs m o).pk = (Γ.way a b).map Γ.pk := fun a b => List.map_congr_left fun x hx => hpk x (F.way a b x hx).1 (how a b x hx)
 have hmtlt : ∀ q x, x < Γ.k → (Γ.recvs m o).mt q x = Γ.mt q x := fun q x hx => by
   by_cases e : q = m.p
   · subst e
     rw [hmt]
     cases o with
     | none => rfl
     | some i => exact ups_ne _ _ (Nat.ne_of_lt hx)
   · rw [recvs_mt F e]
 refine ⟨hn.trans H.n, hlim.trans H.lim, fun a b ha hb => ?_, fun a b hab => ?_, fun q hq => ?_, fun q hq => ?_, fun q hq => ?_, fun x hx hs1 => ?_, fun x hx hs1 => ?_, fun x hx => ?_, fun q hq => ?_, fun x hx hs1 he h1 y hy => ?_, fun q hq => ?_⟩
 · rw [hway]
   cases o with
   | none => exact (H.way a b ha hb).trans (hold a b).symm
   | some i =>
     show (W.setWay _ _ _).way a b = (Γ.way2 m.p (Γ.mv i).p i a b).map (Γ.recvs m (some i)).pk
     by_cases e : a = m.p ∧ b = (Γ.mv i).p
     · obtain ⟨rfl, rfl⟩ := e
       rw [Wd.setWay_at, way2_at, List.map_append, hold, H.way _ _ ha hb]
       have hik := (F.arr _ i (ho i rfl).1).1
       show _ ++ [_] = _ ++ [pkG ((Γ.recvs m (some i)).mv i) ((Γ.recvs m (some i)).tk i)]
       rw [hmv i hik, recvs_tki]
     · rw [Wd.setWay_ne _ _ (fun h => e ⟨by have := h.1; omega, by have := h.2; omega⟩), way2_ne _ e, hold]
       exact H.way a b ha hb
 · rw [hway]
   cases o with
   | none => exact H.wayx a b hab
   | some i =>
     show (W.setWay _ _ _).way a b = []
     have hik := (F.arr _ i (ho i rfl).1).1
     rw [Wd.setWay_ne _ _ (fun h => hab ⟨_, _, hp, (F.mv i hik).1, h.1, h.2⟩)]
     exact H.wayx a b hab
 · rw [ppr (fun x => x.inb) hinb, H.inb q hq]
   split
   · rfl
   · refine List.map_congr_left fun x hx => ?_
     have := (F.inb q x hx).1
     rw [hpk x this (hoi q x hx), hmv x this, recvs_tk (hoi q x hx)]
 · by_cases e : q = m.p
   · subst e
     rw [hms]
     have : ((Γ.recvs m o).arr m.p).filter ((Γ.recvs m o).fr m.p) = (Γ.arr m.p).filter fun i => Γ.fr m.p i && !(o == some i) := by
       refine List.filter_congr fun x hx => ?_
       have : (Γ.recvs m o).fr m.p x = true ↔ (Γ.fr m.p x && !(o == some x)) = true := by
         rw [Bool.and_eq_true]
         refine Iff.trans free_iff ?_
         have h1 : Γ.fr m.p x = true ↔ ∀ j, Γ.mt m.p j ≠ some x := free_iff
         rw [h1]
         have h2 : ∀ j, greedy (fitG (Γ.recvs m o).mv) ((Γ.recvs m o).arr m.p) ((Γ.recvs m o).post m.p) j = (Γ.recvs m o).mt m.p j := fun _ => rfl
         simp only [h2, hmt]
         cases o with
         | none => simp
         | some i =>
           simp only [Bool.not_eq_true', beq_eq_false_iff_ne]
           constructor
           · intro h
             refine ⟨fun j hj => ?_, fun e => h Γ.k (by rw [ups_at]; exact e)⟩
             have hjk : j ≠ Γ.k := fun e => by rw [e, hmtk] at hj; cases hj
             exact h j (by rw [ups_ne _ _ hjk]; exact hj)
           · rintro ⟨h3, h4⟩ j hj
             by_cases e : j = Γ.k
             · subst e; rw [ups_at] at hj; exact h4 hj
             · rw [ups_ne _ _ e] at hj; exact h3 j hj
       cases h1 : (Γ.recvs m o).fr m.p x <;> cases h2 : (Γ.fr m.p x && !(o == some x)) <;> simp_all
     rw [this]
     refine List.map_congr_left fun x hx => ?_
     rw [hmv x (F.arr _ x (List.mem_filter.1 hx).1).1]
   · rw [hpr q e, H.msgs q hq]
     have hf : (Γ.recvs m o).fr q = Γ.fr q := by
       funext x
       show free _ (Γ.arr q) (ups Γ.post m.p _ q) x = _
       rw [ups_ne _ _ e]; exact adds_fr F q x
     rw [hf]
     refine List.map_congr_left fun x hx => ?_
     rw [hmv x (F.arr q x (List.mem_filter.1 hx).1).1]
 · by_cases e : q = m.p
   · subst e
     show _ = ((ups Γ.post m.p (Γ.post m.p ++ [Γ.k]) m.p).filter _).map _
     rw [ups_at, hrc, List.filter_append, List.map_append]
     have h1 : ((Γ.post m.p).filter fun j => ((Γ.recvs m o).mt m.p j).isNone).map (fun j => ((Γ.recvs m o).mv j).no) = (W.pr m.p).rcvs := by
       rw [H.rcvs _ hq]
       have : (Γ.post m.p).filter (fun j => ((Γ.recvs m o).mt m.p j).isNone) = (Γ.post m.p).filter fun j => (Γ.mt m.p j).isNone := List.filter_congr fun x hx => by rw [hmtlt _ x (F.post _ x hx).1]
       rw [this]
       exact List.map_congr_left fun x hx => by rw [hmv x (F.post _ x (List.mem_filter.1 hx).1).1]
     rw [h1]
     cases o with
     | none =>
       have : ((Γ.recvs m none).mt m.p Γ.k).isNone = true := by rw [hmt]; show (Γ.mt m.p Γ.k).isNone = true; rw [hmtk]; rfl
       rw [List.filter_cons_of_pos (by exact this)]
       show _ ++ [_] = _ ++ [((Γ.recvs m none).mv Γ.k).no]
       rw [hmvk]
     | some i =>
       have : ((Γ.recvs m (some i)).mt m.p Γ.k).isNone = false := by rw [hmt]; show (ups (Γ.mt m.p) Γ.k (some i) Γ.k).isNone = false; rw [ups_at]; rfl
       rw [List.filter_cons_of_neg (by rw [this]; decide)]
       exact (List.append_nil _).symm
   · rw [hpr q e, H.rcvs q hq, recvs_mt F e]
     show _ = ((ups Γ.post m.p (Γ.post m.p ++ [Γ.k]) q).filter _).map _
     rw [ups_ne _ _ e]
     exact List.map_congr_left fun x hx => by rw [hmv x (F.post _ x (List.mem_filter.1 hx).1).1]
 · rcases hk x hx with h | rfl
   · rw [hmv x h] at hs1 ⊢
     rw [hrq _ _ (hnew x h), H.rqs x h hs1]
     by_cases e : o = some x
     · subst e
       rw [recvs_tki, (ho x rfl).2]; rfl
     · rw [recvs_tk e]
   · rw [hmvk, hs] at hs1; cases hs1
 · rcases hk x hx with h | rfl
   · rw [hmv x h] at hs1 ⊢
     rw [hrq _ _ (hnew x h), hmtlt _ x h, H.rqr x h hs1]
     cases hm : Γ.mt (Γ.mv x).p x with
     | none => rfl
     | some y =>
       have hy := F.arr _ y (greedy_mem _ _ hm).2.1
       have hoy : o ≠ some y := fun e => by
         have h1 := (ho y e).2
         have h2 := hy.2.2.2.2.1 h1
         exact free_iff.1 h2 x hm
       show recvR _ _ (some (Γ.mv y, Γ.tk y)) = recvR _ _ (some ((Γ.recvs m o).mv y, (Γ.recvs m o).tk y))
       rw [hmv y hy.1, recvs_tk hoy]
   · rw [hmvk, hrk, hmt]
     cases o with
     | none => show _ = recvR _ _ ((Γ.mt m.p Γ.k).map _); rw [hmtk]; rfl
     | some i =>
       have hik := (F.arr _ i (ho i rfl).1).1
       show _ = recvR _ _ (((ups (Γ.mt m.p) Γ.k (some i)) Γ.k).map _)
       rw [ups_at]
       show recvR _ _ (some (Γ.mv i, .back)) = recvR _ _ (some ((Γ.recvs m (some i)).mv i, (Γ.recvs m (some i)).tk i))
       rw [hmv i hik, recvs_tki]
 · rcases hk x hx with h | rfl
   · rw [hmv x h]
     by_cases e : (Γ.mv x).p = m.p
     · rw [e, hre]; have := H.reqs x h; rw [e] at this; exact List.mem_append_left _ this
     · rw [hpr _ e]; exact H.reqs x h
   · rw [hmvk, hre]; exact List.mem_append_right _ (List.mem_singleton.2 rfl)
 · obtain ⟨h1, h2, h3⟩ := H.lt q hq
   show _ ∧ _ ≤ Γ.k + 1 ∧ _ ≤ Γ.k + 1 + 1
   by_cases e : q = m.p
   · subst e
     rw [hre, hne, List.length_append, List.length_singleton]
     refine ⟨fun x hx => ?_, by omega, by omega⟩
     rcases List.mem_append.1 hx with h | h
     · have := h1 x h; omega
     · rw [List.mem_singleton.1 h]; omega
   · rw [hpr q e]; exact ⟨h1, by omega, by omega⟩
 · rcases hk x hx with h | rfl
   · rw [hmv x h] at hs1 he hy ⊢
     by_cases e : o = some x
     · have hto := (F.arr _ x (ho x e).1).2.2.1
       rw [hto] at hy ⊢
       have hfx : Γ.fr m.p x = true := (F.arr _ x (ho x e).1).2.2.2.2.1 (ho x e).2
       subst e
       have hyk : y = Γ.k := by
         refine Classical.byContradiction fun hc => ?_
         rw [hmt] at hy
         have hy : ups (Γ.mt m.p) Γ.k (some x) y = some x := hy
         rw [ups_ne _ _ hc] at hy
         exact free_iff.1 hfx y hy
       subst hyk
       rw [hmvk, hex]
       show kget (if (Γ.mv x).ea = true then _ else _) _ = _
       rw [he, if_neg (by decide)]
       exact ks_at _ _ _
     · rw [recvs_tk e] at h1
       have hyk : y ≠ Γ.k := fun e2 => by
         subst e2
         by_cases e3 : (Γ.mv x).to = m.p
         · rw [e3, hmt] at hy
           cases o with
           | none => have hy : Γ.mt m.p Γ.k = some x := hy; rw [hmtk] at hy; cases hy
           | some i => have hy : ups (Γ.mt m.p) Γ.k (some i) Γ.k = some x := hy; rw [ups_at] at hy; exact e hy
         · rw [recvs_mt F e3, hmtk] at hy; cases hy
       have hylt : y < Γ.k := by
         have h2 : y ∈ (Γ.recvs m o).post (Γ.mv x).to := (greedy_mem _ _ hy).1
         have h2 : y ∈ ups Γ.post m.p (Γ.post m.p ++ [Γ.k]) (Γ.mv x).to := h2
         by_cases e3 : (Γ.mv x).to = m.p
         · rw [e3, ups_at] at h2
           rcases List.mem_append.1 h2 with h3 | h3
           · exact (F.post _ y h3).1
           · exact (hyk (List.mem_singleton.1 h3)).elim
         · rw [ups_ne _ _ e3] at h2; exact (F.post _ y h2).1
       rw [hmtlt _ y hylt] at hy
       have h5 := H.exs x h hs1 he h1 y hy
       rw [hmv y hylt]
       by_cases e3 : (Γ.mv x).to = m.p
       · rw [e3] at h5 ⊢
         rw [hex]
         cases o with
         | none => exact h5
         | some i =>
           show kget (if (Γ.mv i).ea = true then _ else _) _ = _
           split
           · exact h5
           · have hik := (F.arr _ i (ho i rfl).1).1
             refine (ks_ne _ fun e2 => e ?_).trans h5
             have e4 : ((Γ.mv x).p : Int) = (Γ.mv i).p := (Prod.mk.inj e2).1
             have e5 : ((Γ.mv x).no : Int) = (Γ.mv i).no := (Prod.mk.inj e2).2
             rw [F.inj x i h hik (by omega) (by omega)]
       · rw [hpr _ e3]; exact h5
   · rw [hmvk, hs] at hs1; cases hs1
 · rw [ppr (fun x => x.crds) hcl]; exact H.crd q hq
end
end Go.Mt
namespace Go.Mt
open Go.Arm
section
variable {C : Ct} {Γ : Gs} {W : Wd} {p : Nat}
def rr0 (peer tag room : Int) : Rq := ⟨0, peer, 3, tag, room, false, false, false, false, false, 0, 0, [], [], 0, [], false, St.z⟩
theorem In.recv (H : In C C.n Γ W) (F : Wf C Γ) (K : Ck C Γ) (hp : p < C.n) {peer tag : Int} (hpe : peer ≠ -2) :
  ∃ m o W2 W3, m.p = p ∧ m.peer = peer ∧ m.send = false ∧ m.tag = tag ∧ (m.d = [] ∧ m.sync = false ∧ m.ea = false) ∧ m.no = (W.pr p).next ∧ W.add p (rr0 peer tag C.room) = some W2 ∧ W2.start p (W.pr p).next [] = some W3 ∧ (W3.rq p (W.pr p).next).no = (W.pr p).next ∧
    In C C.n (Γ.recvs m o) W3 ∧ Wf C (Γ.recvs m o) := by
 have hk := K.k
 have hb : 1000 < big := by decide
 have hadd := H.add K.cs (by omega) hp (rr0 peer tag C.room)
 generalize hN : (W.pr p).next = N at hadd ⊢
 have hroom := K.cs.room
 have hml : (W.pr p).msgs.length < big := by
  rw [H.msgs p hp, List.length_map]
  exact Nat.lt_of_le_of_lt (nodup_len Γ.k _ ((F.arrn p).filter _) fun x hx => (F.arr p x (List.mem_filter.1 hx).1).1) K.cs.kb
 have hrl : (W.pr p).rcvs.length < big := by
  rw [H.rcvs p hp, List.length_map]
  exact Nat.lt_of_le_of_lt (nodup_len Γ.k _ ((F.postn p).filter _) fun x hx => (F.post p x (List.mem_filter.1 hx).1).1) K.cs.kb
 have hwl : ∀ q, q < C.n → (W.way (p : Int) (q : Int)).length < big := fun q hq => by
  rw [H.way p q hp hq, List.length_map]
  exact Nat.lt_of_le_of_lt (nodup_len Γ.k _ (F.wayn _ _) fun x hx => (F.way _ _ x hx).1) K.cs.kb
 generalize hm : (⟨p, peer, false, tag, [], N, false, false⟩ : Mv) = m
 have mp : m.p = p := by rw [← hm]
 have mno : m.no = N := by rw [← hm]
 have msd : m.send = false := by rw [← hm]
 have md3 : m.d = [] ∧ m.sync = false ∧ m.ea = false := by rw [← hm]; exact ⟨rfl, rfl, rfl⟩
 have hfresh : ∀ i, i < Γ.k → (Γ.mv i).p = m.p → (Γ.mv i).no ≠ m.no := fun i hi h e => by
  have h1 := H.reqs i hi
  rw [h, e, mp, mno, ← hN] at h1
  exact Nat.lt_irrefl _ ((H.lt p hp).1 _ h1)
 have hkp : Γ.k ∉ Γ.post p := fun h => Nat.lt_irrefl _ (F.post p _ h).1
 have hgp := greedy_post (fits := fitG (Γ.adds m).mv) hkp (Γ.arr p) (F.arrn p)
 have hfree : ∀ i, free (fitG (Γ.adds m).mv) (Γ.arr p) (Γ.post p) i = Γ.fr p i := fun i => adds_fr F p i
 have hmt0 : greedy (fitG (Γ.adds m).mv) (Γ.arr p) (Γ.post p) = Γ.mt p := adds_mt F p
 simp only [hfree, hmt0] at hgp
 have hmtr : ∀ o, (Γ.recvs m o).mt m.p = greedy (fitG (Γ.adds m).mv) (Γ.arr p) (Γ.post p ++ [Γ.k]) := fun o => by
  show greedy (fitG (Γ.adds m).mv) (Γ.arr m.p) (ups Γ.post m.p (Γ.post m.p ++ [Γ.k]) m.p) = _
  rw [ups_at, mp]
 have hfi : (W.pr p).msgs.findIdx? (fun m' => (recvR C.room m none).fits m'.en) = ((Γ.arr p).filter (Γ.fr p)).findIdx? fun i => fitG (Γ.adds m).mv i Γ.k := by
  rw [H.msgs p hp, List.findIdx?_map]
  refine findIdx_congr fun i hi => ?_
  show (recvR C.room m none).fits (msG (Γ.mv i)).en = _
  rw [msG_en, fits_g]
  unfold fitG
  rw [adds_at, adds_mv (F.arr p i (List.mem_filter.1 hi).1).1]
 have hdl : ((m.d.length : Nat) : Int) ≤ C.room := by rw [← hm]; exact hroom
 have hno : m.no = (W.pr m.p).next := by rw [mno, mp, hN]
 have hr0 : (⟨N, peer, 3, tag, C.room, false, false, false, true, false, 0, 0, [], [], 0, [], false, St.z⟩ : Rq) = recvR C.room m none := by rw [← hm]; rfl
 -- the start, up to the look at what waits
 have hstart : ∀ W3, (match (W.pr p).msgs.findIdx? (fun m' => (recvR C.room m none).fits m'.en) with
    | some i => (((W.setPr p (nxP W p)).setRq p N (recvR C.room m none)).setPr p { nxP W p with msgs := (W.pr p).msgs.eraseIdx i }).mtch p N ((W.pr p).msgs.getD i (.ask ⟨p, 3, tag, 0, 0⟩ 0))
    | none => some (((W.setPr p (nxP W p)).setRq p N (recvR C.room m none)).setPr p { nxP W p with rcvs := (W.pr p).rcvs ++ [N] })) = some W3 →
    (∀ i, (W.pr p).msgs.findIdx? (fun m' => (recvR C.room m none).fits m'.en) = some i → i < (W.pr p).msgs.length) →
    ((W.setPr p (nxP W p)).setRq p N { rr0 peer tag C.room with no := N }).start p N [] = some W3 := fun W3 h hlt => by
  have hpp : ∀ X, ((W.setPr p (nxP W p)).setRq p N X).pr p = nxP W p := fun X => Wd.setPr_at _ _ _
  unfold Wd.start
  rw [Wd.setRq_at, hpp]
  unfold rr0
  dsimp only
  rw [if_neg (fun h => h ⟨by show 0 * 0 < big; decide, by show 0 < big; decide, hml, hroom⟩), if_neg (by decide), if_neg hpe, Wd.setRq_setRq, hr0]
  show (match (W.pr p).msgs.findIdx? (fun m' => (recvR C.room m none).fits m'.en) with | some i => _ | none => _) = _
  cases hf : (W.pr p).msgs.findIdx? (fun m' => (recvR C.room m none).fits m'.en) with
  | none =>
    rw [hf] at h
    dsimp only at h ⊢
    exact (if_pos hrl).trans h
  | some i =>
    rw [hf] at h
    dsimp only at h ⊢
    have hg : ∀ d1 d2 : Ms, (W.pr p).msgs.getD i d1 = (W.pr p).msgs.getD i d2 := fun d1 d2 => by
      rw [List.getD_eq_getElem?_getD, List.getD_eq_getElem?_getD, List.getElem?_eq_getElem (hlt i hf)]; rfl
    rw [← h, hg _ (.ask ⟨p, 3, tag, 0, 0⟩ 0)]
    rfl
 cases hf : ((Γ.arr p).filter (Γ.fr p)).findIdx? (fun i => fitG (Γ.adds m).mv i Γ.k) with
 | none =>
  have hB : greedy (fitG (Γ.adds m).mv) (Γ.arr p) (Γ.post p ++ [Γ.k]) = Γ.mt p := by
    rcases hgp with ⟨i, h1, _⟩ | ⟨_, h2⟩
    · have h3 := List.find?_some h1
      have h4 := List.mem_of_find?_eq_some h1
      simp only [Bool.and_eq_true] at h3
      have := List.findIdx?_eq_none_iff.1 hf i (List.mem_filter.2 ⟨h4, h3.1⟩)
      rw [h3.2] at this; cases this
    · exact h2
  have hmt : (Γ.recvs m none).mt m.p = Γ.mt m.p := by rw [hmtr, hB, mp]
  refine ⟨m, none, _, ((W.setPr p { nxP W p with rcvs := (W.pr p).rcvs ++ [N] }).setRq p N (recvR C.room m none)), mp, by rw [← hm], msd, by rw [← hm], md3, mno, hadd, hstart _ ?_ (fun i h => ?_), ?_, ?_, ?_⟩
  · rw [hfi, hf]
    show some (Wd.setRq (Wd.setPr (Wd.setPr W p _) p _) p N _) = _
    rw [Wd.setPr_setPr]
  · rw [hfi, hf] at h; cases h
  · rw [Wd.setRq_at, ← hm]; rfl
  · subst mp
    refine H.recvs F msd hp hno (fun i h => by cases h) hmt rfl rfl (fun a b => rfl) (fun q h => Wd.setPr_ne _ _ h) ?_ ?_ ?_ ?_ ?_ ?_ ?_ (fun q no h => Wd.setRq_ne _ _ (by rw [← mno]; exact h)) ?_
    · show ((W.setPr m.p _).pr m.p).inb = _; rw [Wd.setPr_at]; rfl
    · show ((W.setPr m.p _).pr m.p).msgs = _
      rw [Wd.setPr_at]
      refine (H.msgs _ hp).trans ?_
      congr 1
      exact List.filter_congr fun x _ => by simp
    · show ((W.setPr m.p _).pr m.p).rcvs = (W.pr m.p).rcvs ++ [m.no]; rw [Wd.setPr_at, mno]
    · show ((W.setPr m.p _).pr m.p).exps = (W.pr m.p).exps; rw [Wd.setPr_at]; rfl
    · show ((W.setPr m.p _).pr m.p).reqs = _; rw [Wd.setPr_at]; show _ ++ [(W.pr m.p).next] = _; rw [hno]
    · show ((W.setPr m.p _).pr m.p).next = _; rw [Wd.setPr_at]; rfl
    · show ((W.setPr m.p _).pr m.p).crds = _; rw [Wd.setPr_at]; rfl
    · rw [mno]; exact Wd.setRq_at _ _ _ _
  · refine F.recvs msd (by rw [mp]; exact hp) hdl hfresh (fun i h => by cases h) fun j x => ?_
    rw [hmt]; simp
 | some idx =>
  obtain ⟨i, g1, g2, g3, g4, g5⟩ := findIdx_find hf
  obtain ⟨gi1, gi2⟩ := List.mem_filter.1 g3
  obtain ⟨hik, his, hito, _, hiw⟩ := F.arr p i gi1
  have hiwt : Γ.tk i = .wait := hiw.2 gi2
  have hA : greedy (fitG (Γ.adds m).mv) (Γ.arr p) (Γ.post p ++ [Γ.k]) = ups (Γ.mt p) Γ.k (some i) := by
    have hfd : (Γ.arr p).find? (fun i => Γ.fr p i && fitG (Γ.adds m).mv i Γ.k) = some i := by
      rw [← g1, List.find?_filter]
      exact find_congr fun x _ => by simp
    rcases hgp with ⟨i', h1, h2⟩ | ⟨h1, _⟩
    · rw [hfd] at h1; cases h1; exact h2
    · rw [hfd] at h1; cases h1
  have hmt : (Γ.recvs m (some i)).mt m.p = ups (Γ.mt m.p) Γ.k (some i) := by rw [hmtr, hA, mp]
  have hin := (F.mv i hik).1
  have hput : ∀ (W' : Wd) (x : Pk), W'.way = W.way → W'.put p (Γ.mv i).p x = some (W'.setWay p (Γ.mv i).p (W.way p (Γ.mv i).p ++ [x])) := fun W' x h => by
    unfold Wd.put; rw [h, if_pos (hwl _ hin)]
  have hget : (W.pr p).msgs.getD idx (.ask ⟨p, 3, tag, 0, 0⟩ 0) = msG (Γ.mv i) := by
    rw [H.msgs p hp, List.getD_eq_getElem?_getD, List.getElem?_map, g2]; rfl
  have hidx : idx < (W.pr p).msgs.length := by
    rw [H.msgs p hp, List.length_map]; exact (List.getElem?_eq_some_iff.1 g2).1
  have hers : (W.pr p).msgs.eraseIdx idx = ((Γ.arr p).filter fun x => Γ.fr p x && !(some i == some x)).map fun i => msG (Γ.mv i) := by
    rw [H.msgs p hp, map_erase, g5 ((F.arrn p).filter _), List.filter_filter]
    congr 1
    refine List.filter_congr fun x _ => ?_
    by_cases e : x = i
    · subst e; simp
    · have e2 : ¬ i = x := fun h => e h.symm
      have h1 : (x == i) = false := by simpa using e
      have h3 : (some i == some x) = false := by simpa using e2
      show (!(x == i) && Γ.fr p x) = (Γ.fr p x && !(some i == some x))
      rw [h1, h3, Bool.and_comm]
  have hdl2 := (F.mv i hik).2.1
  have hd2 : (Γ.mv i).d.length < big := by have := K.cs.rb; omega
  obtain ⟨E', hE⟩ : ∃ E', E' = if (Γ.mv i).ea = true then (W.pr p).exps else kset (W.pr p).exps (((Γ.mv i).p : Int), ((Γ.mv i).no : Int)) N := ⟨_, rfl⟩
  have hpp : ∀ X Y, (((W.setPr p X).setRq p N Y).pr p) = X := fun X Y => Wd.setPr_at _ _ _
  refine ⟨m, some i, _, (((W.setPr p { nxP W p with msgs := (W.pr p).msgs.eraseIdx idx, exps := E' }).setRq p N (recvR C.room m (some (Γ.mv i, .back)))).setWay p (Γ.mv i).p (W.way p (Γ.mv i).p ++ [pkG (Γ.mv i) .back])), mp, by rw [← hm], msd, by rw [← hm], md3, mno, hadd, hstart _ ?_ (fun k h => ?_), ?_, ?_, ?_⟩
  · rw [hfi, hf]
    dsimp only
    rw [hget]
    cases hea : (Γ.mv i).ea with
    | true =>
      rw [hea, if_pos rfl] at hE
      subst hE
      have hmm : msG (Γ.mv i) = .eager (enG (Γ.mv i)) (Γ.mv i).d := by unfold msG; rw [if_pos hea]
      have hr : ({ recvR C.room m none with st := ⟨(enG (Γ.mv i)).src, (enG (Γ.mv i)).tag, (enG (Γ.mv i)).size, 0⟩ } : Rq).gets (Γ.mv i).d = recvR C.room m (some (Γ.mv i, .back)) := by
        unfold Rq.gets recvR doneG enG
        dsimp only
        rw [if_neg (fun h => by have := h.2; omega), hea]
        rfl
      rw [hmm]
      unfold Wd.mtch
      dsimp only
      have hrq : (((W.setPr p (nxP W p)).setRq p N (recvR C.room m none)).setPr p { nxP W p with msgs := (W.pr p).msgs.eraseIdx idx }).rq p N = recvR C.room m none := Wd.setRq_at _ _ _ _
      rw [hrq, if_pos ⟨hd2, hroom⟩]
      show Wd.put (Wd.setRq (Wd.setPr (Wd.setRq (Wd.setPr W p _) p N _) p _) p N (({ recvR C.room m none with st := ⟨(enG (Γ.mv i)).src, (enG (Γ.mv i)).tag, (enG (Γ.mv i)).size, 0⟩ } : Rq).gets (Γ.mv i).d)) p ((Γ.mv i).p : Int) .credit = _
      rw [hr, hput]
      rotate_left
      · rfl
      unfold pkG
      dsimp only
      rw [if_pos hea]
      show some (Wd.setWay (Wd.setRq (Wd.setRq (Wd.setPr (Wd.setPr W p _) p _) p N _) p N _) _ _ _) = _
      rw [Wd.setPr_setPr, Wd.setRq_setRq]
      rfl
    | false =>
      rw [hea, if_neg (by decide)] at hE
      subst hE
      have hmm : msG (Γ.mv i) = .ask (enG (Γ.mv i)) (Γ.mv i).no := by unfold msG; rw [if_neg (by rw [hea]; decide)]
      have hr : ({ recvR C.room m none with st := ⟨(enG (Γ.mv i)).src, (enG (Γ.mv i)).tag, (enG (Γ.mv i)).size, 0⟩ } : Rq) = recvR C.room m (some (Γ.mv i, .back)) := by
        unfold recvR doneG enG
        dsimp only
        rw [hea]
        rfl
      rw [hmm]
      unfold Wd.mtch
      dsimp only
      have hrq : (((W.setPr p (nxP W p)).setRq p N (recvR C.room m none)).setPr p { nxP W p with msgs := (W.pr p).msgs.eraseIdx idx }).rq p N = recvR C.room m none := Wd.setRq_at _ _ _ _
      have hprq : (((W.setPr p (nxP W p)).setRq p N (recvR C.room m none)).setPr p { nxP W p with msgs := (W.pr p).msgs.eraseIdx idx }).pr p = { nxP W p with msgs := (W.pr p).msgs.eraseIdx idx } := Wd.setPr_at _ _ _
      rw [hrq, hprq]
      show Wd.put (Wd.setPr (Wd.setRq (Wd.setPr (Wd.setRq (Wd.setPr W p _) p N _) p _) p N ({ recvR C.room m none with st := ⟨(enG (Γ.mv i)).src, (enG (Γ.mv i)).tag, (enG (Γ.mv i)).size, 0⟩ } : Rq)) p _) p ((Γ.mv i).p : Int) (.clear (Γ.mv i).no) = _
      rw [hr, hput]
      rotate_left
      · rfl
      unfold pkG
      dsimp only
      rw [if_neg (by rw [hea]; decide)]
      show some (Wd.setWay (Wd.setRq (Wd.setRq (Wd.setPr (Wd.setPr (Wd.setPr W p _) p _) p _) p N _) p N _) _ _ _) = _
      rw [Wd.setPr_setPr, Wd.setPr_setPr, Wd.setRq_setRq]
      rfl
  · rw [hfi, hf] at h; cases h; exact hidx
  · show ((Wd.setRq _ p N _).rq p N).no = N
    rw [Wd.setRq_at, ← hm]; rfl
  · subst mp
    refine H.recvs F msd hp hno (fun x h => by cases h; exact ⟨gi1, hiwt⟩) hmt rfl rfl (fun a b => rfl) (fun q h => Wd.setPr_ne _ _ h) ?_ ?_ ?_ ?_ ?_ ?_ ?_ (fun q no h => Wd.setRq_ne _ _ (by rw [← mno]; exact h)) ?_
    · show ((W.setPr m.p _).pr m.p).inb = _; rw [Wd.setPr_at]; rfl
    · show ((W.setPr m.p _).pr m.p).msgs = _; rw [Wd.setPr_at]; exact hers
    · show ((W.setPr m.p _).pr m.p).rcvs = (W.pr m.p).rcvs; rw [Wd.setPr_at]; rfl
    · show ((W.setPr m.p _).pr m.p).exps = if (Γ.mv i).ea = true then _ else _; rw [Wd.setPr_at, mno]; exact hE
    · show ((W.setPr m.p _).pr m.p).reqs = _; rw [Wd.setPr_at]; show _ ++ [(W.pr m.p).next] = _; rw [hno]
    · show ((W.setPr m.p _).pr m.p).next = _; rw [Wd.setPr_at]; rfl
    · show ((W.setPr m.p _).pr m.p).crds = _; rw [Wd.setPr_at]; rfl
    · rw [mno]; exact Wd.setRq_at _ _ _ _
  · refine F.recvs msd (by rw [mp]; exact hp) hdl hfresh (fun x h => by cases h; rw [mp]; exact ⟨gi1, hiwt⟩) fun j x => ?_
    rw [hmt, mp]
    have hmk : Γ.mt p Γ.k = none := by
      cases h : Γ.mt p Γ.k with
      | none => rfl
      | some y => exact (hkp (greedy_mem _ _ h).1).elim
    by_cases e : j = Γ.k
    · subst e; rw [ups_at, hmk]; simp
    · rw [ups_ne _ _ e]; simp [e]
end
end Go.Mt
namespace Go.Mt
open Go.Arm
section
variable {C : Ct} {Γ : Gs} {W : Wd}
def gs0 : Gs := ⟨0, fun _ => ⟨0, 0, false, 0, [], 0, false, false⟩, fun _ => [], fun _ => [], fun _ _ => [], fun _ => [], fun _ => .fin, fun _ => []⟩
theorem In.born {n : Nat} {e c room : Int} {q : Rq} (hc : 0 ≤ c) (hW : W = ⟨e, n, fun _ => ⟨1, [], [], [], [], [], List.replicate n c⟩, fun _ _ => q, fun _ _ => []⟩) : In ⟨n, e, room, c⟩ n gs0 W ∧ Wf ⟨n, e, room, c⟩ gs0 := by
 subst hW
 refine ⟨⟨rfl, rfl, fun _ _ _ _ => rfl, fun _ _ _ => rfl, fun p hp => ?_, fun _ _ => rfl, fun _ _ => rfl, fun i hi => absurd hi (Nat.not_lt_zero _), fun i hi => absurd hi (Nat.not_lt_zero _), fun i hi => absurd hi (Nat.not_lt_zero _), fun p hp => ⟨fun x hx => (by cases hx), Nat.le_refl _, Nat.le_refl _⟩, fun i hi => absurd hi (Nat.not_lt_zero _), fun p hp => ⟨List.length_replicate, fun r hr => ?_⟩⟩,
   ⟨fun i hi => absurd hi (Nat.not_lt_zero _), fun i j hi => absurd hi (Nat.not_lt_zero _), fun p i hi => (by cases hi), fun _ => List.nodup_nil, fun p i hi => (by cases hi), fun _ => List.nodup_nil, fun a b i hi => (by cases hi), fun _ _ => List.nodup_nil, fun b i hi => (by cases hi), fun _ => List.nodup_nil, fun a b c i hi => (by cases hi), fun i hi => absurd hi (Nat.not_lt_zero _), fun i hi => absurd hi (Nat.not_lt_zero _), fun a b => List.Pairwise.nil, fun i hi => absurd hi (Nat.not_lt_zero _), fun p => ⟨List.nodup_nil, fun i hi => (by cases hi)⟩⟩⟩
 · show [] = if p = n then [] else ([] : List (Int × Pk))
   split <;> rfl
 · have hr : r < n := hr
   show 0 ≤ (List.replicate n c).getD r 0 ∧ (List.replicate n c).getD r 0 ≤ c + ((0 : Nat) : Int)
   have : (List.replicate n c).getD r 0 = c := by
    rw [List.getD_eq_getElem?_getD, List.getElem?_replicate, if_pos hr]; rfl
   rw [this]; omega
theorem In.deliver {a b : Nat} (H : In C C.n Γ W) (F : Wf C Γ) (K : Ck C Γ) (ha : a < C.n) (hb : b < C.n) : W.way a b = [] ∨ ∃ x l Γ', W.way a b = x :: l ∧ (W.pr b).inb.length < big ∧
  In C C.n Γ' ((W.setWay a b l).setPr b { W.pr b with inb := (W.pr b).inb ++ [((a : Int), x)] }) ∧ Wf C Γ' ∧ Ew Γ Γ' := by
 cases hw : W.way a b with
 | nil => exact .inl rfl
 | cons x l =>
  obtain ⟨h1, h2⟩ := H.mvs F (j := 1) ha hb
  refine .inr ⟨x, l, _, rfl, ?_, ?_, h2, ⟨rfl, rfl, rfl⟩⟩
  · rw [H.inb b hb, if_neg (Nat.ne_of_lt hb), List.length_map]
    exact Nat.lt_of_le_of_lt (nodup_len Γ.k _ (F.inbn b) fun x hx => (F.inb b x hx).1) K.cs.kb
  · have : W.mv a b 1 = (W.setWay a b l).setPr b { W.pr b with inb := (W.pr b).inb ++ [((a : Int), x)] } := by
     unfold Wd.mv
     rw [hw]
     rfl
    rw [← this]; exact h1
theorem Wf.rest (F : Wf C Γ) (Q : Gq Γ) {i : Nat} (hi : i < Γ.k) (hs : (Γ.mv i).send = true) : (Γ.tk i = .wait ∧ Γ.fr (Γ.mv i).to i = true) ∨ (Γ.tk i = .fin ∧ ∃ j, Γ.mt (Γ.mv i).to j = some i) := by
 have hno : ¬ ((∃ a b, i ∈ Γ.way a b) ∨ ∃ b, i ∈ Γ.inb b) := by
   rintro (⟨a, b, h⟩ | ⟨b, h⟩)
   · rw [Q.1] at h; cases h
   · rw [Q.2] at h; cases h
 have h1 : ∀ t, Γ.tk i = t → t = .wait ∨ t = .fin := fun t ht => by
   cases t with
   | msg => exact (hno (F.lost i hi hs (.inl ht))).elim
   | back => exact (hno (F.lost i hi hs (.inr (.inl ht)))).elim
   | body => exact (hno (F.lost i hi hs (.inr (.inr ht)))).elim
   | wait => exact .inl rfl
   | fin => exact .inr rfl
 rcases h1 _ rfl with h | h
 · have ha := F.fin i hi hs (by rw [h]; decide)
   exact .inl ⟨h, (F.arr _ i ha).2.2.2.2.1 h⟩
 · obtain ⟨j, hj, _⟩ := F.got hi hs (by rw [h]; decide) (by rw [h]; decide)
   exact .inr ⟨h, j, hj⟩
theorem Wf.arrived (F : Wf C Γ) (Q : Gq Γ) (a b : Nat) : ((Γ.arr b).filter fun i => (Γ.mv i).p == a).Pairwise (· < ·) ∧ ∀ i, i < Γ.k → (Γ.mv i).send = true → (Γ.mv i).to = b → i ∈ Γ.arr b := by
 refine ⟨?_, fun i hi hs hb => ?_⟩
 · have h1 := F.ord a b
   rw [List.append_assoc] at h1
   exact (List.pairwise_append.1 h1).1
 · rw [← hb]
   rcases F.rest Q hi hs with ⟨h, _⟩ | ⟨h, _⟩ <;> exact F.fin i hi hs (by rw [h]; decide)
end
end Go.Mt
namespace Go.Mt
open Go.Arm
structure Pl (C : Ct) (sp : Nat → Mv) (no : Nat → Nat) (k : Nat) (Γ : Gs) (W : Wd) : Prop where
 hi : In C C.n Γ W
 hf : Wf C Γ
 hk : Γ.k = k
 mv : ∀ i, i < k → ∃ ea : Bool, (ea = true → (sp i).sync = false) ∧ Γ.mv i = { sp i with no := no i, ea := ea }
 post : ∀ p, Γ.post p = (List.range k).filter fun j => !(sp j).send && (sp j).p == p
section
variable {C : Ct} {sp : Nat → Mv} {no : Nat → Nat} {k : Nat} {Γ Γ' : Gs} {W W' : Wd}
theorem Pl.ew (P : Pl C sp no k Γ W) (E : Ew Γ Γ') (I : In C C.n Γ' W') (F : Wf C Γ') : Pl C sp no k Γ' W' :=
 ⟨I, F, E.k.trans P.hk, fun i hi => by rw [E.mv]; exact P.mv i hi, fun p => by rw [E.post]; exact P.post p⟩
theorem Pl.send (P : Pl C sp no k Γ W) {m : Mv} (I : In C C.n (Γ.sends m) W') (F : Wf C (Γ.sends m)) (hs : (sp k).send = true) (hm : m = { sp k with no := m.no, ea := m.ea }) (hsy : m.ea = true → (sp k).sync = false) : Pl C sp (ups no k m.no) (k + 1) (Γ.sends m) W' := by
 refine ⟨I, F, congrArg (· + 1) P.hk, fun i hi => ?_, fun p => ?_⟩
 · show ∃ ea : Bool, (ea = true → (sp i).sync = false) ∧ ups Γ.mv Γ.k m i = _
   rw [P.hk]
   by_cases e : i = k
   · subst e; rw [ups_at, ups_at]; exact ⟨m.ea, hsy, hm⟩
   · rw [ups_ne _ _ e, ups_ne _ _ e]; exact P.mv i (by omega)
 · show Γ.post p = _
   rw [P.post, List.range_succ, List.filter_append, List.filter_cons_of_neg (by rw [hs]; simp)]
   exact (List.append_nil _).symm
theorem Pl.recv (P : Pl C sp no k Γ W) {m : Mv} {o : Option Nat} (I : In C C.n (Γ.recvs m o) W') (F : Wf C (Γ.recvs m o)) (hs : (sp k).send = false) (hp : m.p = (sp k).p) (hm : m = { sp k with no := m.no, ea := m.ea }) (hsy : m.ea = true → (sp k).sync = false) : Pl C sp (ups no k m.no) (k + 1) (Γ.recvs m o) W' := by
 refine ⟨I, F, congrArg (· + 1) P.hk, fun i hi => ?_, fun p => ?_⟩
 · show ∃ ea : Bool, (ea = true → (sp i).sync = false) ∧ ups Γ.mv Γ.k m i = _
   rw [P.hk]
   by_cases e : i = k
   · subst e; rw [ups_at, ups_at]; exact ⟨m.ea, hsy, hm⟩
   · rw [ups_ne _ _ e, ups_ne _ _ e]; exact P.mv i (by omega)
 · show ups Γ.post m.p (Γ.post m.p ++ [Γ.k]) p = _
   rw [List.range_succ, List.filter_append]
   by_cases e : p = m.p
   · subst e
     rw [ups_at, P.post, P.hk, List.filter_cons_of_pos (by rw [hs, hp]; simp)]
     rfl
   · rw [ups_ne _ _ e, P.post, List.filter_cons_of_neg (by rw [hs, ← hp]; simp [Ne.symm e])]
     exact (List.append_nil _).symm
theorem split_sorted {l : List Nat} (h : l.Pairwise (· < ·)) {x y : Nat} (hx : x ∈ l) (hy : y ∈ l) (hxy : x < y) : ∃ A B D, l = A ++ x :: B ++ y :: D := by
 obtain ⟨A, R, rfl⟩ := List.append_of_mem hx
 obtain ⟨_, h2, h3⟩ := List.pairwise_append.1 h
 have hyR : y ∈ R := by
  rcases List.mem_append.1 hy with h4 | h4
  · have := h3 y h4 x List.mem_cons_self; omega
  · rcases List.mem_cons.1 h4 with h5 | h5
    · omega
    · exact h5
 obtain ⟨B, D, rfl⟩ := List.append_of_mem hyR
 exact ⟨A, B, D, by simp⟩
theorem Pl.sorted (P : Pl C sp no k Γ W) (p : Nat) : (Γ.post p).Pairwise (· < ·) := by
 rw [P.post]; exact List.Pairwise.filter _ List.pairwise_lt_range
theorem Pl.gotm (P : Pl C sp no k Γ W) {p i j : Nat} (h : Γ.mt p j = some i) : i < k ∧ (sp i).send = true ∧ (sp i).to = p ∧ j < k ∧ (sp j).send = false ∧ (sp j).p = p ∧ ((sp j).peer = -1 ∨ (sp j).peer = ((sp i).p : Int)) ∧ ((sp j).tag = -1 ∨ (sp j).tag = (sp i).tag) := by
 obtain ⟨h1, h2, h3⟩ := greedy_mem _ _ h
 obtain ⟨a1, a2, a3, _⟩ := P.hf.arr p i h2
 obtain ⟨b1, b2, b3⟩ := P.hf.post p j h1
 rw [P.hk] at a1 b1
 obtain ⟨ea, _, e1⟩ := P.mv i a1
 obtain ⟨eb, _, e2⟩ := P.mv j b1
 rw [e1] at a2 a3
 rw [e2] at b2 b3
 unfold fitG at h3
 rw [e1, e2] at h3
 simp only [Bool.and_eq_true, Bool.or_eq_true, beq_iff_eq] at h3
 exact ⟨a1, a2, a3, b1, b2, b3, h3.1, h3.2⟩
theorem Pl.order (P : Pl C sp no k Γ W) (Q : Gq Γ) {p j1 j2 i1 i2 : Nat} (h1 : Γ.mt p j1 = some i1) (h2 : Γ.mt p j2 = some i2) (hj : j1 < j2) (hsp : (sp i1).p = (sp i2).p) (hpe : (sp j1).peer = (sp j2).peer) (htg : (sp j1).tag = (sp j2).tag) : i1 < i2 := by
 obtain ⟨a1, _, _, b1, _⟩ := P.gotm h1
 obtain ⟨a2, _, _, b2, _⟩ := P.gotm h2
 have m1 := (greedy_mem _ _ h1).1
 have m2 := (greedy_mem _ _ h2).1
 obtain ⟨A, B, D, hpost⟩ := split_sorted (P.sorted p) m1 m2 hj
 have hn := P.hf.postn p
 rw [hpost] at hn
 have hne : j2 ∉ A ++ j1 :: B := fun h => (List.nodup_append.1 hn).2.2 j2 h j2 List.mem_cons_self rfl
 have hfit : ∀ i, fitG Γ.mv i j1 = fitG Γ.mv i j2 := fun i => by
  obtain ⟨e1, _, g1⟩ := P.mv j1 b1
  obtain ⟨e2, _, g2⟩ := P.mv j2 b2
  unfold fitG
  rw [g1, g2]
  dsimp only
  rw [hpe, htg]
 have h2' : greedy (fitG Γ.mv) (Γ.arr p) (A ++ j1 :: B ++ j2 :: D) j2 = some i2 := by rw [← hpost]; exact h2
 obtain ⟨i1', l1, l2, hl, hi1, h3⟩ := greedy_order hfit hne _ h2'
 rw [← hpost] at h3
 have h3 : Γ.mt p j1 = some i1' := h3
 rw [h1] at h3
 obtain rfl := Option.some.inj h3
 have hs := (P.hf.arrived Q ((sp i1).p) p).1
 rw [hl, List.filter_append] at hs
 obtain ⟨ea, _, g1⟩ := P.mv i1 a1
 obtain ⟨eb, _, g2⟩ := P.mv i2 a2
 refine (List.pairwise_append.1 hs).2.2 i1 (List.mem_filter.2 ⟨hi1, by rw [g1]; simp⟩) i2 (List.mem_filter.2 ⟨List.mem_cons_self, by rw [g2]; simp [hsp]⟩)
end
end Go.Mt
namespace Go.Mt
open Go.Arm
theorem call_rest {W : Wd} {p : Nat} (h : (W.pr p).inb = []) : W.call p = some W := by
 unfold Wd.call
 rw [h, if_pos (by decide)]
 show some (W.setPr p { W.pr p with inb := [] }) = _
 rw [← h]
 show some (W.setPr p (W.pr p)) = _
 rw [Wd.setPr_same]
section
variable {C : Ct} {sp : Nat → Mv} {no : Nat → Nat} {k : Nat} {Γ : Gs} {W W' : Wd}
structure Ts (C : Ct) (sp : Nat → Mv) (no : Nat → Nat) (k : Nat) (W : Wd) (un : Nat → Prop) (W' : Wd) : Prop where
 n : W'.n = C.n
 inb : ∀ p, p < C.n → (W'.pr p).inb = []
 rcvs : ∀ p, (W'.pr p).rcvs = (W.pr p).rcvs
 msgs : ∀ p, (W'.pr p).msgs = (W.pr p).msgs
 rq : ∀ i, i < k → un i → W'.rq (sp i).p (no i) = W.rq (sp i).p (no i) ∧ no i ∈ (W'.pr (sp i).p).reqs
 nd : ∀ p, p < C.n → (W'.pr p).reqs.length ≤ k
theorem Pl.attr (P : Pl C sp no k Γ W) {i : Nat} (hi : i < k) : (Γ.mv i).p = (sp i).p ∧ (Γ.mv i).no = no i ∧ (Γ.mv i).send = (sp i).send ∧ (Γ.mv i).d = (sp i).d ∧ (Γ.mv i).tag = (sp i).tag ∧ (Γ.mv i).to = (sp i).to ∧ (Γ.mv i).sync = (sp i).sync := by
 obtain ⟨ea, _, e⟩ := P.mv i hi
 rw [e]
 exact ⟨rfl, rfl, rfl, rfl, rfl, rfl, rfl⟩
theorem Pl.ts (P : Pl C sp no k Γ W) (Q : Gq Γ) : Ts C sp no k W (fun _ => True) W := by
 refine ⟨P.hi.n, fun p hp => ?_, fun _ => rfl, fun _ => rfl, fun i hi _ => ⟨rfl, ?_⟩, fun p hp => by have := (P.hi.lt p hp).2.1; rw [P.hk] at this; exact this⟩
 · rw [P.hi.inb p hp, if_neg (Nat.ne_of_lt hp), Q.2]; rfl
 · obtain ⟨e1, e2, _⟩ := P.attr hi
   have := P.hi.reqs i (by rw [P.hk]; exact hi)
   rw [e1, e2] at this; exact this
theorem Pl.inj (P : Pl C sp no k Γ W) {i j : Nat} (hi : i < k) (hj : j < k) (hp : (sp i).p = (sp j).p) (hn : no i = no j) : i = j := by
 obtain ⟨e1, e2, _⟩ := P.attr hi
 obtain ⟨e3, e4, _⟩ := P.attr hj
 exact P.hf.inj i j (by rw [P.hk]; exact hi) (by rw [P.hk]; exact hj) (by rw [e1, e3, hp]) (by rw [e2, e4, hn])
theorem Ts.over (P : Pl C sp no k Γ W) {un : Nat → Prop} (T : Ts C sp no k W un W') {i : Nat} (hi : i < k) (hp : (W'.rq (sp i).p (no i)).no = no i) : Ts C sp no k W (fun j => un j ∧ j ≠ i) (W'.over (sp i).p (no i)) := by
 have hpr : ∀ q, (W'.over (sp i).p (no i)).pr q = W'.pr q ∨ (q = (sp i).p ∧ (W'.over (sp i).p (no i)).pr q = { W'.pr q with reqs := (W'.pr q).reqs.erase (no i) }) := fun q => by
   unfold Wd.over
   dsimp only
   split
   · exact .inl rfl
   · by_cases e : q = (sp i).p
     · subst e
       refine .inr ⟨rfl, ?_⟩
       rw [Wd.setPr_at, hp]
     · exact .inl (Wd.setPr_ne _ _ e)
 have hrq : ∀ q x, ¬ (q = (sp i).p ∧ x = no i) → (W'.over (sp i).p (no i)).rq q x = W'.rq q x := fun q x h => by
   unfold Wd.over
   dsimp only
   split
   · exact Wd.setRq_ne _ _ h
   · show (Wd.setRq _ _ _ _).rq q x = _
     exact Wd.setRq_ne _ _ h
 refine ⟨(Wd.over_n _ _ _).trans T.n, fun p hp => ?_, fun p => ?_, fun p => ?_, fun j hj hu => ?_, fun p hp => ?_⟩
 · rcases hpr p with h | ⟨_, h⟩ <;> rw [h] <;> exact T.inb p hp
 · rcases hpr p with h | ⟨_, h⟩ <;> rw [h] <;> exact T.rcvs p
 · rcases hpr p with h | ⟨_, h⟩ <;> rw [h] <;> exact T.msgs p
 · obtain ⟨h1, h2⟩ := T.rq j hj hu.1
   have hne : ¬ ((sp j).p = (sp i).p ∧ no j = no i) := fun h => hu.2 (P.inj hj hi h.1 h.2)
   refine ⟨(hrq _ _ hne).trans h1, ?_⟩
   rcases hpr (sp j).p with h | ⟨h3, h⟩
   · rw [h]; exact h2
   · rw [h]
     exact (List.mem_erase_of_ne (fun e => hne ⟨h3, e⟩)).2 h2
 · rcases hpr p with h | ⟨_, h⟩ <;> rw [h]
   · exact T.nd p hp
   · exact Nat.le_trans (List.length_erase_le) (T.nd p hp)
theorem Pl.recvd (P : Pl C sp no k Γ W) (Q : Gq Γ) {j : Nat} (hj : j < k) (hs : (sp j).send = false) :
  (Γ.mt (sp j).p j = none ∧ (W.rq (sp j).p (no j)).act = true ∧ (W.rq (sp j).p (no j)).done = false ∧ (W.rq (sp j).p (no j)).no = no j) ∨
  ∃ i, Γ.mt (sp j).p j = some i ∧ (W.rq (sp j).p (no j)).act = true ∧ (W.rq (sp j).p (no j)).done = true ∧ (W.rq (sp j).p (no j)).send = false ∧ (W.rq (sp j).p (no j)).no = no j ∧ (W.rq (sp j).p (no j)).data = (sp i).d ∧ (W.rq (sp j).p (no j)).st = ⟨(sp i).p, (sp i).tag, ((sp i).d.length : Nat), 0⟩ := by
 obtain ⟨e1, e2, e3, _⟩ := P.attr hj
 have hr := P.hi.rqr j (by rw [P.hk]; exact hj) (e3.trans hs)
 rw [e1, e2] at hr
 rw [hr]
 cases hm : Γ.mt (sp j).p j with
 | none => exact .inl ⟨rfl, rfl, rfl, e2⟩
 | some i =>
  obtain ⟨hik, his, hito, _⟩ := P.gotm hm
  obtain ⟨f1, f2, f3, f4, f5, f6, _⟩ := P.attr hik
  have hfin : Γ.tk i = .fin := by
    rcases P.hf.rest Q (by rw [P.hk]; exact hik) (f3.trans his) with ⟨_, h⟩ | ⟨h, _⟩
    · rw [f6, hito] at h
      exact (free_iff.1 h j hm).elim
    · exact h
  refine .inr ⟨i, rfl, rfl, ?_, rfl, e2, ?_, ?_⟩
  · show doneG (Γ.mv i) (Γ.tk i) = true
    rw [hfin]; unfold doneG; simp
  · show (if doneG (Γ.mv i) (Γ.tk i) = true then (Γ.mv i).d else []) = _
    rw [hfin, if_pos (by unfold doneG; simp), f4]
  · show (⟨((Γ.mv i).p : Int), (Γ.mv i).tag, (((Γ.mv i).d.length : Nat) : Int), 0⟩ : St) = _
    rw [f1, f5, f4]
end
end Go.Mt

namespace Go.Mt
open Go.Arm
section
variable {C : Ct} {sp : Nat → Mv} {no : Nat → Nat} {k : Nat} {Γ : Gs} {W : Wd}
theorem Pl.once (P : Pl C sp no k Γ W) {p i j1 j2 : Nat} (h1 : Γ.mt p j1 = some i) (h2 : Γ.mt p j2 = some i) : j1 = j2 := greedy_inj _ _ (P.hf.arrn p) h1 h2
theorem Pl.stable (P : Pl C sp no k Γ W) (Q : Gq Γ) {i j : Nat} (hi : i < k) (hs : (sp i).send = true) (hj : j < k) (hr : (sp j).send = false) (hp : (sp j).p = (sp i).to) (hfree : ∀ x, Γ.mt (sp i).to x ≠ some i) (hopen : Γ.mt (sp i).to j = none) :
  ¬ (((sp j).peer = -1 ∨ (sp j).peer = ((sp i).p : Int)) ∧ ((sp j).tag = -1 ∨ (sp j).tag = (sp i).tag)) := by
 obtain ⟨e1, e2, e3, e4, e5, e6, e7⟩ := P.attr hi
 have ha := (P.hf.arrived Q (sp i).p (sp i).to).2 i (by rw [P.hk]; exact hi) (e3.trans hs) e6
 have hpost : j ∈ Γ.post (sp i).to := by
  rw [P.post]
  exact List.mem_filter.2 ⟨List.mem_range.2 hj, by rw [hr, hp]; simp⟩
 have h := greedy_stable _ _ ha hfree hpost hopen
 obtain ⟨ea, _, g1⟩ := P.mv i hi
 obtain ⟨eb, _, g2⟩ := P.mv j hj
 unfold fitG at h
 rw [g1, g2] at h
 dsimp only at h
 rintro ⟨h1, h2⟩
 have b1 : ((sp j).peer == -1 || (sp j).peer == ((sp i).p : Int)) = true := by
  rcases h1 with h | h <;> simp [h]
 have b2 : ((sp j).tag == -1 || (sp j).tag == (sp i).tag) = true := by
  rcases h2 with h | h <;> simp [h]
 rw [b1, b2] at h
 cases h
end
end Go.Mt
namespace Go.Mt
open Go.Arm
structure Cg (C : Ct) : Prop where
 n : C.n < 9
 r0 : 0 ≤ C.room
 r1 : C.room < 100
 c0 : 0 ≤ C.c0
 c1 : C.c0 ≤ 64
def Pn (C : Ct) (sp : Nat → Mv) (no : Nat → Nat) (k : Nat) (W : Wd) : Prop := ∃ Γ, Pl C sp no k Γ W
section
variable {C : Ct} {sp : Nat → Mv} {no : Nat → Nat} {k : Nat} {Γ : Gs} {W W' : Wd}
theorem Pl.ck (P : Pl C sp no k Γ W) (G : Cg C) (hk : k ≤ 24) : Ck C Γ := by
 have e := P.hk
 have := G.r1
 have := G.c1
 have hb : (1000000000 : Nat) = big := rfl
 exact ⟨⟨G.r0, by omega, by omega, by omega⟩, by omega⟩
theorem Pn.n (P : Pn C sp no k W) : W.n = C.n := by obtain ⟨Γ, P⟩ := P; exact P.hi.n
theorem Pn.len (P : Pn C sp no k W) {p : Nat} (hp : p < C.n) : (W.pr p).reqs.length ≤ k ∧ (W.pr p).next ≤ k + 1 := by
 obtain ⟨Γ, P⟩ := P
 obtain ⟨_, h1, h2⟩ := P.hi.lt p hp
 rw [P.hk] at h1 h2
 exact ⟨h1, h2⟩
theorem Pn.send (P : Pn C sp no k W) (G : Cg C) (hk : k < 24) {p q : Nat} {tag : Int} {sync : Bool} {d : By} (hs : (sp k).send = true) (hsp : sp k = { sp k with p := p, peer := (q : Int), tag := tag, d := d, sync := sync, ea := false }) (hp : p < C.n) (hq : q < C.n) (hd : (d.length : Int) ≤ C.room) :
  ∃ W2 W3, W.add p (sr0 q tag sync) = some W2 ∧ W2.start p (W.pr p).next d = some W3 ∧ (W3.rq p (W.pr p).next).no = (W.pr p).next ∧ Pn C sp (ups no k (W.pr p).next) (k + 1) W3 := by
 obtain ⟨Γ, P⟩ := P
 have K := P.ck G (Nat.le_of_lt hk)
 obtain ⟨m, W2, W3, h1, h2, h3, h4, h5, h6, h7, h8, h9, h10, h11, I, F⟩ := P.hi.send P.hf K hp hq hd (tag := tag) (sync := sync) (by rw [P.hk]; exact (by have := G.c1; have hb : (1000000000 : Nat) = big := rfl; omega))
 refine ⟨W2, W3, h9, h10, h11, Γ.sends m, ?_⟩
 rw [← h7]
 refine P.send I F hs ?_ (fun h => by rw [hsp]; exact h8 h)
 obtain ⟨mp, mpeer, ms, mt, md, mno, msy, mea⟩ := m
 dsimp only at h1 h2 h3 h4 h5 h6 h7
 rw [hsp]
 subst h1 h2 h3 h4 h5 h6
 dsimp only
 rw [hs]
theorem Pn.recv (P : Pn C sp no k W) (G : Cg C) (hk : k < 24) {p : Nat} {peer tag : Int} (hs : (sp k).send = false) (hsp : sp k = { sp k with p := p, peer := peer, tag := tag, d := [], sync := false, ea := false }) (hp : p < C.n) (hpe : peer ≠ -2) :
  ∃ W2 W3, W.add p (rr0 peer tag C.room) = some W2 ∧ W2.start p (W.pr p).next [] = some W3 ∧ (W3.rq p (W.pr p).next).no = (W.pr p).next ∧ Pn C sp (ups no k (W.pr p).next) (k + 1) W3 := by
 obtain ⟨Γ, P⟩ := P
 have K := P.ck G (Nat.le_of_lt hk)
 obtain ⟨m, o, W2, W3, h1, h2, h3, h4, ⟨h5, h6, h8⟩, h7, h9, h10, h11, I, F⟩ := P.hi.recv P.hf K hp hpe (tag := tag)
 refine ⟨W2, W3, h9, h10, h11, Γ.recvs m o, ?_⟩
 rw [← h7]
 refine P.recv I F hs (by rw [h1, hsp]) ?_ (fun h => by rw [h8] at h; cases h)
 obtain ⟨mp, mpeer, ms, mt, md, mno, msy, mea⟩ := m
 dsimp only at h1 h2 h3 h4 h5 h6 h7 h8
 rw [hsp]
 subst h1 h2 h3 h4 h5 h6 h8
 dsimp only
 rw [hs]
theorem Pn.deliver (P : Pn C sp no k W) (G : Cg C) (hk : k ≤ 24) {a b : Nat} (ha : a < C.n) (hb : b < C.n) : W.way a b = [] ∨ ∃ x l, W.way a b = x :: l ∧ (W.pr b).inb.length < big ∧ Pn C sp no k ((W.setWay a b l).setPr b { W.pr b with inb := (W.pr b).inb ++ [((a : Int), x)] }) := by
 obtain ⟨Γ, P⟩ := P
 rcases P.hi.deliver P.hf (P.ck G hk) ha hb with h | ⟨x, l, Γ', h1, h2, h3, h4, h5⟩
 · exact .inl h
 · exact .inr ⟨x, l, h1, h2, Γ', P.ew h5 h3 h4⟩
theorem Pn.call (P : Pn C sp no k W) (G : Cg C) (hk : k ≤ 24) {p : Nat} (hp : p < C.n) : ∃ W', W.call p = some W' ∧ Pn C sp no k W' := by
 obtain ⟨Γ, P⟩ := P
 obtain ⟨Γ', W', h1, h2, h3, h4, _⟩ := P.hi.call P.hf (P.ck G hk).cs hp
 exact ⟨W', h1, Γ', P.ew h4.ew h2 h3⟩
theorem Pn.settle (P : Pn C sp no k W) (G : Cg C) (hk : k ≤ 24) : ∃ j Γ' W', j < 2000 ∧ Wd.Settles j W W' ∧ Pl C sp no k Γ' W' ∧ Gq Γ' := by
 obtain ⟨Γ, P⟩ := P
 obtain ⟨j, Γ', W', h1, h2, h3, h4, h5, h6⟩ := P.hi.settles P.hf (P.ck G hk)
 exact ⟨j, Γ', W', h1, h2, P.ew h5 h3 h4, h6⟩
theorem Pn.born {n : Nat} {e c room : Int} (hc : 0 ≤ c) : Pn ⟨n, e, room, c⟩ sp no 0 (Go.Arm.Wd.new n e c) := by
 obtain ⟨h1, h2⟩ := In.born (n := n) (e := e) (c := c) (room := room) (q := rq0) hc (W := Go.Arm.Wd.new n e c) rfl
 exact ⟨gs0, h1, h2, rfl, fun i hi => absurd hi (Nat.not_lt_zero _), fun p => rfl⟩
theorem Ts.mono {un un' : Nat → Prop} (T : Ts C sp no k W un W') (h : ∀ i, i < k → un' i → un i) : Ts C sp no k W un' W' :=
 ⟨T.n, T.inb, T.rcvs, T.msgs, fun i hi hu => T.rq i hi (h i hi hu), T.nd⟩
theorem Ts.call {un : Nat → Prop} (T : Ts C sp no k W un W') {p : Nat} (hp : p < C.n) : W'.call p = some W' := call_rest (T.inb p hp)
end
end Go.Mt

namespace Go.Arm
noncomputable section
open Go Go.X Go.Mt
structure Mo where
 p : Nat
 q : Nat
 snd : Bool
 tag : Int
 size : Nat
 sync : Bool
structure Mo.ok (m : Mo) : Prop where
 p : m.p < 256
 q : m.q < 256
 t0 : -128 ≤ m.tag
 t1 : m.tag < 128
 s : m.size < 256
def mo6 (m : Mo) : List Value := [.int .u8 (m.p : Int), .int .u8 (m.q : Int), .bool m.snd, .int .i8 m.tag, .int .u8 (m.size : Int), .bool m.sync]
theorem mo6_len (m : Mo) : (mo6 m).length = 6 := rfl
def tgO (m : Mo) : Int := m.tag % 4
theorem tgO_r (m : Mo) : 0 ≤ tgO m ∧ tgO m < 4 := by unfold tgO; omega
def mo0 : Mo := ⟨0, 0, false, 0, 0, false⟩
def spW (n : Nat) (l : List Mo) (i : Nat) : Mv :=
 let m := l.getD i mo0
 if m.snd then ⟨m.p % n, ((m.q % n : Nat) : Int), true, tgO m, [UInt8.ofNat i], 0, m.sync, false⟩ else ⟨m.p % n, -1, false, tgO m, [], 0, false, false⟩
section
variable {n i : Nat} {l : List Mo} {m : Mo}
theorem getD_at (h : l[i]? = some m) : l.getD i mo0 = m := by rw [List.getD_eq_getElem?_getD, h]; rfl
theorem spW_s (h : l[i]? = some m) (hs : m.snd = true) : spW n l i = ⟨m.p % n, ((m.q % n : Nat) : Int), true, tgO m, [UInt8.ofNat i], 0, m.sync, false⟩ := by unfold spW; rw [getD_at h]; exact if_pos hs
theorem spW_r (h : l[i]? = some m) (hs : m.snd = false) : spW n l i = ⟨m.p % n, -1, false, tgO m, [], 0, false, false⟩ := by unfold spW; rw [getD_at h]; exact if_neg (by rw [hs]; decide)
theorem spW_send (h : l[i]? = some m) : (spW n l i).send = m.snd := by
 cases hs : m.snd with
 | true => rw [spW_s h hs]
 | false => rw [spW_r h hs]
theorem spW_p (h : l[i]? = some m) : (spW n l i).p = m.p % n := by
 cases hs : m.snd with
 | true => rw [spW_s h hs]
 | false => rw [spW_r h hs]
theorem spW_tag (h : l[i]? = some m) : (spW n l i).tag = tgO m := by
 cases hs : m.snd with
 | true => rw [spW_s h hs]
 | false => rw [spW_r h hs]
end
inductive Tx
 | no
 | cl (l : List Value)
 | gr (k n : Nat) (cs : List Value)
 | mi (m : List (Int × Value))
 | m3 (m : List ((Int × Int × Int) × Value))
def AtX (h : AH) (v : Value) : Tx → Prop
 | .no => True
 | .cl l => ∃ b, v = .slice (some ⟨b, 0, none⟩) l.length l.length ∧ Cl h b l
 | .gr k n cs => Gr h k v n cs
 | .mi m => ∃ b, v = .map (some b) ∧ Mp h b nv Eq m
 | .m3 m => ∃ b, v = .map (some b) ∧ Mp h b k3 Eq m
section
variable {h h' : AH} {S : Nat → Prop} {v : Value}
theorem AtX.sm {x : Tx} (A : AtX h v x) (s : Sm S h h') (hb : ∀ b, vbx v = some b → ¬ S b) : AtX h' v x := by
 cases x with
 | no => trivial
 | cl l => obtain ⟨b, rfl, c⟩ := A; exact ⟨b, rfl, c.sm s (hb b rfl)⟩
 | gr k n cs => exact Gr.smx A s hb
 | mi m => obtain ⟨b, rfl, c⟩ := A; exact ⟨b, rfl, c.sm s (hb b rfl) (fun _ _ e => e)⟩
 | m3 m => obtain ⟨b, rfl, c⟩ := A; exact ⟨b, rfl, c.sm s (hb b rfl) (fun _ _ e => e)⟩
theorem AtX.lt {x : Tx} (A : AtX h v x) (hx : x ≠ .no) {b : Nat} (hb : vbx v = some b) : b < h.next := by
 cases x with
 | no => exact (hx rfl).elim
 | cl l => obtain ⟨b', rfl, c⟩ := A; cases hb; exact c.lt
 | gr k n cs => exact Sd.ltx (Gr.sd A) hb
 | mi m => obtain ⟨b', rfl, c⟩ := A; cases hb; exact c.1
 | m3 m => obtain ⟨b', rfl, c⟩ := A; cases hb; exact c.1
def q4 {α : Type} (z a b c d : α) : Nat → α
 | 0 => a
 | 1 => b
 | 2 => c
 | 3 => d
 | _ => z
theorem q4_0 {α : Type} (z a b c d x : α) : ups (q4 z a b c d) 0 x = q4 z x b c d := by
 funext i; match i with | 0 => rfl | 1 => rfl | 2 => rfl | 3 => rfl | _ + 4 => rfl
theorem q4_1 {α : Type} (z a b c d x : α) : ups (q4 z a b c d) 1 x = q4 z a x c d := by
 funext i; match i with | 0 => rfl | 1 => rfl | 2 => rfl | 3 => rfl | _ + 4 => rfl
theorem q4_2 {α : Type} (z a b c d x : α) : ups (q4 z a b c d) 2 x = q4 z a b x d := by
 funext i; match i with | 0 => rfl | 1 => rfl | 2 => rfl | 3 => rfl | _ + 4 => rfl
theorem q4_3 {α : Type} (z a b c d x : α) : ups (q4 z a b c d) 3 x = q4 z a b c x := by
 funext i; match i with | 0 => rfl | 1 => rfl | 2 => rfl | 3 => rfl | _ + 4 => rfl
end
def rg {α : Type} (f : Nat → α) (n : Nat) : List α := (List.range n).map f
theorem rg_len {α : Type} (f : Nat → α) (n : Nat) : (rg f n).length = n := by unfold rg; rw [List.length_map, List.length_range]
theorem rg_at {α : Type} {f : Nat → α} {n i : Nat} (h : i < n) : (rg f n)[i]? = some (f i) := by unfold rg; rw [List.getElem?_map, List.getElem?_range h]; rfl
theorem rg_set {α : Type} {f : Nat → α} {n i : Nat} {x : α} : (rg f n).set i x = rg (ups f i x) n := by
 unfold rg
 refine List.ext_getElem? fun j => ?_
 rw [List.getElem?_set, List.getElem?_map, List.getElem?_map, List.length_map, List.length_range]
 by_cases e : i = j
 · subst e
   rw [if_pos rfl]
   by_cases h : i < n
   · rw [if_pos h, List.getElem?_range h]; show _ = some (ups f i x i); rw [ups_at]
   · rw [if_neg h, List.getElem?_eq_none (by rw [List.length_range]; omega)]; rfl
 · rw [if_neg e]
   by_cases h : j < n
   · rw [List.getElem?_range h]; show _ = some (ups f i x j); rw [ups_ne _ _ (fun e2 => e e2.symm)]; rfl
   · rw [List.getElem?_eq_none (by rw [List.length_range]; omega)]; rfl
theorem rg_const {x : Value} (n : Nat) : zrep n [x] = rg (fun _ => x) n := by
 induction n with
 | zero => rfl
 | succ n ih =>
  unfold rg at ih ⊢
  rw [List.range_succ_eq_map, List.map_cons, List.map_map]
  show x :: zrep n [x] = _
  rw [ih]; rfl
end
end Go.Arm
namespace Go.Proofs.Ytmehemeoaplepaa
open Go Go.ChangeShapes Go.WideShapes Go.ChangeAt Go.RowKit
theorem six {l : List Value} (h : l.length = 6) : ∃ a b c d e f, l = [a, b, c, d, e, f] := by
 match l, h with
 | [a, b, c, d, e, f], _ => exact ⟨a, b, c, d, e, f, rfl⟩
theorem wfi8 {n : Int} (h3 : (Lit.int .i8 n).wf = true) : -128 ≤ n ∧ n < 128 := by
 simp [Lit.wf] at h3
 have e1 : IntKind.i8.min = -128 := by decide
 have e2 : IntKind.i8.max = 127 := by decide
 rw [e1, e2] at h3
 omega
theorem und30 : Try.prog.underlying 30 = some (.int .i8) := by kernel_rfl
theorem openMo {H : Type} {enc : TypeId × Value → H} {w : World} {base : Nat} {spare : Nat → Bool} {held : Bool} (fuel : Nat) (cs : List Value) (x : DataW H × List MemPlace) (h : DataW.trod enc Try.prog w base spare held fuel 32 cs = some x) : ∃ a : Arm.Mo, a.ok ∧ cs = Arm.mo6 a := by
 obtain ⟨xs, n, _, _, hl, hxs, hf⟩ := DataW.trod_struct Try.underlying32 h
 have hcell : Try.prog.cellsOf 32 = 6 := by kernel_rfl
 have hc5 : Try.prog.cellsOf 5 = 1 := by kernel_rfl
 have hc4 : Try.prog.cellsOf 4 = 1 := by kernel_rfl
 have hc30 : Try.prog.cellsOf 30 = 1 := by kernel_rfl
 rw [hcell] at hl
 obtain ⟨c0, c1, c2, c3, c4, c5, rfl⟩ := six hl
 have hx : ∀ i, i < 6 → ∃ y, xs[i]? = some y := fun i hi => ⟨_, List.getElem?_eq_getElem (by rw [hxs]; exact hi)⟩
 obtain ⟨y0, e0⟩ := hx 0 (by decide)
 obtain ⟨y1, e1⟩ := hx 1 (by decide)
 obtain ⟨y2, e2⟩ := hx 2 (by decide)
 obtain ⟨y3, e3⟩ := hx 3 (by decide)
 obtain ⟨y4, e4⟩ := hx 4 (by decide)
 obtain ⟨y5, e5⟩ := hx 5 (by decide)
 have f0 : DataW.trod enc Try.prog w base spare held n 5 (([c0, c1, c2, c3, c4, c5].drop 0).take (Try.prog.cellsOf 5)) = some y0 := (hf 0 _ rfl).trans e0
 have f1 : DataW.trod enc Try.prog w base spare held n 5 (([c0, c1, c2, c3, c4, c5].drop 1).take (Try.prog.cellsOf 5)) = some y1 := (hf 1 _ rfl).trans e1
 have f2 : DataW.trod enc Try.prog w base spare held n 4 (([c0, c1, c2, c3, c4, c5].drop 2).take (Try.prog.cellsOf 4)) = some y2 := (hf 2 _ rfl).trans e2
 have f3 : DataW.trod enc Try.prog w base spare held n 30 (([c0, c1, c2, c3, c4, c5].drop 3).take (Try.prog.cellsOf 30)) = some y3 := (hf 3 _ rfl).trans e3
 have f4 : DataW.trod enc Try.prog w base spare held n 5 (([c0, c1, c2, c3, c4, c5].drop 4).take (Try.prog.cellsOf 5)) = some y4 := (hf 4 _ rfl).trans e4
 have f5 : DataW.trod enc Try.prog w base spare held n 4 (([c0, c1, c2, c3, c4, c5].drop 5).take (Try.prog.cellsOf 4)) = some y5 := (hf 5 _ rfl).trans e5
 rw [hc5] at f0 f1 f4
 rw [hc4] at f2 f5
 rw [hc30] at f3
 obtain ⟨n0, h0, _, w0⟩ := DataW.trod_int Try.underlying5 f0
 obtain ⟨n1, h1, _, w1⟩ := DataW.trod_int Try.underlying5 f1
 obtain ⟨n2, h2, _⟩ := DataW.trod_bool Try.underlying4 f2
 obtain ⟨n3, h3, _, w3⟩ := DataW.trod_int und30 f3
 obtain ⟨n4, h4, _, w4⟩ := DataW.trod_int Try.underlying5 f4
 obtain ⟨n5, h5, _⟩ := DataW.trod_bool Try.underlying4 f5
 simp at h0 h1 h2 h3 h4 h5
 subst h0 h1 h2 h3 h4 h5
 have g0 := wf8 w0
 have g1 := wf8 w1
 have g3 := wfi8 w3
 have g4 := wf8 w4
 refine ⟨⟨n0.toNat, n1.toNat, n2, n3, n4.toNat, n5⟩, ⟨?_, ?_, ?_, ?_, ?_⟩, ?_⟩
 · show n0.toNat < 256; omega
 · show n1.toNat < 256; omega
 · exact g3.1
 · exact g3.2
 · show n4.toNat < 256; omega
 · unfold Arm.mo6
   dsimp only
   rw [Int.toNat_of_nonneg g0.1, Int.toNat_of_nonneg g1.1, Int.toNat_of_nonneg g4.1]
theorem moves_of {W : World} {H : Type} {enc : TypeId × Value → H} {held : Bool} {b0 : Option Addr} {len0 cap0 : Nat} {d : DataW H} {ps : List MemPlace}
  (h : DataW.Trod enc Try.prog W 0 (fun _ => true) held 22 (.slice b0 len0 cap0) d ps) (hz : W.noneFrozen ps) : ∃ l : List Arm.Mo, (∀ x, x ∈ l → x.ok) ∧ Go.X.HeldK 6 W (.slice b0 len0 cap0) l.length (l.flatMap Arm.mo6) :=
 Go.X.heldK_of (k := 6) (f := Arm.mo6) (ok := Arm.Mo.ok) (by decide) (fun a => rfl) (fun a x hx φ => by
  unfold Arm.mo6 at hx
  simp only [List.mem_cons, List.not_mem_nil, or_false] at hx
  rcases hx with rfl | rfl | rfl | rfl | rfl | rfl <;> first | exact .int _ _ | exact .bool _) Try.underlying22 (by kernel_rfl) openMo h hz
end Go.Proofs.Ytmehemeoaplepaa



namespace Go.Proofs.Ytmehemeoaplepaa
noncomputable section
open Go Go.X Go.Arm Go.Mt
structure Wl (h0 : AH) (W : Wd) (G : Gh) (va : Value) (la : List Value) (vc : Value) (lc : List Value) (h : AH) : Prop where
 R : Rep W G h
 O : Old h0 G h
 ga : Gr h 1 va la.length la
 gc : Gr h 1 vc lc.length lc
 ma : ∀ b, vb va = some b → h0.next ≤ b ∧ ¬ G.mut b ∧ ¬ G.ro b
 mc : ∀ b, vb vc = some b → h0.next ≤ b ∧ ¬ G.mut b ∧ ¬ G.ro b
 dj : ∀ b, vb va = some b → vb vc = some b → False
section
variable {h0 h h' : AH} {W W' : Wd} {G G' : Gh} {va vc v : Value} {la lc : List Value} {x : Value}
theorem Old.ext (O : Old h0 G h) (t : Sm Nix h h') : Old h0 G h' := ⟨O.sm.ext t, O.mu⟩
end
theorem el_by {h : AH} {v : Value} {d : By} {i : Nat} (H : Sd h 1 v d.length (d.map bv)) (hi : i < d.length) : ∃ b o, aIndex Try.prog 23 v (nv (i : Int)) = some (.pointer (some ⟨b, o, none⟩)) ∧ aLoad Try.prog 5 ⟨b, o, none⟩ h = some (.int .u8 (d[i].toNat : Int)) := by
 obtain ⟨b, o, _, h1, h2⟩ := H.at (P := Try.prog) (T := 23) (el := 5) kr kr hi .i64
 refine ⟨b, o, h1, ld_cell kr ?_⟩
 have := h2 0 (by decide)
 rw [Nat.add_zero, Nat.mul_one, Nat.add_zero, List.getElem?_map, List.getElem?_eq_getElem hi] at this
 exact this
end
end Go.Proofs.Ytmehemeoaplepaa

namespace Go.Proofs.Ytmehemeoaplepaa
noncomputable section
open Go Go.X Go.Arm Go.Mt
structure Wx (h0 : AH) (W : Wd) (G : Gh) (V : Nat → Value) (T : Nat → Tx) (h : AH) : Prop where
 R : Rep W G h
 O : Old h0 G h
 at_ : ∀ k, AtX h (V k) (T k)
 own : ∀ k b, T k ≠ .no → vbx (V k) = some b → h0.next ≤ b ∧ ¬ G.mut b ∧ ¬ G.ro b
 dj : ∀ k k' b, T k ≠ .no → T k' ≠ .no → vbx (V k) = some b → vbx (V k') = some b → k = k'
section
variable {h0 h h' : AH} {W W' : Wd} {G G' : Gh} {V : Nat → Value} {T : Nat → Tx} {v : Value} {x : Tx} {k : Nat}
theorem Wx.lt (H : Wx h0 W G V T h) {b : Nat} (hx : T k ≠ .no) (hb : vbx (V k) = some b) : b < h.next := (H.at_ k).lt hx hb
theorem Wx.nil (R : Rep W G h) (O : Old h0 G h) : Wx h0 W G V (fun _ => .no) h := ⟨R, O, fun _ => trivial, fun _ _ hx => (hx rfl).elim, fun _ _ _ hx => (hx rfl).elim⟩
theorem Wx.ext (H : Wx h0 W G V T h) (t : Sm Nix h h') : Wx h0 W G V T h' := ⟨H.R.ext t, H.O.ext t, fun k => (H.at_ k).sm t (fun _ _ x => x), H.own, H.dj⟩
theorem Wx.go (H : Wx h0 W G V T h) (Y : Gx G h G' h') (R' : Rep W' G' h') : Wx h0 W' G' V T h' :=
 ⟨R', H.O.go Y, fun k => by
  by_cases e : T k = .no
  · rw [e]; trivial
  · exact (H.at_ k).sm Y.sm fun b hb => (H.own k b e hb).2.1,
  fun k b hx hb => ⟨(H.own k b hx hb).1, fun e => (Y.mu b e).elim (H.own k b hx hb).2.1 fun e2 => by have := H.lt hx hb; omega, fun e => (Y.ron b e).elim (H.own k b hx hb).2.2 fun e2 => by have := H.lt hx hb; omega⟩, H.dj⟩
theorem Wx.upd (H : Wx h0 W G V T h) (k : Nat) {v : Value} {x : Tx} (A : AtX h' v x) (t : Sm (fun b => T k ≠ .no ∧ vbx (V k) = some b) h h') (f : ∀ b, vbx v = some b → (T k ≠ .no ∧ vbx (V k) = some b) ∨ h.next ≤ b) : Wx h0 W G (ups V k v) (ups T k x) h' := by
 have hne : ∀ j, j ≠ k → AtX h' (V j) (T j) := fun j hj => by
   by_cases e : T j = .no
   · rw [e]; trivial
   · exact (H.at_ j).sm t fun b hb hs => hj (H.dj j k b e hs.1 hb hs.2)
 refine ⟨H.R.sm t fun b hb => (H.own k b hb.1 hb.2).2, ⟨H.O.sm.then (t.mono fun b hb => (H.own k b hb.1 hb.2).1), H.O.mu⟩, fun j => ?_, fun j b hx hb => ?_, fun j j' b hx hx' hb hb' => ?_⟩
 · by_cases e : j = k
   · subst e; rw [ups_at, ups_at]; exact A
   · rw [ups_ne _ _ e, ups_ne _ _ e]; exact hne j e
 · by_cases e : j = k
   · subst e
     rw [ups_at] at hb
     exact (f b hb).elim (fun e => H.own j b e.1 e.2) fun e => ⟨Nat.le_trans H.O.sm.nx e, H.R.op.new e, H.R.op.newr e⟩
   · rw [ups_ne _ _ e] at hb hx; exact H.own j b hx hb
 · by_cases e : j = k
   · by_cases e' : j' = k
     · rw [e, e']
     · subst e
       rw [ups_at] at hb
       rw [ups_ne _ _ e'] at hb' hx'
       rcases f b hb with h1 | h1
       · exact H.dj j j' b h1.1 hx' h1.2 hb'
       · have := H.lt hx' hb'; omega
   · by_cases e' : j' = k
     · subst e'
       rw [ups_at] at hb'
       rw [ups_ne _ _ e] at hb hx
       rcases f b hb' with h1 | h1
       · exact H.dj j j' b hx h1.1 hb h1.2
       · have := H.lt hx hb; omega
     · rw [ups_ne _ _ e] at hb hx
       rw [ups_ne _ _ e'] at hb' hx'
       exact H.dj j j' b hx hx' hb hb'
end
abbrev W4 (h0 : AH) (W : Wd) (G : Gh) (v0 : Value) (x0 : Tx) (v1 : Value) (x1 : Tx) (v2 : Value) (x2 : Tx) (v3 : Value) (x3 : Tx) (h : AH) : Prop := Wx h0 W G (q4 (nv 0) v0 v1 v2 v3) (q4 .no x0 x1 x2 x3) h
section
variable {h0 h h' : AH} {W W' : Wd} {G G' : Gh} {v0 v1 v2 v3 v : Value} {x0 x1 x2 x3 x : Tx}
theorem W4.nil (R : Rep W G h) (O : Old h0 G h) : W4 h0 W G v0 .no v1 .no v2 .no v3 .no h := by
 have : (q4 .no .no .no .no .no : Nat → Tx) = fun _ => .no := by
  funext i; match i with | 0 => rfl | 1 => rfl | 2 => rfl | 3 => rfl | _ + 4 => rfl
 unfold W4
 rw [this]
 exact .nil R O
theorem W4.up0 (H : W4 h0 W G v0 x0 v1 x1 v2 x2 v3 x3 h) (A : AtX h' v x) (t : Sm (fun b => x0 ≠ .no ∧ vbx v0 = some b) h h') (f : ∀ b, vbx v = some b → (x0 ≠ .no ∧ vbx v0 = some b) ∨ h.next ≤ b) : W4 h0 W G v x v1 x1 v2 x2 v3 x3 h' := by
 have := Wx.upd H 0 A t f
 rw [q4_0, q4_0] at this; exact this
theorem W4.up1 (H : W4 h0 W G v0 x0 v1 x1 v2 x2 v3 x3 h) (A : AtX h' v x) (t : Sm (fun b => x1 ≠ .no ∧ vbx v1 = some b) h h') (f : ∀ b, vbx v = some b → (x1 ≠ .no ∧ vbx v1 = some b) ∨ h.next ≤ b) : W4 h0 W G v0 x0 v x v2 x2 v3 x3 h' := by
 have := Wx.upd H 1 A t f
 rw [q4_1, q4_1] at this; exact this
theorem W4.up2 (H : W4 h0 W G v0 x0 v1 x1 v2 x2 v3 x3 h) (A : AtX h' v x) (t : Sm (fun b => x2 ≠ .no ∧ vbx v2 = some b) h h') (f : ∀ b, vbx v = some b → (x2 ≠ .no ∧ vbx v2 = some b) ∨ h.next ≤ b) : W4 h0 W G v0 x0 v1 x1 v x v3 x3 h' := by
 have := Wx.upd H 2 A t f
 rw [q4_2, q4_2] at this; exact this
theorem W4.up3 (H : W4 h0 W G v0 x0 v1 x1 v2 x2 v3 x3 h) (A : AtX h' v x) (t : Sm (fun b => x3 ≠ .no ∧ vbx v3 = some b) h h') (f : ∀ b, vbx v = some b → (x3 ≠ .no ∧ vbx v3 = some b) ∨ h.next ≤ b) : W4 h0 W G v0 x0 v1 x1 v2 x2 v x h' := by
 have := Wx.upd H 3 A t f
 rw [q4_3, q4_3] at this; exact this
theorem W4.a0 (H : W4 h0 W G v0 x0 v1 x1 v2 x2 v3 x3 h) : AtX h v0 x0 := H.at_ 0
theorem W4.a1 (H : W4 h0 W G v0 x0 v1 x1 v2 x2 v3 x3 h) : AtX h v1 x1 := H.at_ 1
theorem W4.a2 (H : W4 h0 W G v0 x0 v1 x1 v2 x2 v3 x3 h) : AtX h v2 x2 := H.at_ 2
theorem W4.a3 (H : W4 h0 W G v0 x0 v1 x1 v2 x2 v3 x3 h) : AtX h v3 x3 := H.at_ 3
end
theorem AtX.row {T el : TypeId} {h : AH} {v : Value} {f : Nat → Value} {n i : Nat} (hT : Try.prog.underlying T = some (.slice el)) (hs : szOf Try.prog el = some 1) (hl : scalT Try.prog el = true) (A : AtX h v (.cl (rg f n))) (hi : i < n) : ∃ b, v = .slice (some ⟨b, 0, none⟩) n n ∧ b < h.next ∧ aIndex Try.prog T v (nv (i : Int)) = some (.pointer (some ⟨b, i, none⟩)) ∧ aLoad Try.prog el ⟨b, i, none⟩ h = some (f i) := by
 obtain ⟨b, rfl, c⟩ := A
 rw [rg_len]
 exact ⟨b, rfl, c.lt, ix_cl hT hs hi .i64, c.ld hl (rg_at hi)⟩
theorem AtX.put {el : TypeId} {h : AH} {v : Value} {f : Nat → Value} {n i : Nat} {x : Value} (hs : szOf Try.prog el = some 1) (hx : cellsL x = [x]) (hx1 : x.oneCell' = true) (A : AtX h v (.cl (rg f n))) (hi : i < n) : ∀ b, v = .slice (some ⟨b, 0, none⟩) n n → ∃ h', aStore Try.prog el ⟨b, i, none⟩ x h = some h' ∧ AtX h' v (.cl (rg (ups f i x) n)) ∧ Sm (fun c => c = b) h h' ∧ h'.next = h.next := by
 intro b hb
 obtain ⟨b', e', c⟩ := A
 have hbb : b' = b := by rw [e', rg_len] at hb; cases hb; rfl
 subst hbb
 obtain ⟨h', e1, e2, e3, e4⟩ := c.store (P := Try.prog) (T := el) (o := i) (v := x) hs hx hx1 (by rw [rg_len]; exact hi)
 refine ⟨h', e1, ⟨b', ?_, ?_⟩, e3, e4⟩
 · rw [rg_len]; exact hb
 · rw [← rg_set]; exact e2
end
end Go.Proofs.Ytmehemeoaplepaa
namespace Go.Proofs.Ytmehemeoaplepaa
noncomputable section
open Go Go.X Go.Arm Go.Mt
theorem and3 : ∀ k : Fin 256, IntKind.i64.wrap (((BitVec.ofInt 64 (IntKind.i64.wrap ((k.val : Int) - 128))) &&& BitVec.ofInt 64 3).toNat : Int) = ((k.val : Int) - 128) % 4 := by decide +kernel
theorem and_ok {x : Int} (h0 : -128 ≤ x) (h1 : x < 128) {h : AH} {xo yo : Operand} (hr : aBin Try.prog .and 3 xo yo (.int .i64 (IntKind.i64.wrap x)) (nv 3) h = some (.int .i64 (IntKind.i64.wrap (((BitVec.ofInt 64 (IntKind.i64.wrap x)) &&& BitVec.ofInt 64 3).toNat : Int)))) : aBin Try.prog .and 3 xo yo (.int .i64 (IntKind.i64.wrap x)) (nv 3) h = some (nv (x % 4)) := by
 have e := and3 ⟨(x + 128).toNat, by omega⟩
 have e2 : (((x + 128).toNat : Nat) : Int) - 128 = x := by omega
 dsimp only at e
 rw [e2] at e
 rw [hr, e]; rfl
theorem tagOf_ok {h : AH} {m : Mo} (hm : m.ok) :
  Arm.Calls Try.prog 11 [.agg ⟨mo6 m⟩] h (fun r => r.1 = nv (tgO m) ∧ Sm Nix h r.2) := by
 refine Calls_W 7 Try.f11 ?_
 have T0 : Sm Nix h h := .refl
 refine W_seq (W_region (L_nwc [.int .u8 (m.p : Int), .int .u8 (m.q : Int), .bool m.snd, .int .i8 m.tag, .int .u8 (m.size : Int), .bool m.sync] .ptr rfl rfl kr fun h326 c326 t326 n326 => ?_))
 have T326 := T0.ext t326
 have N326 := T326.nx
 refine L_g 1 kr (L_nil (W_sg 1 kr (L_ld _ rfl rfl kr (c326.ld (o := 3) kr rfl) (L_g 1 kr (L_p (nv (tgO m)) rfl (ev_bin (o := _) rfl kr kr (and_ok hm.t0 hm.t1 kr)) (L_g 1 kr (L_nil (W_ret ?_))))))))
 repeat first | with_reducible refine then_ret ?_ | with_reducible refine blk_ret ?_
 refine done_of (v := nv (tgO m)) (.inl rfl) kr ?_
 exact ⟨rfl, T326⟩
end
end Go.Proofs.Ytmehemeoaplepaa
namespace Go.Proofs.Ytmehemeoaplepaa
noncomputable section
open Go Go.X Go.Arm Go.Mt
theorem Rk_nw {P : Program} {h : AH} {n : Nat} {ops : Array Oper} {f : Fr} {i : Nat} {r : List Nat} {o : Oper} (ho : ops[i]? = some o) (hw : wantF n ops o f = false) (k : Rk P n ops f h r) : Rk P n ops f h (i :: r) :=
 Rk_no ho (fun t ht => by rw [wantF_ok, ht]; exact hw) k
theorem conv8 {h : AH} {x : Nat} (hx : x < 256) : aConv Try.prog 5 3 (.int .u8 (x : Int)) h = some (nv (x : Int)) := by
 have e : aConv Try.prog 5 3 (.int .u8 (x : Int)) h = some (.int .i64 (IntKind.i64.wrap (x : Int))) := by kernel_rfl
 have e2 : IntKind.i64.wrap (x : Int) = x := by rw [IntKind.wrap_i64]; omega
 rw [e, e2]; rfl
theorem convB {h : AH} {x : Nat} (hx : x < 256) : aConv Try.prog 3 5 (nv (x : Int)) h = some (.int .u8 (x : Int)) := by
 have e : aConv Try.prog 3 5 (nv (x : Int)) h = some (.int .u8 (IntKind.u8.wrap (x : Int))) := by kernel_rfl
 have e2 : IntKind.u8.wrap (x : Int) = x := by
  have : ∀ k : Fin 256, IntKind.u8.wrap (k.val : Int) = (k.val : Int) := by decide +kernel
  exact this ⟨x, hx⟩
 rw [e, e2]
theorem rem_lit {h : AH} {xo yo : Operand} {x E : Nat} {c : Int} (hc : 0 < c) (hE : x % c.toNat = E) (hr : aBin Try.prog .rem 3 xo yo (nv (x : Int)) (nv c) h = some (nv (Int.tmod (x : Int) c))) : aBin Try.prog .rem 3 xo yo (nv (x : Int)) (nv c) h = some (nv (E : Int)) := by
 have : Int.tmod (x : Int) c = (E : Int) := by
  rw [Int.tmod_eq_emod_of_nonneg (by omega), ← hE, Int.natCast_emod, Int.toNat_of_nonneg (by omega)]
 rw [hr, this]
theorem quo_lit {h : AH} {xo yo : Operand} {x E : Nat} {c : Int} (hx : x < 256) (hc : 0 < c) (hE : x / c.toNat = E) (hr : aBin Try.prog .quo 3 xo yo (nv (x : Int)) (nv c) h = some (.int .i64 (IntKind.i64.wrap (Int.tdiv (x : Int) c)))) : aBin Try.prog .quo 3 xo yo (nv (x : Int)) (nv c) h = some (nv (E : Int)) := by
 have e1 : Int.tdiv (x : Int) c = (E : Int) := by
  rw [Int.tdiv_eq_ediv_of_nonneg (by omega), ← hE, Int.natCast_ediv, Int.toNat_of_nonneg (by omega)]
 have e2 : E < 256 := by rw [← hE]; exact Nat.lt_of_le_of_lt (Nat.div_le_self _ _) hx
 have e3 : IntKind.i64.wrap (E : Int) = E := by rw [IntKind.wrap_i64]; omega
 rw [hr, e1, e3]; rfl
theorem rem_n {h : AH} {xo yo : Operand} {x n : Nat} (hn : 0 < n ∧ n < 5) : aBin Try.prog .rem 3 xo yo (nv (x : Int)) (nv (n : Int)) h = some (nv ((x % n : Nat) : Int)) := by
 have : n = 1 ∨ n = 2 ∨ n = 3 ∨ n = 4 := by omega
 rcases this with rfl | rfl | rfl | rfl
 · exact rem_lit (c := 1) (by decide) rfl kr
 · exact rem_lit (c := 2) (by decide) rfl kr
 · exact rem_lit (c := 3) (by decide) rfl kr
 · exact rem_lit (c := 4) (by decide) rfl kr
theorem add_ii {a b : Int} {n : Nat} (h1 : a + b = n) (h2 : n < 1000) : Value.int .i64 (IntKind.i64.wrap (a + b)) = nv (n : Int) := by
 have : IntKind.i64.wrap (a + b) = (n : Int) := by rw [IntKind.wrap_i64]; omega
 rw [this]; rfl
theorem el_mo {h : AH} {v : Value} {l : List Mo} {i : Nat} {m : Mo} (H : Sd h 6 v l.length (l.flatMap mo6)) (hi : l[i]? = some m) : ∃ b o, aIndex Try.prog 22 v (nv (i : Int)) = some (.pointer (some ⟨b, o, none⟩)) ∧ aLoad Try.prog 32 ⟨b, o, none⟩ h = some (.agg ⟨mo6 m⟩) ∧ b < h.next ∧ vb v = some b := by
 have hi' : i < l.length := (List.getElem?_eq_some_iff.1 hi).1
 obtain ⟨b, o, hv, h1, h2⟩ := H.at (P := Try.prog) (T := 22) (el := 32) kr kr hi' .i64
 refine ⟨b, o, h1, ld_l kr fun j hj => ?_, H.lt hv, hv⟩
 rw [h2 j hj]
 exact flat_at mo6 mo6_len hi hj
end
end Go.Proofs.Ytmehemeoaplepaa

namespace Go.Proofs.Ytmehemeoaplepaa
noncomputable section
open Go Go.X Go.Arm Go.Mt
section
variable {h0 h h' : AH} {W W' : Wd} {G G' : Gh} {V : Nat → Value} {T : Nat → Tx} {b : Nat}
structure Ap (h0 : AH) (G : Gh) (V : Nat → Value) (T : Nat → Tx) (b : Nat) : Prop where
 lo : h0.next ≤ b
 mu : ¬ G.mut b
 ro : ¬ G.ro b
 th : ∀ k, T k ≠ .no → vbx (V k) ≠ some b
theorem Ap.new (H : Wx h0 W G V T h) : Ap h0 G V T h.next := ⟨H.O.sm.nx, H.R.op.new (Nat.le_refl _), H.R.op.newr (Nat.le_refl _), fun _k hx hb => Nat.lt_irrefl _ (H.lt hx hb)⟩
theorem Ap.go (A : Ap h0 G V T b) (Y : Gx G h G' h') (hb : b < h.next) : Ap h0 G' V T b := ⟨A.lo, fun e => (Y.mu b e).elim A.mu fun e2 => by omega, fun e => (Y.ron b e).elim A.ro fun e2 => by omega, A.th⟩
end
theorem Cl.sd3 {h : AH} {b n k : Nat} {cs : List Value} (hc : Cl h b cs) (hn : cs.length = n * k) : Sd h k (.slice (some ⟨b, 0, none⟩) n n) n cs := by
 refine ⟨hn, ?_⟩
 obtain ⟨h1, c, op, h2, h3⟩ := hc
 by_cases h0 : n = 0
 · exact .inl ⟨h0, some ⟨b, 0, none⟩, n, by rw [h0], (fun e => by cases e), (fun q hq => by cases hq; exact h1)⟩
 · exact .inr ⟨b, 0, n, c, cs.length, op, false, by omega, h0, rfl, h1, h2, by omega, fun j hj => by rw [Nat.zero_add]; exact h3 j hj⟩
theorem rem_d {h : AH} {xo yo : Operand} {x d : Nat} (hd : 0 < d) : aBin Try.prog .rem 3 xo yo (nv (x : Int)) (nv (d : Int)) h = some (nv ((x % d : Nat) : Int)) := by
 obtain ⟨k, rfl⟩ : ∃ k, d = k + 1 := ⟨d - 1, by omega⟩
 have e : aBin Try.prog .rem 3 xo yo (nv (x : Int)) (nv ((k + 1 : Nat) : Int)) h = some (nv (Int.tmod (x : Int) ((k + 1 : Nat) : Int))) := by kernel_rfl
 rw [e, Int.tmod_eq_emod_of_nonneg (by omega), Int.natCast_emod]
theorem bv_n {x : Nat} (hx : x < 256) : bv (UInt8.ofNat x) = .int .u8 (x : Int) := by
 unfold bv
 rw [UInt8.toNat_ofNat', Nat.mod_eq_of_lt (by omega)]
theorem settle_n {W : Wd} {G : Gh} {h : AH} {k n : Nat} {W' : Wd} (R : Rep W G h) (hn : W.n = n) (hn5 : n < 5) (hk : k < 2000) (hs : Wd.Settles k W W') :
  Arm.Calls Try.prog 14 [ptr (G.B .wd), nv (n : Int)] h (fun r => r.1 = .bool true ∧ Nxt W' G h r.2) := by
 have := settle_ok R (by rw [hn]; omega) hk hs
 rw [hn] at this
 exact this
end
end Go.Proofs.Ytmehemeoaplepaa

namespace Go.Mt
open Go.Arm
theorem kget_ks {κ β : Type} [DecidableEq κ] (k k' : κ) (y : β) : ∀ (m : List (κ × β)), kget (kset m k y) k' = if k = k' then some y else kget m k'
 | [] => by unfold kset kget; by_cases h : k = k' <;> simp [h, kget]
 | e :: m => by
  unfold kset
  by_cases h : e.1 = k
  · rw [if_pos h]
    by_cases h2 : k = k'
    · subst h2; unfold kget; simp
    · unfold kget; rw [if_neg h2, if_neg h2, if_neg (fun e2 => h2 (h.symm.trans e2))]
  · rw [if_neg h]
    unfold kget
    by_cases h3 : e.1 = k'
    · rw [if_pos h3, if_pos h3, if_neg (fun e2 => h (h3.trans e2.symm))]
    · rw [if_neg h3, if_neg h3]; exact kget_ks k k' y m
def tb (w : Nat → Option Nat) (i x : Nat) : Bool := (List.range i).any fun j => w j == some x
theorem tb_iff {w : Nat → Option Nat} {i x : Nat} : tb w i x = true ↔ ∃ j, j < i ∧ w j = some x := by
 unfold tb
 rw [List.any_eq_true]
 constructor
 · rintro ⟨j, h1, h2⟩
   exact ⟨j, List.mem_range.1 h1, by simpa using h2⟩
 · rintro ⟨j, h1, h2⟩
   exact ⟨j, List.mem_range.2 h1, by simpa using h2⟩
theorem tb_no {w : Nat → Option Nat} {i : Nat} (h : w i = none) (x : Nat) : tb w (i + 1) x = tb w i x := by
 unfold tb
 rw [List.range_succ, List.any_append]
 simp [h]
theorem tb_some {w : Nat → Option Nat} {i x : Nat} (h : w i = some x) (y : Nat) : tb w (i + 1) y = (tb w i y || decide (x = y)) := by
 unfold tb
 rw [List.range_succ, List.any_append]
 congr 1
 by_cases e : x = y <;> simp [h, e]
section
variable {C : Ct} {sp : Nat → Mv} {no : Nat → Nat} {k : Nat} {Γ : Gs} {W W' : Wd}
end
end Go.Mt
namespace Go.Proofs.Ytmehemeoaplepaa
noncomputable section
open Go Go.X Go.Arm Go.Mt
theorem neq_st (s : St) (h : AH) (xo yo : Operand) : aBin Try.prog .neq 43 xo yo (.agg ⟨[nv s.src, nv s.tag, nv s.size, nv s.err]⟩) (.agg ⟨[nv s.src, nv s.tag, nv s.size, nv s.err]⟩) h = some (.bool false) := by
 have hu : ∃ f : Array Field, Try.prog.underlying 43 = some (.struct f) := ⟨⟨[fld 43 0, fld 43 1, fld 43 2, fld 43 3]⟩, kr⟩
 obtain ⟨fsd, hu⟩ := hu
 have e1 : aBinV Try.prog .neq 43 (.agg ⟨[nv s.src, nv s.tag, nv s.size, nv s.err]⟩) (.agg ⟨[nv s.src, nv s.tag, nv s.size, nv s.err]⟩) h = none := by
  unfold aBinV aEqV
  simp only [hu]
 unfold aBin
 simp only [e1]
 have e2 : pureRun Try.prog (eqGuard .neq 43 xo yo (.agg ⟨[nv s.src, nv s.tag, nv s.size, nv s.err]⟩) (.agg ⟨[nv s.src, nv s.tag, nv s.size, nv s.err]⟩)) = some () := by kernel_rfl
 have e3 : pureRun Try.prog (binOp .neq 43 (.agg ⟨[nv s.src, nv s.tag, nv s.size, nv s.err]⟩) (.agg ⟨[nv s.src, nv s.tag, nv s.size, nv s.err]⟩)) = some (.bool false) := by
  have : binOp .neq 43 (.agg ⟨[nv s.src, nv s.tag, nv s.size, nv s.err]⟩) (.agg ⟨[nv s.src, nv s.tag, nv s.size, nv s.err]⟩) = (Go.Op.equal 43 (.agg ⟨[nv s.src, nv s.tag, nv s.size, nv s.err]⟩) (.agg ⟨[nv s.src, nv s.tag, nv s.size, nv s.err]⟩) >>= fun b => pure (.bool (!b))) := rfl
  rw [this]
  exact pureRun_and (a := true) (eq_st s) rfl
 have e4 : pureRun Try.prog (eqGuard .neq 43 xo yo (.agg ⟨[nv s.src, nv s.tag, nv s.size, nv s.err]⟩) (.agg ⟨[nv s.src, nv s.tag, nv s.size, nv s.err]⟩) >>= fun _ => binOp .neq 43 (.agg ⟨[nv s.src, nv s.tag, nv s.size, nv s.err]⟩) (.agg ⟨[nv s.src, nv s.tag, nv s.size, nv s.err]⟩)) = some (.bool false) := pureRun_and (a := ()) e2 e3
 have e5 : pfv (.agg ⟨[nv s.src, nv s.tag, nv s.size, nv s.err]⟩) = true := by kernel_rfl
 rw [e5]
 unfold aPure
 rw [if_pos (by rfl)]
 generalize hq : pureRun Try.prog _ = q
 have : q = some (.bool false) := by rw [← hq]; exact e4
 rw [this]
 rfl
def un1 (sp : Nat → Mv) (i j : Nat) : Prop := (sp j).send = true ∨ i ≤ j
end
end Go.Proofs.Ytmehemeoaplepaa

namespace Go.Mt
open Go.Arm
def gw (Γ : Gs) (sp : Nat → Mv) (j : Nat) : Option Nat := if (sp j).send = true then none else Γ.mt (sp j).p j
section
variable {C : Ct} {sp : Nat → Mv} {no : Nat → Nat} {k : Nat} {Γ : Gs} {W W' : Wd}
theorem gw_s {j : Nat} (h : (sp j).send = true) : gw Γ sp j = none := if_pos h
theorem gw_r {j : Nat} (h : (sp j).send = false) : gw Γ sp j = Γ.mt (sp j).p j := if_neg (by rw [h]; decide)
theorem gw_some {j x : Nat} (h : gw Γ sp j = some x) : (sp j).send = false ∧ Γ.mt (sp j).p j = some x := by
 cases hs : (sp j).send with
 | true => rw [gw_s hs] at h; cases h
 | false => exact ⟨rfl, (gw_r hs).symm.trans h⟩
theorem Pl.first (P : Pl C sp no k Γ W) {i x : Nat} (h : gw Γ sp i = some x) : tb (gw Γ sp) i x = false := by
 cases ht : tb (gw Γ sp) i x with
 | false => rfl
 | true =>
  obtain ⟨j, hj, hw⟩ := tb_iff.1 ht
  obtain ⟨_, h1⟩ := gw_some h
  obtain ⟨_, h2⟩ := gw_some hw
  have e1 := (P.gotm h1).2.2.1
  have e2 := (P.gotm h2).2.2.1
  rw [← e1] at h1
  rw [← e2] at h2
  have := P.once h1 h2
  omega
theorem Pl.later (P : Pl C sp no k Γ W) (Q : Gq Γ) (hpe : ∀ j, j < k → (sp j).send = false → (sp j).peer = -1 ∧ 0 ≤ (sp j).tag) {i j b x : Nat} (hj : gw Γ sp j = some b) (hi : gw Γ sp i = some x) (hji : j < i) (hp : (sp b).p = (sp x).p) (hq : (sp j).p = (sp i).p) (ht : (sp b).tag = (sp x).tag) : b < x := by
 obtain ⟨_, h1⟩ := gw_some hj
 obtain ⟨_, h2⟩ := gw_some hi
 obtain ⟨_, _, _, a4, a5, _, _, a8⟩ := P.gotm h1
 obtain ⟨_, _, _, b4, b5, _, _, b8⟩ := P.gotm h2
 obtain ⟨p1, t1⟩ := hpe j a4 a5
 obtain ⟨p2, t2⟩ := hpe i b4 b5
 rw [hq] at h1
 refine P.order Q h1 h2 hji hp (p1.trans p2.symm) ?_
 rcases a8 with e | e
 · omega
 · rcases b8 with e2 | e2
   · omega
   · rw [e, e2, ht]
theorem Pl.none_left (P : Pl C sp no k Γ W) (Q : Gq Γ) (hpe : ∀ j, j < k → (sp j).send = false → (sp j).peer = -1 ∧ 0 ≤ (sp j).tag) {i j : Nat} (hi : i < k) (hs : (sp i).send = true) (hj : j < k) (hr : (sp j).send = false) (hp : (sp j).p = (sp i).to) (ht : tb (gw Γ sp) k i = false) (ho : gw Γ sp j = none) : (sp j).tag ≠ (sp i).tag := by
 intro e
 refine P.stable Q hi hs hj hr hp (fun x hx => ?_) ?_ ⟨.inl (hpe j hj hr).1, .inr e⟩
 · obtain ⟨_, _, _, a4, a5, a6, _⟩ := P.gotm hx
   rw [← a6, ← gw_r a5] at hx
   have := tb_iff.2 ⟨x, a4, hx⟩
   rw [ht] at this; cases this
 · rw [← hp, ← gw_r hr]; exact ho
end
theorem spW_r2 {n : Nat} {l : List Mo} : ∀ j, j < l.length → (spW n l j).send = false → (spW n l j).peer = -1 ∧ 0 ≤ (spW n l j).tag := fun j hj hs => by
 have hm := List.getElem?_eq_getElem hj
 rw [spW_send hm] at hs
 rw [spW_r hm hs]
 exact ⟨rfl, (tgO_r _).1⟩
end Go.Mt
namespace Go.Arm
noncomputable section
open Go Go.X
variable {P : Program}
theorem KeyK.arr {kt el : TypeId} {m : Nat} {κ : Type} [DecidableEq κ] {kv : κ → Value} (hu : P.underlying kt = some (.array m el)) (hp : ∀ k, pfv (kv k) = true) (hc : ∀ e k, aCheckKey P e kt (kv k) = true)
  (he : ∀ a c, pureRun P (Op.equal kt (kv a) (kv c)) = some (decide (a = c))) (hs : ∀ k, stays (kv k) (kv k) = true) : KeyK P kt kv := by
 refine ⟨hp, hc, fun k ks => ?_, hs⟩
 have key : ∀ (ks : List κ) (j : Nat), pureRun P (Instr.findAsking kt (kv k) (ks.map fun x => (⟨kv x, .nilIface, 0⟩ : MapEntry)) j) = some ((ks.findIdx? fun x => decide (x = k)).map fun i => (j + i, Value.nilIface)) := by
  intro ks
  induction ks with
  | nil => intro j; rfl
  | cons x ks ih =>
   intro j
   rw [findIdx_cons, List.map_cons, Instr.findAsking]
   refine pureRun_and (he k x) ?_
   by_cases e : x = k
   · subst e
     simp
     rfl
   · rw [if_neg e]
     have hd : decide (k = x) = false := decide_eq_false fun h => e h.symm
     simp only [hd]
     rw [if_neg (by simp), ih (j + 1)]
     cases (ks.findIdx? fun x => decide (x = k)) with
     | none => rfl
     | some i => simp; omega
 unfold Instr.findKey
 refine pureRun_and (a := .array m el) (by simp only [underlying]; exact pureRun_and (e := Sem.program .pure) (a := P) rfl (by simp only [hu]; rfl)) ?_
 cases ks with
 | nil => rfl
 | cons x ks =>
  have hn : Instr.findNow (.array m el) (kv k) ((x :: ks).map fun x => (⟨kv x, .nilIface, 0⟩ : MapEntry)) 0 = none := by
   rw [List.map_cons, Instr.findNow]
   simp [Instr.sameNow]
  rw [hn]
  have := key (x :: ks) 0
  simp only [Nat.zero_add] at this
  exact this
theorem Rb.el {h : AH} {v x : Value} {cs : List Value} {T el : TypeId} {i : Nat} (hT : P.underlying T = some (.slice el)) (hk : szOf P el = some 1) (H : Rb h v cs) (hx : cs[i]? = some x) :
   ∃ b o, aIndex P T v (.int .i64 (i : Int)) = some (.pointer (some ⟨b, o, none⟩)) ∧ h.cell ⟨b, o, none⟩ = some x ∧ b < h.next := by
 have hi : i < cs.length := (List.getElem?_eq_some_iff.1 hx).1
 rcases H with ⟨h0, _⟩ | ⟨b, o, c, h0, h1, rfl, h2, h3⟩
 · subst h0; exact absurd hi (Nat.not_lt_zero _)
 · refine ⟨b, o + i, ?_, by rw [h3 i hi, hx], h2⟩
   unfold aIndex
   simp only [hT, hk]
   rw [if_pos ⟨by omega, by omega, by omega⟩]
   simp
end
end Go.Arm
