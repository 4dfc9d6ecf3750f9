/- Worlds of the program and walks of its functions. -/
import Derived.Test.YtmehemeoaplepaaZp
namespace Go.Mt
open Go.Arm
section
variable {C : Ct} {Γ : Gs} {W : Wd} {p i : Nat} {l : List Nat}
def Gs.arrs (Γ : Gs) (p i : Nat) (l : List Nat) (t : Tk) (w : Nat → Nat → List Nat) : Gs := { Γ with arr := ups Γ.arr p (Γ.arr p ++ [i]), inb := ups Γ.inb p l, tk := ups Γ.tk i t, way := w }
theorem fits_g (room : Int) (mj mi : Mv) : (recvR room mj none).fits (enG mi) = ((mj.peer == -1 || mj.peer == (mi.p : Int)) && (mj.tag == -1 || mj.tag == mi.tag)) := by
 unfold Rq.fits recvR enG
 simp [bne]
structure Arr (C : Ct) (Γ : Gs) (p i : Nat) (l : List Nat) : Prop where
 k : i < Γ.k
 s : (Γ.mv i).send = true
 to : (Γ.mv i).to = p
 pn : (Γ.mv i).p < C.n
 il : i ∉ l
 iw : ∀ a b, i ∉ Γ.way a b
 ib : ∀ q, q ≠ p → i ∉ Γ.inb q
 ia : ∀ q, i ∉ Γ.arr q
theorem Wf.arrive (F : Wf C Γ) (hl : Γ.inb p = i :: l) (ht : Γ.tk i = .msg) : Arr C Γ p i l := by
 have hin : i ∈ Γ.inb p := by rw [hl]; exact List.mem_cons_self
 obtain ⟨hik, his, hcase⟩ := F.inb p i hin
 have hto : (Γ.mv i).to = p := by
   rcases hcase with ⟨_, h⟩ | ⟨h, _⟩
   · exact h
   · rw [ht] at h; cases h
 refine ⟨hik, his, hto, (F.mv i hik).1, fun h => ?_, fun a b => F.dis a b p i hin, fun q hq h => ?_, fun q h => (F.arr q i h).2.2.2.1 ht⟩
 · have := F.inbn p; rw [hl] at this; exact (List.nodup_cons.1 this).1 h
 · obtain ⟨_, _, hc⟩ := F.inb q i h
   rcases hc with ⟨_, h⟩ | ⟨h, _⟩
   · exact hq (by rw [← h, hto])
   · rw [ht] at h; cases h
section
variable {t : Tk} {w : Nat → Nat → List Nat}
theorem arrs_mt (q : Nat) (h : q ≠ p) : (Γ.arrs p i l t w).mt q = Γ.mt q := by
 show greedy _ (ups Γ.arr p (Γ.arr p ++ [i]) q) _ = _
 rw [ups_ne _ _ h]; rfl
theorem arrs_fr (q : Nat) (h : q ≠ p) : (Γ.arrs p i l t w).fr q = Γ.fr q := by
 funext x
 show free _ (ups Γ.arr p (Γ.arr p ++ [i]) q) _ x = _
 rw [ups_ne _ _ h]; rfl
theorem arrs_mtp : (Γ.arrs p i l t w).mt p = gstep (fitG Γ.mv) (Γ.post p) (Γ.mt p) i := by
 show greedy _ (ups Γ.arr p (Γ.arr p ++ [i]) p) _ = _
 rw [ups_at, greedy_snoc]; rfl
theorem arrs_frp {x : Nat} (h : x ≠ i) : (Γ.arrs p i l t w).fr p x = Γ.fr p x := by
 show free _ (ups Γ.arr p (Γ.arr p ++ [i]) p) _ x = _
 rw [ups_at]; exact free_old h
theorem Wf.arrs (F : Wf C Γ) (A : Arr C Γ p i l) (hl : Γ.inb p = i :: l) (ht : Γ.tk i = .msg) (htt : (t = .wait ∧ w = Γ.way ∧ (Γ.arrs p i l t w).fr p i = true) ∨ (t = .back ∧ w = Γ.way2 p (Γ.mv i).p i ∧ (Γ.arrs p i l t w).fr p i = false)) : Wf C (Γ.arrs p i l t w) := by
 have hnm : t ≠ .msg := by rcases htt with ⟨h, _⟩ | ⟨h, _⟩ <;> rw [h] <;> decide
 have hnb : t ≠ .body := by rcases htt with ⟨h, _⟩ | ⟨h, _⟩ <;> rw [h] <;> decide
 have hnf : t ≠ .fin := by rcases htt with ⟨h, _⟩ | ⟨h, _⟩ <;> rw [h] <;> decide
 have hinb : ∀ q x, x ∈ (Γ.arrs p i l t w).inb q → x ∈ Γ.inb q ∧ x ≠ i := fun q x hx => by
   have hx : x ∈ ups Γ.inb p l q := hx
   by_cases e : q = p
   · subst e
     rw [ups_at] at hx
     exact ⟨by rw [hl]; exact List.mem_cons_of_mem _ hx, fun e2 => A.il (e2 ▸ hx)⟩
   · rw [ups_ne _ _ e] at hx
     exact ⟨hx, fun e2 => A.ib q e (e2 ▸ hx)⟩
 have htk : ∀ x, x ≠ i → (Γ.arrs p i l t w).tk x = Γ.tk x := fun x hx => ups_ne _ _ hx
 have hti : (Γ.arrs p i l t w).tk i = t := ups_at _ _ _
 have hway : ∀ a b x, x ∈ w a b → x ∈ Γ.way a b ∨ (x = i ∧ a = p ∧ b = (Γ.mv i).p ∧ t = .back) := fun a b x hx => by
   rcases htt with ⟨_, h2, _⟩ | ⟨h1, h2, _⟩
   · rw [h2] at hx; exact .inl hx
   · rw [h2] at hx
     by_cases e : a = p ∧ b = (Γ.mv i).p
     · obtain ⟨rfl, rfl⟩ := e
       rw [way2_at] at hx
       rcases List.mem_append.1 hx with h | h
       · exact .inl h
       · exact .inr ⟨List.mem_singleton.1 h, rfl, rfl, h1⟩
     · rw [way2_ne _ e] at hx; exact .inl hx
 have hway' : ∀ a b x, x ∈ Γ.way a b → x ∈ w a b := fun a b x hx => by
   rcases htt with ⟨_, h2, _⟩ | ⟨h1, h2, _⟩
   · rw [h2]; exact hx
   · rw [h2]
     by_cases e : a = p ∧ b = (Γ.mv i).p
     · obtain ⟨rfl, rfl⟩ := e
       rw [way2_at]; exact List.mem_append_left _ hx
     · rw [way2_ne _ e]; exact hx
 have hwn : ∀ a b, (w a b).Nodup := fun a b => by
   rcases htt with ⟨_, h2, _⟩ | ⟨h1, h2, _⟩
   · rw [h2]; exact F.wayn _ _
   · rw [h2]
     by_cases e : a = p ∧ b = (Γ.mv i).p
     · obtain ⟨rfl, rfl⟩ := e
       rw [way2_at]
       refine List.nodup_append.2 ⟨F.wayn _ _, by simp, fun x h1 y h2 e => ?_⟩
       rw [List.mem_singleton.1 h2] at e
       exact A.iw _ _ (e ▸ h1)
     · rw [way2_ne _ e]; exact F.wayn _ _
 have hwm : ∀ a b, ((w a b).filter fun x => ups Γ.tk i t x == .msg) = (Γ.way a b).filter fun x => Γ.tk x == .msg := fun a b => by
   rcases htt with ⟨_, h2, _⟩ | ⟨h1, h2, _⟩
   · rw [h2]; exact filter_tk (mv := Γ.mv) (fun _ t => t == .msg) (A.iw _ _)
   · rw [h2]
     by_cases e : a = p ∧ b = (Γ.mv i).p
     · obtain ⟨rfl, rfl⟩ := e
       rw [way2_at, List.filter_append, filter_tk (mv := Γ.mv) (fun _ t => t == .msg) (A.iw _ _)]
       rw [List.filter_cons_of_neg (by rw [ups_at, h1]; decide)]
       exact List.append_nil _
     · rw [way2_ne _ e]; exact filter_tk (mv := Γ.mv) (fun _ t => t == .msg) (A.iw _ _)
 refine ⟨F.mv, F.inj, fun q x hx => ?_, fun q => ?_, F.post, F.postn, fun a b x hx => ?_, hwn, fun b x hx => ?_, fun b => ?_, fun a b c x hx h => ?_, fun x hx hs h1 => ?_, fun x hx hs h1 => ?_, fun a b => ?_, fun x hx hs9 h1 => ?_, fun q => ⟨(F.cbn q).1, fun x hx => ?_⟩⟩
 · have hx : x ∈ ups Γ.arr p (Γ.arr p ++ [i]) q := hx
   by_cases e : q = p
   · subst e
     rw [ups_at] at hx
     rcases List.mem_append.1 hx with h | h
     · have hxi : x ≠ i := fun e => A.ia q (e ▸ h)
       obtain ⟨a, b, c, d, e⟩ := F.arr q x h
       rw [htk x hxi, arrs_frp hxi]; exact ⟨a, b, c, d, e⟩
     · obtain rfl := List.mem_singleton.1 h
       rw [hti]
       refine ⟨A.k, A.s, A.to, hnm, ?_⟩
       rcases htt with ⟨h1, _, h3⟩ | ⟨h1, _, h3⟩
       · rw [h3]; exact ⟨fun _ => rfl, fun _ => h1⟩
       · rw [h3]; exact ⟨fun h => (by rw [h1] at h; cases h), fun h => (by cases h)⟩
   · rw [ups_ne _ _ e] at hx
     have hxi : x ≠ i := fun e => A.ia q (e ▸ hx)
     rw [htk x hxi, arrs_fr q e]; exact F.arr q x hx
 · show (ups Γ.arr p (Γ.arr p ++ [i]) q).Nodup
   by_cases e : q = p
   · subst e
     rw [ups_at]
     refine List.nodup_append.2 ⟨F.arrn _, by simp, fun x h1 y h2 e => ?_⟩
     rw [List.mem_singleton.1 h2] at e
     exact A.ia q (e ▸ h1)
   · rw [ups_ne _ _ e]; exact F.arrn q
 · rcases hway a b x hx with h | ⟨rfl, rfl, rfl, h2⟩
   · rw [htk x (fun e => A.iw a b (e ▸ h))]; exact F.way a b x h
   · exact ⟨A.k, A.s, .inr ⟨by rw [hti]; exact h2, A.to, rfl⟩⟩
 · rw [htk x (hinb b x hx).2]; exact F.inb b x (hinb b x hx).1
 · show (ups Γ.inb p l b).Nodup
   by_cases e : b = p
   · subst e; rw [ups_at]; have := F.inbn b; rw [hl] at this; exact (List.nodup_cons.1 this).2
   · rw [ups_ne _ _ e]; exact F.inbn b
 · rcases hway a b x h with h | ⟨h, _⟩
   · exact F.dis a b c x (hinb c x hx).1 h
   · exact (hinb c x hx).2 h
 · show x ∈ ups Γ.arr p (Γ.arr p ++ [i]) (Γ.mv x).to
   by_cases e : x = i
   · subst e; rw [A.to, ups_at]; exact List.mem_append_right _ (List.mem_singleton.2 rfl)
   · rw [htk x e] at h1
     have := F.fin x hx hs h1
     by_cases e2 : (Γ.mv x).to = p
     · rw [e2] at this ⊢; rw [ups_at]; exact List.mem_append_left _ this
     · rw [ups_ne _ _ e2]; exact this
 · by_cases e : x = i
   · subst e
     rcases htt with ⟨h3, _⟩ | ⟨h3, h4, _⟩
     · rw [hti, h3] at h1; rcases h1 with h | h | h <;> cases h
     · refine .inl ⟨p, (Γ.mv x).p, ?_⟩
       show x ∈ w p (Γ.mv x).p
       rw [h4, way2_at]; exact List.mem_append_right _ (List.mem_singleton.2 rfl)
   · rw [htk x e] at h1
     rcases F.lost x hx hs h1 with ⟨a, b, h⟩ | ⟨b, h⟩
     · exact .inl ⟨a, b, hway' a b x h⟩
     · refine .inr ⟨b, ?_⟩
       show x ∈ ups Γ.inb p l b
       by_cases e2 : b = p
       · subst e2
         rw [hl] at h
         rw [ups_at]
         rcases List.mem_cons.1 h with h | h
         · exact (e h).elim
         · exact h
       · rw [ups_ne _ _ e2]; exact h
 · have h1 := F.ord a b
   show ((((ups Γ.arr p (Γ.arr p ++ [i]) b).filter fun i => (Γ.mv i).p == a) ++ ((ups Γ.inb p l b).filter fun x => ups Γ.tk i t x == .msg && (Γ.mv x).p == a)) ++ ((w a b).filter fun x => ups Γ.tk i t x == .msg)).Pairwise (· < ·)
   rw [hwm]
   by_cases e : b = p
   · subst e
     rw [ups_at, ups_at, List.filter_append, filter_tk (fun m t => t == .msg && m.p == a) A.il]
     rw [hl] at h1
     by_cases e2 : (Γ.mv i).p = a
     · rw [List.filter_cons_of_pos (by rw [ht]; simp [e2])] at h1
       rw [List.filter_cons_of_pos (by simp [e2])]
       simpa using h1
     · rw [List.filter_cons_of_neg (by simp [e2])] at h1
       rw [List.filter_cons_of_neg (by simp [e2])]
       simpa using h1
   · rw [ups_ne _ _ e, ups_ne _ _ e, filter_tk (fun m t => t == .msg && m.p == a) (A.ib b e)]
     exact h1
 · by_cases e : x = i
   · subst e; rw [hti] at h1; exact (hnb h1).elim
   · rw [htk x e] at h1; exact F.bd x hx hs9 h1
 · obtain ⟨a, b⟩ := (F.cbn q).2 x hx
   refine ⟨a, ?_⟩
   by_cases e : x = i
   · subst e; rw [ht] at b; cases b
   · rw [htk x e]; exact b
end
end
end Go.Mt
namespace Go.Mt
open Go.Arm
theorem findIdx_congr {α : Type} {p q : α → Bool} : ∀ {l : List α}, (∀ x, x ∈ l → p x = q x) → l.findIdx? p = l.findIdx? q
 | [], _ => rfl
 | x :: l, h => by
  rw [List.findIdx?_cons, List.findIdx?_cons, h x List.mem_cons_self, findIdx_congr fun y hy => h y (List.mem_cons_of_mem _ hy)]
theorem findIdx_find {q : Nat → Bool} : ∀ {l : List Nat} {k : Nat}, l.findIdx? q = some k → ∃ j, l.find? q = some j ∧ l[k]? = some j ∧ j ∈ l ∧ q j = true ∧ (l.Nodup → l.eraseIdx k = l.filter fun x => !(x == j))
 | [], k, h => by cases h
 | x :: l, k, h => by
  rw [List.findIdx?_cons] at h
  cases hq : q x with
  | true =>
   rw [hq, if_pos rfl] at h
   cases h
   refine ⟨x, by rw [List.find?_cons, hq], rfl, List.mem_cons_self, hq, fun hn => ?_⟩
   obtain ⟨h1, _⟩ := List.nodup_cons.1 hn
   rw [List.filter_cons_of_neg (by simp)]
   show l = _
   exact (List.filter_eq_self.2 fun y hy => by
    have : y ≠ x := fun e => h1 (e ▸ hy)
    simpa using this).symm
  | false =>
   rw [hq, if_neg (by decide), Option.map_eq_some_iff] at h
   obtain ⟨k', h1, rfl⟩ := h
   obtain ⟨j, h2, h3, h4, h5, h6⟩ := findIdx_find h1
   refine ⟨j, by rw [List.find?_cons, hq]; exact h2, h3, List.mem_cons_of_mem _ h4, h5, fun hn => ?_⟩
   have hxj : x ≠ j := fun e => by rw [e, h5] at hq; cases hq
   rw [List.filter_cons_of_pos (by simpa using hxj)]
   show x :: l.eraseIdx k' = _
   rw [h6 (List.nodup_cons.1 hn).2]
section
variable {C : Ct} {Γ : Gs} {W W' : Wd} {p i : Nat} {l : List Nat} {t : Tk} {w : Nat → Nat → List Nat}
theorem In.arrs (H : In C p Γ W) (_F : Wf C Γ) (A : Arr C Γ p i l) (ht : Γ.tk i = .msg) (htt : t = .wait ∨ t = .back) (hn : W'.n = W.n) (hlim : W'.lim = W.lim)
   (hway : ∀ a b : Nat, a < C.n → b < C.n → W'.way a b = (w a b).map fun x => pkG (Γ.mv x) (ups Γ.tk i t x)) (hwayx : ∀ a b : Int, (¬ ∃ a' b' : Nat, a' < C.n ∧ b' < C.n ∧ a = a' ∧ b = b') → W'.way a b = W.way a b)
   (hpr : ∀ q, q ≠ p → W'.pr q = W.pr q) (hinb : (W'.pr p).inb = (W.pr p).inb) (hcrd : (W'.pr p).crds = (W.pr p).crds) (hreqs : (W'.pr p).reqs = (W.pr p).reqs) (hnext : (W'.pr p).next = (W.pr p).next)
   (hmsgs : (W'.pr p).msgs = (((Γ.arrs p i l t w).arr p).filter ((Γ.arrs p i l t w).fr p)).map fun i => msG (Γ.mv i)) (hrcvs : (W'.pr p).rcvs = ((Γ.post p).filter fun j => ((Γ.arrs p i l t w).mt p j).isNone).map fun j => (Γ.mv j).no)
   (hrqs : ∀ q, q < Γ.k → (Γ.mv q).send = true → W'.rq (Γ.mv q).p (Γ.mv q).no = W.rq (Γ.mv q).p (Γ.mv q).no)
   (hrqr : ∀ j, j < Γ.k → (Γ.mv j).send = false → W'.rq (Γ.mv j).p (Γ.mv j).no = recvR C.room (Γ.mv j) (((Γ.arrs p i l t w).mt (Γ.mv j).p j).map fun i' => (Γ.mv i', ups Γ.tk i t i')))
   (hexs : ∀ q, q < Γ.k → (Γ.mv q).send = true → (Γ.mv q).ea = false → ((Γ.arrs p i l t w).tk q = .back ∨ (Γ.arrs p i l t w).tk q = .body) → (Γ.mv q).to = p → ∀ j, (Γ.arrs p i l t w).mt p j = some q → kget (W'.pr p).exps (((Γ.mv q).p : Int), ((Γ.mv q).no : Int)) = some (Γ.mv j).no) :
   In C p (Γ.arrs p i l t w) W' := by
 have ppr : ∀ {α : Type} (f : Pr → α), f (W'.pr p) = f (W.pr p) → ∀ q, f (W'.pr q) = f (W.pr q) := fun f h q => by
   by_cases e : q = p
   · subst e; exact h
   · rw [hpr q e]
 refine ⟨hn.trans H.n, hlim.trans H.lim, hway, fun a b hab => (hwayx a b hab).trans (H.wayx a b hab), fun q hq => ?_, fun q hq => ?_, fun q hq => ?_, fun q hq hs => ?_, hrqr, fun q hq => ?_, fun q hq => ?_, fun q hq hs he h1 x hx => ?_, fun q hq => ?_⟩
 · rw [ppr (fun x => x.inb) hinb, H.inb q hq]
   by_cases e : q = p
   · rw [if_pos e, if_pos e]
   · rw [if_neg e, if_neg e]
     show _ = (ups Γ.inb p l q).map _
     rw [ups_ne _ _ e]
     exact (map_tk (fun m t => (frG m t, pkG m t)) (A.ib q e)).symm
 · by_cases e : q = p
   · subst e; exact hmsgs
   · rw [hpr q e, H.msgs q hq, arrs_fr q e]
     show _ = ((ups Γ.arr p (Γ.arr p ++ [i]) q).filter _).map _
     rw [ups_ne _ _ e]; rfl
 · by_cases e : q = p
   · subst e; exact hrcvs
   · rw [hpr q e, H.rcvs q hq, arrs_mt q e]; rfl
 · refine (hrqs q hq hs).trans ((H.rqs q hq hs).trans ?_)
   show sendR (Γ.mv q) (Γ.tk q) = sendR (Γ.mv q) (ups Γ.tk i t q)
   by_cases e : q = i
   · subst e; rw [ups_at, ht]; rcases htt with h | h <;> rw [h] <;> rfl
   · rw [ups_ne _ _ e]
 · rw [ppr (fun x => x.reqs) hreqs]; exact H.reqs q hq
 · rw [ppr (fun x => x.reqs) hreqs, ppr (fun x => x.next) hnext]; exact H.lt q hq
 · by_cases e : (Γ.mv q).to = p
   · have hx : (Γ.arrs p i l t w).mt (Γ.mv q).to x = some q := hx
     show kget (W'.pr (Γ.mv q).to).exps _ = _
     rw [e] at hx ⊢
     exact hexs q hq hs he h1 e x hx
   · have hx : (Γ.arrs p i l t w).mt (Γ.mv q).to x = some q := hx
     rw [arrs_mt _ e] at hx
     have hqi : q ≠ i := fun e2 => e (by rw [e2]; exact A.to)
     have h1 : ups Γ.tk i t q = .back ∨ ups Γ.tk i t q = .body := h1
     rw [ups_ne _ _ hqi] at h1
     show kget (W'.pr (Γ.mv q).to).exps _ = _
     rw [hpr _ e]
     exact H.exs q hq hs he h1 x hx
 · rw [ppr (fun x => x.crds) hcrd]; exact H.crd q hq
theorem In.oldr (H : In C p Γ W) (_F : Wf C Γ) (A : Arr C Γ p i l) {q : Nat} (hq : q < Γ.k) (hs : (Γ.mv q).send = false) (hm : (Γ.arrs p i l t w).mt (Γ.mv q).p q = Γ.mt (Γ.mv q).p q) :
  W.rq (Γ.mv q).p (Γ.mv q).no = recvR C.room (Γ.mv q) (((Γ.arrs p i l t w).mt (Γ.mv q).p q).map fun i' => (Γ.mv i', ups Γ.tk i t i')) := by
 rw [hm, H.rqr q hq hs]
 cases h : Γ.mt (Γ.mv q).p q with
 | none => rfl
 | some y =>
  have hy : y ≠ i := fun e => A.ia _ (e ▸ (greedy_mem _ _ h).2.1)
  show recvR C.room (Γ.mv q) (some (Γ.mv y, Γ.tk y)) = recvR C.room (Γ.mv q) (some (Γ.mv y, ups Γ.tk i t y))
  rw [ups_ne _ _ hy]
end
end Go.Mt
namespace Go.Mt
open Go.Arm
theorem map_erase {α β : Type} (f : α → β) : ∀ (l : List α) (k : Nat), (l.map f).eraseIdx k = (l.eraseIdx k).map f
 | [], k => by cases k <;> rfl
 | x :: l, 0 => rfl
 | x :: l, k + 1 => by
  show f x :: (l.map f).eraseIdx k = f x :: (l.eraseIdx k).map f
  rw [map_erase f l k]
theorem ks_at {κ β : Type} [DecidableEq κ] (m : List (κ × β)) (k : κ) (v : β) : kget (kset m k v) k = some v := by
 induction m with
 | nil => simp [kset, kget]
 | cons x m ih =>
  unfold kset
  split
  · simp [kget]
  · rename_i hne; unfold kget; rw [if_neg hne]; exact ih
theorem ks_ne {κ β : Type} [DecidableEq κ] (m : List (κ × β)) {k k' : κ} {v : β} (e : k' ≠ k) : kget (kset m k v) k' = kget m k' := by
 induction m with
 | nil => simp only [kset, kget]; rw [if_neg (fun h => e h.symm)]
 | cons x m ih =>
  unfold kset
  split
  · rename_i hx
    unfold kget
    rw [if_neg (fun h => e h.symm), if_neg (fun h => e (by rw [← h, hx]))]
  · unfold kget
    split
    · rfl
    · exact ih
section
variable {C : Ct} {Γ : Gs} {W : Wd} {p i : Nat} {l : List Nat}
theorem msG_en (m : Mv) : (msG m).en = enG m := by unfold msG; split <;> rfl
theorem In.msg (H : In C p Γ W) (F : Wf C Γ) (hp : p < C.n) (hl : Γ.inb p = i :: l) (ht : Γ.tk i = .msg) (hroom : 0 ≤ C.room) (hrb : C.room < (big : Int)) (hbig : Γ.k < big) :
  ∃ t w W', W.handle p (frG (Γ.mv i) (Γ.tk i)) (Γ.pk i) = some W' ∧ In C p (Γ.arrs p i l t w) W' ∧ Wf C (Γ.arrs p i l t w) ∧ ((t = .wait ∧ w = Γ.way) ∨ (t = .back ∧ w = Γ.way2 p (Γ.mv i).p i)) := by
 have A := F.arrive hl ht
 have hcame : ∀ W', W.came p (msG (Γ.mv i)) = some W' → W.handle p (frG (Γ.mv i) (Γ.tk i)) (Γ.pk i) = some W' := fun W' h => by
  show Wd.handle W p (frG (Γ.mv i) (Γ.tk i)) (pkG (Γ.mv i) (Γ.tk i)) = _
  rw [ht, ← h]
  show Wd.handle W p _ (if (Γ.mv i).ea = true then .eager (enG (Γ.mv i)) (Γ.mv i).d else .ask (enG (Γ.mv i)) (Γ.mv i).no) = _
  unfold msG
  split <;> rfl
 have hU : ∀ j, j ∈ (Γ.post p).filter (fun j => (Γ.mt p j).isNone) → j < Γ.k ∧ (Γ.mv j).send = false ∧ (Γ.mv j).p = p ∧ Γ.mt p j = none ∧ W.rq p (Γ.mv j).no = recvR C.room (Γ.mv j) none := fun j hj => by
  obtain ⟨h1, h2⟩ := List.mem_filter.1 hj
  obtain ⟨h3, h4, h5⟩ := F.post p j h1
  have h6 : Γ.mt p j = none := by simpa using h2
  refine ⟨h3, h4, h5, h6, ?_⟩
  have := H.rqr j h3 h4
  rw [h5, h6] at this
  exact this
 have hUn : ((Γ.post p).filter fun j => (Γ.mt p j).isNone).Nodup := (F.postn p).filter _
 generalize hUU : (Γ.post p).filter (fun j => (Γ.mt p j).isNone) = U at hU hUn
 have hrc := H.rcvs p hp
 rw [hUU] at hrc
 have hUl : U.length ≤ Γ.k := nodup_len _ _ hUn fun x hx => (hU x hx).1
 have hfi : (W.pr p).rcvs.findIdx? (fun no => (W.rq p no).fits (msG (Γ.mv i)).en) = U.findIdx? (fitG Γ.mv i) := by
  rw [hrc, List.findIdx?_map, msG_en]
  refine findIdx_congr fun j hj => ?_
  show (W.rq p (Γ.mv j).no).fits (enG (Γ.mv i)) = _
  rw [(hU j hj).2.2.2.2, fits_g]; rfl
 have hcond : ¬ ¬ ((∀ no, no ∈ (W.pr p).rcvs → (W.rq p no).small) ∧ (W.pr p).rcvs.length < big) := fun h => h ⟨fun no hno => by
  rw [hrc] at hno
  obtain ⟨j, hj, rfl⟩ := List.mem_map.1 hno
  rw [(hU j hj).2.2.2.2]
  show 0 * 0 < big
  decide, by rw [hrc, List.length_map]; omega⟩
 have hmtf : ∀ q j, Γ.mt q j ≠ some i := fun q j h => A.ia q (greedy_mem _ _ h).2.1
 cases hf : U.findIdx? (fitG Γ.mv i) with
 | none =>
  have hno : ∀ j, j ∈ U → fitG Γ.mv i j = false := fun j hj => by
    have := List.findIdx?_eq_none_iff.1 hf j hj
    simpa using this
  have hg : gstep (fitG Γ.mv) (Γ.post p) (Γ.mt p) i = Γ.mt p := by
    rcases gstep_cases (fits := fitG Γ.mv) (Γ.post p) (Γ.mt p) i with ⟨j, h1, h2, h3, _, _⟩ | ⟨_, _, h5⟩
    · have : j ∈ U := by rw [← hUU]; exact List.mem_filter.2 ⟨h1, by simp [h2]⟩
      rw [hno j this] at h3; cases h3
    · exact h5
  have hmt : ∀ q, (Γ.arrs p i l .wait Γ.way).mt q = Γ.mt q := fun q => by
    by_cases e : q = p
    · subst e; rw [arrs_mtp, hg]
    · exact arrs_mt q e
  have hfri : (Γ.arrs p i l .wait Γ.way).fr p i = true := free_iff.2 fun k hk => hmtf p k (by rw [← hmt p]; exact hk)
  have hml : (W.pr p).msgs.length < big := by
    rw [H.msgs p hp, List.length_map]
    exact Nat.lt_of_le_of_lt (nodup_len Γ.k _ ((F.arrn p).filter _) fun x hx => (F.arr p x (List.mem_filter.1 hx).1).1) hbig
  refine ⟨.wait, Γ.way, W.setPr p { W.pr p with msgs := (W.pr p).msgs ++ [msG (Γ.mv i)] }, hcame _ ?_, ?_, F.arrs A hl ht (.inl ⟨rfl, rfl, hfri⟩), .inl ⟨rfl, rfl⟩⟩
  · unfold Wd.came
    rw [if_neg hcond, hfi, hf]
    dsimp only
    rw [if_pos hml]
  · refine H.arrs F A ht (.inl rfl) rfl rfl (fun a b ha hb => ?_) (fun a b hab => rfl) (fun q hq => Wd.setPr_ne _ _ hq) ?_ ?_ ?_ ?_ ?_ ?_ (fun q hq hs => rfl) (fun q hq hs => H.oldr F A hq hs (by rw [hmt])) (fun q hq hs he h1 h2 j hj => ?_)
    · exact (H.way a b ha hb).trans (map_tk pkG (A.iw a b)).symm
    · rw [Wd.setPr_at]
    · rw [Wd.setPr_at]
    · rw [Wd.setPr_at]
    · rw [Wd.setPr_at]
    · rw [Wd.setPr_at]
      show (W.pr p).msgs ++ _ = ((ups Γ.arr p (Γ.arr p ++ [i]) p).filter _).map _
      rw [ups_at, List.filter_append, List.map_append, H.msgs p hp]
      congr 1
      · congr 1
        exact List.filter_congr fun x hx => (arrs_frp (fun e : x = i => A.ia p (by rw [← e]; exact hx))).symm
      · rw [List.filter_cons_of_pos (by exact hfri)]; rfl
    · rw [Wd.setPr_at, hmt]; exact H.rcvs p hp
    · rw [hmt] at hj
      have hqi : q ≠ i := fun e => hmtf p j (e ▸ hj)
      have h1 : ups Γ.tk i .wait q = .back ∨ ups Γ.tk i .wait q = .body := h1
      rw [ups_ne _ _ hqi] at h1
      rw [Wd.setPr_at]
      have := H.exs q hq hs he h1 j (by rw [h2]; exact hj)
      rw [h2] at this
      exact this
 | some k =>
  obtain ⟨j, g1, g2, g3, g4, g5⟩ := findIdx_find hf
  obtain ⟨hjk, hjs, hjp, hjm, hjr⟩ := hU j g3
  have hg : gstep (fitG Γ.mv) (Γ.post p) (Γ.mt p) i = ups (Γ.mt p) j (some i) := by
    have : (Γ.post p).find? (fun j => (Γ.mt p j).isNone && fitG Γ.mv i j) = some j := by
      rw [← g1, ← hUU, List.find?_filter]
      exact find_congr fun x _ => by cases h : Γ.mt p x <;> simp
    unfold gstep
    rw [this]
  generalize hw : Γ.way2 p (Γ.mv i).p i = w
  have hmp : (Γ.arrs p i l .back w).mt p = ups (Γ.mt p) j (some i) := by rw [arrs_mtp, hg]
  have hfri : (Γ.arrs p i l .back w).fr p i = false := by
    cases h : (Γ.arrs p i l .back w).fr p i with
    | false => rfl
    | true => exact (free_iff.1 h j (by show (Γ.arrs p i l .back w).mt p j = _; rw [hmp, ups_at])).elim
  have hwl : (W.way (p : Int) ((Γ.mv i).p : Int)).length < big := by
    rw [H.way p _ hp A.pn, List.length_map]
    exact Nat.lt_of_le_of_lt (nodup_len Γ.k _ (F.wayn _ _) fun x hx => (F.way _ _ x hx).1) hbig
  have hget : (W.pr p).rcvs.getD k 0 = (Γ.mv j).no := by
    rw [hrc, List.getD_eq_getElem?_getD, List.getElem?_map, g2]; rfl
  have hdl := (F.mv i A.k).2.1
  have hd2 : (Γ.mv i).d.length < big := by omega
  have hers : (W.pr p).rcvs.eraseIdx k = ((Γ.post p).filter fun j' => ((Γ.arrs p i l .back w).mt p j').isNone).map fun j => (Γ.mv j).no := by
    rw [hrc, map_erase, g5 hUn, ← hUU, List.filter_filter]
    congr 1
    refine List.filter_congr fun x _ => ?_
    rw [hmp]
    by_cases e : x = j
    · subst e; rw [ups_at]; simp
    · rw [ups_ne _ _ e]; simp [e]
  have hR : ∃ E', (Γ.mv i).ea = true ∧ E' = (W.pr p).exps ∨ (Γ.mv i).ea = false ∧ E' = kset (W.pr p).exps (((Γ.mv i).p : Int), ((Γ.mv i).no : Int)) (Γ.mv j).no := by
    cases h : (Γ.mv i).ea with
    | true => exact ⟨_, .inl ⟨rfl, rfl⟩⟩
    | false => exact ⟨_, .inr ⟨rfl, rfl⟩⟩
  obtain ⟨E', hE⟩ := hR
  have hc : W.came p (msG (Γ.mv i)) = some (((W.setPr p { W.pr p with rcvs := (W.pr p).rcvs.eraseIdx k, exps := E' }).setRq p (Γ.mv j).no (recvR C.room (Γ.mv j) (some (Γ.mv i, .back)))).setWay p (Γ.mv i).p (W.way p (Γ.mv i).p ++ [pkG (Γ.mv i) .back])) := by
    unfold Wd.came
    rw [if_neg hcond, hfi, hf]
    dsimp only
    rw [hget]
    rcases hE with ⟨h1, h2⟩ | ⟨h1, h2⟩
    · subst h2
      have hm : msG (Γ.mv i) = .eager (enG (Γ.mv i)) (Γ.mv i).d := by unfold msG; rw [if_pos h1]
      have hr : ({ W.rq p (Γ.mv j).no with st := ⟨(enG (Γ.mv i)).src, (enG (Γ.mv i)).tag, (enG (Γ.mv i)).size, 0⟩ } : Rq).gets (Γ.mv i).d = recvR C.room (Γ.mv j) (some (Γ.mv i, .back)) := by
        rw [hjr]
        unfold Rq.gets recvR doneG enG
        dsimp only
        rw [if_neg (fun h => by have := h.2; omega), h1]
        rfl
      rw [hm]
      unfold Wd.mtch
      dsimp only
      rw [if_pos ⟨hd2, by show 0 ≤ (W.rq p (Γ.mv j).no).room; rw [hjr]; exact hroom⟩]
      show Wd.put (Wd.setRq _ p _ (({ W.rq p (Γ.mv j).no with st := ⟨(enG (Γ.mv i)).src, (enG (Γ.mv i)).tag, (enG (Γ.mv i)).size, 0⟩ } : Rq).gets (Γ.mv i).d)) p ((Γ.mv i).p : Int) .credit = _
      rw [hr]
      unfold Wd.put
      refine (if_pos hwl).trans ?_
      unfold pkG
      dsimp only
      rw [if_pos h1]
      rfl
    · subst h2
      have hm : msG (Γ.mv i) = .ask (enG (Γ.mv i)) (Γ.mv i).no := by unfold msG; rw [if_neg (by rw [h1]; decide)]
      have hr : ({ W.rq p (Γ.mv j).no with st := ⟨(enG (Γ.mv i)).src, (enG (Γ.mv i)).tag, (enG (Γ.mv i)).size, 0⟩ } : Rq) = recvR C.room (Γ.mv j) (some (Γ.mv i, .back)) := by
        rw [hjr]
        unfold recvR doneG enG
        dsimp only
        rw [h1]
        rfl
      rw [hm]
      unfold Wd.mtch
      dsimp only
      show Wd.put (Wd.setPr (Wd.setRq _ p _ ({ W.rq p (Γ.mv j).no with st := ⟨(enG (Γ.mv i)).src, (enG (Γ.mv i)).tag, (enG (Γ.mv i)).size, 0⟩ } : Rq)) p _) p ((Γ.mv i).p : Int) (.clear (Γ.mv i).no) = _
      rw [hr, Wd.setPr_at]
      unfold Wd.put
      refine (if_pos hwl).trans ?_
      unfold pkG
      dsimp only
      rw [if_neg (by rw [h1]; decide)]
      show some (Wd.setWay (Wd.setRq (Wd.setPr (Wd.setPr W p _) p _) p _ _) _ _ _) = _
      rw [Wd.setPr_setPr]
      rfl
  have hF := F.arrs (t := .back) (w := w) A hl ht (.inr ⟨rfl, hw.symm, hfri⟩)
  refine ⟨.back, w, _, hcame _ hc, ?_, hF, .inr ⟨rfl, rfl⟩⟩
  have hne : ∀ q, q < Γ.k → q ≠ j → ((W.setPr p { W.pr p with rcvs := (W.pr p).rcvs.eraseIdx k, exps := E' }).setRq p (Γ.mv j).no (recvR C.room (Γ.mv j) (some (Γ.mv i, .back)))).rq (Γ.mv q).p (Γ.mv q).no = W.rq (Γ.mv q).p (Γ.mv q).no := fun q hq e =>
    Wd.setRq_ne _ _ fun h => e (F.inj q j hq hjk (by rw [h.1, hjp]) h.2)
  refine H.arrs F A ht (.inr rfl) rfl rfl (fun a b ha hb => ?_) (fun a b hab => ?_) (fun q hq => Wd.setPr_ne _ _ hq) ?_ ?_ ?_ ?_ ?_ ?_ (fun q hq hs => ?_) (fun q hq hs => ?_) (fun q hq hs he h1 h2 j' hj' => ?_)
  · show (W.setWay p (Γ.mv i).p _).way a b = _
    rw [← hw]
    by_cases e : a = p ∧ b = (Γ.mv i).p
    · obtain ⟨rfl, rfl⟩ := e
      rw [Wd.setWay_at, way2_at, List.map_append, map_tk pkG (A.iw _ _), H.way _ _ ha hb]
      show _ ++ [_] = _ ++ [pkG (Γ.mv i) (ups Γ.tk i .back i)]
      rw [ups_at]; rfl
    · rw [Wd.setWay_ne _ _ (fun h => e ⟨by have := h.1; omega, by have := h.2; omega⟩), way2_ne _ e, map_tk pkG (A.iw _ _)]
      exact H.way a b ha hb
  · show (W.setWay p (Γ.mv i).p _).way a b = _
    exact Wd.setWay_ne _ _ (fun h => hab ⟨p, _, hp, A.pn, h.1, h.2⟩)
  · show ((W.setPr p _).pr p).inb = _; rw [Wd.setPr_at]
  · show ((W.setPr p _).pr p).crds = _; rw [Wd.setPr_at]
  · show ((W.setPr p _).pr p).reqs = _; rw [Wd.setPr_at]
  · show ((W.setPr p _).pr p).next = _; rw [Wd.setPr_at]
  · show ((W.setPr p _).pr p).msgs = ((ups Γ.arr p (Γ.arr p ++ [i]) p).filter _).map _
    rw [Wd.setPr_at, ups_at, List.filter_append]
    show (W.pr p).msgs = _
    rw [List.filter_cons_of_neg (by rw [hfri]; decide), List.filter_nil, List.append_nil, H.msgs p hp]
    congr 1
    exact List.filter_congr fun x hx => (arrs_frp (fun e : x = i => A.ia p (by rw [← e]; exact hx))).symm
  · show ((W.setPr p _).pr p).rcvs = _; rw [Wd.setPr_at]; exact hers
  · exact hne q hq (fun e => by rw [e, hjs] at hs; cases hs)
  · by_cases e : q = j
    · subst e
      show (Wd.setRq _ p (Γ.mv q).no _).rq (Γ.mv q).p (Γ.mv q).no = _
      rw [hjp, Wd.setRq_at, hmp, ups_at]
      show _ = recvR C.room (Γ.mv q) (some (Γ.mv i, ups Γ.tk i .back i))
      rw [ups_at]
    · refine (hne q hq e).trans (H.oldr F A hq hs ?_)
      by_cases e2 : (Γ.mv q).p = p
      · rw [e2, hmp, ups_ne _ _ e]
      · rw [arrs_mt _ e2]
  · show kget ((W.setPr p _).pr p).exps _ = _
    rw [Wd.setPr_at]
    show kget E' _ = _
    rw [hmp] at hj'
    by_cases e : j' = j
    · subst e
      rw [ups_at] at hj'
      obtain rfl := Option.some.inj hj'
      rcases hE with ⟨h3, h4⟩ | ⟨h3, h4⟩
      · have he : (Γ.mv i).ea = false := he
        rw [h3] at he; cases he
      · rw [h4]; exact ks_at _ _ _
    · rw [ups_ne _ _ e] at hj'
      have hqi : q ≠ i := fun e => hmtf p j' (e ▸ hj')
      have h1 : ups Γ.tk i .back q = .back ∨ ups Γ.tk i .back q = .body := h1
      rw [ups_ne _ _ hqi] at h1
      have h5 := H.exs q hq hs he h1 j' (by rw [h2]; exact hj')
      rw [h2] at h5
      rcases hE with ⟨h3, h4⟩ | ⟨h3, h4⟩
      · rw [h4]; exact h5
      · rw [h4]
        refine (ks_ne _ fun e2 => hqi ?_).trans h5
        have e3 : ((Γ.mv q).p : Int) = (Γ.mv i).p := (Prod.mk.inj e2).1
        have e4 : ((Γ.mv q).no : Int) = (Γ.mv i).no := (Prod.mk.inj e2).2
        exact F.inj q i hq A.k (by omega) (by omega)
end
end Go.Mt
namespace Go.Mt
open Go.Arm
def rkT : Tk → Nat
 | .msg => 1
 | .back => 2
 | .body => 3
 | .wait => 4
 | .fin => 4
def Low (t : Nat) (Γ : Gs) : Prop := (∀ a b i, i ∈ Γ.way a b → t + 1 ≤ rkT (Γ.tk i)) ∧ ∀ b i, i ∈ Γ.inb b → t ≤ rkT (Γ.tk i)
structure Cs (C : Ct) (Γ : Gs) : Prop where
 room : 0 ≤ C.room
 rb : C.room < (big : Int)
 kb : Γ.k < big
 cb : C.c0 + (Γ.k : Int) < (big : Int)
structure Ev (p : Nat) (Γ Γ' : Gs) : Prop where
 mv : Γ'.mv = Γ.mv
 k : Γ'.k = Γ.k
 post : Γ'.post = Γ.post
 inb : ∀ q, q ≠ p → Γ'.inb q = Γ.inb q
 low : ∀ t, Low t Γ → Low t Γ'
theorem Ev.refl (p : Nat) (Γ : Gs) : Ev p Γ Γ := ⟨rfl, rfl, rfl, fun _ _ => rfl, fun _ h => h⟩
theorem Ev.trans {p : Nat} {Γ Γ1 Γ2 : Gs} (h1 : Ev p Γ Γ1) (h2 : Ev p Γ1 Γ2) : Ev p Γ Γ2 := ⟨h2.mv.trans h1.mv, h2.k.trans h1.k, h2.post.trans h1.post, fun q hq => (h2.inb q hq).trans (h1.inb q hq), fun t h => h2.low t (h1.low t h)⟩
section
variable {C : Ct} {Γ : Gs} {W : Wd} {p i : Nat} {l : List Nat}
theorem ev_tok {Γ' : Gs} (hl : Γ.inb p = i :: l) (h1 : Γ'.mv = Γ.mv) (h2 : Γ'.k = Γ.k) (h3 : Γ'.post = Γ.post) {t : Tk} (h4 : Γ'.tk = ups Γ.tk i t) (h5 : Γ'.inb = ups Γ.inb p l) (hw : ∀ a b x, x ∈ Γ'.way a b → x ∈ Γ.way a b ∨ (x = i ∧ rkT (Γ.tk i) + 1 ≤ rkT t))
   (hiw : ∀ a b, i ∉ Γ.way a b) (hil : i ∉ l) (hib : ∀ q, q ≠ p → i ∉ Γ.inb q) : Ev p Γ Γ' := by
 refine ⟨h1, h2, h3, fun q hq => by rw [h5, ups_ne _ _ hq], fun s hs => ⟨fun a b x hx => ?_, fun b x hx => ?_⟩⟩
 · rw [h4]
   rcases hw a b x hx with h | ⟨h, h6⟩
   · have : x ≠ i := fun e => hiw a b (e ▸ h)
     rw [ups_ne _ _ this]; exact hs.1 a b x h
   · subst h
     rw [ups_at]
     have := hs.2 p x (by rw [hl]; exact List.mem_cons_self)
     omega
 · rw [h4]
   rw [h5] at hx
   by_cases e : b = p
   · subst e
     rw [ups_at] at hx
     have : x ≠ i := fun e => hil (e ▸ hx)
     rw [ups_ne _ _ this]
     exact hs.2 b x (by rw [hl]; exact List.mem_cons_of_mem _ hx)
   · rw [ups_ne _ _ e] at hx
     have : x ≠ i := fun e2 => hib b e (e2 ▸ hx)
     rw [ups_ne _ _ this]; exact hs.2 b x hx
theorem way2_mem {a b a' b' x : Nat} (h : x ∈ Γ.way2 a b i a' b') : x ∈ Γ.way a' b' ∨ x = i := by
 by_cases e : a' = a ∧ b' = b
 · obtain ⟨rfl, rfl⟩ := e
   rw [way2_at] at h
   rcases List.mem_append.1 h with h | h
   · exact .inl h
   · exact .inr (List.mem_singleton.1 h)
 · rw [way2_ne _ e] at h; exact .inl h
theorem In.first (H : In C p Γ W) (F : Wf C Γ) (K : Cs C Γ) (hp : p < C.n) (hl : Γ.inb p = i :: l) :
  ∃ Γ' W', W.handle p (frG (Γ.mv i) (Γ.tk i)) (Γ.pk i) = some W' ∧ In C p Γ' W' ∧ Wf C Γ' ∧ Ev p Γ Γ' ∧ Γ'.inb p = l ∧ ∀ x, x ≠ i → Γ'.tk x = Γ.tk x := by
 have hin : i ∈ Γ.inb p := by rw [hl]; exact List.mem_cons_self
 obtain ⟨hik, his, hcase⟩ := F.inb p i hin
 have hil : i ∉ l := fun h => by have := F.inbn p; rw [hl] at this; exact (List.nodup_cons.1 this).1 h
 have hiw : ∀ a b, i ∉ Γ.way a b := fun a b => F.dis a b p i hin
 have hib : ∀ q, q ≠ p → i ∉ Γ.inb q := fun q hq h => by
  obtain ⟨_, _, hc⟩ := F.inb q i h
  rcases hc with ⟨h1, h2⟩ | ⟨h1, h2⟩ <;> rcases hcase with ⟨h3, h4⟩ | ⟨h3, h4⟩
  · exact hq (h2.symm.trans h4)
  · rw [h3] at h1; rcases h1 with h | h <;> cases h
  · rw [h1] at h3; rcases h3 with h | h <;> cases h
  · exact hq (h2.symm.trans h4)
 cases ht : Γ.tk i with
 | msg =>
  obtain ⟨t, w, W', h1, h2, h3, h4⟩ := H.msg F hp hl ht K.room K.rb K.kb
  rw [ht] at h1
  refine ⟨_, W', h1, h2, h3, ev_tok hl rfl rfl rfl rfl rfl (fun a b x hx => ?_) hiw hil hib, ups_at _ _ _, fun x hx => ups_ne _ _ hx⟩
  have hx : x ∈ w a b := hx
  rcases h4 with ⟨h5, h6⟩ | ⟨h5, h6⟩
  · rw [h6] at hx; exact .inl hx
  · rw [h6] at hx
    exact (way2_mem hx).imp id fun e => ⟨e, by rw [ht, h5]; decide⟩
 | back =>
  cases he : (Γ.mv i).ea with
  | true =>
    obtain ⟨W', h1, h2, h3⟩ := H.credit F hp hl ht he K.cb
    rw [ht] at h1
    exact ⟨_, W', h1, h2, h3, ev_tok hl rfl rfl rfl rfl rfl (fun a b x hx => .inl hx) hiw hil hib, ups_at _ _ _, fun x hx => ups_ne _ _ hx⟩
  | false =>
    obtain ⟨W', h1, h2, h3⟩ := H.clear F hp hl ht he K.kb
    rw [ht] at h1
    exact ⟨_, W', h1, h2, h3, ev_tok hl rfl rfl rfl rfl rfl (fun a b x hx => (way2_mem hx).imp id fun e => ⟨e, by rw [ht]; decide⟩) hiw hil hib, ups_at _ _ _, fun x hx => ups_ne _ _ hx⟩
 | body =>
  obtain ⟨W', h1, h2, h3⟩ := H.body F hp hl ht K.room K.rb
  rw [ht] at h1
  exact ⟨_, W', h1, h2, h3, ev_tok hl rfl rfl rfl rfl rfl (fun a b x hx => .inl hx) hiw hil hib, ups_at _ _ _, fun x hx => ups_ne _ _ hx⟩
 | wait => rw [ht] at hcase; rcases hcase with ⟨h | h, _⟩ | ⟨h, _⟩ <;> cases h
 | fin => rw [ht] at hcase; rcases hcase with ⟨h | h, _⟩ | ⟨h, _⟩ <;> cases h
theorem In.handles : ∀ (l : List Nat) {Γ : Gs} {W : Wd}, In C p Γ W → Wf C Γ → Cs C Γ → p < C.n → Γ.inb p = l →
  ∃ Γ' W', Wd.handles p W (l.map fun i => (frG (Γ.mv i) (Γ.tk i), Γ.pk i)) = some W' ∧ In C p Γ' W' ∧ Wf C Γ' ∧ Ev p Γ Γ' ∧ Γ'.inb p = []
 | [], Γ, W, H, F, _, _, hl => ⟨Γ, W, rfl, H, F, .refl _ _, hl⟩
 | i :: l, Γ, W, H, F, K, hp, hl => by
  obtain ⟨Γ1, W1, h1, h2, h3, h4, h5, h6⟩ := H.first F K hp hl
  have hil : i ∉ l := fun h => by have := F.inbn p; rw [hl] at this; exact (List.nodup_cons.1 this).1 h
  obtain ⟨Γ2, W2, g1, g2, g3, g4, g5⟩ := In.handles l h2 h3 ⟨K.room, K.rb, by rw [h4.k]; exact K.kb, by rw [h4.k]; exact K.cb⟩ hp h5
  refine ⟨Γ2, W2, ?_, g2, g3, h4.trans g4, g5⟩
  rw [List.map_cons]
  unfold Wd.handles
  rw [h1]
  dsimp only
  rw [← g1]
  congr 1
  refine List.map_congr_left fun x hx => ?_
  show (frG (Γ.mv x) (Γ.tk x), pkG (Γ.mv x) (Γ.tk x)) = (frG (Γ1.mv x) (Γ1.tk x), pkG (Γ1.mv x) (Γ1.tk x))
  rw [h4.mv, h6 x (fun e => hil (e ▸ hx))]
theorem In.call (H : In C C.n Γ W) (F : Wf C Γ) (K : Cs C Γ) (hp : p < C.n) : ∃ Γ' W', W.call p = some W' ∧ In C C.n Γ' W' ∧ Wf C Γ' ∧ Ev p Γ Γ' ∧ Γ'.inb p = [] := by
 have hpn : p ≠ C.n := Nat.ne_of_lt hp
 have hi := H.inb p hp
 rw [if_neg hpn] at hi
 have H0 : In C p Γ (W.setPr p { W.pr p with inb := [] }) := by
   have ppr : ∀ {α : Type} (f : Pr → α), (f { W.pr p with inb := [] } = f (W.pr p)) → ∀ q, f ((W.setPr p { W.pr p with inb := [] }).pr q) = f (W.pr q) := fun f hf q => by
     by_cases e : q = p
     · subst e; rw [Wd.setPr_at]; exact hf
     · rw [Wd.setPr_ne _ _ e]
   refine ⟨H.n, H.lim, H.way, H.wayx, fun q hq => ?_, fun q hq => ?_, fun q hq => ?_, H.rqs, H.rqr, fun q hq => ?_, fun q hq => ?_, fun q hq hs he h1 x hx => ?_, fun q hq => ?_⟩
   · by_cases e : q = p
     · subst e; rw [Wd.setPr_at, if_pos rfl]
     · rw [Wd.setPr_ne _ _ e, if_neg e, H.inb q hq, if_neg (Nat.ne_of_lt hq)]
   · rw [ppr (fun x => x.msgs) rfl]; exact H.msgs q hq
   · rw [ppr (fun x => x.rcvs) rfl]; exact H.rcvs q hq
   · rw [ppr (fun x => x.reqs) rfl]; exact H.reqs q hq
   · rw [ppr (fun x => x.reqs) rfl, ppr (fun x => x.next) rfl]; exact H.lt q hq
   · rw [ppr (fun x => x.exps) rfl]; exact H.exs q hq hs he h1 x hx
   · rw [ppr (fun x => x.crds) rfl]; exact H.crd q hq
 have hlen : (W.pr p).inb.length < big := by
   rw [hi, List.length_map]
   exact Nat.lt_of_le_of_lt (nodup_len Γ.k _ (F.inbn p) fun x hx => (F.inb p x hx).1) K.kb
 obtain ⟨Γ', W', h1, h2, h3, h4, h5⟩ := In.handles (Γ.inb p) H0 F K hp rfl
 refine ⟨Γ', W', ?_, ?_, h3, h4, h5⟩
 · unfold Wd.call
   rw [if_pos hlen, hi]
   exact h1
 · refine ⟨h2.n, h2.lim, h2.way, h2.wayx, fun q hq => ?_, h2.msgs, h2.rcvs, h2.rqs, h2.rqr, h2.reqs, h2.lt, h2.exs, h2.crd⟩
   rw [if_neg (Nat.ne_of_lt hq), h2.inb q hq]
   by_cases e : q = p
   · subst e; rw [if_pos rfl, h5]; rfl
   · rw [if_neg e]
end
end Go.Mt
namespace Go.Mt
open Go.Arm
def Gs.wayS (Γ : Gs) (a b : Nat) (l : List Nat) : Nat → Nat → List Nat := ups Γ.way a (ups (Γ.way a) b l)
theorem wayS_at (Γ : Gs) (a b : Nat) (l : List Nat) : Γ.wayS a b l a b = l := by unfold Gs.wayS; rw [ups_at, ups_at]
theorem wayS_ne (Γ : Gs) {a b a' b' : Nat} {l : List Nat} (h : ¬ (a' = a ∧ b' = b)) : Γ.wayS a b l a' b' = Γ.way a' b' := by
 unfold Gs.wayS
 by_cases e : a' = a
 · subst e; rw [ups_at, ups_ne _ _ (fun e2 => h ⟨rfl, e2⟩)]
 · rw [ups_ne _ _ e]
def Gs.mvs (Γ : Gs) (a b j : Nat) : Gs := { Γ with way := Γ.wayS a b ((Γ.way a b).drop j), inb := ups Γ.inb b (Γ.inb b ++ (Γ.way a b).take j) }
section
variable {C : Ct} {Γ : Gs} {W : Wd} {a b j : Nat}
theorem Wf.frm (F : Wf C Γ) {x : Nat} (h : x ∈ Γ.way a b) : frG (Γ.mv x) (Γ.tk x) = (a : Int) := by
 obtain ⟨_, _, hc⟩ := F.way a b x h
 rcases hc with ⟨h1, h2, _⟩ | ⟨h1, h2, _⟩
 · rcases h1 with h1 | h1 <;> rw [h1, ← h2] <;> rfl
 · rw [h1, ← h2]; rfl
theorem In.mvs (H : In C C.n Γ W) (F : Wf C Γ) (ha : a < C.n) (hb : b < C.n) : In C C.n (Γ.mvs a b j) (W.mv a b j) ∧ Wf C (Γ.mvs a b j) := by
 have hw := H.way a b ha hb
 have hmem : ∀ a' b' x, x ∈ (Γ.mvs a b j).way a' b' → x ∈ Γ.way a' b' := fun a' b' x hx => by
   have hx : x ∈ Γ.wayS a b ((Γ.way a b).drop j) a' b' := hx
   by_cases e : a' = a ∧ b' = b
   · obtain ⟨rfl, rfl⟩ := e
     rw [wayS_at] at hx; exact List.mem_of_mem_drop hx
   · rw [wayS_ne _ e] at hx; exact hx
 have himem : ∀ q x, x ∈ (Γ.mvs a b j).inb q → x ∈ Γ.inb q ∨ (q = b ∧ x ∈ (Γ.way a b).take j) := fun q x hx => by
   have hx : x ∈ ups Γ.inb b (Γ.inb b ++ (Γ.way a b).take j) q := hx
   by_cases e : q = b
   · subst e
     rw [ups_at] at hx
     exact (List.mem_append.1 hx).imp id fun h => ⟨rfl, h⟩
   · rw [ups_ne _ _ e] at hx; exact .inl hx
 constructor
 · have ppr : ∀ {α : Type} (f : Pr → α), (∀ z, f { W.pr b with inb := z } = f (W.pr b)) → ∀ q, f ((W.mv a b j).pr q) = f (W.pr q) := fun f hf q => by
     show f ((Wd.setPr _ b _).pr q) = _
     by_cases e : q = b
     · subst e; rw [Wd.setPr_at]; exact hf _
     · rw [Wd.setPr_ne _ _ e]; rfl
   refine ⟨H.n, H.lim, fun a' b' ha' hb' => ?_, fun a' b' hab => ?_, fun q hq => ?_, fun q hq => ?_, fun q hq => ?_, H.rqs, H.rqr, fun q hq => ?_, fun q hq => ?_, fun q hq hs he h1 x hx => ?_, fun q hq => ?_⟩
   · show (W.setWay a b _).way a' b' = (Γ.wayS a b _ a' b').map Γ.pk
     by_cases e : a' = a ∧ b' = b
     · obtain ⟨rfl, rfl⟩ := e
       rw [Wd.setWay_at, wayS_at, hw, List.map_drop]
     · rw [Wd.setWay_ne _ _ (fun h => e ⟨by have := h.1; omega, by have := h.2; omega⟩), wayS_ne _ e]
       exact H.way a' b' ha' hb'
   · show (W.setWay a b _).way a' b' = []
     rw [Wd.setWay_ne _ _ (fun h => hab ⟨a, b, ha, hb, h.1, h.2⟩)]
     exact H.wayx a' b' hab
   · rw [if_neg (Nat.ne_of_lt hq)]
     have hi := H.inb q hq
     rw [if_neg (Nat.ne_of_lt hq)] at hi
     show ((Wd.setPr _ b _).pr q).inb = (ups Γ.inb b (Γ.inb b ++ (Γ.way a b).take j) q).map fun i => (frG (Γ.mv i) (Γ.tk i), Γ.pk i)
     by_cases e : q = b
     · subst e
       rw [Wd.setPr_at, ups_at, List.map_append, ← hi]
       show _ ++ _ = _ ++ _
       congr 1
       rw [hw, ← List.map_take, List.map_map]
       refine List.map_congr_left fun x hx => ?_
       show ((a : Int), Γ.pk x) = _
       rw [F.frm (List.mem_of_mem_take hx)]
     · rw [Wd.setPr_ne _ _ e, ups_ne _ _ e]; exact hi
   · rw [ppr (fun x => x.msgs) (fun _ => rfl)]; exact H.msgs q hq
   · rw [ppr (fun x => x.rcvs) (fun _ => rfl)]; exact H.rcvs q hq
   · rw [ppr (fun x => x.reqs) (fun _ => rfl)]; exact H.reqs q hq
   · rw [ppr (fun x => x.reqs) (fun _ => rfl), ppr (fun x => x.next) (fun _ => rfl)]; exact H.lt q hq
   · rw [ppr (fun x => x.exps) (fun _ => rfl)]; exact H.exs q hq hs he h1 x hx
   · rw [ppr (fun x => x.crds) (fun _ => rfl)]; exact H.crd q hq
 · have hnd : ((Γ.way a b).take j ++ (Γ.way a b).drop j).Nodup := by rw [List.take_append_drop]; exact F.wayn a b
   obtain ⟨hn1, hn2, hn3⟩ := List.nodup_append.1 hnd
   refine ⟨F.mv, F.inj, F.arr, F.arrn, F.post, F.postn, fun a' b' x hx => F.way a' b' x (hmem a' b' x hx), fun a' b' => ?_, fun q x hx => ?_, fun q => ?_, fun a' b' c x hx h => ?_, F.fin, fun x hx hs h1 => ?_, fun a' b' => ?_, F.bd, F.cbn⟩
   · show (Γ.wayS a b ((Γ.way a b).drop j) a' b').Nodup
     by_cases e : a' = a ∧ b' = b
     · obtain ⟨rfl, rfl⟩ := e; rw [wayS_at]; exact hn2
     · rw [wayS_ne _ e]; exact F.wayn _ _
   · rcases himem q x hx with h | ⟨rfl, h⟩
     · exact F.inb q x h
     · obtain ⟨h1, h2, hc⟩ := F.way a q x (List.mem_of_mem_take h)
       refine ⟨h1, h2, ?_⟩
       rcases hc with ⟨h3, _, h4⟩ | ⟨h3, _, h4⟩
       · exact .inl ⟨h3, h4⟩
       · exact .inr ⟨h3, h4⟩
   · show (ups Γ.inb b (Γ.inb b ++ (Γ.way a b).take j) q).Nodup
     by_cases e : q = b
     · subst e
       rw [ups_at]
       refine List.nodup_append.2 ⟨F.inbn q, hn1, fun x h1 y h2 e => ?_⟩
       subst e
       exact F.dis a q q x h1 (List.mem_of_mem_take h2)
     · rw [ups_ne _ _ e]; exact F.inbn q
   · rcases himem c x hx with h2 | ⟨rfl, h2⟩
     · exact F.dis a' b' c x h2 (hmem a' b' x h)
     · have h3 := hmem a' b' x h
       have h4 := List.mem_of_mem_take h2
       obtain ⟨_, _, c1⟩ := F.way a' b' x h3
       obtain ⟨_, _, c2⟩ := F.way a c x h4
       have he : a' = a ∧ b' = c := by
         rcases c1 with ⟨p1, q1, r1⟩ | ⟨p1, q1, r1⟩ <;> rcases c2 with ⟨p2, q2, r2⟩ | ⟨p2, q2, r2⟩
         · exact ⟨q1.symm.trans q2, r1.symm.trans r2⟩
         · rw [p2] at p1; rcases p1 with h | h <;> cases h
         · rw [p1] at p2; rcases p2 with h | h <;> cases h
         · exact ⟨q1.symm.trans q2, r1.symm.trans r2⟩
       obtain ⟨rfl, rfl⟩ := he
       have h : x ∈ Γ.wayS a' b' ((Γ.way a' b').drop j) a' b' := h
       rw [wayS_at] at h
       exact hn3 x h2 x h rfl
   · rcases F.lost x hx hs h1 with ⟨a', b', h⟩ | ⟨q, h⟩
     · by_cases e : a' = a ∧ b' = b
       · obtain ⟨rfl, rfl⟩ := e
         rw [← List.take_append_drop j (Γ.way a' b')] at h
         rcases List.mem_append.1 h with h | h
         · refine .inr ⟨b', ?_⟩
           show x ∈ ups Γ.inb b' _ b'
           rw [ups_at]; exact List.mem_append_right _ h
         · refine .inl ⟨a', b', ?_⟩
           show x ∈ Γ.wayS a' b' _ a' b'
           rw [wayS_at]; exact h
       · refine .inl ⟨a', b', ?_⟩
         show x ∈ Γ.wayS a b _ a' b'
         rw [wayS_ne _ e]; exact h
     · refine .inr ⟨q, ?_⟩
       show x ∈ ups Γ.inb b _ q
       by_cases e : q = b
       · subst e; rw [ups_at]; exact List.mem_append_left _ h
       · rw [ups_ne _ _ e]; exact h
   · have h1 := F.ord a' b'
     show (((Γ.arr b').filter fun i => (Γ.mv i).p == a') ++ ((ups Γ.inb b (Γ.inb b ++ (Γ.way a b).take j) b').filter fun x => Γ.tk x == .msg && (Γ.mv x).p == a') ++ ((Γ.wayS a b ((Γ.way a b).drop j) a' b').filter fun x => Γ.tk x == .msg)).Pairwise (· < ·)
     have hta : ∀ a', ((Γ.way a b).take j).filter (fun x => Γ.tk x == .msg && (Γ.mv x).p == a') = if a' = a then ((Γ.way a b).take j).filter (fun x => Γ.tk x == .msg) else [] := fun a' => by
       split
       · rename_i e
         refine List.filter_congr fun x hx => ?_
         obtain ⟨_, _, hc⟩ := F.way a b x (List.mem_of_mem_take hx)
         rcases hc with ⟨_, h2, _⟩ | ⟨h2, _⟩
         · rw [h2, e]; simp
         · rw [h2]; simp
       · rename_i e
         refine List.filter_eq_nil_iff.2 fun x hx => ?_
         obtain ⟨_, _, hc⟩ := F.way a b x (List.mem_of_mem_take hx)
         rcases hc with ⟨_, h2, _⟩ | ⟨h2, _⟩
         · rw [h2]; simp [Ne.symm e]
         · rw [h2]; simp
     by_cases e : b' = b
     · subst e
       rw [ups_at, List.filter_append, hta]
       by_cases e2 : a' = a
       · subst e2
         rw [if_pos rfl, wayS_at]
         rw [← List.take_append_drop j (Γ.way a' b'), List.filter_append] at h1
         simpa [List.append_assoc] using h1
       · rw [if_neg e2, List.append_nil, wayS_ne _ (fun h => e2 h.1)]; exact h1
     · rw [ups_ne _ _ e, wayS_ne _ (fun h => e h.2)]; exact h1
end
end Go.Mt
namespace Go.Mt
open Go.Arm
structure Ew (Γ Γ' : Gs) : Prop where
 mv : Γ'.mv = Γ.mv
 k : Γ'.k = Γ.k
 post : Γ'.post = Γ.post
theorem Ew.refl (Γ : Gs) : Ew Γ Γ := ⟨rfl, rfl, rfl⟩
theorem Ew.trans {Γ Γ1 Γ2 : Gs} (h1 : Ew Γ Γ1) (h2 : Ew Γ1 Γ2) : Ew Γ Γ2 := ⟨h2.mv.trans h1.mv, h2.k.trans h1.k, h2.post.trans h1.post⟩
theorem Ev.ew {p : Nat} {Γ Γ' : Gs} (h : Ev p Γ Γ') : Ew Γ Γ' := ⟨h.mv, h.k, h.post⟩
def Lo (t : Nat) (Γ : Gs) : Prop := (∀ a b i, i ∈ Γ.way a b → t ≤ rkT (Γ.tk i)) ∧ ∀ b i, i ∈ Γ.inb b → t ≤ rkT (Γ.tk i)
def Gq (Γ : Gs) : Prop := (∀ a b, Γ.way a b = []) ∧ ∀ b, Γ.inb b = []
structure Ck (C : Ct) (Γ : Gs) : Prop where
 cs : Cs C Γ
 k : Γ.k < 200
theorem Ck.ew {C : Ct} {Γ Γ' : Gs} (K : Ck C Γ) (h : Ew Γ Γ') : Ck C Γ' := ⟨⟨K.cs.room, K.cs.rb, by rw [h.k]; exact K.cs.kb, by rw [h.k]; exact K.cs.cb⟩, by rw [h.k]; exact K.k⟩
theorem mem_nil {l : List Nat} (h : ∀ x, x ∉ l) : l = [] := by
 cases l with
 | nil => rfl
 | cons x l => exact (h x List.mem_cons_self).elim
section
variable {C : Ct} {Γ : Gs} {W : Wd}
theorem In.delAll {a b : Nat} (H : In C C.n Γ W) (F : Wf C Γ) (K : Ck C Γ) (ha : a < C.n) (hb : b < C.n) : ∃ Γ' W', W.delAll a b = some W' ∧ In C C.n Γ' W' ∧ Wf C Γ' ∧ Ew Γ Γ' ∧ (∀ a' b', Γ.way a' b' = [] → Γ'.way a' b' = []) ∧ Γ'.way a b = [] ∧ ∀ t, Lo t Γ → Lo t Γ' := by
 have hw := H.way a b ha hb
 have hi := H.inb b hb
 rw [if_neg (Nat.ne_of_lt hb)] at hi
 have h1 : (Γ.way a b).length ≤ Γ.k := nodup_len _ _ (F.wayn a b) fun x hx => (F.way a b x hx).1
 have h2 : (Γ.inb b).length ≤ Γ.k := nodup_len _ _ (F.inbn b) fun x hx => (F.inb b x hx).1
 have h3 := K.k
 have h4 : 500 < big := by decide
 obtain ⟨g1, g2⟩ := H.mvs F (j := (W.way a b).length) ha hb
 refine ⟨_, _, ?_, g1, g2, ⟨rfl, rfl, rfl⟩, fun a' b' h => ?_, ?_, fun t ht => ⟨fun a' b' x hx => ?_, fun q x hx => ?_⟩⟩
 · unfold Wd.delAll
   rw [if_pos ⟨by rw [hw, List.length_map]; omega, by rw [hi, List.length_map]; omega⟩]
 · show Γ.wayS a b _ a' b' = []
   by_cases e : a' = a ∧ b' = b
   · obtain ⟨rfl, rfl⟩ := e; rw [wayS_at, h]; exact List.drop_nil
   · rw [wayS_ne _ e]; exact h
 · show Γ.wayS a b _ a b = []
   rw [wayS_at, hw, List.length_map]; exact List.drop_length
 · have hx : x ∈ Γ.wayS a b _ a' b' := hx
   by_cases e : a' = a ∧ b' = b
   · obtain ⟨rfl, rfl⟩ := e; rw [wayS_at] at hx; exact ht.1 a' b' x (List.mem_of_mem_drop hx)
   · rw [wayS_ne _ e] at hx; exact ht.1 a' b' x hx
 · have hx : x ∈ ups Γ.inb b _ q := hx
   by_cases e : q = b
   · subst e
     rw [ups_at] at hx
     rcases List.mem_append.1 hx with h | h
     · exact ht.2 q x h
     · exact ht.1 a q x (List.mem_of_mem_take h)
   · rw [ups_ne _ _ e] at hx; exact ht.2 q x hx
theorem In.rowD {a : Nat} (ha : a < C.n) : ∀ (m b : Nat) {Γ : Gs} {W : Wd}, In C C.n Γ W → Wf C Γ → Ck C Γ → b + m ≤ C.n →
  ∃ Γ' W', Wd.rowD a b m W = some W' ∧ In C C.n Γ' W' ∧ Wf C Γ' ∧ Ew Γ Γ' ∧ (∀ a' b', Γ.way a' b' = [] → Γ'.way a' b' = []) ∧ (∀ b', b ≤ b' → b' < b + m → Γ'.way a b' = []) ∧ ∀ t, Lo t Γ → Lo t Γ'
 | 0, b, Γ, W, H, F, _, _ => ⟨Γ, W, rfl, H, F, .refl _, fun _ _ h => h, fun b' h1 h2 => by omega, fun _ h => h⟩
 | m + 1, b, Γ, W, H, F, K, hb => by
  obtain ⟨Γ1, W1, h1, h2, h3, h4, h5, h6, h7⟩ := H.delAll (a := a) (b := b) F K ha (by omega)
  obtain ⟨Γ2, W2, g1, g2, g3, g4, g5, g6, g7⟩ := In.rowD ha m (b + 1) h2 h3 (K.ew h4) (by omega)
  refine ⟨Γ2, W2, ?_, g2, g3, h4.trans g4, fun a' b' h => g5 a' b' (h5 a' b' h), fun b' hb1 hb2 => ?_, fun t h => g7 t (h7 t h)⟩
  · show (W.delAll a b).bind _ = _
    rw [h1]; exact g1
  · by_cases e : b' = b
    · subst e; exact g5 a b' h6
    · exact g6 b' (by omega) (by omega)
theorem In.allD : ∀ (m a : Nat) {Γ : Gs} {W : Wd}, In C C.n Γ W → Wf C Γ → Ck C Γ → a + m ≤ C.n →
  ∃ Γ' W', Wd.allD C.n a m W = some W' ∧ In C C.n Γ' W' ∧ Wf C Γ' ∧ Ew Γ Γ' ∧ (∀ a' b', Γ.way a' b' = [] → Γ'.way a' b' = []) ∧ (∀ a' b', a ≤ a' → a' < a + m → b' < C.n → Γ'.way a' b' = []) ∧ ∀ t, Lo t Γ → Lo t Γ'
 | 0, a, Γ, W, H, F, _, _ => ⟨Γ, W, rfl, H, F, .refl _, fun _ _ h => h, fun a' b' h1 h2 => by omega, fun _ h => h⟩
 | m + 1, a, Γ, W, H, F, K, hb => by
  obtain ⟨Γ1, W1, h1, h2, h3, h4, h5, h6, h7⟩ := In.rowD (a := a) (by omega) C.n 0 H F K (by omega)
  obtain ⟨Γ2, W2, g1, g2, g3, g4, g5, g6, g7⟩ := In.allD m (a + 1) h2 h3 (K.ew h4) (by omega)
  refine ⟨Γ2, W2, ?_, g2, g3, h4.trans g4, fun a' b' h => g5 a' b' (h5 a' b' h), fun a' b' ha1 ha2 hb1 => ?_, fun t h => g7 t (h7 t h)⟩
  · show (Wd.rowD a 0 C.n W).bind _ = _
    rw [h1]; exact g1
  · by_cases e : a' = a
    · subst e; exact g5 a' b' (h6 b' (by omega) (by omega))
    · exact g6 a' b' (by omega) (by omega) hb1
theorem In.callsD : ∀ (m p : Nat) {Γ : Gs} {W : Wd}, In C C.n Γ W → Wf C Γ → Ck C Γ → p + m ≤ C.n →
  ∃ Γ' W', Wd.callsD p m W = some W' ∧ In C C.n Γ' W' ∧ Wf C Γ' ∧ Ew Γ Γ' ∧ (∀ q, Γ.inb q = [] → Γ'.inb q = []) ∧ (∀ q, p ≤ q → q < p + m → Γ'.inb q = []) ∧ ∀ t, Low t Γ → Low t Γ'
 | 0, p, Γ, W, H, F, _, _ => ⟨Γ, W, rfl, H, F, .refl _, fun _ h => h, fun q h1 h2 => by omega, fun _ h => h⟩
 | m + 1, p, Γ, W, H, F, K, hp => by
  obtain ⟨Γ1, W1, h1, h2, h3, h4, h5⟩ := H.call F K.cs (p := p) (by omega)
  obtain ⟨Γ2, W2, g1, g2, g3, g4, g5, g6, g7⟩ := In.callsD m (p + 1) h2 h3 (K.ew h4.ew) (by omega)
  refine ⟨Γ2, W2, ?_, g2, g3, h4.ew.trans g4, fun q h => g5 q ?_, fun q hq1 hq2 => ?_, fun t h => g7 t (h4.low t h)⟩
  · show (W.call p).bind _ = _
    rw [h1]; exact g1
  · by_cases e : q = p
    · subst e; exact h5
    · rw [h4.inb q e]; exact h
  · by_cases e : q = p
    · subst e; exact g5 q h5
    · exact g6 q (by omega) (by omega)
theorem Wf.outw (F : Wf C Γ) {a b : Nat} (h : ¬ (a < C.n ∧ b < C.n)) : Γ.way a b = [] := mem_nil fun x hx => by
 obtain ⟨h1, h2, hc⟩ := F.way a b x hx
 obtain ⟨h3, _, h4⟩ := F.mv x h1
 have h5 := (h4 h2).2
 rcases hc with ⟨_, h6, h7⟩ | ⟨_, h6, h7⟩
 · exact h ⟨by omega, by omega⟩
 · exact h ⟨by omega, by omega⟩
theorem Wf.outi (F : Wf C Γ) {b : Nat} (h : ¬ b < C.n) : Γ.inb b = [] := mem_nil fun x hx => by
 obtain ⟨h1, h2, hc⟩ := F.inb b x hx
 obtain ⟨h3, _, h4⟩ := F.mv x h1
 have h5 := (h4 h2).2
 rcases hc with ⟨_, h6⟩ | ⟨_, h6⟩
 · omega
 · omega
theorem In.rnd (H : In C C.n Γ W) (F : Wf C Γ) (K : Ck C Γ) {t : Nat} (ht : Lo t Γ) : ∃ Γ' W', W.rnd = some W' ∧ In C C.n Γ' W' ∧ Wf C Γ' ∧ Ew Γ Γ' ∧ (∀ q, Γ'.inb q = []) ∧ Lo (t + 1) Γ' := by
 obtain ⟨Γ1, W1, h1, h2, h3, h4, h5, h6, h7⟩ := In.allD C.n 0 H F K (by omega)
 obtain ⟨Γ2, W2, g1, g2, g3, g4, g5, g6, g7⟩ := In.callsD C.n 0 h2 h3 (K.ew h4) (by omega)
 have hl := h7 t ht
 have hw : ∀ a b, Γ1.way a b = [] := fun a b => by
  by_cases e : a < C.n ∧ b < C.n
  · exact h6 a b (by omega) (by omega) e.2
  · exact h3.outw e
 have hlow : Low t Γ1 := ⟨fun a b x hx => (by rw [hw] at hx; cases hx), hl.2⟩
 have hi : ∀ q, Γ2.inb q = [] := fun q => by
  by_cases e : q < C.n
  · exact g6 q (by omega) (by omega)
  · exact g3.outi e
 refine ⟨Γ2, W2, ?_, g2, g3, h4.trans g4, hi, (g7 t hlow).1, fun b x hx => (by rw [hi] at hx; cases hx)⟩
 unfold Wd.rnd
 rw [H.n, h1]; exact g1
theorem In.gq (H : In C C.n Γ W) (F : Wf C Γ) (hq : W.quiet) : Gq Γ := by
 refine ⟨fun a b => ?_, fun b => ?_⟩
 · by_cases e : a < C.n ∧ b < C.n
   · have := hq.1 (a : Int) (b : Int)
     rw [H.way a b e.1 e.2] at this
     exact List.map_eq_nil_iff.1 this
   · exact F.outw e
 · by_cases e : b < C.n
   · have := hq.2 b (by rw [H.n]; exact e)
     rw [H.inb b e, if_neg (Nat.ne_of_lt e)] at this
     exact List.map_eq_nil_iff.1 this
   · exact F.outi e
theorem In.quiet (H : In C C.n Γ W) (F : Wf C Γ) (hi : ∀ q, Γ.inb q = []) (hl : Lo 4 Γ) : W.quiet := by
 have hw : ∀ a b, Γ.way a b = [] := fun a b => mem_nil fun x hx => by
   have h1 := hl.1 a b x hx
   obtain ⟨_, _, hc⟩ := F.way a b x hx
   rcases hc with ⟨h | h, _⟩ | ⟨h, _⟩ <;> rw [h] at h1 <;> exact absurd h1 (by decide)
 refine ⟨fun a b => ?_, fun p hp => ?_⟩
 · by_cases e : ∃ a' b' : Nat, a' < C.n ∧ b' < C.n ∧ a = a' ∧ b = b'
   · obtain ⟨a', b', h1, h2, rfl, rfl⟩ := e
     rw [H.way a' b' h1 h2, hw]; rfl
   · exact H.wayx a b e
 · rw [H.n] at hp
   rw [H.inb p hp, if_neg (Nat.ne_of_lt hp), hi]; rfl
theorem In.settles (H : In C C.n Γ W) (F : Wf C Γ) (K : Ck C Γ) : ∃ k Γ' W', k < 2000 ∧ Wd.Settles k W W' ∧ In C C.n Γ' W' ∧ Wf C Γ' ∧ Ew Γ Γ' ∧ Gq Γ' := by
 have rk1 : ∀ t : Tk, 1 ≤ rkT t := fun t => by cases t <;> decide
 have l1 : Lo 1 Γ := ⟨fun a b i _ => rk1 _, fun b i _ => rk1 _⟩
 obtain ⟨Γ1, W1, h1, h2, h3, h4, h5, h6⟩ := H.rnd F K l1
 by_cases q1 : W1.quiet
 · exact ⟨0, Γ1, W1, by decide, .last h1 q1, h2, h3, h4, h2.gq h3 q1⟩
 obtain ⟨Γ2, W2, g1, g2, g3, g4, g5, g6⟩ := h2.rnd h3 (K.ew h4) h6
 by_cases q2 : W2.quiet
 · exact ⟨1, Γ2, W2, by decide, .more h1 q1 (.last g1 q2), g2, g3, h4.trans g4, g2.gq g3 q2⟩
 obtain ⟨Γ3, W3, f1, f2, f3, f4, f5, f6⟩ := g2.rnd g3 (K.ew (h4.trans g4)) g6
 have q3 := f2.quiet f3 f5 f6
 exact ⟨2, Γ3, W3, by decide, .more h1 q1 (.more g1 q2 (.last f1 q3)), f2, f3, (h4.trans g4).trans f4, f2.gq f3 q3⟩
end
end Go.Mt
namespace Go.Mt
open Go.Arm
theorem greedy_congr {f g : Nat → Nat → Bool} {post : List Nat} : ∀ (arr : List Nat), (∀ i, i ∈ arr → ∀ j, j ∈ post → f i j = g i j) → greedy f arr post = greedy g arr post := by
 refine rev_ind (fun _ => rfl) fun arr x ih h => ?_
 rw [greedy_snoc, greedy_snoc, ih fun i hi => h i (List.mem_append_left _ hi)]
 have : post.find? (fun j => (greedy g arr post j).isNone && f x j) = post.find? (fun j => (greedy g arr post j).isNone && g x j) := find_congr fun j hj => by
  rw [h x (List.mem_append_right _ (List.mem_singleton.2 rfl)) j hj]
 unfold gstep
 rw [this]
section
variable {C : Ct} {Γ : Gs} {W : Wd}
def Gs.adds (Γ : Gs) (m : Mv) : Gs := { Γ with k := Γ.k + 1, mv := ups Γ.mv Γ.k m }
theorem adds_mv {m : Mv} {i : Nat} (h : i < Γ.k) : (Γ.adds m).mv i = Γ.mv i := ups_ne _ _ (Nat.ne_of_lt h)
theorem adds_at {m : Mv} : (Γ.adds m).mv Γ.k = m := ups_at _ _ _
theorem adds_fit (F : Wf C Γ) {m : Mv} (p : Nat) : ∀ i, i ∈ Γ.arr p → ∀ j, j ∈ Γ.post p → fitG (Γ.adds m).mv i j = fitG Γ.mv i j := fun i hi j hj => by
 unfold fitG
 rw [adds_mv (F.arr p i hi).1, adds_mv (F.post p j hj).1]
theorem adds_mt (F : Wf C Γ) {m : Mv} (p : Nat) : (Γ.adds m).mt p = Γ.mt p := greedy_congr _ (adds_fit F p)
theorem adds_fr (F : Wf C Γ) {m : Mv} (p i : Nat) : (Γ.adds m).fr p i = Γ.fr p i := by
 have e := adds_mt F (m := m) p
 show ((Γ.post p).all fun k => !((Γ.adds m).mt p k == some i)) = (Γ.post p).all fun k => !(Γ.mt p k == some i)
 rw [e]
def Gs.sends (Γ : Gs) (m : Mv) : Gs := { Γ.adds m with tk := ups Γ.tk Γ.k .msg, way := Γ.wayS m.p m.to (Γ.way m.p m.to ++ [Γ.k]) }
theorem Wf.sends (F : Wf C Γ) {m : Mv} (hs : m.send = true) (hp : m.p < C.n) (hto : m.peer = (m.to : Int)) (ht : m.to < C.n) (hd : (m.d.length : Int) ≤ C.room) (hno : ∀ i, i < Γ.k → (Γ.mv i).p = m.p → (Γ.mv i).no ≠ m.no) : Wf C (Γ.sends m) := by
 have htk : ∀ x, x < Γ.k → (Γ.sends m).tk x = Γ.tk x := fun x hx => ups_ne _ _ (Nat.ne_of_lt hx)
 have hmv : ∀ x, x < Γ.k → (Γ.sends m).mv x = Γ.mv x := fun x hx => ups_ne _ _ (Nat.ne_of_lt hx)
 have htkk : (Γ.sends m).tk Γ.k = .msg := ups_at _ _ _
 have hmvk : (Γ.sends m).mv Γ.k = m := ups_at _ _ _
 have hfr : ∀ p i, (Γ.sends m).fr p i = Γ.fr p i := fun p i => adds_fr F p i
 have hk : ∀ x, x < (Γ.sends m).k → x < Γ.k ∨ x = Γ.k := fun x hx => by have hx : x < Γ.k + 1 := hx; omega
 have hlt : ∀ x, x < Γ.k → x < (Γ.sends m).k := fun x hx => Nat.lt_succ_of_lt hx
 have hway : ∀ a b x, x ∈ (Γ.sends m).way a b → x ∈ Γ.way a b ∨ (x = Γ.k ∧ a = m.p ∧ b = m.to) := fun a b x hx => by
   have hx : x ∈ Γ.wayS m.p m.to (Γ.way m.p m.to ++ [Γ.k]) a b := hx
   by_cases e : a = m.p ∧ b = m.to
   · obtain ⟨rfl, rfl⟩ := e
     rw [wayS_at] at hx
     rcases List.mem_append.1 hx with h | h
     · exact .inl h
     · exact .inr ⟨List.mem_singleton.1 h, rfl, rfl⟩
   · rw [wayS_ne _ e] at hx; exact .inl hx
 have hway' : ∀ a b x, x ∈ Γ.way a b → x ∈ (Γ.sends m).way a b := fun a b x hx => by
   show x ∈ Γ.wayS m.p m.to (Γ.way m.p m.to ++ [Γ.k]) a b
   by_cases e : a = m.p ∧ b = m.to
   · obtain ⟨rfl, rfl⟩ := e; rw [wayS_at]; exact List.mem_append_left _ hx
   · rw [wayS_ne _ e]; exact hx
 have hnk : ∀ {x}, x < Γ.k → x ≠ Γ.k := fun h => Nat.ne_of_lt h
 refine ⟨fun x hx => ?_, fun x y hx hy h1 h2 => ?_, fun q x hx => ?_, F.arrn, fun q x hx => ?_, F.postn, fun a b x hx => ?_, fun a b => ?_, fun b x hx => ?_, F.inbn, fun a b c x hx h => ?_, fun x hx hs1 h1 => ?_, fun x hx hs1 h1 => ?_, fun a b => ?_, fun x hx hs9 h1 => ?_, fun q => ⟨(F.cbn q).1, fun x hx => ?_⟩⟩
 · rcases hk x hx with h | rfl
   · rw [hmv x h]; exact F.mv x h
   · rw [hmvk]; exact ⟨hp, hd, fun _ => ⟨hto, ht⟩⟩
 · rcases hk x hx with h3 | rfl <;> rcases hk y hy with h4 | rfl
   · rw [hmv x h3, hmv y h4] at h1 h2; exact F.inj x y h3 h4 h1 h2
   · rw [hmv x h3, hmvk] at h1 h2; exact (hno x h3 h1 h2).elim
   · rw [hmvk, hmv y h4] at h1 h2; exact (hno y h4 h1.symm h2.symm).elim
   · rfl
 · obtain ⟨h1, h2, h3, h4, h5⟩ := F.arr q x hx
   rw [hmv x h1, htk x h1, hfr]; exact ⟨hlt x h1, h2, h3, h4, h5⟩
 · obtain ⟨h1, h2, h3⟩ := F.post q x hx
   rw [hmv x h1]; exact ⟨hlt x h1, h2, h3⟩
 · rcases hway a b x hx with h | ⟨rfl, rfl, rfl⟩
   · obtain ⟨h1, h2, h3⟩ := F.way a b x h
     rw [hmv x h1, htk x h1]; exact ⟨hlt x h1, h2, h3⟩
   · rw [hmvk, htkk]; exact ⟨Nat.lt_succ_self _, hs, .inl ⟨.inl rfl, rfl, rfl⟩⟩
 · show (Γ.wayS m.p m.to (Γ.way m.p m.to ++ [Γ.k]) a b).Nodup
   by_cases e : a = m.p ∧ b = m.to
   · obtain ⟨rfl, rfl⟩ := e
     rw [wayS_at]
     refine List.nodup_append.2 ⟨F.wayn _ _, by simp, fun x h1 y h2 e => ?_⟩
     rw [List.mem_singleton.1 h2] at e
     exact hnk (F.way _ _ x h1).1 e
   · rw [wayS_ne _ e]; exact F.wayn a b
 · obtain ⟨h1, h2, h3⟩ := F.inb b x hx
   rw [hmv x h1, htk x h1]; exact ⟨hlt x h1, h2, h3⟩
 · rcases hway a b x h with h | ⟨h, _, _⟩
   · exact F.dis a b c x hx h
   · exact hnk (F.inb c x hx).1 h
 · rcases hk x hx with h | rfl
   · rw [hmv x h] at hs1 ⊢
     rw [htk x h] at h1
     exact F.fin x h hs1 h1
   · exact (h1 htkk).elim
 · rcases hk x hx with h | rfl
   · rw [hmv x h] at hs1
     rw [htk x h] at h1
     rcases F.lost x h hs1 h1 with ⟨a, b, h2⟩ | h2
     · exact .inl ⟨a, b, hway' a b x h2⟩
     · exact .inr h2
   · refine .inl ⟨m.p, m.to, ?_⟩
     show Γ.k ∈ Γ.wayS m.p m.to _ m.p m.to
     rw [wayS_at]; exact List.mem_append_right _ (List.mem_singleton.2 rfl)
 · have h1 := F.ord a b
   have e1 : ((Γ.arr b).filter fun i => ((Γ.sends m).mv i).p == a) = (Γ.arr b).filter fun i => (Γ.mv i).p == a := List.filter_congr fun x hx => by rw [hmv x (F.arr b x hx).1]
   have e2 : ((Γ.inb b).filter fun i => (Γ.sends m).tk i == .msg && ((Γ.sends m).mv i).p == a) = (Γ.inb b).filter fun i => Γ.tk i == .msg && (Γ.mv i).p == a := List.filter_congr fun x hx => by rw [hmv x (F.inb b x hx).1, htk x (F.inb b x hx).1]
   have e3 : ((Γ.way a b).filter fun i => (Γ.sends m).tk i == .msg) = (Γ.way a b).filter fun i => Γ.tk i == .msg := List.filter_congr fun x hx => by rw [htk x (F.way a b x hx).1]
   show (((Γ.arr b).filter fun i => ((Γ.sends m).mv i).p == a) ++ ((Γ.inb b).filter fun i => (Γ.sends m).tk i == .msg && ((Γ.sends m).mv i).p == a) ++ ((Γ.wayS m.p m.to (Γ.way m.p m.to ++ [Γ.k]) a b).filter fun i => (Γ.sends m).tk i == .msg)).Pairwise (· < ·)
   rw [e1, e2]
   by_cases e : a = m.p ∧ b = m.to
   · obtain ⟨rfl, rfl⟩ := e
     rw [wayS_at, List.filter_append, e3, ← List.append_assoc]
     refine List.pairwise_append.2 ⟨h1, ?_, fun x hx y hy => ?_⟩
     · exact List.Pairwise.filter _ (List.pairwise_singleton _ _)
     · have hy2 := List.mem_singleton.1 (List.mem_filter.1 hy).1
       rw [hy2]
       rcases List.mem_append.1 hx with h | h
       · rcases List.mem_append.1 h with h | h
         · exact (F.arr _ x (List.mem_filter.1 h).1).1
         · exact (F.inb _ x (List.mem_filter.1 h).1).1
       · exact (F.way _ _ x (List.mem_filter.1 h).1).1
   · rw [wayS_ne _ e, e3]; exact h1
 · rcases hk x hx with h | rfl
   · rw [htk x h] at h1; rw [hmv x h] at hs9 ⊢; exact F.bd x h hs9 h1
   · rw [htkk] at h1; cases h1
 · obtain ⟨h1, h2⟩ := (F.cbn q).2 x hx
   exact ⟨hlt x h1, by rw [htk x h1]; exact h2⟩
theorem In.sends {W' : Wd} (H : In C C.n Γ W) (F : Wf C Γ) {m : Mv} (hs : m.send = true) (hp : m.p < C.n) (ht : m.to < C.n) (hno : m.no = (W.pr m.p).next)
   (hn : W'.n = W.n) (hlim : W'.lim = W.lim) (hway : W'.way = (W.setWay m.p m.to (W.way m.p m.to ++ [pkG m .msg])).way) (hpr : ∀ q, q ≠ m.p → W'.pr q = W.pr q)
   (hinb : (W'.pr m.p).inb = (W.pr m.p).inb) (hms : (W'.pr m.p).msgs = (W.pr m.p).msgs) (hrc : (W'.pr m.p).rcvs = (W.pr m.p).rcvs) (hex : (W'.pr m.p).exps = (W.pr m.p).exps)
   (hre : (W'.pr m.p).reqs = (W.pr m.p).reqs ++ [m.no]) (hne : (W'.pr m.p).next = (W.pr m.p).next + 1) (hcl : (W'.pr m.p).crds.length = C.n) (hcr : ∀ r, r < C.n → 0 ≤ (W'.pr m.p).crds.getD r 0 ∧ (W'.pr m.p).crds.getD r 0 ≤ (W.pr m.p).crds.getD r 0)
   (hrq : ∀ q no, ¬ (q = m.p ∧ no = m.no) → W'.rq q no = W.rq q no) (hrk : W'.rq m.p m.no = sendR m .msg) : In C C.n (Γ.sends m) W' := by
 have ppr : ∀ {α : Type} (f : Pr → α), f (W'.pr m.p) = f (W.pr m.p) → ∀ q, f (W'.pr q) = f (W.pr q) := fun f h q => by
   by_cases e : q = m.p
   · subst e; exact h
   · rw [hpr q e]
 have htk : ∀ x, x < Γ.k → (Γ.sends m).tk x = Γ.tk x := fun x hx => ups_ne _ _ (Nat.ne_of_lt hx)
 have hmv : ∀ x, x < Γ.k → (Γ.sends m).mv x = Γ.mv x := fun x hx => ups_ne _ _ (Nat.ne_of_lt hx)
 have htkk : (Γ.sends m).tk Γ.k = .msg := ups_at _ _ _
 have hmvk : (Γ.sends m).mv Γ.k = m := ups_at _ _ _
 have hpk : ∀ x, x < Γ.k → (Γ.sends m).pk x = Γ.pk x := fun x hx => by unfold Gs.pk; rw [hmv x hx, htk x hx]
 have hfr : (Γ.sends m).fr = Γ.fr := by funext p i; exact adds_fr F p i
 have hmt : (Γ.sends m).mt = Γ.mt := by funext p; exact adds_mt F p
 have hk : ∀ x, x < (Γ.sends m).k → x < Γ.k ∨ x = Γ.k := fun x hx => by have hx : x < Γ.k + 1 := hx; omega
 have hnew : ∀ x, x < Γ.k → ¬ ((Γ.mv x).p = m.p ∧ (Γ.mv x).no = m.no) := fun x hx h => by
   have h1 := H.reqs x hx
   rw [h.1, h.2] at h1
   have := (H.lt m.p hp).1 _ h1
   omega
 refine ⟨hn.trans H.n, hlim.trans H.lim, fun a b ha hb => ?_, fun a b hab => ?_, fun q hq => ?_, fun q hq => ?_, fun q hq => ?_, fun x hx hs1 => ?_, fun x hx hs1 => ?_, fun x hx => ?_, fun q hq => ?_, fun x hx hs1 he h1 y hy => ?_, fun q hq => ?_⟩
 · rw [hway]
   show _ = (Γ.wayS m.p m.to (Γ.way m.p m.to ++ [Γ.k]) a b).map (Γ.sends m).pk
   have hold : ∀ a b, (Γ.way a b).map (Γ.sends m).pk = (Γ.way a b).map Γ.pk := fun a b => List.map_congr_left fun x hx => hpk x (F.way a b x hx).1
   by_cases e : a = m.p ∧ b = m.to
   · obtain ⟨rfl, rfl⟩ := e
     rw [Wd.setWay_at, wayS_at, List.map_append, hold, H.way _ _ ha hb]
     show _ ++ [_] = _ ++ [pkG ((Γ.sends m).mv Γ.k) ((Γ.sends m).tk Γ.k)]
     rw [hmvk, htkk]
   · rw [Wd.setWay_ne _ _ (fun h => e ⟨by have := h.1; omega, by have := h.2; omega⟩), wayS_ne _ e, hold]
     exact H.way a b ha hb
 · rw [hway, Wd.setWay_ne _ _ (fun h => hab ⟨_, _, hp, ht, h.1, h.2⟩)]
   exact H.wayx a b hab
 · rw [ppr (fun x => x.inb) hinb, H.inb q hq]
   split
   · rfl
   · refine List.map_congr_left fun x hx => ?_
     have := (F.inb q x hx).1
     rw [hpk x this, hmv x this, htk x this]
 · rw [ppr (fun x => x.msgs) hms, H.msgs q hq, hfr]
   refine List.map_congr_left fun x hx => ?_
   rw [hmv x (F.arr q x (List.mem_filter.1 hx).1).1]
 · rw [ppr (fun x => x.rcvs) hrc, H.rcvs q hq, hmt]
   refine List.map_congr_left fun x hx => ?_
   rw [hmv x (F.post q x (List.mem_filter.1 hx).1).1]
 · rcases hk x hx with h | rfl
   · rw [hmv x h] at hs1 ⊢
     rw [htk x h, hrq _ _ (hnew x h)]; exact H.rqs x h hs1
   · rw [hmvk, htkk]; exact hrk
 · rcases hk x hx with h | rfl
   · rw [hmv x h] at hs1 ⊢
     rw [hrq _ _ (hnew x h), hmt, H.rqr x h hs1]
     cases hm : Γ.mt (Γ.mv x).p x with
     | none => rfl
     | some y =>
       have hy := (F.arr _ y (greedy_mem _ _ hm).2.1).1
       show recvR _ _ (some (Γ.mv y, Γ.tk y)) = recvR _ _ (some ((Γ.sends m).mv y, (Γ.sends m).tk y))
       rw [hmv y hy, htk y hy]
   · rw [hmvk, hs] at hs1; cases hs1
 · rcases hk x hx with h | rfl
   · rw [hmv x h]
     by_cases e : (Γ.mv x).p = m.p
     · rw [e, hre]; have := H.reqs x h; rw [e] at this; exact List.mem_append_left _ this
     · rw [hpr _ e]; exact H.reqs x h
   · rw [hmvk, hre]; exact List.mem_append_right _ (List.mem_singleton.2 rfl)
 · obtain ⟨h1, h2, h3⟩ := H.lt q hq
   show _ ∧ _ ≤ Γ.k + 1 ∧ _ ≤ Γ.k + 1 + 1
   by_cases e : q = m.p
   · subst e
     rw [hre, hne, List.length_append, List.length_singleton]
     refine ⟨fun x hx => ?_, by omega, by omega⟩
     rcases List.mem_append.1 hx with h | h
     · have := h1 x h; omega
     · rw [List.mem_singleton.1 h]; omega
   · rw [hpr q e]; exact ⟨h1, by omega, by omega⟩
 · rcases hk x hx with h | rfl
   · rw [hmv x h] at hs1 he hy ⊢
     rw [htk x h] at h1
     rw [hmt] at hy
     have hyk := (F.post _ y (greedy_mem _ _ hy).1).1
     rw [ppr (fun x => x.exps) hex, hmv y hyk]
     exact H.exs x h hs1 he h1 y hy
   · rw [htkk] at h1; rcases h1 with h | h <;> cases h
 · obtain ⟨h1, h2⟩ := H.crd q hq
   by_cases e : q = m.p
   · subst e
     exact ⟨hcl, fun r hr => ⟨(hcr r hr).1, by have := (hcr r hr).2; have := (h2 r hr).2; show _ ≤ C.c0 + ((Γ.cb m.p).length : Int); omega⟩⟩
   · rw [hpr q e]; exact ⟨h1, h2⟩
end
end Go.Mt
namespace Go.Mt
open Go.Arm
section
variable {C : Ct} {Γ : Gs} {W : Wd} {p q : Nat}
def sr0 (peer tag : Int) (sync : Bool) : Rq := ⟨0, peer, 3, tag, 0, true, sync, false, false, false, 0, 0, [], [], 0, [], false, St.z⟩
def nxP (W : Wd) (p : Nat) : Pr := { W.pr p with next := (W.pr p).next + 1, reqs := (W.pr p).reqs ++ [(W.pr p).next] }
theorem In.add (H : In C C.n Γ W) (_K : Cs C Γ) (hk : Γ.k + 1 < big) (hp : p < C.n) (r : Rq) : W.add p r = some ((W.setPr p (nxP W p)).setRq p (W.pr p).next { r with no := (W.pr p).next }) := by
 obtain ⟨h1, h2, h3⟩ := H.lt p hp
 unfold Wd.add
 rw [if_pos ⟨by omega, fun h => Nat.lt_irrefl _ (h1 _ h)⟩]
 show some (Wd.setRq (Wd.setPr (Wd.setPr W p _) p _) p _ _) = _
 rw [Wd.setPr_setPr]
 rfl
theorem In.send (H : In C C.n Γ W) (F : Wf C Γ) (K : Ck C Γ) (hp : p < C.n) (hq : q < C.n) {tag : Int} {sync : Bool} {d : By} (hd : (d.length : Int) ≤ C.room) (hcb : C.c0 + (Γ.k : Int) < (big : Int)) :
  ∃ m W2 W3, m.p = p ∧ m.peer = (q : Int) ∧ m.send = true ∧ m.tag = tag ∧ m.d = d ∧ m.sync = sync ∧ m.no = (W.pr p).next ∧ (m.ea = true → sync = false) ∧ W.add p (sr0 q tag sync) = some W2 ∧ W2.start p (W.pr p).next d = some W3 ∧ (W3.rq p (W.pr p).next).no = (W.pr p).next ∧
    In C C.n (Γ.sends m) W3 ∧ Wf C (Γ.sends m) := by
 have hk := K.k
 have hb : 1000 < big := by decide
 have hdb : d.length < big := by have := K.cs.rb; omega
 have hadd := H.add K.cs (by omega) hp (sr0 q tag sync)
 generalize hN : (W.pr p).next = N at hadd ⊢
 have hml : (W.pr p).msgs.length < big := by
  rw [H.msgs p hp, List.length_map]
  exact Nat.lt_of_le_of_lt (nodup_len Γ.k _ ((F.arrn p).filter _) fun x hx => (F.arr p x (List.mem_filter.1 hx).1).1) K.cs.kb
 have hwl : (W.way (p : Int) (q : Int)).length < big := by
  rw [H.way p q hp hq, List.length_map]
  exact Nat.lt_of_le_of_lt (nodup_len Γ.k _ (F.wayn _ _) fun x hx => (F.way _ _ x hx).1) K.cs.kb
 obtain ⟨hcl, hcr⟩ := H.crd p hp
 obtain ⟨hc1, hc2⟩ := hcr q hq
 have hcb2 : (Γ.cb p).length ≤ Γ.k := nodup_len _ _ (F.cbn p).1 fun x hx => ((F.cbn p).2 x hx).1
 obtain ⟨ea, hea⟩ : ∃ ea : Bool, ea = true ↔ (sync = false ∧ (d.length : Int) ≤ W.lim ∧ 0 < (W.pr p).crds.getD q 0) := ⟨decide (sync = false ∧ (d.length : Int) ≤ W.lim ∧ 0 < (W.pr p).crds.getD q 0), by simp⟩
 have hfresh : ∀ (ea : Bool) i, i < Γ.k → (Γ.mv i).p = p → (Γ.mv i).no ≠ N := fun _ i hi h e => by
  have h1 := H.reqs i hi
  rw [h, e, ← hN] at h1
  exact Nat.lt_irrefl _ ((H.lt p hp).1 _ h1)
 have hto : ∀ m : Mv, m.peer = (q : Int) → m.to = q := fun m h => by unfold Mv.to; rw [h, Int.toNat_natCast]
 -- the start, up to the sending
 have hstart : ∀ W3, ((W.setPr p (nxP W p)).setRq p N ⟨N, q, 3, tag, 0, true, sync, false, true, false, 0, 0, d, [], 0, [], false, ⟨q, tag, (d.length : Nat), 0⟩⟩).send p N ⟨p, 3, tag, (d.length : Nat), 0⟩ = some W3 →
    ((W.setPr p (nxP W p)).setRq p N { sr0 q tag sync with no := N }).start p N d = some W3 := fun W3 h => by
  unfold Wd.start
  rw [Wd.setRq_at]
  unfold sr0
  dsimp only
  rw [if_neg (fun h => h ⟨by show 0 * 0 < big; decide, hdb, by show ((W.setPr p (nxP W p)).pr p).msgs.length < big; rw [Wd.setPr_at]; exact hml, Int.le_refl _⟩), if_pos rfl, Wd.setRq_setRq]
  exact h
 have hmk : ∀ (ea : Bool) (W3 : Wd), W3.n = W.n → W3.lim = W.lim → W3.way = (W.setWay p q (W.way p q ++ [pkG ⟨p, q, true, tag, d, N, sync, ea⟩ .msg])).way → (∀ q', q' ≠ p → W3.pr q' = W.pr q') → (∃ cr, W3.pr p = { nxP W p with crds := cr } ∧ cr.length = C.n ∧ ∀ r, r < C.n → 0 ≤ cr.getD r 0 ∧ cr.getD r 0 ≤ (W.pr p).crds.getD r 0) →
    (∀ q' no, ¬ (q' = p ∧ no = N) → W3.rq q' no = W.rq q' no) → W3.rq p N = sendR ⟨p, q, true, tag, d, N, sync, ea⟩ .msg → In C C.n (Γ.sends ⟨p, q, true, tag, d, N, sync, ea⟩) W3 ∧ Wf C (Γ.sends ⟨p, q, true, tag, d, N, sync, ea⟩) := fun ea W3 a1 a2 a3 a4 ⟨cr, a5, a6, a7⟩ a8 a9 => by
  refine ⟨H.sends F rfl hp (by rw [hto _ rfl]; exact hq) hN.symm a1 a2 (by rw [hto _ rfl]; exact a3) a4 (by rw [a5]; rfl) (by rw [a5]; rfl) (by rw [a5]; rfl) (by rw [a5]; rfl) (by rw [a5]; show _ ++ [(W.pr p).next] = _; rw [hN]) (by rw [a5]; rfl) (by rw [a5]; exact a6) (fun r hr => by rw [a5]; exact a7 r hr) a8 a9,
    F.sends rfl hp (by rw [hto _ rfl]) (by rw [hto _ rfl]; exact hq) hd (hfresh ea)⟩
 have hpeer : ¬ ((q : Int) = -2) := by omega
 have hput : ∀ (W' : Wd) (x : Pk), W'.way = W.way → W'.put p q x = some (W'.setWay p q (W.way p q ++ [x])) := fun W' x h => by
  unfold Wd.put; rw [h, if_pos hwl]
 have hcN : ((W.setPr p (nxP W p)).pr p).crds = (W.pr p).crds := by rw [Wd.setPr_at]; rfl
 cases hee : ea with
 | true =>
  obtain ⟨g1, g2, g3⟩ := hea.1 hee
  refine ⟨⟨p, q, true, tag, d, N, sync, true⟩, _, (((W.setPr p { nxP W p with crds := (W.pr p).crds.set q ((W.pr p).crds.getD q 0 - 1) }).setWay p q (W.way p q ++ [.eager ⟨p, 3, tag, (d.length : Nat), 0⟩ d])).setRq p N (sendR ⟨p, q, true, tag, d, N, sync, true⟩ .msg)), rfl, rfl, rfl, rfl, rfl, rfl, rfl, fun _ => g1, hadd, hstart _ ?_, by rw [Wd.setRq_at]; rfl, ?_⟩
  · unfold Wd.send
    rw [Wd.setRq_at]
    dsimp only
    rw [if_neg hpeer, if_neg (by rintro (h | h | h); rw [g1] at h; cases h; exact Nat.lt_irrefl 0 h; exact absurd h (Int.not_lt.2 g2))]
    show (if 0 ≤ (q : Int) ∧ (q : Int) < ((W.setPr p (nxP W p)).pr p).crds.length then _ else none) = _
    rw [hcN, if_pos ⟨by omega, by omega⟩]
    show (if ((W.setPr p (nxP W p)).pr p).crds.getD (q : Int).toNat 0 = 0 then _ else _) = _
    rw [hcN, Int.toNat_natCast, if_neg (by omega)]
    show (if 0 < ((W.setPr p (nxP W p)).pr p).crds.getD q 0 ∧ ((W.setPr p (nxP W p)).pr p).crds.getD q 0 < (big : Int) then _ else none) = _
    rw [hcN, if_pos ⟨g3, by omega⟩]
    rw [hput]
    rotate_left
    · rfl
    have hpp : ∀ X, ((W.setPr p (nxP W p)).setRq p N X).pr p = nxP W p := fun X => Wd.setPr_at _ _ _
    rw [hpp]
    show some (Wd.setRq (Wd.setWay (Wd.setRq (Wd.setPr (Wd.setPr W p _) p _) p N _) _ _ _) p N _) = _
    rw [Wd.setPr_setPr]
    show some (Wd.setWay (Wd.setRq (Wd.setRq (Wd.setPr W p _) p N _) p N _) _ _ _) = _
    rw [Wd.setRq_setRq]
    rfl
  · refine hmk true _ rfl rfl rfl (fun q' h => Wd.setPr_ne _ _ h) ⟨_, Wd.setPr_at _ _ _, by rw [List.length_set]; exact hcl, fun r hr => ?_⟩ (fun q' no h => Wd.setRq_ne _ _ h) (Wd.setRq_at _ _ _ _)
    rw [getD_set _ _ (by rw [hcl]; exact hq)]
    have := hcr r hr
    split
    · subst_vars; omega
    · omega
 | false =>
  have g0 : ¬ (sync = false ∧ (d.length : Int) ≤ W.lim ∧ 0 < (W.pr p).crds.getD q 0) := fun h => by rw [hea.2 h] at hee; cases hee
  refine ⟨⟨p, q, true, tag, d, N, sync, false⟩, _, (((W.setPr p (nxP W p)).setRq p N (sendR ⟨p, q, true, tag, d, N, sync, false⟩ .msg)).setWay p q (W.way p q ++ [.ask ⟨p, 3, tag, (d.length : Nat), 0⟩ N])), rfl, rfl, rfl, rfl, rfl, rfl, rfl, fun h => (by cases h), hadd, hstart _ ?_, ?_, ?_⟩
  · unfold Wd.send
    rw [Wd.setRq_at]
    dsimp only
    rw [if_neg hpeer]
    by_cases g1 : sync = true ∨ 0 > 0 ∨ ((d.length : Nat) : Int) > W.lim
    · refine (if_pos g1).trans ?_
      rw [hput]
      rotate_left
      · rfl
      rfl
    · refine (if_neg g1).trans ?_
      have g2 : sync = false := by
        cases h : sync with
        | true => exact (g1 (.inl h)).elim
        | false => rfl
      have g3 : (d.length : Int) ≤ W.lim := by
        refine Int.not_lt.1 fun h => g1 (.inr (.inr h))
      have g4 : (W.pr p).crds.getD q 0 = 0 := by
        have : ¬ 0 < (W.pr p).crds.getD q 0 := fun h => g0 ⟨g2, g3, h⟩
        omega
      show (if 0 ≤ (q : Int) ∧ (q : Int) < ((W.setPr p (nxP W p)).pr p).crds.length then _ else none) = _
      rw [hcN, if_pos ⟨by omega, by omega⟩]
      show (if ((W.setPr p (nxP W p)).pr p).crds.getD (q : Int).toNat 0 = 0 then _ else _) = _
      rw [hcN, Int.toNat_natCast, if_pos g4, hput]
      rotate_left
      · rfl
      rfl
  · show (((W.setPr p (nxP W p)).setRq p N _).rq p N).no = N
    rw [Wd.setRq_at]; rfl
  · exact hmk false _ rfl rfl rfl (fun q' h => Wd.setPr_ne _ _ h) ⟨_, Wd.setPr_at _ _ _, hcl, fun r hr => ⟨(hcr r hr).1, Int.le_refl _⟩⟩ (fun q' no h => Wd.setRq_ne _ _ h) (Wd.setRq_at _ _ _ _)
end
end Go.Mt
namespace Go.Mt
open Go.Arm
section
variable {C : Ct} {Γ : Gs} {W : Wd}
def Gs.recvs (Γ : Gs) (m : Mv) (o : Option Nat) : Gs := { Γ.adds m with
 post := ups Γ.post m.p (Γ.post m.p ++ [Γ.k])
 tk := match o with | none => Γ.tk | some i => ups Γ.tk i .back
 way := match o with | none => Γ.way | some i => Γ.way2 m.p (Γ.mv i).p i }
theorem recvs_tk {m : Mv} {o : Option Nat} {x : Nat} (h : o ≠ some x) : (Γ.recvs m o).tk x = Γ.tk x := by
 cases o with
 | none => rfl
 | some i => exact ups_ne _ _ (fun e : x = i => h (by rw [e]))
theorem recvs_tki {m : Mv} {i : Nat} : (Γ.recvs m (some i)).tk i = .back := ups_at _ _ _
theorem recvs_mt (F : Wf C Γ) {m : Mv} {o : Option Nat} {q : Nat} (h : q ≠ m.p) : (Γ.recvs m o).mt q = Γ.mt q := by
 show greedy _ (Γ.arr q) (ups Γ.post m.p _ q) = _
 rw [ups_ne _ _ h]; exact adds_mt F q
theorem Wf.recvs (F : Wf C Γ) {m : Mv} {o : Option Nat} (hs : m.send = false) (hp : m.p < C.n) (hd : (m.d.length : Int) ≤ C.room) (hno : ∀ i, i < Γ.k → (Γ.mv i).p = m.p → (Γ.mv i).no ≠ m.no)
   (ho : ∀ i, o = some i → i ∈ Γ.arr m.p ∧ Γ.tk i = .wait) (hmt : ∀ j x, (Γ.recvs m o).mt m.p j = some x ↔ (Γ.mt m.p j = some x ∨ (j = Γ.k ∧ o = some x))) : Wf C (Γ.recvs m o) := by
 have hmv : ∀ x, x < Γ.k → (Γ.recvs m o).mv x = Γ.mv x := fun x hx => ups_ne _ _ (Nat.ne_of_lt hx)
 have hmvk : (Γ.recvs m o).mv Γ.k = m := ups_at _ _ _
 have hk : ∀ x, x < (Γ.recvs m o).k → x < Γ.k ∨ x = Γ.k := fun x hx => by have hx : x < Γ.k + 1 := hx; omega
 have hlt : ∀ x, x < Γ.k → x < (Γ.recvs m o).k := fun x hx => Nat.lt_succ_of_lt hx
 have how : ∀ a b x, x ∈ Γ.way a b → o ≠ some x := fun a b x hx e => by
   have h1 := (ho x e).2
   obtain ⟨_, _, hc⟩ := F.way a b x hx
   rcases hc with ⟨h | h, _⟩ | ⟨h, _⟩ <;> rw [h1] at h <;> cases h
 have hoi : ∀ b x, x ∈ Γ.inb b → o ≠ some x := fun b x hx e => by
   have h1 := (ho x e).2
   obtain ⟨_, _, hc⟩ := F.inb b x hx
   rcases hc with ⟨h | h, _⟩ | ⟨h, _⟩ <;> rw [h1] at h <;> cases h
 have hway : ∀ a b x, x ∈ (Γ.recvs m o).way a b → x ∈ Γ.way a b ∨ (o = some x ∧ a = m.p ∧ b = (Γ.mv x).p) := fun a b x hx => by
   cases o with
   | none => exact .inl hx
   | some i =>
     have hx : x ∈ Γ.way2 m.p (Γ.mv i).p i a b := hx
     by_cases e : a = m.p ∧ b = (Γ.mv i).p
     · obtain ⟨rfl, rfl⟩ := e
       rw [way2_at] at hx
       rcases List.mem_append.1 hx with h | h
       · exact .inl h
       · obtain rfl := List.mem_singleton.1 h; exact .inr ⟨rfl, rfl, rfl⟩
     · rw [way2_ne _ e] at hx; exact .inl hx
 have hway' : ∀ a b x, x ∈ Γ.way a b → x ∈ (Γ.recvs m o).way a b := fun a b x hx => by
   cases o with
   | none => exact hx
   | some i =>
     show x ∈ Γ.way2 m.p (Γ.mv i).p i a b
     by_cases e : a = m.p ∧ b = (Γ.mv i).p
     · obtain ⟨rfl, rfl⟩ := e; rw [way2_at]; exact List.mem_append_left _ hx
     · rw [way2_ne _ e]; exact hx
 have htk0 : ∀ x, (Γ.recvs m o).tk x ≠ .back → (Γ.recvs m o).tk x = Γ.tk x := fun x hx => by
   by_cases e : o = some x
   · subst e; exact (hx recvs_tki).elim
   · exact recvs_tk e
 have hfr : ∀ q x, q ≠ m.p → (Γ.recvs m o).fr q x = Γ.fr q x := fun q x hq => by
   show free _ (Γ.arr q) (ups Γ.post m.p _ q) x = _
   rw [ups_ne _ _ hq]; exact adds_fr F q x
 have hfrp : ∀ x, (Γ.recvs m o).fr m.p x = true ↔ (Γ.fr m.p x = true ∧ o ≠ some x) := fun x => by
   refine Iff.trans free_iff (Iff.trans ?_ (and_congr_left' free_iff.symm))
   constructor
   · exact fun h => ⟨fun j hj => h j ((hmt j x).2 (.inl hj)), fun e => h Γ.k ((hmt _ x).2 (.inr ⟨rfl, e⟩))⟩
   · rintro ⟨h1, h2⟩ j hj
     rcases (hmt j x).1 hj with h | ⟨_, h⟩
     · exact h1 j h
     · exact h2 h
 have hnk : ∀ {x}, x < Γ.k → x ≠ Γ.k := fun h => Nat.ne_of_lt h
 refine ⟨fun x hx => ?_, fun x y hx hy h1 h2 => ?_, fun q x hx => ?_, F.arrn, fun q x hx => ?_, fun q => ?_, fun a b x hx => ?_, fun a b => ?_, fun b x hx => ?_, F.inbn, fun a b c x hx h => ?_, fun x hx hs1 h1 => ?_, fun x hx hs1 h1 => ?_, fun a b => ?_, fun x hx hs9 h1 => ?_, fun q => ⟨(F.cbn q).1, fun x hx => ?_⟩⟩
 · rcases hk x hx with h | rfl
   · rw [hmv x h]; exact F.mv x h
   · rw [hmvk]; exact ⟨hp, hd, fun h => by rw [hs] at h; cases h⟩
 · rcases hk x hx with h3 | rfl <;> rcases hk y hy with h4 | rfl
   · rw [hmv x h3, hmv y h4] at h1 h2; exact F.inj x y h3 h4 h1 h2
   · rw [hmv x h3, hmvk] at h1 h2; exact (hno x h3 h1 h2).elim
   · rw [hmvk, hmv y h4] at h1 h2; exact (hno y h4 h1.symm h2.symm).elim
   · rfl
 · obtain ⟨h1, h2, h3, h4, h5⟩ := F.arr q x hx
   rw [hmv x h1]
   refine ⟨hlt x h1, h2, h3, ?_, ?_⟩
   · by_cases e : o = some x
     · subst e; rw [recvs_tki]; decide
     · rw [recvs_tk e]; exact h4
   · by_cases e : o = some x
     · have hq : q = m.p := by
         have := (F.arr _ x (ho x e).1).2.2.1
         exact h3.symm.trans this
       subst hq
       refine ⟨fun h => ?_, fun h => ?_⟩
       · subst e; rw [recvs_tki] at h; cases h
       · exact (((hfrp x).1 h).2 e).elim
     · rw [recvs_tk e, h5]
       by_cases e2 : q = m.p
       · subst e2; exact ⟨fun h => (hfrp x).2 ⟨h, e⟩, fun h => ((hfrp x).1 h).1⟩
       · rw [hfr q x e2]
 · have hx : x ∈ ups Γ.post m.p (Γ.post m.p ++ [Γ.k]) q := hx
   by_cases e : q = m.p
   · subst e
     rw [ups_at] at hx
     rcases List.mem_append.1 hx with h | h
     · obtain ⟨h1, h2, h3⟩ := F.post _ x h
       rw [hmv x h1]; exact ⟨hlt x h1, h2, h3⟩
     · obtain rfl := List.mem_singleton.1 h
       rw [hmvk]; exact ⟨Nat.lt_succ_self _, hs, rfl⟩
   · rw [ups_ne _ _ e] at hx
     obtain ⟨h1, h2, h3⟩ := F.post q x hx
     rw [hmv x h1]; exact ⟨hlt x h1, h2, h3⟩
 · show (ups Γ.post m.p (Γ.post m.p ++ [Γ.k]) q).Nodup
   by_cases e : q = m.p
   · subst e
     rw [ups_at]
     refine List.nodup_append.2 ⟨F.postn _, by simp, fun x h1 y h2 e => ?_⟩
     rw [List.mem_singleton.1 h2] at e
     exact hnk (F.post _ x h1).1 e
   · rw [ups_ne _ _ e]; exact F.postn q
 · rcases hway a b x hx with h | ⟨h, rfl, rfl⟩
   · obtain ⟨h1, h2, h3⟩ := F.way a b x h
     rw [hmv x h1, recvs_tk (how a b x h)]; exact ⟨hlt x h1, h2, h3⟩
   · obtain ⟨g1, g2⟩ := ho x h
     obtain ⟨h1, h2, h3, _⟩ := F.arr _ x g1
     subst h
     rw [hmv x h1, recvs_tki]; exact ⟨hlt x h1, h2, .inr ⟨rfl, h3, rfl⟩⟩
 · cases o with
   | none => exact F.wayn a b
   | some i =>
     show (Γ.way2 m.p (Γ.mv i).p i a b).Nodup
     by_cases e : a = m.p ∧ b = (Γ.mv i).p
     · obtain ⟨rfl, rfl⟩ := e
       rw [way2_at]
       refine List.nodup_append.2 ⟨F.wayn _ _, by simp, fun x h1 y h2 e => ?_⟩
       rw [List.mem_singleton.1 h2] at e
       exact how _ _ x h1 (by rw [e])
     · rw [way2_ne _ e]; exact F.wayn _ _
 · obtain ⟨h1, h2, h3⟩ := F.inb b x hx
   rw [hmv x h1, recvs_tk (hoi b x hx)]; exact ⟨hlt x h1, h2, h3⟩
 · rcases hway a b x h with h | ⟨h, _, _⟩
   · exact F.dis a b c x hx h
   · exact hoi c x hx h
 · rcases hk x hx with h | rfl
   · rw [hmv x h] at hs1 ⊢
     by_cases e : o = some x
     · obtain ⟨g1, g2⟩ := ho x e
       rw [(F.arr _ x g1).2.2.1]; exact g1
     · rw [recvs_tk e] at h1; exact F.fin x h hs1 h1
   · rw [hmvk, hs] at hs1; cases hs1
 · rcases hk x hx with h | rfl
   · rw [hmv x h] at hs1
     by_cases e : o = some x
     · subst e
       refine .inl ⟨m.p, (Γ.mv x).p, ?_⟩
       show x ∈ Γ.way2 m.p (Γ.mv x).p x m.p (Γ.mv x).p
       rw [way2_at]; exact List.mem_append_right _ (List.mem_singleton.2 rfl)
     · rw [recvs_tk e] at h1
       rcases F.lost x h hs1 h1 with ⟨a, b, h2⟩ | h2
       · exact .inl ⟨a, b, hway' a b x h2⟩
       · exact .inr h2
   · rw [hmvk, hs] at hs1; cases hs1
 · have h1 := F.ord a b
   have e1 : ((Γ.arr b).filter fun i => ((Γ.recvs m o).mv i).p == a) = (Γ.arr b).filter fun i => (Γ.mv i).p == a := List.filter_congr fun x hx => by rw [hmv x (F.arr b x hx).1]
   have e2 : ((Γ.inb b).filter fun i => (Γ.recvs m o).tk i == .msg && ((Γ.recvs m o).mv i).p == a) = (Γ.inb b).filter fun i => Γ.tk i == .msg && (Γ.mv i).p == a := List.filter_congr fun x hx => by rw [hmv x (F.inb b x hx).1, recvs_tk (hoi b x hx)]
   have e3 : ((Γ.way a b).filter fun i => (Γ.recvs m o).tk i == .msg) = (Γ.way a b).filter fun i => Γ.tk i == .msg := List.filter_congr fun x hx => by rw [recvs_tk (how a b x hx)]
   have e4 : (((Γ.recvs m o).way a b).filter fun i => (Γ.recvs m o).tk i == .msg) = (Γ.way a b).filter fun i => Γ.tk i == .msg := by
     cases o with
     | none => rfl
     | some i =>
       show ((Γ.way2 m.p (Γ.mv i).p i a b).filter _) = _
       by_cases e : a = m.p ∧ b = (Γ.mv i).p
       · obtain ⟨rfl, rfl⟩ := e
         rw [way2_at, List.filter_append, e3, List.filter_cons_of_neg (by rw [recvs_tki]; decide)]
         exact List.append_nil _
       · rw [way2_ne _ e]; exact e3
   show (((Γ.arr b).filter fun i => ((Γ.recvs m o).mv i).p == a) ++ ((Γ.inb b).filter fun i => (Γ.recvs m o).tk i == .msg && ((Γ.recvs m o).mv i).p == a) ++ (((Γ.recvs m o).way a b).filter fun i => (Γ.recvs m o).tk i == .msg)).Pairwise (· < ·)
   rw [e1, e2, e4]; exact h1
 · rw [htk0 x (by rw [h1]; decide)] at h1
   rcases hk x hx with h | rfl
   · rw [hmv x h] at hs9 ⊢; exact F.bd x h hs9 h1
   · rw [hmvk, hs] at hs9; cases hs9
 · obtain ⟨h1, h2⟩ := (F.cbn q).2 x hx
   refine ⟨hlt x h1, ?_⟩
   rw [recvs_tk (fun e => by rw [(ho x e).2] at h2; cases h2)]; exact h2
end
end Go.Mt
