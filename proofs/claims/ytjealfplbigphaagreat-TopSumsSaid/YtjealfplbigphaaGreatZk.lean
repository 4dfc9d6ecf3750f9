/- Worlds of the program and walks of its functions. -/
import Derived.Test.YtjealfplbigphaaGreatZj
import Derived.Test.YtjealfplbigphaaGreatZi
namespace Go.Arm
noncomputable section
open Go Go.X Go.Mt
variable [Tys]
def Nxt (W' : Wd) (G : Gh) (h h' : AH) : Prop := ∃ S C ro, Rep W' ⟨G.B, S, C, ro⟩ h' /\ Gx G h ⟨G.B, S, C, ro⟩ h'
section
variable {κ β : Type} [DecidableEq κ]
omit [Tys] in
theorem kgs_at (m : List (κ × β)) (k : κ) (v : β) : kget (kset m k v) k = some v := by
 induction m with
 | nil => simp [kset, kget]
 | cons x m ih =>
  unfold kset
  split
  . simp [kget]
  . rename_i hne; unfold kget; rw [if_neg hne]; exact ih
omit [Tys] in
theorem kgs_ne (m : List (κ × β)) {k k' : κ} {v : β} (e : k' ≠ k) : kget (kset m k v) k' = kget m k' := by
 induction m with
 | nil => simp only [kset, kget]; rw [if_neg (fun h => e h.symm)]
 | cons x m ih =>
  unfold kset
  split
  . rename_i hx
    unfold kget
    rw [if_neg (fun h => e h.symm), if_neg (fun h => e (by rw [<- h, hx]))]
  . unfold kget
    split
    . rfl
    . exact ih
end
def Ow (h0 : AH) (G : Gh) (b : Nat) : Prop := h0.next ≤ b /\ ¬ G.mut b /\ ¬ G.ro b
section
variable {W W' : Wd} {G G' G1 : Gh} {h h' h1 h2 : AH} {p no : Nat} {v : Value} {cs : List Value} {S : Nat -> Prop}
theorem Nxt.after {S : Ro -> Value} {C : Ro -> Th} {ro : Nat -> Prop} (N : Nxt W' ⟨G.B, S, C, ro⟩ h1 h') (X : Gx G h ⟨G.B, S, C, ro⟩ h1) : Nxt W' G h h' := by
 obtain ⟨S', C', ro', R, Y⟩ := N
 exact ⟨S', C', ro', R, X.trans Y⟩
theorem Nxt.pre (s : Sm Nix h h1) (N : Nxt W' G h1 h') : Nxt W' G h h' := by
 obtain ⟨S', C', ro', R, Y⟩ := N
 exact ⟨S', C', ro', R, (Gx.of s).trans Y⟩
theorem Rep.ow {h0 : AH} (R : Rep W G h) (t : Sm (Ow h0 G) h h') : Rep W G h' := R.sm t fun _ hb => ⟨hb.2.1, hb.2.2⟩
omit [Tys] in
theorem Gx.ow {h0 : AH} (X : Gx G h0 G' h) (t : Sm (Ow h0 G') h h') : Gx G h0 G' h' := ⟨X.sm.trans t (fun _b hb => .inr hb.1), X.mu, X.ron, X.rok, X.keep, X.prs, X.fix⟩
omit [Tys] in
theorem Gx.dr (X : Gx G h G' h') (O : Op G h) : ∀ v d, Dr h G.ro v d -> Dr h' G'.ro v d := fun _ _ H => H.mono X.sm (fun b hb hm => O.ro b hm hb) X.rok
theorem Rep.more (R : Rep W G h) {Q : Nat -> Prop} (s : Sm Nix h h') (h1 : ∀ b, Q b -> h.next ≤ b) (h2 : ∀ b, Q b -> b < h'.next) : Rep W (G.more Q) h' /\ Gx G h (G.more Q) h' := by
 obtain ⟨O, X⟩ := R.op.more s h1 h2
 exact ⟨⟨O, R.rel.mono rfl rfl rfl (X.dr R.op)⟩, X⟩
theorem Rep.setRq (R : Rep W G h) (_hp : p < W.n) (hr : G.C (.rq p no) ≠ .no) {dv : Value} {r : Rq} (c : Cl h' (G.B (.rq p no)) (rqC G dv p no r)) (t : Sm S h h') (hS : ∀ k, S k -> k = G.B (.rq p no) ∨ h.next ≤ k) (hd : Dr h' G.ro dv r.data) (h1 : r.pcs = (W.rq p no).pcs) (h2 : r.sent = (W.rq p no).sent) :
  Rep (W.setRq p no r) (G.putC (.rq p no) (.cl (rqC G dv p no r))) h' /\ Gx G h (G.putC (.rq p no) (.cl (rqC G dv p no r))) h' := by
 have t2 : Sm (fun k => k = G.B (.rq p no)) h h' := ⟨t.nx, fun k hk hn => t.get k hk fun hs => (hS k hs).elim hn (by omega)⟩
 obtain ⟨O, X⟩ := R.op.putC (.rq p no) (x := .cl (rqC G dv p no r)) (by simp) hr t2 (fun k hk => by subst hk; rfl) ⟨_, rfl, c⟩
 refine ⟨⟨O, ((R.rel.mono0 (X.dr R.op)).at (p := p) rfl rfl rfl (fun k hk => ⟨rfl, z7 _ _ hk⟩) (fun r hr => ⟨z7 _ _ (K6 (by simp [Ro.of]) hr), rfl, rfl⟩) rfl rfl fun hp => ?_)⟩, X⟩
 show RelP (W.pr p) (ups W.rq p (ups (W.rq p) no r) p) _ _ _
 rw [j0]
 exact ((R.rel.mono0 (X.dr R.op)).pr p hp).rqX hr hd h1 h2
theorem Rep.stRq (R : Rep W G h) (hp : p < W.n) (hr : G.C (.rq p no) ≠ .no) {dv : Value} {r : Rq} (hd : Dr h G.ro dv (W.rq p no).data) (c : Cl h' (G.B (.rq p no)) (rqC G dv p no r)) (t : Sm (fun k => k = G.B (.rq p no)) h h') (h0 : r.data = (W.rq p no).data) (h1 : r.pcs = (W.rq p no).pcs) (h2 : r.sent = (W.rq p no).sent) :
  Nxt (W.setRq p no r) G h h' := by
 have := R.setRq hp hr (dv := dv) c t (fun k hk => .inl hk) (by rw [h0]; exact R.op.dr (t.mono fun k hk => ⟨.rq p no, hr, by subst hk; rfl⟩) _ _ hd) h1 h2
 exact ⟨_, _, _, this⟩
omit [Tys] in
theorem Op.ne (O : Op G h) {r r' : Ro} (h1 : G.C r ≠ .no) (h2 : G.C r' ≠ .no) (hn : r ≠ r') {b : Nat} (hb : vbx (G.V r) = some b) : ¬ vbx (G.V r') = some b := fun e => hn (O.inj _ _ _ h1 h2 hb e)
theorem Rep.listX (R : Rep W G h) (hp : p < W.n) {r : Ro} (hr : r = .inb p ∨ r = .msg p ∨ r = .rcv p) {k n : Nat} {x : Pr} (_hx : x.next = (W.pr p).next) (g : Gr h1 k v n cs) (s : Sm S h h1) (hS : ∀ c, S c -> vb (G.S r) = some c ∨ h.next ≤ c) (hv : ∀ c, vb v = some c -> vb (G.S r) = some c ∨ h.next ≤ c)
   (c : Cl h2 (G.B (.pr p)) (prC (W.pr p).next (G.putS r v (.gr k n cs)) p)) (t : Sm (fun k => k = G.B (.pr p)) h1 h2)
   (hP : ∀ _f : (∀ v d, Dr h G.ro v d -> Dr h2 G.ro v d), RelP (W.pr p) (W.rq p) G h2 p -> RelP x (W.rq p) ((G.putS r v (.gr k n cs)).putC (.pr p) (.cl (prC (W.pr p).next (G.putS r v (.gr k n cs)) p))) h2 p) :
   Rep (W.setPr p x) ((G.putS r v (.gr k n cs)).putC (.pr p) (.cl (prC (W.pr p).next (G.putS r v (.gr k n cs)) p))) h2 /\ Gx G h ((G.putS r v (.gr k n cs)).putC (.pr p) (.cl (prC (W.pr p).next (G.putS r v (.gr k n cs)) p))) h2 := by
 have P0 := R.rel.pr p hp
 have h0 : G.C r ≠ .no := by
   rcases hr with rfl | rfl | rfl
   . obtain ⟨cs, e, _⟩ := P0.inb; rw [e]; simp
   . obtain ⟨cs, e, _⟩ := P0.msg; rw [e]; simp
   . rw [P0.rcv]; simp
 have hV : ∀ G : Gh, G.V r = G.S r := by rcases hr with rfl | rfl | rfl <;> intro G <;> rfl
 have hof : r.of = some p := by rcases hr with rfl | rfl | rfl <;> rfl
 have hprs : r ≠ .prs := by rcases hr with rfl | rfl | rfl <;> simp
 have hpr : r ≠ .pr p := by rcases hr with rfl | rfl | rfl <;> simp
 have hB : ∃ b, G.S r = G.S r /\ b = G.B (.pr p) := ⟨_, rfl, rfl⟩
 obtain ⟨O1, X1⟩ := R.op.putS r v (x := .gr k n cs) (by simp) h0 hV hprs s (fun c hc => (hS c hc).imp J4 id) g (fun c hc => by
   have hc2 : vb v = some c := zj4 (by obtain ⟨a, e, f⟩ := g.sd.form; exact ⟨a, n, e, f⟩) hc
   exact (hv c hc2).imp J4 id) (fun p no => by rcases hr with rfl | rfl | rfl <;> exact ⟨(fun e => by cases e), (fun e => by cases e)⟩)
 obtain ⟨O2, X2⟩ := O1.putC (.pr p) (x := .cl (prC (W.pr p).next (G.putS r v (.gr k n cs)) p)) (by simp) (by show ups G.C r _ _ ≠ _; rw [z7 _ _ (Ne.symm hpr), P0.pr]; simp) t (fun k hk => by subst hk; rfl) ⟨_, rfl, c⟩
 have X := X1.trans X2
 refine ⟨⟨O2, (R.rel.mono0 (X.dr R.op)).at (p := p) rfl rfl rfl (fun k hk => ⟨z7 _ _ hk, rfl⟩) (fun r' hr' => ⟨?_, ?_, rfl⟩) rfl rfl fun hp => ?_⟩, X⟩
 . exact (z7 _ _ (K6 (by simp [Ro.of]) hr')).trans (z7 _ _ (K6 hof hr'))
 . exact z7 _ _ (K6 hof hr')
 . show RelP (ups W.pr p x p) _ _ _ _
   rw [j0]
   exact hP (X.dr R.op) ((R.rel.mono0 (X.dr R.op)).pr p hp)
theorem Rep.list (R : Rep W G h) (hp : p < W.n) {r : Ro} (hr : r = .inb p ∨ r = .msg p ∨ r = .rcv p) {k n : Nat} {x : Pr} (hx : x.next = (W.pr p).next) (g : Gr h1 k v n cs) (s : Sm S h h1) (hS : ∀ c, S c -> vb (G.S r) = some c ∨ h.next ≤ c) (hv : ∀ c, vb v = some c -> vb (G.S r) = some c ∨ h.next ≤ c)
 (c : Cl h2 (G.B (.pr p)) (prC (W.pr p).next (G.putS r v (.gr k n cs)) p)) (t : Sm (fun k => k = G.B (.pr p)) h1 h2)
 (hP : ∀ _f : (∀ v d, Dr h G.ro v d -> Dr h2 G.ro v d), RelP (W.pr p) (W.rq p) G h2 p -> RelP x (W.rq p) ((G.putS r v (.gr k n cs)).putC (.pr p) (.cl (prC (W.pr p).next (G.putS r v (.gr k n cs)) p))) h2 p) : Nxt (W.setPr p x) G h h2 := ⟨_, _, _, R.listX hp hr hx g s hS hv c t hP⟩
theorem Rep.setInb (R : Rep W G h) (hp : p < W.n) {l : List (Int × Pk)} (H : Ls (RAr h G.ro) 2 l cs) (g : Gr h1 2 v l.length cs) (s : Sm S h h1) (hS : ∀ c, S c -> vb (G.S (.inb p)) = some c ∨ h.next ≤ c) (hv : ∀ c, vb v = some c -> vb (G.S (.inb p)) = some c ∨ h.next ≤ c)
  (c : Cl h2 (G.B (.pr p)) [nk (W.pr p).next, .map (some (G.B (.rqs p))), .map (some (G.B (.exs p))), v, G.S (.msg p), G.S (.rcv p), G.S (.crd p)]) (t : Sm (fun k => k = G.B (.pr p)) h1 h2) : Nxt (W.setPr p { W.pr p with inb := l }) G h h2 :=
 R.list hp (r := .inb p) (.inl rfl) rfl g s hS hv (by
  have : prC (W.pr p).next (G.putS (.inb p) v (.gr 2 l.length cs)) p = [nk (W.pr p).next, .map (some (G.B (.rqs p))), .map (some (G.B (.exs p))), v, G.S (.msg p), G.S (.rcv p), G.S (.crd p)] := by
   unfold prC
   rw [show (G.putS (.inb p) v (.gr 2 l.length cs)).S (.inb p) = v from j0 _ _ _]
   rfl
  rw [this]; exact c) t fun f P => P.inbX (H.mono fun _ _ z => z.mono f)
theorem Rep.nilInb (R : Rep W G h) (hp : p < W.n) (c : Cl h2 (G.B (.pr p)) [nk (W.pr p).next, .map (some (G.B (.rqs p))), .map (some (G.B (.exs p))), .slice none 0 0, G.S (.msg p), G.S (.rcv p), G.S (.crd p)]) (t : Sm (fun k => k = G.B (.pr p)) h h2) :
   ∃ S C ro, (Rep (W.setPr p { W.pr p with inb := [] }) ⟨G.B, S, C, ro⟩ h2 /\ Gx G h ⟨G.B, S, C, ro⟩ h2) /\ ∀ b, vb (G.S (.inb p)) = some b -> ¬ (Gh.mut ⟨G.B, S, C, ro⟩) b /\ ¬ ro b := by
 obtain ⟨cs, ec, _⟩ := (R.rel.pr p hp).inb
 have hpr := (R.rel.pr p hp).pr
 have := R.listX hp (r := .inb p) (.inl rfl) (x := { W.pr p with inb := [] }) rfl (v := .slice none 0 0) (k := 2) (n := 0) (cs := []) Gr.nil (Sm.refl (S := Nix)) (fun c hc => hc.elim) (fun c hc => by cases hc) (by
   have : prC (W.pr p).next (G.putS (.inb p) (.slice none 0 0) (.gr 2 0 [])) p = [nk (W.pr p).next, .map (some (G.B (.rqs p))), .map (some (G.B (.exs p))), .slice none 0 0, G.S (.msg p), G.S (.rcv p), G.S (.crd p)] := by
    unfold prC
    rw [show (G.putS (.inb p) (.slice none 0 0) (.gr 2 0 [])).S (.inb p) = .slice none 0 0 from j0 _ _ _]
    rfl
   rw [this]; exact c) t fun f P => P.inbX (l := []) (cs := []) .nil
 refine ⟨_, _, _, this, fun b hb => ⟨?_, R.op.ro b ⟨.inb p, by rw [ec]; simp, J4 hb⟩⟩⟩
 rintro ⟨r, h1, h3⟩
 by_cases e : r = .inb p
 . subst e
   have : ((G.putS (.inb p) (.slice none 0 0) (.gr 2 0 [])).putC (.pr p) (.cl (prC (W.pr p).next (G.putS (.inb p) (.slice none 0 0) (.gr 2 0 [])) p))).V (.inb p) = .slice none 0 0 := j0 _ _ _
   have h3 := (congrArg vbx this).symm.trans h3
   cases h3
 . have hv : ((G.putS (.inb p) (.slice none 0 0) (.gr 2 0 [])).putC (.pr p) (.cl (prC (W.pr p).next (G.putS (.inb p) (.slice none 0 0) (.gr 2 0 [])) p))).V r = G.V r := by
    cases r <;> first | rfl | exact z7 _ _ e
   have hc : G.C r ≠ .no := by
    by_cases e2 : r = .pr p
    . rw [e2, hpr]; simp
    . have : ups (ups G.C (.inb p) (.gr 2 0 [])) (.pr p) (.cl (prC (W.pr p).next (G.putS (.inb p) (.slice none 0 0) (.gr 2 0 [])) p)) r = G.C r := by rw [z7 _ _ e2, z7 _ _ e]
      exact fun h5 => h1 (by show ups (ups G.C (.inb p) _) (.pr p) _ r = _; exact this.trans h5)
   have h3 := (congrArg vbx hv).symm.trans h3
   exact e (R.op.inj _ _ _ hc (by rw [ec]; simp) h3 (J4 hb))
theorem Rep.setMsg (R : Rep W G h) (hp : p < W.n) {l : List Ms} (H : Ls (RMs h G.ro) 6 l cs) (g : Gr h1 6 v l.length cs) (s : Sm S h h1) (hS : ∀ c, S c -> vb (G.S (.msg p)) = some c ∨ h.next ≤ c) (hv : ∀ c, vb v = some c -> vb (G.S (.msg p)) = some c ∨ h.next ≤ c)
  (c : Cl h2 (G.B (.pr p)) [nk (W.pr p).next, .map (some (G.B (.rqs p))), .map (some (G.B (.exs p))), G.S (.inb p), v, G.S (.rcv p), G.S (.crd p)]) (t : Sm (fun k => k = G.B (.pr p)) h1 h2) : Nxt (W.setPr p { W.pr p with msgs := l }) G h h2 :=
 R.list hp (r := .msg p) (.inr (.inl rfl)) rfl g s hS hv (by
  have : prC (W.pr p).next (G.putS (.msg p) v (.gr 6 l.length cs)) p = [nk (W.pr p).next, .map (some (G.B (.rqs p))), .map (some (G.B (.exs p))), G.S (.inb p), v, G.S (.rcv p), G.S (.crd p)] := by
   unfold prC
   rw [show (G.putS (.msg p) v (.gr 6 l.length cs)).S (.msg p) = v from j0 _ _ _]
   rfl
  rw [this]; exact c) t fun f P => P.msgX (H.mono fun _ _ z => z.mono f)
theorem Rep.setRcv (R : Rep W G h) (hp : p < W.n) {l : List Nat} (H : ∀ k, k ∈ l -> G.C (.rq p k) ≠ .no) (g : Gr h1 1 v l.length (l.map fun k => ptr (G.B (.rq p k)))) (s : Sm S h h1) (hS : ∀ c, S c -> vb (G.S (.rcv p)) = some c ∨ h.next ≤ c) (hv : ∀ c, vb v = some c -> vb (G.S (.rcv p)) = some c ∨ h.next ≤ c)
  (c : Cl h2 (G.B (.pr p)) [nk (W.pr p).next, .map (some (G.B (.rqs p))), .map (some (G.B (.exs p))), G.S (.inb p), G.S (.msg p), v, G.S (.crd p)]) (t : Sm (fun k => k = G.B (.pr p)) h1 h2) : Nxt (W.setPr p { W.pr p with rcvs := l }) G h h2 :=
 R.list hp (r := .rcv p) (.inr (.inr rfl)) rfl g s hS hv (by
  have : prC (W.pr p).next (G.putS (.rcv p) v (.gr 1 l.length (l.map fun k => ptr (G.B (.rq p k))))) p = [nk (W.pr p).next, .map (some (G.B (.rqs p))), .map (some (G.B (.exs p))), G.S (.inb p), G.S (.msg p), v, G.S (.crd p)] := by
   unfold prC
   rw [show (G.putS (.rcv p) v (.gr 1 l.length (l.map fun k => ptr (G.B (.rq p k))))).S (.rcv p) = v from j0 _ _ _]
   rfl
  rw [this]; exact c) t fun f P => P.rcvX H
theorem Rep.one (R : Rep W G h) (_hp : p < W.n) {r : Ro} (hof : r.of = some p) (_hB : r ≠ .pr p) {y : Th} {x : Pr} (hy : y ≠ .no) (h0 : G.C r ≠ .no) (s : Sm S h h') (hS : ∀ c, S c -> vbx (G.V r) = some c) (A : At h' (G.V r) y)
  (hP : RelP (W.pr p) (W.rq p) G h' p -> RelP x (W.rq p) (G.putC r y) h' p) : Rep (W.setPr p x) (G.putC r y) h' /\ Gx G h (G.putC r y) h' := by
 obtain ⟨O, X⟩ := R.op.putC r (x := y) hy h0 s hS A
 refine ⟨⟨O, (R.rel.mono0 (X.dr R.op)).at (p := p) rfl rfl rfl (fun k hk => ⟨z7 _ _ hk, rfl⟩) (fun r' hr' => ⟨z7 _ _ (K6 hof hr'), rfl, rfl⟩) rfl rfl fun hp => ?_⟩, X⟩
 show RelP (ups W.pr p x p) _ _ _ _
 rw [j0]
 exact hP ((R.rel.mono0 (X.dr R.op)).pr p hp)
theorem Rep.setCrd (R : Rep W G h) (hp : p < W.n) {l : List Int} (A : Ws h' 1 (G.S (.crd p)) l.length (l.map nv)) (s : Sm (fun b => vb (G.S (.crd p)) = some b) h h') : Nxt (W.setPr p { W.pr p with crds := l }) G h h' := by
 have := R.one hp (r := .crd p) rfl (by simp) (y := .ws l.length (l.map nv)) (x := { W.pr p with crds := l }) (by simp) (by rw [(R.rel.pr p hp).crd]; simp) s (fun c hc => J4 hc) A (fun P => P.crdX l)
 exact ⟨_, _, _, this⟩
theorem Rep.setExs (R : Rep W G h) (hp : p < W.n) {l : List ((Int × Int) × Nat)} (H : ∀ e, e ∈ l -> G.C (.rq p e.2) ≠ .no) (A : Mp h' (G.B (.exs p)) k2 Eq (l.map fun e => (e.1, ptr (G.B (.rq p e.2))))) (B : Mb h' (G.B (.exs p))) (s : Sm (fun b => b = G.B (.exs p)) h h') : Nxt (W.setPr p { W.pr p with exps := l }) G h h' := by
 have := R.one hp (r := .exs p) rfl (by simp) (y := .mp (l.map fun e => (e.1, ptr (G.B (.rq p e.2))))) (x := { W.pr p with exps := l }) (by simp) (by rw [(R.rel.pr p hp).exs]; simp) s (fun c hc => by subst hc; rfl) ⟨_, rfl, A, B⟩ (fun P => P.exsX H)
 exact ⟨_, _, _, this⟩
theorem Rep.setRqs (R : Rep W G h) (hp : p < W.n) {l : List Nat} (H : ∀ k, k ∈ l -> G.C (.rq p k) ≠ .no) (A : Mp h' (G.B (.rqs p)) nv Eq (l.map fun (k : Nat) => ((k : Int), ptr (G.B (.rq p k))))) (B : Mb h' (G.B (.rqs p))) (s : Sm (fun b => b = G.B (.rqs p)) h h') : Nxt (W.setPr p { W.pr p with reqs := l }) G h h' := by
 have := R.one hp (r := .rqs p) rfl (by simp) (y := .mi (l.map fun (k : Nat) => ((k : Int), ptr (G.B (.rq p k))))) (x := { W.pr p with reqs := l }) (by simp) (by rw [(R.rel.pr p hp).rqs]; simp) s (fun c hc => by subst hc; rfl) ⟨_, rfl, A, B⟩ (fun P => P.rqsX H)
 exact ⟨_, _, _, this⟩
omit [Tys] in
theorem jx4 {κ β : Type} [DecidableEq κ] (m : List (κ × β)) (k : κ) (v : β) : ∀ x, x ∈ (kset m k v).map (·.1) -> x = k ∨ x ∈ m.map (·.1) := by
 induction m with
 | nil => intro x hx; simp [kset] at hx; exact .inl hx
 | cons y m ih =>
  intro x hx
  unfold kset at hx
  split at hx
  . rename_i e
    rcases List.mem_cons.1 hx with hx | hx
    . exact .inl hx
    . exact .inr (List.mem_cons_of_mem _ hx)
  . rcases List.mem_cons.1 hx with hx | hx
    . exact .inr (List.mem_cons.2 (.inl hx))
    . exact (ih x hx).imp id (List.mem_cons_of_mem _)
omit [Tys] in
theorem qw0 {κ β : Type} [DecidableEq κ] {m : List (κ × β)} (h : (m.map (·.1)).Nodup) (k : κ) (v : β) : ((kset m k v).map (·.1)).Nodup := by
 induction m with
 | nil => simp [kset]
 | cons y m ih =>
  rw [List.map_cons, List.nodup_cons] at h
  unfold kset
  split
  . rename_i e
    rw [List.map_cons, List.nodup_cons]
    exact ⟨by rw [<- e]; exact h.1, h.2⟩
  . rename_i e
    rw [List.map_cons, List.nodup_cons]
    refine ⟨fun hx => ?_, ih h.2⟩
    rcases jx4 m k v _ hx with h5 | h5
    . exact e h5
    . exact h.1 h5
omit [Tys] in
theorem xx3 {κ β : Type} [DecidableEq κ] {m : List (κ × β)} (h : (m.map (·.1)).Nodup) {x : κ × β} (hx : x ∈ m) : kget m x.1 = some x.2 := by
 induction m with
 | nil => cases hx
 | cons y m ih =>
  rw [List.map_cons, List.nodup_cons] at h
  unfold kget
  rcases List.mem_cons.1 hx with rfl | hx
  . rw [if_pos rfl]
  . rw [if_neg (fun e => h.1 (by rw [e]; exact List.mem_map.2 ⟨x, hx, rfl⟩))]
    exact ih h.2 hx
omit [Tys] in
theorem yz8 {a b : Int} {m : List ((Int × Int) × Value)} (hm : ∀ i j, (kget m (i, j)).getD nilS = G.S (.way i j)) : ∀ i j, (kget (kset m (a, b) v) (i, j)).getD nilS = ups G.S (.way a b) v (.way i j) := fun i j => by
 by_cases e : (i, j) = (a, b)
 . cases e
   rw [j0, kgs_at]; rfl
 . rw [z7 _ _ (by intro h; cases h; exact e rfl), <- hm i j, kgs_ne _ e]
theorem Rep.touch (R : Rep W G h) {m : List ((Int × Int) × Value)} (hnd : (m.map (·.1)).Nodup) (hm : ∀ i j, (kget m (i, j)).getD nilS = G.S (.way i j)) (A : Mp h' (G.B .ways) k2 Eq m) (B : Mb h' (G.B .ways)) (t : Sm (fun k => k = G.B .ways) h h') :
  Rep W (G.putC .ways (.mp m)) h' /\ Gx G h (G.putC .ways (.mp m)) h' := by
 obtain ⟨m0, em, _⟩ := R.rel.ways
 obtain ⟨O, X⟩ := R.op.putC .ways (x := .mp m) (by simp) (by rw [em]; simp) t (fun k hk => by subst hk; rfl) ⟨_, rfl, A, B⟩
 have R1 := R.rel.mono0 (X.dr R.op)
 exact ⟨⟨O, ⟨R1.wd, R1.prs, ⟨m, j0 G.C Ro.ways (.mp m), hnd, hm⟩, R1.way, fun p hp => (R1.pr p hp).congr (fun r hr => ⟨z7 _ _ (by intro h; rw [h] at hr; cases hr), rfl, rfl⟩) rfl⟩⟩, X⟩
theorem Rep.waysLt (R : Rep W G h) : G.B .ways < h.next := by
 obtain ⟨m, a, _⟩ := R.ways
 exact a.1
theorem Rep.prLt (R : Rep W G h) (hp : p < W.n) : G.B (.pr p) < h.next := (R.prL hp).lt
theorem Rep.setWay (R : Rep W G h) (a b : Int) {l : List Pk} {m : List ((Int × Int) × Value)} (hnd : (m.map (·.1)).Nodup) (hw : ∀ i j, (kget m (i, j)).getD nilS = ups G.S (.way a b) v (.way i j)) (H : Ls (RPk h G.ro) 1 l cs) (g : Gr h1 1 v l.length cs) (s : Sm S h h1) (hS : ∀ c, S c -> vb (G.S (.way a b)) = some c ∨ h.next ≤ c) (hv : ∀ c, vb v = some c -> vb (G.S (.way a b)) = some c ∨ h.next ≤ c)
  (A : Mp h2 (G.B .ways) k2 Eq m) (B : Mb h2 (G.B .ways)) (t : Sm (fun k => k = G.B .ways) h1 h2) : Nxt (W.setWay a b l) G h h2 := by
 obtain ⟨cs0, e0, _⟩ := R.rel.way a b
 obtain ⟨m0, em, _⟩ := R.rel.ways
 obtain ⟨O1, X1⟩ := R.op.putS (.way a b) v (x := .gr 1 l.length cs) (by simp) (by rw [e0]; simp) (fun _ => rfl) (by simp) s (fun c hc => (hS c hc).imp J4 id) g (fun c hc => by
  have hc2 : vb v = some c := zj4 (by obtain ⟨a, e, f⟩ := g.sd.form; exact ⟨a, _, e, f⟩) hc
  exact (hv c hc2).imp J4 id)
 obtain ⟨O2, X2⟩ := O1.putC .ways (x := .mp m) (by simp) (by show G.C .ways ≠ _; rw [em]; simp) t (fun k hk => by subst hk; rfl) ⟨_, rfl, A, B⟩
 have X := X1.trans X2
 have R1 := R.rel.mono0 (X.dr R.op)
 have hcg : ∀ r p, r.of = some p -> (ups (ups G.C (.way a b) (.gr 1 l.length cs)) .ways (.mp m)) r = G.C r /\ ups G.S (.way a b) v r = G.S r := fun r p hr =>
  ⟨by rw [z7 _ _ (by intro h; rw [h] at hr; cases hr), z7 _ _ (by intro h; rw [h] at hr; cases hr)], by rw [z7 _ _ (by intro h; rw [h] at hr; cases hr)]⟩
 have hwy : ∀ i j, ∃ cs', (ups (ups G.C (.way a b) (.gr 1 l.length cs)) .ways (.mp m)) (.way i j) = .gr 1 ((W.setWay a b l).way i j).length cs' /\ Ls (RPk h2 G.ro) 1 ((W.setWay a b l).way i j) cs' := fun i j => by
  by_cases e : (i, j) = (a, b)
  . cases e
    have ew : (W.setWay a b l).way a b = l := by
     show ups W.way a (ups (W.way a) b l) a b = _
     rw [j0, j0]
    exact ⟨cs, by rw [z7 _ _ (by simp), j0, ew], by rw [ew]; exact H.mono fun _ _ z => z.mono (X.dr R.op)⟩
  . obtain ⟨cs', e1, e2⟩ := R1.way i j
    have ew : (W.setWay a b l).way i j = W.way i j := by
     show ups W.way a (ups (W.way a) b l) i j = _
     by_cases ei : i = a
     . subst ei
       rw [j0, z7 _ _ (fun h => e (by rw [h]))]
     . rw [z7 _ _ ei]
    exact ⟨cs', by rw [z7 _ _ (by simp), z7 _ _ (by intro h; cases h; exact e rfl), ew]; exact e1, by rw [ew]; exact e2⟩
 exact ⟨_, _, _, ⟨O2, ⟨R1.wd, R1.prs, ⟨m, j0 (ups G.C (.way a b) (.gr 1 l.length cs)) Ro.ways (.mp m), hnd, hw⟩, hwy, fun p hp => (R1.pr p hp).congr (fun r hr => ⟨(hcg r p hr).1, (hcg r p hr).2, rfl⟩) rfl⟩⟩, X⟩
end
end
end Go.Arm
namespace Go.Proofs.YtjealfplbigphaaGreat
noncomputable section
open Go Go.X Go.Arm Go.Mt
theorem Q9 {id : Nat} {Q : Post} {f : Fr} {w : AH} (h : Q .normal f w) : InBlock id Q .normal f w := h
instance tys : Tys := ⟨175, 173, 182, 186, 216, 218⟩
theorem qw5 {W : Wd} {G : Gh} {h : AH} (R : Rep W G h) :
  Arm.Calls Tryz.prog 54 [ptr (G.B .wd)] h (fun r => r.1 = .bool true /\ Sm Nix h r.2) := by
 refine j9 12 Tryz.f54 ?_
 have T0 : Sm Nix h h := .refl
 refine z1 1 kr (q5 (z1 6 kr (u9 kr (z9 _ rfl rfl kr ((R.ext T0).wdL.ld (o := 2) kr rfl) (L_g 3 kr (q5 (j7 ?_)))))))
 refine rr ?_
 refine z0 (v := .bool true) (.inl rfl) kr ?_
 exact ⟨rfl, T0⟩
theorem zk2 {W : Wd} {G : Gh} {h : AH} {p : Nat} (R : Rep W G h) (hp : p < W.n) :
  Arm.Calls Tryz.prog 49 [ptr (G.B .wd), nv (p : Int)] h (fun r => r.1 = .tuple ⟨[ptr (G.B (.pr p)), nv 0]⟩ /\ Sm Nix h r.2) := by
 refine j9 29 Tryz.f49 ?_
 have T0 : Sm Nix h h := .refl
 refine z1 2 kr (q5 (q7 (u3 (z1 1 kr (L_c rfl rfl kr (qw5 (R.ext T0)) ?_)))))
 rintro v1 h1 ⟨e1, t1⟩
 try dsimp only at e1 t1
 subst e1
 have T1 := T0.ext t1
 have N1 := T1.nx
 have M1 := t1.nx
 refine L_g 2 kr (q5 (Q2 kr (z1 1 kr (L_i ((p : Int)) (0) (.bool false) rfl rfl kr kr rfl (by first | (simp; done) | (simp; omega)) (L_g 5 kr (u9 kr (z9 _ rfl rfl kr ((R.ext T1).wdL.ld (o := 1) kr rfl) (u9 kr (V4 _ rfl rfl kr ((R.ext T1).prsL.len (T := 61) (el := 64) kr) ?_)))))))))
 refine u9 kr (L_i ((p : Int)) ((W.n : Int)) (.bool false) rfl rfl kr kr rfl (by first | (simp; done) | (simp; omega)) (L_g 2 kr (q5 (Q2 kr (z6 (z1 3 kr (z9 _ rfl rfl kr ((R.ext T1).wdL.ld (o := 1) kr rfl) (L_g 1 kr ?_))))))))
 obtain ⟨b1, o1, i1, l1⟩ := (R.ext T1).prsAt (P := Tryz.prog) (T := 61) (el := 64) kr kr kr hp
 refine Z8 _ rfl rfl kr kr (i1) (z9 _ rfl rfl kr (l1) (L_g 2 kr (q5 (j7 ?_))))
 refine rr ?_
 refine z0 (v := .tuple ⟨[ptr (G.B (.pr p)), nv 0]⟩) (.inl rfl) kr ?_
 exact ⟨rfl, T1⟩
theorem at_no {W : Wd} {G : Gh} {h : AH} {x : Int} (R : Rep W G h) (hx : x < 0 ∨ (W.n : Int) ≤ x) :
   Arm.Calls Tryz.prog 49 [ptr (G.B .wd), nv x] h (fun r => r.1 = .tuple ⟨[.pointer none, nv 11]⟩ /\ Sm Nix h r.2) := by
 by_cases hx0 : x < 0
 . refine j9 29 Tryz.f49 ?_
   have T0 : Sm Nix h h := .refl
   refine z1 2 kr (q5 (q7 (u3 (z1 1 kr (L_c rfl rfl kr (qw5 (R.ext T0)) ?_)))))
   rintro v2 h2 ⟨e2, t2⟩
   try dsimp only at e2 t2
   subst e2
   have T2 := T0.ext t2
   have N2 := T2.nx
   have M2 := t2.nx
   refine L_g 2 kr (q5 (Q2 kr (z1 1 kr (L_i (x) (0) (.bool true) rfl rfl kr kr rfl (by first | (simp; done) | (simp; omega)) (L_g 10 kr (q5 (U7 kr (q7 (q6 ?_)))))))))
   refine L_g 2 kr (q5 (j7 ?_))
   refine rr ?_
   refine z0 (v := .tuple ⟨[.pointer none, nv 11]⟩) (.inl rfl) kr ?_
   exact ⟨rfl, T2⟩
 . have hx1 : (W.n : Int) ≤ x := by omega
   refine j9 29 Tryz.f49 ?_
   have T0 : Sm Nix h h := .refl
   refine z1 2 kr (q5 (q7 (u3 (z1 1 kr (L_c rfl rfl kr (qw5 (R.ext T0)) ?_)))))
   rintro v3 h3 ⟨e3, t3⟩
   try dsimp only at e3 t3
   subst e3
   have T3 := T0.ext t3
   have N3 := T3.nx
   have M3 := t3.nx
   refine L_g 2 kr (q5 (Q2 kr (z1 1 kr (L_i (x) (0) (.bool false) rfl rfl kr kr rfl (by first | (simp; done) | (simp; omega)) (L_g 5 kr (u9 kr (z9 _ rfl rfl kr ((R.ext T3).wdL.ld (o := 1) kr rfl) (u9 kr (V4 _ rfl rfl kr ((R.ext T3).prsL.len (T := 61) (el := 64) kr) ?_)))))))))
   refine u9 kr (L_i (x) ((W.n : Int)) (.bool true) rfl rfl kr kr rfl (by first | (simp; done) | (simp; omega)) (L_g 2 kr (q5 (U7 kr (z1 2 kr (q5 (j7 ?_)))))))
   refine rr ?_
   refine z0 (v := .tuple ⟨[.pointer none, nv 11]⟩) (.inl rfl) kr ?_
   exact ⟨rfl, T3⟩
theorem Qx6 {W : Wd} {G : Gh} {h : AH} {p : Nat} (R : Rep W G h) (hp : p < W.n) {b : Bool} (hb : decide (256 ≤ (W.pr p).reqs.length) = b) :
  Arm.Calls Tryz.prog 50 [ptr (G.B .wd), nv (p : Int)] h (fun r => r.1 = nv (if b = true then 9 else 0) /\ Sm Nix h r.2) := by
 cases b with
 | true =>
  refine j9 17 Tryz.f50 ?_
  have T0 : Sm Nix h h := .refl
  refine z1 1 kr (q5 (q7 (z1 3 kr (z9 _ rfl rfl kr ((R.ext T0).wdL.ld (o := 1) kr rfl) (L_g 1 kr ?_)))))
  obtain ⟨b1, o1, i1, l1⟩ := (R.ext T0).prsAt (P := Tryz.prog) (T := 61) (el := 64) kr kr kr hp
  refine Z8 _ rfl rfl kr kr (i1) (z9 _ rfl rfl kr (l1) (L_g 2 kr (z9 _ rfl rfl kr (((R.ext T0).prL hp).ld (o := 1) kr rfl) (V4 _ rfl rfl kr ((((R.ext T0).rqs hp).1.len (P := Tryz.prog) (T := 65) (kt := 3) (el := 100) kr)) (L_i ((((W.pr p).reqs.map fun (k : Nat) => ((k : Int), ptr (G.B (.rq p k)))).length : Int)) (256) (.bool true) rfl rfl kr kr rfl (by simp at hb; simp; omega) (q5 (U7 kr (z1 1 kr (q5 ?_)))))))))
  refine j7 ?_
  refine rr ?_
  refine z0 (v := nv 9) (.inl rfl) kr ?_
  exact ⟨rfl, T0⟩
 | false =>
  refine j9 17 Tryz.f50 ?_
  have T0 : Sm Nix h h := .refl
  refine z1 1 kr (q5 (q7 (z1 3 kr (z9 _ rfl rfl kr ((R.ext T0).wdL.ld (o := 1) kr rfl) (L_g 1 kr ?_)))))
  obtain ⟨b1, o1, i1, l1⟩ := (R.ext T0).prsAt (P := Tryz.prog) (T := 61) (el := 64) kr kr kr hp
  refine Z8 _ rfl rfl kr kr (i1) (z9 _ rfl rfl kr (l1) (L_g 2 kr (z9 _ rfl rfl kr (((R.ext T0).prL hp).ld (o := 1) kr rfl) (V4 _ rfl rfl kr ((((R.ext T0).rqs hp).1.len (P := Tryz.prog) (T := 65) (kt := 3) (el := 100) kr)) (L_i ((((W.pr p).reqs.map fun (k : Nat) => ((k : Int), ptr (G.B (.rq p k)))).length : Int)) (256) (.bool false) rfl rfl kr kr rfl (by simp at hb; simp; omega) (q5 (Q2 kr (z6 (q7 (q6 (L_g 1 kr ?_)))))))))))
  refine q5 (j7 ?_)
  refine rr ?_
  refine z0 (v := nv 0) (.inl rfl) kr ?_
  exact ⟨rfl, T0⟩
theorem ug0 {h : AH} {x : Int} (h0 : 0 ≤ x) (h1 : x ≤ 4096) :
  Arm.Calls Tryz.prog 31 [nv x] h (fun r => r.1 = nv 0 /\ Sm Nix h r.2) := by
 refine j9 9 Tryz.f31 ?_
 have T0 : Sm Nix h h := .refl
 refine z1 1 kr (q5 (q7 (z1 1 kr (L_i (x) (0) (.bool false) rfl rfl kr kr rfl (by first | (simp; done) | (simp; omega)) (L_g 2 kr (u9 kr (L_i (x) (4096) (.bool false) rfl rfl kr kr rfl (by first | (simp; done) | (simp; omega)) ?_)))))))
 refine L_g 1 kr (q5 (Q2 kr (z6 (z1 1 kr (q5 (j7 ?_))))))
 refine rr ?_
 refine z0 (v := nv 0) (.inl rfl) kr ?_
 exact ⟨rfl, T0⟩
end
end Go.Proofs.YtjealfplbigphaaGreat
namespace Go.Arm
noncomputable section
open Go Go.X
theorem qv6 {α : Type} {l : List α} {pr : α -> Bool} {k : Nat} {x : α} (hf : l.findIdx? pr = ((l.drop k).findIdx? pr).map (· + k)) (hdr : l.drop k = x :: l.drop (k + 1)) (hfb : pr x = false) : l.findIdx? pr = ((l.drop (k + 1)).findIdx? pr).map (· + (k + 1)) := by
 rw [hf, hdr, List.findIdx?_cons, hfb]
 cases (l.drop (k + 1)).findIdx? pr with
 | none => rfl
 | some i => simp; omega
section
variable {P : Program} {h h' : AH} {b : Nat} {κ : Type} [DecidableEq κ] {kv : κ -> Value} {m : List (κ × Value)} {T kt el : TypeId} {z : Value}
theorem yy6 : ∀ (es : List (Value × Value × Nat)) (i q : Nat) (e : Value × Value × Nat), (es.map (·.2.2)).Nodup -> es[i]? = some e -> bornIdx es e.2.2 q = some (i + q)
 | [], i, q, e, _, h => by simp at h
 | x :: es, i, q, e, hn, h => by
  rw [List.map_cons, List.nodup_cons] at hn
  cases i with
  | zero =>
   simp at h; subst h
   unfold bornIdx
   simp
  | succ i =>
   have h : es[i]? = some e := by simpa using h
   have hne : ¬ x.2.2 = e.2.2 := fun h5 => hn.1 (by rw [h5]; exact List.mem_map.2 ⟨e, List.mem_of_getElem? h, rfl⟩)
   have ih := yy6 es i (q + 1) e hn.2 h
   unfold bornIdx
   rw [if_neg (by omega), ih]
   congr 1; omega
theorem xv3 : ∀ (es : List (Value × Value × Nat)) (i : Nat) (e : Value × Value × Nat) (k v : Value), es[i]? = some e -> (setV es i k v)[i]? = some (k, v, e.2.2)
 | [], i, e, k, v, h => by simp at h
 | x :: es, 0, e, k, v, h => by simp at h; subst h; rfl
 | x :: es, i + 1, e, k, v, h => xv3 es i e k v (by simpa using h)
theorem zw2 : ∀ (es : List (Value × Value × Nat)) (i : Nat) (k v w : Value), setV (setV es i k v) i k w = setV es i k w
 | [], i, k, v, w => by cases i <;> rfl
 | x :: es, 0, k, v, w => rfl
 | x :: es, i + 1, k, v, w => congrArg (x :: ·) (zw2 es i k v w)
theorem Mp.entry (hT : P.underlying T = some (.map kt el)) (hK : KeyK P kt kv) (hz : zeroOf P el = some z) (hm : Mp h b kv Eq m) (hb : Mb h b) (k : κ) :
   ∃ v st h1, aEntry P T (.map (some b)) (kv k) h = some (.tuple ⟨[v, .int .i64 st]⟩, h1) /\ v = (kget m k).getD z /\ Sm (fun x => x = b) h h1 /\ h1.next = h.next /\ Mp h1 b kv Eq (kset m k v) /\ Mb h1 b /\
     ∀ h2 w, h2.m.get b = h1.m.get b -> b < h2.next -> ∃ h3, aEStore T (.map (some b)) (.int .i64 st) w h2 = some h3 /\ Mp h3 b kv Eq (kset m k w) /\ Mb h3 b /\ Sm (fun x => x = b) h2 h3 /\ h3.next = h2.next := by
 obtain ⟨hl, es, cl, h1, h2⟩ := hm
 obtain ⟨es', cl', h3, h4, h5⟩ := hb
 rw [h1] at h3
 cases h3
 unfold aEntry
 simp only [hT, h1, hK.chk, if_true, zq1 hK h2]
 have got : ∀ (h : AH) es cl, (aSetMap h b es cl).m.get b = some (.map es cl false) := fun h es cl => by show (h.m.set b _).get b = _; rw [X.T.get_set, if_pos rfl]
 rcases h2.at k with ⟨a, c, d, _⟩ | ⟨i, e, x, a, c, d, g, j, p, _⟩
 . rw [a]
   dsimp only
   rw [hz]
   have hnd : ((es ++ [(kv k, z, cl)]).map (·.2.2)).Nodup := by
     rw [List.map_append, List.nodup_append]
     refine ⟨h4, by simp, fun x hx y hy => ?_⟩
     obtain ⟨e, he, rfl⟩ := List.mem_map.1 hx
     have := h5 e he
     simp only [List.map_cons, List.map_nil, List.mem_singleton] at hy
     omega
   refine ⟨z, cl, _, rfl, by rw [c]; rfl, qz8 _ _ _ _, rfl, qz9 hl (d z z cl rfl), ⟨_, _, got _ _ _, hnd, fun e he => by
     rcases List.mem_append.1 he with he | he
     . have := h5 e he; omega
     . cases List.mem_singleton.1 he; exact Nat.lt_succ_self _⟩, fun h6 w hg hlt => ?_⟩
   rw [got] at hg
   have hlen : (es ++ [(kv k, z, cl)])[es.length]? = some (kv k, z, cl) := by simp
   have hbi := yy6 _ es.length 0 _ hnd hlen
   unfold aEStore
   simp only [hg]
   rw [show bornIdx (es ++ [(kv k, z, cl)]) (cl : Nat) 0 = some es.length from by simpa using hbi]
   dsimp only
   rw [hlen]
   dsimp only
   have hset : setV (es ++ [(kv k, z, cl)]) es.length (kv k) w = es ++ [(kv k, w, cl)] := by
     clear hbi hlen hnd got hg d h2 a h1 h4 h5
     induction es with
     | nil => rfl
     | cons e es ih => simp only [List.cons_append, List.length_cons]; unfold setV; rw [ih]
   refine ⟨_, rfl, qz9 hlt (by rw [hset]; exact d w w cl rfl), ⟨_, _, got _ _ _, by rw [F5]; exact hnd, fun e he => ?_⟩, qz8 _ _ _ _, rfl⟩
   rw [hset] at he
   rcases List.mem_append.1 he with he | he
   . have := h5 e he; omega
   . cases List.mem_singleton.1 he; exact Nat.lt_succ_self _
 . rw [a]
   dsimp only
   rw [c]
   dsimp only
   rw [d, if_pos (hK.stay k)]
   have hnd : ((setV es i (kv k) e.2.1).map (·.2.2)).Nodup := by rw [F5]; exact h4
   have hat : (setV es i (kv k) e.2.1)[i]? = some (kv k, e.2.1, e.2.2) := xv3 es i e _ _ c
   refine ⟨e.2.1, e.2.2, _, rfl, by rw [j, g]; rfl, qz8 _ _ _ _, rfl, qz9 hl (p e.2.1 e.2.1 rfl), ⟨_, _, got _ _ _, hnd, fun e' he => by
     have : e'.2.2 ∈ (setV es i (kv k) e.2.1).map (·.2.2) := List.mem_map.2 ⟨e', he, rfl⟩
     rw [F5] at this
     obtain ⟨e2, he2, h7⟩ := List.mem_map.1 this
     rw [<- h7]; exact h5 e2 he2⟩, fun h6 w hg hlt => ?_⟩
   rw [got] at hg
   have hbi := yy6 _ i 0 _ hnd hat
   unfold aEStore
   simp only [hg]
   rw [show bornIdx (setV es i (kv k) e.2.1) (e.2.2 : Nat) 0 = some i from by simpa using hbi]
   dsimp only
   rw [hat]
   dsimp only
   have hset : setV (setV es i (kv k) e.2.1) i (kv k) w = setV es i (kv k) w := zw2 es i _ _ _
   refine ⟨_, rfl, qz9 hlt (by rw [hset]; exact p w w rfl), ⟨_, _, got _ _ _, by rw [hset, F5]; exact h4, fun e' he => ?_⟩, qz8 _ _ _ _, rfl⟩
   rw [hset] at he
   have : e'.2.2 ∈ (setV es i (kv k) w).map (·.2.2) := List.mem_map.2 ⟨e', he, rfl⟩
   rw [F5] at this
   obtain ⟨e2, he2, h7⟩ := List.mem_map.1 this
   rw [<- h7]; exact h5 e2 he2
theorem Mb.delete {k : Value} (H : Mb h b) (hu : aDelete P T (.map (some b)) k h = some h') : Mb h' b := by
 obtain ⟨es, cl, h1, h2, h3⟩ := H
 have got : ∀ es cl, (aSetMap h b es cl).m.get b = some (.map es cl false) := fun es cl => by show (h.m.set b _).get b = _; rw [X.T.get_set, if_pos rfl]
 unfold aDelete at hu
 split at hu
 . rename_i hu2 _
   rename_i hb
   cases hb
   rw [h1] at hu
   dsimp only at hu
   split at hu
   . split at hu
     . cases hu
       refine ⟨_, _, got _ _, ?_, fun e he => h3 e (List.mem_of_mem_eraseIdx he)⟩
       exact (h2.sublist ((List.eraseIdx_sublist es _).map _))
     . cases hu
       exact ⟨_, _, got _ _, h2, h3⟩
     . cases hu
   . cases hu
 . cases hu
end
section
variable {P : Program} [Kn P] {n : Nat} {h h' : AH} {Q : Post} {f : Fr} {ops : Array Oper} {rest : List Oper} {o : Oper} {v : Value}
theorem L_me {T : TypeId} {m k : Operand} {a b : Value} (v : Value) (h' : AH) (ho : o.op = .mapEntry T m k) (hs : okO n o = true) (ha : ev n f m = some a) (hb : ev n f k = some b) (hv : aEntry P T a b h = some (v, h'))
  (k : L P n ops Q rest (updO f o.dst v) h') : L P n ops Q (o :: rest) f h :=
 L_dov (Z6 hs).1 (Z6 hs).2 (by rw [ho]; rfl) (by rw [ho]; simp only [evAct, ha, hb, hv]; rfl) k
theorem L_es {T : TypeId} {m s x : Operand} {a b c : Value} (h' : AH) (ho : o.op = .entryStore T m s x) (hs : okO n o = true) (hd : o.dst = none) (ha : ev n f m = some a) (hb : ev n f s = some b) (hc : ev n f x = some c) (hv : aEStore T a b c h = some h')
  (k : L P n ops Q rest f h') : L P n ops Q (o :: rest) f h :=
 L_do (Z6 hs).1 hd (by rw [ho]; rfl) (by rw [ho]; simp only [evAct, ha, hb, hc, hv]; rfl) k
end
end
end Go.Arm
namespace Go.Proofs.YtjealfplbigphaaGreat
noncomputable section
open Go Go.X Go.Arm Go.Mt
theorem qu3 {h : AH} {s : Value} {d : List Value} (H : Rb h s d) (h1 : ∀ x, x ∈ d -> x.oneCell' = true) (hl : d.length < big) :
  Arm.Calls Tryz.prog 38 [s] h (fun r => Rb r.2 r.1 d /\ Cut r.2 r.1 d.length /\ Sm Nix h r.2 /\ (∀ b, vb r.1 = some b -> h.next ≤ b /\ b < r.2.next) /\ ((∃ a n c, s = .slice (some a) n c) -> ∃ a n c, r.1 = .slice (some a) n c)) := by
 refine j9 8 Tryz.f38 ?_
 have H' := H
 have hl : d.length < 1000000000 := hl
 obtain ⟨a, c, rfl⟩ := H.form
 cases a with
 | none =>
  have hn : d = [] := by
   rcases H with ⟨h0, _⟩ | ⟨b, o, c, h0, h1, e, _⟩
   . exact h0
   . cases e
  subst hn
  have T0 : Sm Nix h h := .refl
  refine z1 1 kr (q5 (q7 (z1 2 kr (q5 (U7 kr (q7 (q6 ?_)))))))
  refine L_g 1 kr (q5 (j7 ?_))
  refine rr ?_
  refine z0 (v := .slice none 0 0) (.inl rfl) kr ?_
  exact ⟨Rb.nil, .inl rfl, T0, (fun b hb => by cases hb), fun ⟨a, n, c, e⟩ => by cases e⟩
 | some q =>
  have T0 : Sm Nix h h := .refl
  refine z1 1 kr (q5 (q7 (z1 2 kr (q5 (Q2 kr (z6 (q7 ?_)))))))
  refine q6 (Q1 [] (.sl 0 0) rfl rfl kr fun h4 c4 t4 n4 => ?_)
  have T4 := T0.ext t4
  have N4 := T4.nx
  refine L_g 1 kr ?_
  obtain ⟨v5, h5, e5, r5, k5, t5, f5, s5, n5⟩ := ju3 (P := Tryz.prog) (sT := 23) (xT := 23) (el := 5) (by_ := 1) (z := .int .u8 0) (a := ⟨h.next, 0, none⟩) kr kr kr kr kr rfl kr (H'.ext T4) h1 (by omega) c4.lt
  refine V9 v5 h5 rfl rfl kr (vs := [Value.slice (some ⟨h.next, 0, none⟩) 0 0, Value.slice (some q) d.length c]) kr (J7 e5) ?_
  have T5 := T4.ext t5
  have N5 := T5.nx
  refine L_g 1 kr (q5 (j7 ?_))
  refine rr ?_
  have hfr : ∀ b, vb v5 = some b -> h.next ≤ b := fun b hb => by
   have := (T5).nx
   rcases f5 b hb with e | e
   . rw [e]; exact Nat.le_refl _
   . omega
  refine z0 (v := v5) (.inl rfl) kr ?_
  exact ⟨r5, k5, T5, fun b hb => ⟨hfr b hb, n5 b hb⟩, fun _ => s5⟩
theorem uu3 {h : AH} {s : Value} {n : Nat} {cs : List Value} (H : Sd h 6 s n cs) (h1 : ∀ x, x ∈ cs -> x.oneCell' = true) (hl : n < big) :
  Arm.Calls Tryz.prog 98 [s] h (fun r => Gr r.2 6 r.1 n cs /\ Sm Nix h r.2 /\ ∀ b, vb r.1 = some b -> h.next ≤ b) := by
 refine j9 8 Tryz.f98 ?_
 have H' := H
 have hl : n < 1000000000 := hl
 obtain ⟨a, c, rfl⟩ := H.form
 cases a with
 | none =>
  have hn : n = 0 /\ cs = [] := by
   rcases H.2 with ⟨h0, _⟩ | ⟨b, o, c, cc, nn, op, ro, h0, h1, e, _⟩
   . exact ⟨h0, List.length_eq_zero_iff.1 (by rw [H.1, h0, Nat.zero_mul])⟩
   . cases e
  obtain ⟨rfl, rfl⟩ := hn
  have T0 : Sm Nix h h := .refl
  refine z1 1 kr (q5 (q7 (z1 2 kr (q5 (U7 kr (q7 (q6 ?_)))))))
  refine L_g 1 kr (q5 (j7 ?_))
  refine rr ?_
  refine z0 (v := .slice none 0 0) (.inl rfl) kr ?_
  exact ⟨Gr.nil, T0, fun b hb => by cases hb⟩
 | some q =>
  have T0 : Sm Nix h h := .refl
  refine z1 1 kr (q5 (q7 (z1 2 kr (q5 (Q2 kr (z6 (q7 ?_)))))))
  refine q6 (Q1 [] (.sl 0 0) rfl rfl kr fun h6 c6 t6 n6 => ?_)
  have T6 := T0.ext t6
  have N6 := T6.nx
  refine L_g 1 kr ?_
  have g0 : Gr h6 6 (Value.slice (some ⟨h.next, 0, none⟩) 0 0) 0 [] := ⟨by simp, .inl ⟨rfl, .inr ⟨_, rfl, c6.lt⟩⟩⟩
  obtain ⟨v7, h7, e7, g7, t7, f7⟩ := g0.append (P := Tryz.prog) (sT := 70) (xT := 70) (el := 160) (by_ := 56) (z := (.agg ⟨[.int .i64 0, .int .i64 0, .int .i64 0, .int .i64 0, .int .i64 0, .nilIface]⟩)) (m := n) (ds := cs) kr kr kr kr kr rfl (by decide) (H'.ext T6) h1 (by omega)
  rw [Nat.zero_add, List.nil_append] at g7
  refine V9 v7 h7 rfl rfl kr (vs := [Value.slice (some ⟨h.next, 0, none⟩) 0 0, Value.slice (some q) n c]) kr (J7 e7) ?_
  replace c6 := c6.lt
  have T7 : Sm Nix h h7 := T6.trans t7 (fun x hx => .inr (by cases hx; exact Nat.le_refl _))
  have N7 := T7.nx
  refine L_g 1 kr (q5 (j7 ?_))
  refine rr ?_
  refine z0 (v := v7) (.inl rfl) kr ?_
  exact ⟨g7, T7, fun b hb => by
   rcases f7 b hb with e | e
   . cases e; exact Nat.le_refl _
   . have := (T7).nx; omega⟩
theorem uu2 {h : AH} {s : Value} {n : Nat} {cs : List Value} (H : Sd h 1 s n cs) (h1 : ∀ x, x ∈ cs -> x.oneCell' = true) (hl : n < big) :
  Arm.Calls Tryz.prog 129 [s] h (fun r => Gr r.2 1 r.1 n cs /\ Sm Nix h r.2 /\ ∀ b, vb r.1 = some b -> h.next ≤ b) := by
 refine j9 8 Tryz.f129 ?_
 have H' := H
 have hl : n < 1000000000 := hl
 obtain ⟨a, c, rfl⟩ := H.form
 cases a with
 | none =>
  have hn : n = 0 /\ cs = [] := by
   rcases H.2 with ⟨h0, _⟩ | ⟨b, o, c, cc, nn, op, ro, h0, h1, e, _⟩
   . exact ⟨h0, List.length_eq_zero_iff.1 (by rw [H.1, h0, Nat.zero_mul])⟩
   . cases e
  obtain ⟨rfl, rfl⟩ := hn
  have T0 : Sm Nix h h := .refl
  refine z1 1 kr (q5 (q7 (z1 2 kr (q5 (U7 kr (q7 (q6 ?_)))))))
  refine L_g 1 kr (q5 (j7 ?_))
  refine rr ?_
  refine z0 (v := .slice none 0 0) (.inl rfl) kr ?_
  exact ⟨Gr.nil, T0, fun b hb => by cases hb⟩
 | some q =>
  have T0 : Sm Nix h h := .refl
  refine z1 1 kr (q5 (q7 (z1 2 kr (q5 (Q2 kr (z6 (q7 ?_)))))))
  refine q6 (Q1 [] (.sl 0 0) rfl rfl kr fun h8 c8 t8 n8 => ?_)
  have T8 := T0.ext t8
  have N8 := T8.nx
  refine L_g 1 kr ?_
  have g0 : Gr h8 1 (Value.slice (some ⟨h.next, 0, none⟩) 0 0) 0 [] := ⟨by simp, .inl ⟨rfl, .inr ⟨_, rfl, c8.lt⟩⟩⟩
  obtain ⟨v9, h9, e9, g9, t9, f9⟩ := g0.append (P := Tryz.prog) (sT := 73) (xT := 73) (el := 100) (by_ := 8) (z := .pointer none) (m := n) (ds := cs) kr kr kr kr kr rfl (by decide) (H'.ext T8) h1 (by omega)
  rw [Nat.zero_add, List.nil_append] at g9
  refine V9 v9 h9 rfl rfl kr (vs := [Value.slice (some ⟨h.next, 0, none⟩) 0 0, Value.slice (some q) n c]) kr (J7 e9) ?_
  replace c8 := c8.lt
  have T9 : Sm Nix h h9 := T8.trans t9 (fun x hx => .inr (by cases hx; exact Nat.le_refl _))
  have N9 := T9.nx
  refine L_g 1 kr (q5 (j7 ?_))
  refine rr ?_
  refine z0 (v := v9) (.inl rfl) kr ?_
  exact ⟨g9, T9, fun b hb => by
   rcases f9 b hb with e | e
   . cases e; exact Nat.le_refl _
   . have := (T9).nx; omega⟩
theorem uy9 {h : AH} {s cap : Value} {g : FuncId} {cs : List Value} {α : Type} {l : List α} {pr : α -> Bool} (H : Sd h 6 s l.length cs) (hl : l.length < big) (hg : ∀ vs h, aCallX Tryz.prog g vs h = some [(.enter g vs, h)])
  (hc : ∀ (i : Nat) x, l[i]? = some x -> ∃ c, c.length = 6 /\ (∀ j, j < 6 -> cs[i * 6 + j]? = c[j]?) /\ ∀ h', Sm Nix h h' -> Arm.Calls Tryz.prog g [(.agg ⟨c⟩), cap] h' (fun r => r.1 = .bool (pr x) /\ Sm Nix h' r.2)) :
  Arm.Calls Tryz.prog 96 [s, .func (.func g) ⟨[]⟩ ⟨[cap]⟩] h (fun r => r.1 = nv (match l.findIdx? pr with | some i => (i : Int) | none => -1) /\ Sm Nix h r.2) := by
 have hl : l.length < 1000000000 := hl
 refine j9 19 Tryz.f96 ?_
 have T0 : Sm Nix h h := .refl
 refine z1 1 kr (q5 (q7 (z1 1 kr (V4 _ rfl rfl kr ((H.ext T0).len (T := 70) (el := 160) kr) (L_g 1 kr (q5 (u3 ?_)))))))
 refine J5 (fun mm fr hh => ∃ (k : Nat), (k ≤ l.length) /\ (l.findIdx? pr = ((l.drop k).findIdx? pr).map (· + k)) /\ mm = l.length - k /\ fr 0 = s /\ fr 1 = .func (.func g) ⟨[]⟩ ⟨[cap]⟩ /\ fr 7 = nv (l.length : Int) /\ fr 8 = nv (k : Int) /\ Sm Nix h hh) (l.length) ?_ ?_
 ·
  exact ⟨0, Nat.zero_le _, by simp, rfl, kr, kr, kr, kr, T0⟩
 rintro mm10 fr10 h10 ⟨k, hk, hf, hm10, y10_0, y10_1, y10_7, y10_8, T10⟩
 have N10 := T10.nx
 refine j8 (k := 0) y10_0 (j8 (k := 1) y10_1 (j8 (k := 7) y10_7 (j8 (k := 8) y10_8 (z1 1 kr (q5 (q7 ?_))))))
 refine Q0 (decide ((k : Int) < (l.length : Nat))) kr (fun hb => ?_) (fun hb => ?_)
 ·
  have hlt : k < l.length := by simp at hb; omega
  obtain ⟨x, hx⟩ : ∃ x, l[k]? = some x := ⟨_, List.getElem?_eq_getElem hlt⟩
  have hdr : l.drop k = x :: l.drop (k + 1) := by rw [List.drop_eq_getElem_cons hlt]; congr 1; exact (List.getElem?_eq_some_iff.1 hx).2
  obtain ⟨c, hcl, hcc, hcall⟩ := hc k x hx
  obtain ⟨b9, o9, _, i9, l9⟩ := (H.ext T10).at (P := Tryz.prog) (T := 70) (el := 160) kr kr hlt .i64
  refine z6 (q7 (u3 (z1 2 kr (q5 (z1 3 kr (Z8 _ rfl rfl kr kr (i9) (z9 _ rfl rfl kr (zk6 (l := c) (by rw [hcl]; kernel_rfl) (fun j hj => by rw [l9 j (by omega)]; exact hcc j (by omega))) ?_)))))))
  refine L_c rfl rfl (Eq.trans (b := aCallX Tryz.prog g [(.agg ⟨c⟩), cap] h10) kr (hg _ _)) (hcall _ T10) ?_
  rintro v11 h11 ⟨e11, t11⟩
  try dsimp only at e11 t11
  subst e11
  have T11 := T10.ext t11
  have N11 := T11.nx
  have M11 := t11.nx
  refine q5 ?_
  refine Q0 (pr x) kr (fun hb => ?_) (fun hb => ?_)
  ·
   have hres : nv (match l.findIdx? pr with | some i => (i : Int) | none => -1) = nv (k : Int) := by rw [hf, hdr, List.findIdx?_cons, hb]; simp
   rw [hres]
   refine z1 2 kr (q5 (j7 ?_))
   refine rr ?_
   refine z0 (v := nv (k : Int)) (.inl rfl) kr ?_
   exact ⟨rfl, T11⟩
  ·
   have hfb : pr x = false := hb
   refine z6 (q6 (L_i ((k : Int)) (1) (nv ((k + 1 : Nat) : Int)) rfl rfl kr kr rfl (Z4 (by omega)) (L_g 1 kr (q5 ?_))))
   exact ⟨l.length - (k + 1), by omega, k + 1, by omega, qv6 hf hdr hfb, rfl, kr, kr, kr, kr, T11⟩
 ·
  have hge : k = l.length := by simp at hb; omega
  have hres : nv (match l.findIdx? pr with | some i => (i : Int) | none => -1) = nv (-1) := by rw [hf, hge]; simp
  rw [hres]
  refine J8 ?_
  refine rx ?_
  refine Q7 (z1 1 kr (q5 (j7 ?_)))
  refine rr ?_
  refine z0 (v := nv (-1)) (.inl rfl) kr ?_
  exact ⟨rfl, T10⟩
theorem uy8 {h : AH} {s cap : Value} {g : FuncId} {cs : List Value} {α : Type} {l : List α} {pr : α -> Bool} (H : Sd h 1 s l.length cs) (hl : l.length < big) (hg : ∀ vs h, aCallX Tryz.prog g vs h = some [(.enter g vs, h)])
  (hc : ∀ (i : Nat) x, l[i]? = some x -> ∃ v, cs[i]? = some v /\ ∀ h', Sm Nix h h' -> Arm.Calls Tryz.prog g [v, cap] h' (fun r => r.1 = .bool (pr x) /\ Sm Nix h' r.2)) :
  Arm.Calls Tryz.prog 127 [s, .func (.func g) ⟨[]⟩ ⟨[cap]⟩] h (fun r => r.1 = nv (match l.findIdx? pr with | some i => (i : Int) | none => -1) /\ Sm Nix h r.2) := by
 have hl : l.length < 1000000000 := hl
 refine j9 19 Tryz.f127 ?_
 have T0 : Sm Nix h h := .refl
 refine z1 1 kr (q5 (q7 (z1 1 kr (V4 _ rfl rfl kr ((H.ext T0).len (T := 73) (el := 100) kr) (L_g 1 kr (q5 (u3 ?_)))))))
 refine J5 (fun mm fr hh => ∃ (k : Nat), (k ≤ l.length) /\ (l.findIdx? pr = ((l.drop k).findIdx? pr).map (· + k)) /\ mm = l.length - k /\ fr 0 = s /\ fr 1 = .func (.func g) ⟨[]⟩ ⟨[cap]⟩ /\ fr 7 = nv (l.length : Int) /\ fr 8 = nv (k : Int) /\ Sm Nix h hh) (l.length) ?_ ?_
 ·
  exact ⟨0, Nat.zero_le _, by simp, rfl, kr, kr, kr, kr, T0⟩
 rintro mm12 fr12 h12 ⟨k, hk, hf, hm12, y12_0, y12_1, y12_7, y12_8, T12⟩
 have N12 := T12.nx
 refine j8 (k := 0) y12_0 (j8 (k := 1) y12_1 (j8 (k := 7) y12_7 (j8 (k := 8) y12_8 (z1 1 kr (q5 (q7 ?_))))))
 refine Q0 (decide ((k : Int) < (l.length : Nat))) kr (fun hb => ?_) (fun hb => ?_)
 ·
  have hlt : k < l.length := by simp at hb; omega
  obtain ⟨x, hx⟩ : ∃ x, l[k]? = some x := ⟨_, List.getElem?_eq_getElem hlt⟩
  have hdr : l.drop k = x :: l.drop (k + 1) := by rw [List.drop_eq_getElem_cons hlt]; congr 1; exact (List.getElem?_eq_some_iff.1 hx).2
  obtain ⟨v, hv, hcall⟩ := hc k x hx
  obtain ⟨b9, o9, _, i9, l9⟩ := (H.ext T12).at (P := Tryz.prog) (T := 73) (el := 100) kr kr hlt .i64
  refine z6 (q7 (u3 (z1 2 kr (q5 (z1 3 kr (Z8 _ rfl rfl kr kr (i9) (z9 _ rfl rfl kr (K5 kr (by have := l9 0 (by decide); rw [Nat.add_zero, Nat.mul_one, Nat.add_zero] at this; rw [this]; exact hv)) ?_)))))))
  refine L_c rfl rfl (Eq.trans (b := aCallX Tryz.prog g [v, cap] h12) kr (hg _ _)) (hcall _ T12) ?_
  rintro v13 h13 ⟨e13, t13⟩
  try dsimp only at e13 t13
  subst e13
  have T13 := T12.ext t13
  have N13 := T13.nx
  have M13 := t13.nx
  refine q5 ?_
  refine Q0 (pr x) kr (fun hb => ?_) (fun hb => ?_)
  ·
   have hres : nv (match l.findIdx? pr with | some i => (i : Int) | none => -1) = nv (k : Int) := by rw [hf, hdr, List.findIdx?_cons, hb]; simp
   rw [hres]
   refine z1 2 kr (q5 (j7 ?_))
   refine rr ?_
   refine z0 (v := nv (k : Int)) (.inl rfl) kr ?_
   exact ⟨rfl, T13⟩
  ·
   have hfb : pr x = false := hb
   refine z6 (q6 (L_i ((k : Int)) (1) (nv ((k + 1 : Nat) : Int)) rfl rfl kr kr rfl (Z4 (by omega)) (L_g 1 kr (q5 ?_))))
   exact ⟨l.length - (k + 1), by omega, k + 1, by omega, qv6 hf hdr hfb, rfl, kr, kr, kr, kr, T13⟩
 ·
  have hge : k = l.length := by simp at hb; omega
  have hres : nv (match l.findIdx? pr with | some i => (i : Int) | none => -1) = nv (-1) := by rw [hf, hge]; simp
  rw [hres]
  refine J8 ?_
  refine rx ?_
  refine Q7 (z1 1 kr (q5 (j7 ?_)))
  refine rr ?_
  refine z0 (v := nv (-1)) (.inl rfl) kr ?_
  exact ⟨rfl, T12⟩
end
end Go.Proofs.YtjealfplbigphaaGreat
namespace Go.Arm
noncomputable section
open Go Go.X
section
variable {P : Program} {h h' : AH} {k n i b o nn : Nat} {cs : List Value} {T xT el : TypeId} {cc : X.T Value}
theorem qx8 (i d : Nat) : bnd (some (.int .i64 (i : Nat))) d = some i := by unfold bnd; simp
theorem cut1 (hT : P.underlying T = some (.slice el)) (hk : szOf P el = some k) (hb : h.m.get b = some (.cells cc nn k false)) (hn : o + n * k ≤ nn) (hi : i < n) (hl : n < u7) :
  ∃ v, aSl P T (.slice (some ⟨b, o, none⟩) n u7) (some (.int .i64 (i : Nat))) (some (.int .i64 ((i + 1 : Nat) : Int))) (some (.int .i64 (n : Nat))) h = some v := by
 have e0 : X.opOf h b = some (nn, k) := by unfold X.opOf; rw [hb]
 have : ∃ v, aSlice P T (.slice (some ⟨b, o, none⟩) n u7) (some (.int .i64 (i : Nat))) (some (.int .i64 ((i + 1 : Nat) : Int))) (some (.int .i64 (n : Nat))) h = some v := by
  unfold aSlice
  rw [if_pos (show mxOk _ _ = true from rfl)]
  simp only [hT, hk, if_true]
  have e1 : bnd (some (.int .i64 (n : Nat))) 0 = some n := qx8 _ _
  have e2 : bnd (some (.int .i64 ((i + 1 : Nat) : Int))) n = some (i + 1) := qx8 _ _
  have e3 : bnd (some (.int .i64 (i : Nat))) 0 = some i := qx8 _ _
  simp only [e1, e2, e3, e0]
  rw [if_pos ⟨by omega, by omega, trivial, hn, hl⟩]
  exact ⟨_, rfl⟩
 obtain ⟨v, e⟩ := this
 exact ⟨v, by unfold aSl; rw [e]⟩
theorem cut2 (hT : P.underlying T = some (.slice el)) (hk : szOf P el = some k) (hb : h.m.get b = some (.cells cc nn k false)) (hi : i ≤ n) :
  aSl P T (.slice (some ⟨b, o, none⟩) n u7) none (some (.int .i64 (i : Nat))) none h = some (.slice (some ⟨b, o, none⟩) i u7) := by
 have e0 : X.opOf h b = some (nn, k) := by unfold X.opOf; rw [hb]
 have : aSlice P T (.slice (some ⟨b, o, none⟩) n u7) none (some (.int .i64 (i : Nat))) none h = some (.slice (some ⟨b, o, none⟩) i u7) := by
  unfold aSlice
  rw [if_pos (show mxOk _ _ = true from rfl)]
  simp only [hT, hk, if_true]
  have e2 : bnd (some (.int .i64 (i : Nat))) n = some i := qx8 _ _
  have e3 : bnd none 0 = some 0 := rfl
  simp only [e2, e3, e0]
  rw [if_pos ⟨by omega, trivial, .inl hi⟩]
  simp
 unfold aSl; rw [this]
theorem cut3 (hT : P.underlying T = some (.slice el)) (hk : szOf P el = some k) (hb : h.m.get b = some (.cells cc nn k false)) (hi : i ≤ n) :
  aSl P T (.slice (some ⟨b, o, none⟩) n u7) (some (.int .i64 (i : Nat))) none none h = some (.slice (some ⟨b, o + i * k, none⟩) (n - i) u7) := by
 have e0 : X.opOf h b = some (nn, k) := by unfold X.opOf; rw [hb]
 have : aSlice P T (.slice (some ⟨b, o, none⟩) n u7) (some (.int .i64 (i : Nat))) none none h = some (.slice (some ⟨b, o + i * k, none⟩) (n - i) u7) := by
  unfold aSlice
  rw [if_pos (show mxOk _ _ = true from rfl)]
  simp only [hT, hk, if_true]
  have e2 : bnd none n = some n := rfl
  have e3 : bnd (some (.int .i64 (i : Nat))) 0 = some i := qx8 _ _
  simp only [e2, e3, e0]
  rw [if_pos ⟨hi, trivial, .inl (Nat.le_refl _)⟩]
 unfold aSl; rw [this]
theorem cut4 (hT : P.underlying T = some (.slice el)) (hk : szOf P el = some k) (hb : h.m.get b = some (.cells cc nn k false)) (hn : o + (n + 1) * k ≤ nn) :
  aSl P T (.slice (some ⟨b, o, none⟩) n u7) (some (.int .i64 (n : Nat))) (some (.int .i64 ((n + 1 : Nat) : Int))) none h = some (.slice (some ⟨b, o + n * k, none⟩) 1 u7) := by
 have e0 : X.opOf h b = some (nn, k) := by unfold X.opOf; rw [hb]
 have : aSlice P T (.slice (some ⟨b, o, none⟩) n u7) (some (.int .i64 (n : Nat))) (some (.int .i64 ((n + 1 : Nat) : Int))) none h = some (.slice (some ⟨b, o + n * k, none⟩) 1 u7) := by
  unfold aSlice
  rw [if_pos (show mxOk _ _ = true from rfl)]
  simp only [hT, hk, if_true]
  have e2 : bnd (some (.int .i64 ((n + 1 : Nat) : Int))) n = some (n + 1) := qx8 _ _
  have e3 : bnd (some (.int .i64 (n : Nat))) 0 = some n := qx8 _ _
  simp only [e2, e3, e0]
  rw [if_pos ⟨by omega, trivial, .inr hn⟩]
  simp
 unfold aSl; rw [this]
theorem yg1 {x : Value} (e : aClear P T x h = some h') : aBuiltin P .clear [T] [x] h = some [(.val (.tuple ⟨[]⟩), h')] := by
 show oun (aClear P T x h) = _
 rw [e]; rfl
theorem Gr.del {by_ : Nat} {z : Value} (hT : P.underlying T = some (.slice el)) (hx : newsK P xT = .list) (hk : szOf P el = some k) (hby : byOf P el = some by_) (hz : zeroOf P el = some z) (hzl : (cellsL z).length = k) (hzo : ∀ x, x ∈ cellsL z -> x.oneCell' = true) (hu8 : isU8 P el = none) (hlim : n * (by_ + 1) < 1099511627776)
   (h1 : ∀ x, x ∈ cs -> x.oneCell' = true) (hk0 : 0 < k) (hb : h.m.get b = some (.cells cc nn k false)) (hlt : b < h.next) (hcl : cs.length = n * k) (hn : o + n * k ≤ nn) (hc : ∀ j, j < cs.length -> cc.get (o + j) = cs[j]?) (hi : i < n) :
   ∃ h1 h2, aAppend P T xT (.slice (some ⟨b, o, none⟩) i u7) (.slice (some ⟨b, o + (i + 1) * k, none⟩) (n - (i + 1)) u7) h = some (.slice (some ⟨b, o, none⟩) (n - 1) u7, h1) /\
     (∃ c1, h1.m.get b = some (.cells c1 nn k false)) /\ Sm (fun x => x = b) h h1 /\ aClear P T (.slice (some ⟨b, o + (n - 1) * k, none⟩) 1 u7) h1 = some h2 /\ Gr h2 k (.slice (some ⟨b, o, none⟩) (n - 1) u7) (n - 1) (cs.take (i * k) ++ cs.drop (i * k + k)) /\ Sm (fun x => x = b) h1 h2 := by
 have hmul : (i + 1) * k = i * k + k := Nat.succ_mul i k
 have hle : (i + 1) * k ≤ n * k := Nat.mul_le_mul_right _ hi
 have hnk : (n - (i + 1)) * k = n * k - (i * k + k) := by rw [Nat.mul_sub_right_distrib, hmul]
 have hn1 : (n - 1) * k = n * k - k := by rw [Nat.mul_sub_right_distrib, Nat.one_mul]
 have hdl : (cs.drop (i * k + k)).length = (n - (i + 1)) * k := by rw [List.length_drop, hcl, hnk]
 have hf : aFirst k (n - (i + 1)) (.slice (some ⟨b, o + (i + 1) * k, none⟩) (n - (i + 1)) u7) h = some (cs.drop (i * k + k)) := by
   unfold aFirst
   dsimp only
   by_cases h0 : n - (i + 1) = 0
   . rw [if_pos h0]
     have : cs.drop (i * k + k) = [] := List.length_eq_zero_iff.1 (by rw [hdl, h0, Nat.zero_mul])
     rw [this]
   . rw [if_neg h0, if_neg (fun e => e.elim qq2 h0)]
     refine zq0 hb ((n - (i + 1)) * k) 0 _ hdl (by rw [hnk, hmul]; omega) (fun j hj => ?_)
     rw [List.getElem?_drop, Nat.add_zero, hmul, show o + (i * k + k) + j = o + (i * k + k + j) by omega]
     rw [hnk] at hj
     exact hc _ (by omega)
 obtain ⟨h1', cc', a1, a2, a3, a4, a5⟩ := qw9 (o := o) (cs.drop (i * k + k)) (i * k) hb (by rw [hdl, hnk]; omega) (fun v hv => h1 v (List.mem_of_mem_drop hv))
 obtain ⟨h2', cc2, b1, b2, b3, b4, b5⟩ := qw9 (o := o + (n - 1) * k) (cellsL z) 0 a2 (by rw [hzl, hn1]; omega) hzo
 refine ⟨h1', h2', ?_, ⟨_, a2⟩, ⟨by omega, fun x _ hx => a5 x hx⟩, ?_, ⟨?_, .inr ⟨b, o, cc2, nn, rfl, by omega, b2, hk0, by rw [hn1]; omega, fun j hj => ?_⟩⟩, ⟨by omega, fun x _ hx => b5 x hx⟩⟩
 . unfold aAppend
   simp only [hT, hk, hby, hz]
   unfold aNews
   have hlen : X.lenV (.slice (some ⟨b, o + (i + 1) * k, none⟩) (n - (i + 1)) u7) = some (n - (i + 1)) := rfl
   have hl0 : X.lenV (.slice (some ⟨b, o, none⟩) i u7) = some i := rfl
   simp only [hx, hlen, hf, hl0]
   rw [if_pos ⟨hzl, hdl, by rw [List.all_eq_true]; exact fun v hv => h1 v (List.mem_of_mem_drop hv), by rw [show i + (n - (i + 1)) = n - 1 by omega]; exact Nat.lt_of_le_of_lt (Nat.mul_le_mul_right _ (by omega)) hlim⟩, hu8]
   unfold aAppendTo
   dsimp only
   rw [if_pos rfl]
   have e0 : X.opOf h b = some (nn, k) := by unfold X.opOf; rw [hb]
   simp only [e0, if_true]
   rw [show i + (n - (i + 1)) = n - 1 by omega, if_pos (by rw [hn1]; omega), a1]
 . unfold aClear
   simp only [hT, hz]
   rw [if_neg (by decide), if_neg qq2]
   have : zrep 1 (cellsL z) = cellsL z := by simp [zrep]
   rw [this]; exact b1
 . rw [List.length_append, List.length_take, hdl, hcl, hnk, hn1, Nat.min_eq_left (by omega)]; omega
 . rw [List.length_append, List.length_take, hdl, hcl, hnk, Nat.min_eq_left (by omega)] at hj
   rw [b3, if_neg (by rw [hn1]; omega), a3]
   by_cases hj2 : j < i * k
   . rw [if_neg (by omega), List.getElem?_append_left (by rw [List.length_take]; omega), List.getElem?_take, if_pos hj2]
     exact hc j (by omega)
   . rw [if_pos (by rw [hdl, hnk]; omega), List.getElem?_append_right (by rw [List.length_take]; omega), List.length_take, hcl, Nat.min_eq_left (by omega)]
     congr 1; omega
end
end
end Go.Arm
namespace Go.Proofs.YtjealfplbigphaaGreat
noncomputable section
open Go Go.X Go.Arm Go.Mt
theorem del_ms {h : AH} {b o nn n i : Nat} {cc : X.T Value} {cs : List Value} (hb : h.m.get b = some (.cells cc nn 6 false)) (hlt : b < h.next) (hcl : cs.length = n * 6) (hn : o + n * 6 ≤ nn) (hc : ∀ j, j < cs.length -> cc.get (o + j) = cs[j]?) (h1 : ∀ x, x ∈ cs -> x.oneCell' = true) (hi : i < n) (hl : n < big) :
  Arm.Calls Tryz.prog 97 [.slice (some ⟨b, o, none⟩) n u7, nv (i : Int), nv ((i + 1 : Nat) : Int)] h (fun r => r.1 = .slice (some ⟨b, o, none⟩) (n - 1) u7 /\ Gr r.2 6 r.1 (n - 1) (cs.take (i * 6) ++ cs.drop (i * 6 + 6)) /\ Sm (fun x => x = b) h r.2) := by
 have hl : n < 1000000000 := hl
 have hop : n < u7 := Nat.lt_trans hl (by decide)
 obtain ⟨m, rfl⟩ : ∃ m, n = m + 1 := ⟨n - 1, by omega⟩
 obtain ⟨vx, ex⟩ := cut1 (P := Tryz.prog) (T := 70) (el := 160) (o := o) kr kr hb hn hi hop
 obtain ⟨ha, hz, ea, ⟨c1, ga⟩, ta, ez, gz, tz⟩ := Gr.del (P := Tryz.prog) (T := 70) (xT := 70) (el := 160) (by_ := 56) (z := (.agg ⟨[.int .i64 0, .int .i64 0, .int .i64 0, .int .i64 0, .int .i64 0, .nilIface]⟩)) (o := o) kr kr kr kr kr rfl (List.all_eq_true.1 rfl) kr (by omega) h1 (by decide) hb hlt hcl hn hc hi
 simp only [Nat.add_sub_cancel] at ea ez gz ⊢
 refine j9 33 Tryz.f97 ?_
 have T0 : Sm (fun x => x = b) h h := .refl
 refine z1 1 kr (q5 (z1 5 kr (xu2 _ rfl rfl kr kr kr kr (ex) (q5 (q7 (q7 (q6 ?_)))))))
 refine L_g 2 kr (L_i ((i : Int)) (((i + 1 : Nat) : Int)) (.bool false) rfl rfl kr kr rfl (by first | (simp; done) | (simp; omega)) (q5 (Q2 kr (z6 (z1 3 kr (q5 (q7 (u4 kr (D_e (e := 6) (l := [0,1,2,3,4,5]) (s' := []) kr kr rfl kr z4 ?_)))))))))
 refine z2 2 kr (zy7 _ rfl rfl kr kr kr kr kr kr (cut2 (P := Tryz.prog) (T := 70) (el := 160) (n := m + 1) (i := i) (o := o) kr kr hb (by omega)) (z2 2 kr (zy7 _ rfl rfl kr kr kr kr kr kr (cut3 (P := Tryz.prog) (T := 70) (el := 160) (n := m + 1) (i := i + 1) (o := o) kr kr hb (by omega)) (z5 (V9 (.slice (some ⟨b, o, none⟩) m u7) ha rfl rfl kr (vs := [.slice (some ⟨b, o, none⟩) i u7, .slice (some ⟨b, o + (i + 1) * 6, none⟩) (m + 1 - (i + 1)) u7]) kr (J7 ea) ?_)))))
 generalize hh14 : ha = h14 at ea ga ta ez tz ⊢
 have T14 : Sm (fun x => x = b) h h14 := T0.trans ta (fun x hx => .inl hx)
 have N14 := T14.nx
 refine q5 ⟨rfl, ?_⟩
 refine D_l (l := [7]) kr kr z4 (z2 1 kr (z5 (z1 4 kr (xu2 _ rfl rfl kr kr kr kr (cut4 (P := Tryz.prog) (T := 70) (el := 160) (n := m) (o := o) kr kr ga hn) (V9 (.tuple ⟨[]⟩) hz rfl rfl kr (vs := [.slice (some ⟨b, o + m * 6, none⟩) 1 u7]) kr (yg1 ez) ?_)))))
 generalize hh15 : hz = h15 at gz tz ⊢
 have T15 : Sm (fun x => x = b) h h15 := T14.trans tz (fun x hx => .inl hx)
 have N15 := T15.nx
 refine q5 (z1 2 kr (q5 (j7 ?_)))
 refine rr ?_
 refine z0 (v := .slice (some ⟨b, o, none⟩) m u7) (.inl rfl) kr ?_
 exact ⟨rfl, gz, T15⟩
theorem del_rq {h : AH} {b o nn n i : Nat} {cc : X.T Value} {cs : List Value} (hb : h.m.get b = some (.cells cc nn 1 false)) (hlt : b < h.next) (hcl : cs.length = n * 1) (hn : o + n * 1 ≤ nn) (hc : ∀ j, j < cs.length -> cc.get (o + j) = cs[j]?) (h1 : ∀ x, x ∈ cs -> x.oneCell' = true) (hi : i < n) (hl : n < big) :
  Arm.Calls Tryz.prog 128 [.slice (some ⟨b, o, none⟩) n u7, nv (i : Int), nv ((i + 1 : Nat) : Int)] h (fun r => r.1 = .slice (some ⟨b, o, none⟩) (n - 1) u7 /\ Gr r.2 1 r.1 (n - 1) (cs.take (i * 1) ++ cs.drop (i * 1 + 1)) /\ Sm (fun x => x = b) h r.2) := by
 have hl : n < 1000000000 := hl
 have hop : n < u7 := Nat.lt_trans hl (by decide)
 obtain ⟨m, rfl⟩ : ∃ m, n = m + 1 := ⟨n - 1, by omega⟩
 obtain ⟨vx, ex⟩ := cut1 (P := Tryz.prog) (T := 73) (el := 100) (o := o) kr kr hb hn hi hop
 obtain ⟨ha, hz, ea, ⟨c1, ga⟩, ta, ez, gz, tz⟩ := Gr.del (P := Tryz.prog) (T := 73) (xT := 73) (el := 100) (by_ := 8) (z := .pointer none) (o := o) kr kr kr kr kr rfl (List.all_eq_true.1 rfl) kr (by omega) h1 (by decide) hb hlt hcl hn hc hi
 simp only [Nat.add_sub_cancel] at ea ez gz ⊢
 refine j9 33 Tryz.f128 ?_
 have T0 : Sm (fun x => x = b) h h := .refl
 refine z1 1 kr (q5 (z1 5 kr (xu2 _ rfl rfl kr kr kr kr (ex) (q5 (q7 (q7 (q6 ?_)))))))
 refine L_g 2 kr (L_i ((i : Int)) (((i + 1 : Nat) : Int)) (.bool false) rfl rfl kr kr rfl (by first | (simp; done) | (simp; omega)) (q5 (Q2 kr (z6 (z1 3 kr (q5 (q7 (u4 kr (D_e (e := 6) (l := [0,1,2,3,4,5]) (s' := []) kr kr rfl kr z4 ?_)))))))))
 refine z2 2 kr (zy7 _ rfl rfl kr kr kr kr kr kr (cut2 (P := Tryz.prog) (T := 73) (el := 100) (n := m + 1) (i := i) (o := o) kr kr hb (by omega)) (z2 2 kr (zy7 _ rfl rfl kr kr kr kr kr kr (cut3 (P := Tryz.prog) (T := 73) (el := 100) (n := m + 1) (i := i + 1) (o := o) kr kr hb (by omega)) (z5 (V9 (.slice (some ⟨b, o, none⟩) m u7) ha rfl rfl kr (vs := [.slice (some ⟨b, o, none⟩) i u7, .slice (some ⟨b, o + (i + 1) * 1, none⟩) (m + 1 - (i + 1)) u7]) kr (J7 ea) ?_)))))
 generalize hh16 : ha = h16 at ea ga ta ez tz ⊢
 have T16 : Sm (fun x => x = b) h h16 := T0.trans ta (fun x hx => .inl hx)
 have N16 := T16.nx
 refine q5 ⟨rfl, ?_⟩
 refine D_l (l := [7]) kr kr z4 (z2 1 kr (z5 (z1 4 kr (xu2 _ rfl rfl kr kr kr kr (cut4 (P := Tryz.prog) (T := 73) (el := 100) (n := m) (o := o) kr kr ga hn) (V9 (.tuple ⟨[]⟩) hz rfl rfl kr (vs := [.slice (some ⟨b, o + m * 1, none⟩) 1 u7]) kr (yg1 ez) ?_)))))
 generalize hh17 : hz = h17 at gz tz ⊢
 have T17 : Sm (fun x => x = b) h h17 := T16.trans tz (fun x hx => .inl hx)
 have N17 := T17.nx
 refine q5 (z1 2 kr (q5 (j7 ?_)))
 refine rr ?_
 refine z0 (v := .slice (some ⟨b, o, none⟩) m u7) (.inl rfl) kr ?_
 exact ⟨rfl, gz, T17⟩
end
end Go.Proofs.YtjealfplbigphaaGreat
namespace Go.Proofs.YtjealfplbigphaaGreat
noncomputable section
open Go Go.X Go.Arm Go.Mt
theorem kNum : KeyK Tryz.prog 3 nv := KeyK.int kr (fun e k => by kernel_rfl)
theorem uq0 {t : TypeId} {d : TypeDesc} {P : Program} (h : P.underlying t = some d) : pureRun P (underlying t) = some d := by
 simp only [underlying]; exact z8 (e := Sem.program .pure) (a := P) rfl (by simp only [h]; rfl)
theorem qg6 {P : Program} (d : Nat) (t : TypeId) (k k' : IntKind) (a b : Int) (h : P.underlying t = some (.int k')) : pureRun P (Go.Op.equalIn (d + 1) t (.int k a) (.int k b)) = some (a == b) := by
 rw [Go.Op.equalIn]
 refine z8 (uq0 h) ?_
 simp only [if_true]; rfl
noncomputable def fld (T i : Nat) : Field := match Tryz.prog.underlying T with | some (.struct fs) => (fs.toList[i]?).getD default | _ => default
theorem eq_way (a c : Int × Int) : pureRun Tryz.prog (Op.equal 126 (k2 a) (k2 c)) = some (decide (a = c)) := by
 have hu : ∃ f1 f2 : Field, Tryz.prog.underlying 126 = some (.struct ⟨[f1, f2]⟩) /\ f1.name ≠ "_" /\ f2.name ≠ "_" /\ f1.type = 3 /\ f2.type = 3 /\ f1.offset = 0 /\ f2.offset = 1 :=
   ⟨fld 126 0, fld 126 1, kr, by decide +kernel, by decide +kernel, kr, kr, kr, kr⟩
 obtain ⟨f1, f2, hu, n1, n2, t1, t2, o1, o2⟩ := hu
 have hi : Tryz.prog.underlying 3 = some (.int .i64) := by kernel_rfl
 unfold Go.Op.equal
 show pureRun _ (Go.Op.equalIn (9999 + 1) _ _ _) = _
 unfold k2 nv
 rw [Go.Op.equalIn]
 refine z8 (uq0 hu) ?_
 dsimp only
 refine z8 (e := program) (a := Tryz.prog) rfl ?_
 rw [if_neg (by decide +kernel)]
 rw [<- Array.forIn_toList]
 simp only [List.forIn_cons, List.forIn_nil, n1, n2, t1, t2, o1, o2, if_true, ne_eq, not_false_eq_true]
 have p0 : ∀ v w : Value, pureRun Tryz.prog (part 3 ⟨[v, w]⟩ 0) = some v := fun v w => by kernel_rfl
 have p1 : ∀ v w : Value, pureRun Tryz.prog (part 3 ⟨[v, w]⟩ 1) = some w := fun v w => by kernel_rfl
 have q1 := qg6 (P := Tryz.prog) 9998 3 .i64 .i64 a.1 c.1 hi
 have q2 := qg6 (P := Tryz.prog) 9998 3 .i64 .i64 a.2 c.2 hi
 by_cases h1 : a.1 = c.1
 . have b1 : (a.1 == c.1) = true := by simpa using h1
   rw [b1] at q1
   by_cases h2 : a.2 = c.2
   . have b2 : (a.2 == c.2) = true := by simpa using h2
     rw [b2] at q2
     have hd : decide (a = c) = true := by simp [Prod.ext_iff, h1, h2]
     rw [hd]
     exact z8 (a := (none, ())) (z8 (a := ForInStep.yield (none, ())) (z8 (p0 _ _) (z8 (p0 _ _) (z8 q1 rfl))) (z8 (a := ForInStep.yield (none, ())) (z8 (p1 _ _) (z8 (p1 _ _) (z8 q2 rfl))) rfl)) rfl
   . have b2 : (a.2 == c.2) = false := by simpa using h2
     rw [b2] at q2
     have hd : decide (a = c) = false := by simp [Prod.ext_iff, h2]
     rw [hd]
     exact z8 (a := (some false, ())) (z8 (a := ForInStep.yield (none, ())) (z8 (p0 _ _) (z8 (p0 _ _) (z8 q1 rfl))) (z8 (a := ForInStep.done (some false, ())) (z8 (p1 _ _) (z8 (p1 _ _) (z8 q2 rfl))) rfl)) rfl
 . have b1 : (a.1 == c.1) = false := by simpa using h1
   rw [b1] at q1
   have hd : decide (a = c) = false := by simp [Prod.ext_iff, h1]
   rw [hd]
   exact z8 (a := (some false, ())) (z8 (a := ForInStep.done (some false, ())) (z8 (p0 _ _) (z8 (p0 _ _) (z8 q1 rfl))) rfl) rfl
theorem uy5 : KeyK Tryz.prog 126 k2 := by
 refine KeyK.ask (fs := ⟨[fld 126 0, fld 126 1]⟩) kr (fun k => rfl) (fun e k => by kernel_rfl) eq_way (fun k => ?_)
 unfold stays
 unfold k2 nv
 rw [Instr.sameBits]
 simp [Instr.sameBits]
theorem eq_ori (a c : Int × Int) : pureRun Tryz.prog (Op.equal 184 (k2 a) (k2 c)) = some (decide (a = c)) := by
 have hu : ∃ f1 f2 : Field, Tryz.prog.underlying 184 = some (.struct ⟨[f1, f2]⟩) /\ f1.name ≠ "_" /\ f2.name ≠ "_" /\ f1.type = 3 /\ f2.type = 3 /\ f1.offset = 0 /\ f2.offset = 1 :=
   ⟨fld 184 0, fld 184 1, kr, by decide +kernel, by decide +kernel, kr, kr, kr, kr⟩
 obtain ⟨f1, f2, hu, n1, n2, t1, t2, o1, o2⟩ := hu
 have hi : Tryz.prog.underlying 3 = some (.int .i64) := by kernel_rfl
 unfold Go.Op.equal
 show pureRun _ (Go.Op.equalIn (9999 + 1) _ _ _) = _
 unfold k2 nv
 rw [Go.Op.equalIn]
 refine z8 (uq0 hu) ?_
 dsimp only
 refine z8 (e := program) (a := Tryz.prog) rfl ?_
 rw [if_neg (by decide +kernel)]
 rw [<- Array.forIn_toList]
 simp only [List.forIn_cons, List.forIn_nil, n1, n2, t1, t2, o1, o2, if_true, ne_eq, not_false_eq_true]
 have p0 : ∀ v w : Value, pureRun Tryz.prog (part 3 ⟨[v, w]⟩ 0) = some v := fun v w => by kernel_rfl
 have p1 : ∀ v w : Value, pureRun Tryz.prog (part 3 ⟨[v, w]⟩ 1) = some w := fun v w => by kernel_rfl
 have q1 := qg6 (P := Tryz.prog) 9998 3 .i64 .i64 a.1 c.1 hi
 have q2 := qg6 (P := Tryz.prog) 9998 3 .i64 .i64 a.2 c.2 hi
 by_cases h1 : a.1 = c.1
 . have b1 : (a.1 == c.1) = true := by simpa using h1
   rw [b1] at q1
   by_cases h2 : a.2 = c.2
   . have b2 : (a.2 == c.2) = true := by simpa using h2
     rw [b2] at q2
     have hd : decide (a = c) = true := by simp [Prod.ext_iff, h1, h2]
     rw [hd]
     exact z8 (a := (none, ())) (z8 (a := ForInStep.yield (none, ())) (z8 (p0 _ _) (z8 (p0 _ _) (z8 q1 rfl))) (z8 (a := ForInStep.yield (none, ())) (z8 (p1 _ _) (z8 (p1 _ _) (z8 q2 rfl))) rfl)) rfl
   . have b2 : (a.2 == c.2) = false := by simpa using h2
     rw [b2] at q2
     have hd : decide (a = c) = false := by simp [Prod.ext_iff, h2]
     rw [hd]
     exact z8 (a := (some false, ())) (z8 (a := ForInStep.yield (none, ())) (z8 (p0 _ _) (z8 (p0 _ _) (z8 q1 rfl))) (z8 (a := ForInStep.done (some false, ())) (z8 (p1 _ _) (z8 (p1 _ _) (z8 q2 rfl))) rfl)) rfl
 . have b1 : (a.1 == c.1) = false := by simpa using h1
   rw [b1] at q1
   have hd : decide (a = c) = false := by simp [Prod.ext_iff, h1]
   rw [hd]
   exact z8 (a := (some false, ())) (z8 (a := ForInStep.done (some false, ())) (z8 (p0 _ _) (z8 (p0 _ _) (z8 q1 rfl))) rfl) rfl
theorem xk5 : KeyK Tryz.prog 184 k2 := by
 refine KeyK.ask (fs := ⟨[fld 184 0, fld 184 1]⟩) kr (fun k => rfl) (fun e k => by kernel_rfl) eq_ori (fun k => ?_)
 unfold stays
 unfold k2 nv
 rw [Instr.sameBits]
 simp [Instr.sameBits]
end
end Go.Proofs.YtjealfplbigphaaGreat
namespace Go.Proofs.YtjealfplbigphaaGreat
noncomputable section
open Go Go.X Go.Arm Go.Mt
theorem E8 {W : Wd} {G : Gh} {h : AH} {a b : Int} {x : Pk} {ty : TypeId} {u : Value} (R : Rep W G h) (hx : PkV h G.ro (.iface ty u) x) (hl : (W.way a b).length < big) :
  Arm.Calls Tryz.prog 95 [ptr (G.B .wd), nv a, nv b, .iface ty u] h (fun r => Nxt (W.setWay a b (W.way a b ++ [x])) G h r.2) := by
 have hl : (W.way a b).length < 1000000000 := hl
 have hwl := R.waysLt
 refine j9 23 Tryz.f95 ?_
 have T0 : Sm Nix h h := .refl
 refine z1 3 kr (Q1 [nv 0, nv 0] .ptr rfl rfl kr fun h18 c18 t18 n18 => ?_)
 have T18 := T0.ext t18
 have N18 := T18.nx
 obtain ⟨h19, e19, d19, t19, n19⟩ := c18.sA 126 [nv a, nv b]
 replace c18 := d19
 have T19 := T18.tr t19
 have N19 := T19.nx
 refine Q3 _ rfl rfl rfl kr kr (e19) (q5 (u4 kr (D_e (e := 7) (l := [0,1,2,3,4,5,6]) (s' := []) kr kr rfl kr z4 (z2 3 kr (q9 _ rfl rfl kr kr kr ((R.ext T19).wdL.ld (o := 2) kr rfl) (q9 _ rfl rfl kr kr kr (Cl.allN (n := 2) c18 rfl kr) (z2 1 kr (qu8 [.iface ty u] (.sl 1 1) rfl kr rfl rfl kr (z3 rfl rfl (z3 rfl rfl (z3 rfl rfl (u6 _ rfl rfl rfl kr ((R.ext (T19.ext (.push h19 _))).wdL.ld (o := 2) kr rfl) kr (u6 _ rfl rfl rfl kr (Cl.allN (n := 2) (c18.ext (.push h19 _)) rfl kr) kr (z3 rfl rfl (z3 rfl rfl z4))))))) fun h20 c20 t20 n20 => ?_))))))))
 replace c18 := c18.ext t20
 have T20 := T19.ext t20
 have N20 := T20.nx
 refine z5 ?_
 have Rb := R.ext T20
 obtain ⟨m, hm, hmb, hmC, hmN, hmS⟩ := Rb.waysN
 obtain ⟨v21, st21, h21, e21, hv21, t21, n21, mp21, mb21, up21⟩ := hm.entry (P := Tryz.prog) (T := 60) (kt := 126) (el := 127) (z := (.slice none 0 0)) kr uy5 kr hmb (a, b)
 have hv21 : v21 = G.S (.way a b) := hv21.trans (hmS a b)
 subst hv21
 obtain ⟨R21, X21⟩ := Rb.touch (qw0 hmN _ _) (fun i j => (yz8 (G := G) hmS i j).trans (by rw [zq3])) mp21 mb21 t21
 have Y21 := (Gx.of T20).trans X21
 refine L_me (.tuple ⟨[G.S (.way a b), .int .i64 st21]⟩) h21 rfl rfl kr kr e21 ?_
 replace c18 := c18.sn t21
 replace c20 := c20.sn t21
 have T21 : Sm (fun c => vb (G.S (.way a b)) = some c) h21 h21 := .refl
 refine q5 ⟨rfl, ?_⟩
 refine D_e (e := 9) (l := [8,10]) (s' := [10]) kr kr rfl kr z4 (z2 2 kr (z5 ?_))
 obtain ⟨cs22, g022, ls22⟩ := R21.way a b
 obtain ⟨v22, h22, e22, g22, t22, f22⟩ := g022.append (P := Tryz.prog) (sT := 127) (xT := 127) (el := 129) (by_ := 16) (z := .nilIface) (m := 1) (ds := [.iface ty u]) kr kr kr kr kr rfl (by decide) (c20.sd rfl) (fun x hx => by cases List.mem_singleton.1 hx; rfl) (by omega)
 refine V9 v22 h22 rfl rfl kr (vs := [G.S (.way a b), .slice (some ⟨h19.next, 0, none⟩) 1 1]) kr (J7 e22) ?_
 replace c18 := c18.lt
 replace c20 := c20.lt
 have T22 : Sm (fun c => vb (G.S (.way a b)) = some c) h21 h22 := T21.then t22
 have N22 := T22.nx
 refine q5 ⟨rfl, ?_⟩
 refine D_e (e := 11) (l := []) (s' := []) kr kr rfl kr (E0 kr) (z5 ?_)
 have hnw : ¬ vb (G.S (.way a b)) = some (G.B .ways) := fun e => by
  have := R21.op.inj (.way a b) .ways _ (by obtain ⟨cs, e2, _⟩ := R21.rel.way a b; rw [e2]; simp) (by obtain ⟨m, e2, _⟩ := R21.rel.ways; rw [e2]; simp) (J4 e) rfl
  cases this
 obtain ⟨h23, e23, mp23, mb23, t23, n23⟩ := up21 _ v22 (T22.get _ R21.waysLt hnw) (Nat.lt_of_lt_of_le R21.waysLt T22.nx)
 refine L_es h23 rfl rfl rfl kr kr kr e23 ?_
 have hN := R21.setWay a b (l := W.way a b ++ [x]) (v := v22) (qw0 hmN _ _) (yz8 (G := G) hmS) (ls22.app (Ls.one ⟨_, hx.mono (Gx.dr Y21 R.op), rfl⟩ rfl)) (by rw [List.length_append]; exact g22) T22 (fun c hc => .inl hc) (fun c hc => f22 c hc) mp23 mb23 t23
 have hN := Nxt.after (G := G) hN Y21
 refine q5 ⟨rfl, ?_⟩
 refine D_l (l := []) kr kr z4 (z5 ?_)
 repeat with_reducible refine Q9 ?_
 refine z0 (v := .tuple ⟨[]⟩) (.inr rfl) kr ?_
 exact hN
end
end Go.Proofs.YtjealfplbigphaaGreat
namespace Go.Arm
noncomputable section
open Go Go.X
theorem Cl.storeAt {P : Program} {h : AH} {b o : Nat} {l vs : List Value} {v : Value} {T : TypeId} (hc : Cl h b l) (hz : szOf P T = some vs.length) (hv : cellsL v = vs) (ho : o + vs.length ≤ l.length) (h1 : ∀ x, x ∈ vs -> x.oneCell' = true) :
  ∃ h', aStore P T ⟨b, o, none⟩ v h = some h' /\ Cl h' b (l.take o ++ vs ++ l.drop (o + vs.length)) /\ Sm (fun k => k = b) h h' /\ h'.next = h.next := by
 obtain ⟨h2, e1, c1, s1, n1⟩ := Cl.setcs (o := o) (vs := vs) (i := 0) hc (by omega) h1
 refine ⟨h2, ?_, c1, s1, n1⟩
 unfold aStore
 simp only [hz, hv, if_true]
 exact e1
theorem Rk_i {P : Program} {n : Nat} {ops : Array Oper} {f : Fr} {h : AH} {i : Nat} {r : List Nat} {o : Oper} {op : BinOp} {T T' : TypeId} {x y : Operand} {g : Int -> Int -> Value} {d : Nat} (a b : Int) (v : Value) (ho : ops[i]? = some o) (hop : o.op = .binOp op T x y T') (hd : o.dst = some d) (hx : ev n f x = some (.int .i64 a)) (hy : ev n f y = some (.int .i64 b)) (hg : kInt op = some g) (hv : g a b = v) (hf : f d = v) (k : Rk P n ops f h r) : Rk P n ops f h (i :: r) :=
 V8 (v := v) ho hd (by rw [hop, uj0 hx hy hg, hv]) hf k
theorem ld_sm {P : Program} {h h' : AH} {S : Nat -> Prop} {T : TypeId} {b o : Nat} {v : Value} (hs : scalT P T = true) (hl : aLoad P T ⟨b, o, none⟩ h = some v) (s : Sm S h h') (lt : b < h.next) (hn : ¬ S b) : aLoad P T ⟨b, o, none⟩ h' = some v := by
 unfold scalT at hs
 cases hu : P.underlying T with
 | none => rw [hu] at hs; cases hs
 | some d =>
  rw [hu] at hs
  have hs : isAg d = false := by simpa using hs
  unfold aLoad at hl ⊢
  simp only [hu, hs] at hl ⊢
  exact (yy3 s lt hn).trans hl
theorem jj6 {α : Type} (f : α -> Value) {l : List α} {i : Nat} : (l.map f).take (i * 1) ++ (l.map f).drop (i * 1 + 1) = (l.eraseIdx i).map f := by
 rw [Nat.mul_one, List.eraseIdx_eq_take_drop_succ, List.map_append, List.map_take, List.map_drop]
theorem Gr.open {h : AH} {k n : Nat} {v : Value} {cs : List Value} (g : Gr h k v n cs) (hn : 0 < n) : ∃ b o cc nn, v = .slice (some ⟨b, o, none⟩) n u7 /\ b < h.next /\ h.m.get b = some (.cells cc nn k false) /\ o + n * k ≤ nn /\ ∀ j, j < cs.length -> cc.get (o + j) = cs[j]? := by
 rcases g.2 with ⟨h0, _⟩ | ⟨b, o, cc, nn, e, h2, h3, h4, h5, h6⟩
 . omega
 . exact ⟨b, o, cc, nn, e, h2, h3, h5, h6⟩
end
end Go.Arm
namespace Go.Proofs.YtjealfplbigphaaGreat
noncomputable section
open Go Go.X Go.Arm Go.Mt
theorem qw2 (d : By) : ∀ x, x ∈ d.map bv -> x.oneCell' = true := by
 intro x hx
 obtain ⟨y, _, rfl⟩ := List.mem_map.1 hx
 rfl
theorem yz9 {W : Wd} {G : Gh} {h : AH} {p no : Nat} {dv : Value} {d : By} (R : Rep W G h) (hp : p < W.n) (hr : G.C (.rq p no) ≠ .no) (H : Dr h G.ro dv d) (hl : d.length < big) (h0 : 0 ≤ (W.rq p no).room) :
   Arm.Calls Tryz.prog 99 [ptr (G.B (.rq p no)), dv] h (fun r => Nxt (W.setRq p no ((W.rq p no).gets d)) G h r.2) := by
 obtain ⟨dv0, hd0, c0⟩ := R.rqL hp hr
 replace c0 : Cl h (G.B (.rq p no)) (rqX (W.rq p no) dv0 (G.S (.pcs p no)) (G.S (.snt p no))) := c0
 by_cases hparts : (W.rq p no).parts = 0
 . by_cases hroom : (W.rq p no).room < d.length
   . have hg : (W.rq p no).gets d = { W.rq p no with data := d.take (W.rq p no).room.toNat, done := true, st := { (W.rq p no).st with err := 15 } } := if_pos ⟨hparts, hroom⟩
     rw [hg]
     refine j9 42 Tryz.f99 ?_
     have T0 : Sm (fun c => c = G.B (.rq p no)) h h := .refl
     refine z1 3 kr (L_c rfl rfl kr (qu3 H.1 (qw2 d) (by rw [List.length_map]; exact hl)) ?_)
     rintro v24 h24 ⟨r24, k24, t24, f24, s24⟩
     dsimp only at r24 k24 t24 f24 s24
     obtain ⟨R24, X24⟩ := R.more (Q := fun b => vb v24 = some b) t24 (fun b hb => (f24 b hb).1) (fun b hb => (f24 b hb).2)
     obtain ⟨va24, vc24, ev24⟩ := r24.form
     subst ev24
     have hlt24 : ∀ b, vb (Value.slice va24 (d.map bv).length vc24) = some b -> ¬ b = G.B (.rq p no) := fun b hb e => by have := (f24 b hb).1; have := c0.lt; omega
     obtain ⟨vq, eq, rq, kq, bq⟩ := r24.cut k24 (P := Tryz.prog) (T := 23) (el := 5) (m := (W.rq p no).room.toNat) kr kr (by rw [List.length_map]; omega) .i64
     have hroom2 : ((((W.rq p no).room.toNat : Nat) : Int)) = (W.rq p no).room := by omega
     rw [hroom2] at eq
     obtain ⟨wa, wc, ew⟩ := rq.form
     subst ew
     replace c0 := c0.ext t24
     have T24 : Sm (fun c => c = G.B (.rq p no)) h24 h24 := .refl
     refine L_g 2 kr ?_
     obtain ⟨h25, e25, d25, t25, n25⟩ := c0.s1 23 12 (.slice va24 (d.map bv).length vc24)
     replace d25 : Cl h25 (G.B (.rq p no)) (rqX (W.rq p no) (.slice va24 (d.map bv).length vc24) (G.S (.pcs p no)) (G.S (.snt p no))) := d25
     replace c0 := d25
     have T25 : Sm (fun c => c = G.B (.rq p no)) h24 h25 := T24.trans t25 (fun x hx => by have hx : x = G.B (.rq p no) := hx; first | exact .inr (by omega) | exact .inl (by subst hx; first | rfl | exact .inl rfl | exact .inr rfl | exact .inr (.inl rfl) | exact .inr (.inr rfl) | (show _ < _; omega)))
     have N25 := T25.nx
     refine Q3 _ rfl rfl rfl kr kr (e25) (L_g 2 kr ?_)
     obtain ⟨h26, e26, d26, t26, n26⟩ := c0.s1 4 9 (.bool true)
     replace d26 : Cl h26 (G.B (.rq p no)) [nk (W.rq p no).no, nv (W.rq p no).peer, nv (W.rq p no).ctx, nv (W.rq p no).tag, nv (W.rq p no).room, .bool (W.rq p no).send, .bool (W.rq p no).sync, .bool (W.rq p no).pers, .bool (W.rq p no).act, .bool true, nk (W.rq p no).parts, nk (W.rq p no).size, .slice va24 (d.map bv).length vc24, G.S (.pcs p no), nk (W.rq p no).gone, G.S (.snt p no), .bool (W.rq p no).clr, nv (W.rq p no).st.src, nv (W.rq p no).st.tag, nv (W.rq p no).st.size, nv (W.rq p no).st.err] := d26
     replace c0 := d26
     have T26 : Sm (fun c => c = G.B (.rq p no)) h24 h26 := T25.trans t26 (fun x hx => by have hx : x = G.B (.rq p no) := hx; first | exact .inr (by omega) | exact .inl (by subst hx; first | rfl | exact .inl rfl | exact .inr rfl | exact .inr (.inl rfl) | exact .inr (.inr rfl) | (show _ < _; omega)))
     have N26 := T26.nx
     refine Q3 _ rfl rfl rfl kr kr (e26) (q5 (z1 3 kr (z9 _ rfl rfl kr (c0.ld (o := 10) kr rfl) (L_i (((W.rq p no).parts : Int)) (0) (.bool true) rfl rfl kr kr rfl (by rw [hparts]; rfl) (L_g 2 kr (u9 kr (V4 _ rfl rfl kr (H.1.lenA (T := 23) (el := 5) kr _) (L_g 3 kr (u9 kr ?_)))))))))
     refine z9 _ rfl rfl kr (c0.ld (o := 4) kr rfl) (u9 kr (L_i (((d.map bv).length : Int)) ((W.rq p no).room) (.bool true) rfl rfl kr kr rfl (by simp; omega) (L_g 1 kr (q5 (U7 kr (u4 kr (D_e (e := 13) (l := [0,1,2,3,4,5,6,7,8,9,10,11,12]) (s' := [1]) kr kr rfl kr z4 (z2 5 kr (q9 _ rfl rfl kr kr kr (c0.ld (o := 12) kr rfl) (z2 3 kr (q9 _ rfl rfl kr kr kr (c0.ld (o := 4) kr rfl) ?_)))))))))))
     have hget := eq h26 (fun b hb => T26.get b ((f24 b hb).2) (hlt24 b hb))
     refine zy7 _ rfl rfl kr kr kr kr kr kr (hget) (z2 2 kr (z5 ?_))
     obtain ⟨h27, e27, d27, t27, n27⟩ := c0.s1 23 12 (.slice wa ((d.map bv).take (W.rq p no).room.toNat).length wc)
     replace d27 : Cl h27 (G.B (.rq p no)) [nk (W.rq p no).no, nv (W.rq p no).peer, nv (W.rq p no).ctx, nv (W.rq p no).tag, nv (W.rq p no).room, .bool (W.rq p no).send, .bool (W.rq p no).sync, .bool (W.rq p no).pers, .bool (W.rq p no).act, .bool true, nk (W.rq p no).parts, nk (W.rq p no).size, .slice wa ((d.map bv).take (W.rq p no).room.toNat).length wc, G.S (.pcs p no), nk (W.rq p no).gone, G.S (.snt p no), .bool (W.rq p no).clr, nv (W.rq p no).st.src, nv (W.rq p no).st.tag, nv (W.rq p no).st.size, nv (W.rq p no).st.err] := d27
     replace c0 := d27
     have T27 : Sm (fun c => c = G.B (.rq p no)) h24 h27 := T26.trans t27 (fun x hx => by have hx : x = G.B (.rq p no) := hx; first | exact .inr (by omega) | exact .inl (by subst hx; first | rfl | exact .inl rfl | exact .inr rfl | exact .inr (.inl rfl) | exact .inr (.inr rfl) | (show _ < _; omega)))
     have N27 := T27.nx
     refine Q3 _ rfl rfl rfl kr kr (e27) ?_
     refine q5 ⟨rfl, ?_⟩
     refine D_e (e := 17) (l := [14,15,16]) (s' := []) kr kr rfl kr (E0 kr) (z2 3 kr (z5 ?_))
     obtain ⟨h28, e28, d28, t28, n28⟩ := c0.s1 32 20 (nv 15)
     replace d28 : Cl h28 (G.B (.rq p no)) [nk (W.rq p no).no, nv (W.rq p no).peer, nv (W.rq p no).ctx, nv (W.rq p no).tag, nv (W.rq p no).room, .bool (W.rq p no).send, .bool (W.rq p no).sync, .bool (W.rq p no).pers, .bool (W.rq p no).act, .bool true, nk (W.rq p no).parts, nk (W.rq p no).size, .slice wa ((d.map bv).take (W.rq p no).room.toNat).length wc, G.S (.pcs p no), nk (W.rq p no).gone, G.S (.snt p no), .bool (W.rq p no).clr, nv (W.rq p no).st.src, nv (W.rq p no).st.tag, nv (W.rq p no).st.size, nv 15] := d28
     replace c0 := d28
     have T28 : Sm (fun c => c = G.B (.rq p no)) h24 h28 := T27.trans t28 (fun x hx => by have hx : x = G.B (.rq p no) := hx; first | exact .inr (by omega) | exact .inl (by subst hx; first | rfl | exact .inl rfl | exact .inr rfl | exact .inr (.inl rfl) | exact .inr (.inr rfl) | (show _ < _; omega)))
     have N28 := T28.nx
     refine Q3 _ rfl rfl rfl kr kr (e28) ?_
     refine q5 ⟨rfl, ?_⟩
     refine D_l (l := []) kr kr z4 (z5 ?_)
     repeat with_reducible refine Q9 ?_
     refine z0 (v := .tuple ⟨[]⟩) (.inr rfl) kr ?_
     have hN := R24.setRq hp hr (r := { (W.rq p no) with data := d.take (W.rq p no).room.toNat, done := true, st := { (W.rq p no).st with err := 15 } }) (dv := (.slice wa ((d.map bv).take (W.rq p no).room.toNat).length wc)) (c0) T28 (fun k hk => .inl hk) (⟨by have := rq.sm T28 (fun b hb => hlt24 b (bq ▸ hb)); show Rb _ _ (List.map bv (d.take _)); rw [List.map_take]; exact this, fun b hb => .inr (bq ▸ hb)⟩) rfl rfl
     exact ⟨_, _, _, hN.1, X24.trans hN.2⟩
   . have hg : (W.rq p no).gets d = { W.rq p no with data := d, done := true } := if_neg (fun e => hroom e.2)
     rw [hg]
     refine j9 42 Tryz.f99 ?_
     have T0 : Sm (fun c => c = G.B (.rq p no)) h h := .refl
     refine z1 3 kr (L_c rfl rfl kr (qu3 H.1 (qw2 d) (by rw [List.length_map]; exact hl)) ?_)
     rintro v29 h29 ⟨r29, k29, t29, f29, s29⟩
     dsimp only at r29 k29 t29 f29 s29
     obtain ⟨R29, X29⟩ := R.more (Q := fun b => vb v29 = some b) t29 (fun b hb => (f29 b hb).1) (fun b hb => (f29 b hb).2)
     obtain ⟨va29, vc29, ev29⟩ := r29.form
     subst ev29
     have hlt29 : ∀ b, vb (Value.slice va29 (d.map bv).length vc29) = some b -> ¬ b = G.B (.rq p no) := fun b hb e => by have := (f29 b hb).1; have := c0.lt; omega
     replace c0 := c0.ext t29
     have T29 : Sm (fun c => c = G.B (.rq p no)) h29 h29 := .refl
     refine L_g 2 kr ?_
     obtain ⟨h30, e30, d30, t30, n30⟩ := c0.s1 23 12 (.slice va29 (d.map bv).length vc29)
     replace d30 : Cl h30 (G.B (.rq p no)) (rqX (W.rq p no) (.slice va29 (d.map bv).length vc29) (G.S (.pcs p no)) (G.S (.snt p no))) := d30
     replace c0 := d30
     have T30 : Sm (fun c => c = G.B (.rq p no)) h29 h30 := T29.trans t30 (fun x hx => by have hx : x = G.B (.rq p no) := hx; first | exact .inr (by omega) | exact .inl (by subst hx; first | rfl | exact .inl rfl | exact .inr rfl | exact .inr (.inl rfl) | exact .inr (.inr rfl) | (show _ < _; omega)))
     have N30 := T30.nx
     refine Q3 _ rfl rfl rfl kr kr (e30) (L_g 2 kr ?_)
     obtain ⟨h31, e31, d31, t31, n31⟩ := c0.s1 4 9 (.bool true)
     replace d31 : Cl h31 (G.B (.rq p no)) [nk (W.rq p no).no, nv (W.rq p no).peer, nv (W.rq p no).ctx, nv (W.rq p no).tag, nv (W.rq p no).room, .bool (W.rq p no).send, .bool (W.rq p no).sync, .bool (W.rq p no).pers, .bool (W.rq p no).act, .bool true, nk (W.rq p no).parts, nk (W.rq p no).size, .slice va29 (d.map bv).length vc29, G.S (.pcs p no), nk (W.rq p no).gone, G.S (.snt p no), .bool (W.rq p no).clr, nv (W.rq p no).st.src, nv (W.rq p no).st.tag, nv (W.rq p no).st.size, nv (W.rq p no).st.err] := d31
     replace c0 := d31
     have T31 : Sm (fun c => c = G.B (.rq p no)) h29 h31 := T30.trans t31 (fun x hx => by have hx : x = G.B (.rq p no) := hx; first | exact .inr (by omega) | exact .inl (by subst hx; first | rfl | exact .inl rfl | exact .inr rfl | exact .inr (.inl rfl) | exact .inr (.inr rfl) | (show _ < _; omega)))
     have N31 := T31.nx
     refine Q3 _ rfl rfl rfl kr kr (e31) (q5 (z1 3 kr (z9 _ rfl rfl kr (c0.ld (o := 10) kr rfl) (L_i (((W.rq p no).parts : Int)) (0) (.bool true) rfl rfl kr kr rfl (by rw [hparts]; rfl) (L_g 2 kr (u9 kr (V4 _ rfl rfl kr (H.1.lenA (T := 23) (el := 5) kr _) (L_g 3 kr (u9 kr ?_)))))))))
     refine z9 _ rfl rfl kr (c0.ld (o := 4) kr rfl) (u9 kr (L_i (((d.map bv).length : Int)) ((W.rq p no).room) (.bool false) rfl rfl kr kr rfl (by simp; omega) (L_g 1 kr (q5 (Q2 kr (z6 ?_))))))
     repeat with_reducible refine Q9 ?_
     refine z0 (v := .tuple ⟨[]⟩) (.inr rfl) kr ?_
     have hN := R29.setRq hp hr (r := { (W.rq p no) with data := d, done := true }) (dv := (.slice va29 (d.map bv).length vc29)) (c0) T31 (fun k hk => .inl hk) (⟨r29.sm T31 hlt29, fun b hb => .inr hb⟩) rfl rfl
     exact ⟨_, _, _, hN.1, X29.trans hN.2⟩
 . have hg : (W.rq p no).gets d = { W.rq p no with data := d, done := true } := if_neg (fun e => hparts e.1)
   rw [hg]
   refine j9 42 Tryz.f99 ?_
   have T0 : Sm (fun c => c = G.B (.rq p no)) h h := .refl
   refine z1 3 kr (L_c rfl rfl kr (qu3 H.1 (qw2 d) (by rw [List.length_map]; exact hl)) ?_)
   rintro v32 h32 ⟨r32, k32, t32, f32, s32⟩
   dsimp only at r32 k32 t32 f32 s32
   obtain ⟨R32, X32⟩ := R.more (Q := fun b => vb v32 = some b) t32 (fun b hb => (f32 b hb).1) (fun b hb => (f32 b hb).2)
   obtain ⟨va32, vc32, ev32⟩ := r32.form
   subst ev32
   have hlt32 : ∀ b, vb (Value.slice va32 (d.map bv).length vc32) = some b -> ¬ b = G.B (.rq p no) := fun b hb e => by have := (f32 b hb).1; have := c0.lt; omega
   replace c0 := c0.ext t32
   have T32 : Sm (fun c => c = G.B (.rq p no)) h32 h32 := .refl
   refine L_g 2 kr ?_
   obtain ⟨h33, e33, d33, t33, n33⟩ := c0.s1 23 12 (.slice va32 (d.map bv).length vc32)
   replace d33 : Cl h33 (G.B (.rq p no)) (rqX (W.rq p no) (.slice va32 (d.map bv).length vc32) (G.S (.pcs p no)) (G.S (.snt p no))) := d33
   replace c0 := d33
   have T33 : Sm (fun c => c = G.B (.rq p no)) h32 h33 := T32.trans t33 (fun x hx => by have hx : x = G.B (.rq p no) := hx; first | exact .inr (by omega) | exact .inl (by subst hx; first | rfl | exact .inl rfl | exact .inr rfl | exact .inr (.inl rfl) | exact .inr (.inr rfl) | (show _ < _; omega)))
   have N33 := T33.nx
   refine Q3 _ rfl rfl rfl kr kr (e33) (L_g 2 kr ?_)
   obtain ⟨h34, e34, d34, t34, n34⟩ := c0.s1 4 9 (.bool true)
   replace d34 : Cl h34 (G.B (.rq p no)) [nk (W.rq p no).no, nv (W.rq p no).peer, nv (W.rq p no).ctx, nv (W.rq p no).tag, nv (W.rq p no).room, .bool (W.rq p no).send, .bool (W.rq p no).sync, .bool (W.rq p no).pers, .bool (W.rq p no).act, .bool true, nk (W.rq p no).parts, nk (W.rq p no).size, .slice va32 (d.map bv).length vc32, G.S (.pcs p no), nk (W.rq p no).gone, G.S (.snt p no), .bool (W.rq p no).clr, nv (W.rq p no).st.src, nv (W.rq p no).st.tag, nv (W.rq p no).st.size, nv (W.rq p no).st.err] := d34
   replace c0 := d34
   have T34 : Sm (fun c => c = G.B (.rq p no)) h32 h34 := T33.trans t34 (fun x hx => by have hx : x = G.B (.rq p no) := hx; first | exact .inr (by omega) | exact .inl (by subst hx; first | rfl | exact .inl rfl | exact .inr rfl | exact .inr (.inl rfl) | exact .inr (.inr rfl) | (show _ < _; omega)))
   have N34 := T34.nx
   refine Q3 _ rfl rfl rfl kr kr (e34) (q5 (z1 3 kr (z9 _ rfl rfl kr (c0.ld (o := 10) kr rfl) (L_i (((W.rq p no).parts : Int)) (0) (.bool false) rfl rfl kr kr rfl (by simp; omega) (L_g 9 kr (q5 (Q2 kr (z6 ?_))))))))
   repeat with_reducible refine Q9 ?_
   refine z0 (v := .tuple ⟨[]⟩) (.inr rfl) kr ?_
   have hN := R32.setRq hp hr (r := { (W.rq p no) with data := d, done := true }) (dv := (.slice va32 (d.map bv).length vc32)) (c0) T34 (fun k hk => .inl hk) (⟨r32.sm T34 hlt32, fun b hb => .inr hb⟩) rfl rfl
   exact ⟨_, _, _, hN.1, X32.trans hN.2⟩
end
end Go.Proofs.YtjealfplbigphaaGreat
