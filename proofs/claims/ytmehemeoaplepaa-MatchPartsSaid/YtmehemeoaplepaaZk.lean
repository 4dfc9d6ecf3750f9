/- Worlds of the program and walks of its functions. -/
import Derived.Test.YtmehemeoaplepaaZj
namespace Go.Arm
noncomputable section
open Go Go.X Go.Mt
class Tys where
 e : TypeId
 a : TypeId
 c : TypeId
 l : TypeId
 b : TypeId
 p : TypeId
def bv (x : UInt8) : Value := .int .u8 x.toNat
def nilS : Value := .slice none 0 0
def Dr (h : AH) (ro : Nat → Prop) (v : Value) (d : By) : Prop := Rb h v (d.map bv) ∧ ∀ b, vb v = some b → ro b
inductive Ls {α : Type} (R : α → List Value → Prop) (k : Nat) : List α → List Value → Prop
 | nil : Ls R k [] []
 | cons {x : α} {l : List α} {c cs : List Value} (h : R x c) (hc : c.length = k) (t : Ls R k l cs) : Ls R k (x :: l) (c ++ cs)
section
variable {α : Type} {R R' : α → List Value → Prop} {k : Nat} {l m : List α} {cs ds : List Value}
theorem Ls.mono (H : Ls R k l cs) (h : ∀ x c, R x c → R' x c) : Ls R' k l cs := by
 induction H with
 | nil => exact .nil
 | cons h1 h2 _ ih => exact .cons (h _ _ h1) h2 ih
theorem Ls.app (H : Ls R k l cs) (K : Ls R k m ds) : Ls R k (l ++ m) (cs ++ ds) := by
 induction H with
 | nil => exact K
 | cons h1 h2 _ ih => rw [List.cons_append, List.append_assoc]; exact .cons h1 h2 ih
theorem Ls.one {x : α} {c : List Value} (h : R x c) (hc : c.length = k) : Ls R k [x] c := by
 have := Ls.cons h hc (Ls.nil (R := R) (k := k))
 rwa [List.append_nil] at this
theorem Ls.get (H : Ls R k l cs) : ∀ {i : Nat} {x : α}, l[i]? = some x → ∃ c, R x c ∧ c.length = k ∧ ∀ j, j < k → cs[i * k + j]? = c[j]? := by
 induction H with
 | nil => intro i x h; simp at h
 | @cons x l c cs h1 h2 _ ih =>
  intro i y h
  cases i with
  | zero =>
   simp at h; subst h
   refine ⟨c, h1, h2, fun j hj => ?_⟩
   rw [Nat.zero_mul, Nat.zero_add, List.getElem?_append_left (by omega)]
  | succ i =>
   obtain ⟨c', a1, a2, a3⟩ := ih (i := i) (x := y) (by simpa using h)
   refine ⟨c', a1, a2, fun j hj => ?_⟩
   rw [Nat.succ_mul, List.getElem?_append_right (by omega), ← a3 j hj]
   congr 1; omega
theorem Ls.tail {x : α} (H : Ls R k (x :: l) cs) : ∃ c, R x c ∧ c.length = k ∧ cs = c ++ cs.drop k ∧ Ls R k l (cs.drop k) := by
 cases H with
 | @cons _ _ c cs' h1 h2 t =>
  have : (c ++ cs').drop k = cs' := by rw [← h2]; simp
  rw [this]
  exact ⟨c, h1, h2, rfl, t⟩
theorem Ls.erase (H : Ls R k l cs) : ∀ (i : Nat), i < l.length → Ls R k (l.eraseIdx i) (cs.take (i * k) ++ cs.drop (i * k + k)) := by
 induction H with
 | nil => intro i hi; simp at hi
 | @cons x l c cs h1 h2 t ih =>
  intro i hi
  cases i with
  | zero =>
   have : (c ++ cs).drop k = cs := by rw [← h2]; simp
   rw [Nat.zero_mul, Nat.zero_add, List.take_zero, List.nil_append, this]
   exact t
  | succ i =>
   have := ih i (by simpa using hi)
   rw [List.eraseIdx_cons_succ, Nat.succ_mul, show i * k + k = c.length + i * k by omega, List.take_length_add_append, show c.length + i * k + k = c.length + (i * k + k) by omega, List.drop_length_add_append, List.append_assoc]
   exact .cons h1 h2 this
end
variable [Tys]
def PkV (h : AH) (ro : Nat → Prop) (v : Value) : Pk → Prop
 | .eager e d => ∃ dv, Dr h ro dv d ∧ v = .iface Tys.e (.agg ⟨[nv e.src, nv e.ctx, nv e.tag, nv e.size, nv e.parts, dv]⟩)
 | .ask e q => v = .iface Tys.a (.agg ⟨[nv e.src, nv e.ctx, nv e.tag, nv e.size, nv e.parts, nv q]⟩)
 | .credit => v = .iface Tys.c (.agg ⟨[]⟩)
 | .clear q => v = .iface Tys.l (.agg ⟨[nv q]⟩)
 | .body q d => ∃ dv, Dr h ro dv d ∧ v = .iface Tys.b (.agg ⟨[nv q, dv]⟩)
 | .part q i d => ∃ dv, Dr h ro dv d ∧ (∃ a n c, dv = .slice (some a) n c) ∧ v = .iface Tys.p (.agg ⟨[nv q, nv i, dv]⟩)
def MsV (h : AH) (ro : Nat → Prop) (v : Value) : Ms → Prop
 | .eager e d => PkV h ro v (.eager e d)
 | .ask e q => PkV h ro v (.ask e q)
def RPk (h : AH) (ro : Nat → Prop) (x : Pk) (c : List Value) : Prop := ∃ v, PkV h ro v x ∧ c = [v]
def RAr (h : AH) (ro : Nat → Prop) (x : Int × Pk) (c : List Value) : Prop := ∃ v, PkV h ro v x.2 ∧ c = [nv x.1, v]
def RMs (h : AH) (ro : Nat → Prop) (x : Ms) (c : List Value) : Prop := ∃ v, MsV h ro v x ∧ c = [nv x.en.src, nv x.en.ctx, nv x.en.tag, nv x.en.size, nv x.en.parts, v]
def RPc (h : AH) (ro : Nat → Prop) (x : Option By) (c : List Value) : Prop := ∃ v, c = [v] ∧ match x with
 | none => v = nilS
 | some d => Dr h ro v d ∧ ∃ a n c, v = .slice (some a) n c
def prC (next : Nat) (G : Gh) (p : Nat) : List Value := [nk next, .map (some (G.B (.rqs p))), .map (some (G.B (.exs p))), G.S (.inb p), G.S (.msg p), G.S (.rcv p), G.S (.crd p)]
def rqC (G : Gh) (dv : Value) (p no : Nat) (r : Rq) : List Value :=
 [nk r.no, nv r.peer, nv r.ctx, nv r.tag, nv r.room, .bool r.send, .bool r.sync, .bool r.pers, .bool r.act, .bool r.done, nk r.parts, nk r.size, dv, G.S (.pcs p no), nk r.gone, G.S (.snt p no), .bool r.clr, nv r.st.src, nv r.st.tag, nv r.st.size, nv r.st.err]
theorem PkV.iface {h : AH} {ro : Nat → Prop} {v : Value} {x : Pk} (H : PkV h ro v x) : ∃ ty u, v = .iface ty u := by
 cases x with
 | eager e d => obtain ⟨dv, _, rfl⟩ := H; exact ⟨_, _, rfl⟩
 | ask e q => exact ⟨_, _, H⟩
 | credit => exact ⟨_, _, H⟩
 | clear q => exact ⟨_, _, H⟩
 | body q d => obtain ⟨dv, _, rfl⟩ := H; exact ⟨_, _, rfl⟩
 | part q i d => obtain ⟨dv, _, _, rfl⟩ := H; exact ⟨_, _, rfl⟩
theorem MsV.iface {h : AH} {ro : Nat → Prop} {v : Value} {x : Ms} (H : MsV h ro v x) : ∃ ty u, v = .iface ty u := by
 cases x with
 | eager e d => exact PkV.iface (x := .eager e d) H
 | ask e q => exact PkV.iface (h := h) (ro := ro) (x := .ask e q) H
theorem Ls.oneMs {h : AH} {ro : Nat → Prop} {l : List Ms} {cs : List Value} (H : Ls (RMs h ro) 6 l cs) : ∀ x, x ∈ cs → x.oneCell' = true := by
 induction H with
 | nil => intro x hx; cases hx
 | cons h1 h2 _ ih =>
  intro x hx
  rcases List.mem_append.1 hx with hx | hx
  · obtain ⟨v, hv, rfl⟩ := h1
    obtain ⟨ty, u, rfl⟩ := hv.iface
    exact List.all_eq_true.1 (rfl : ([nv _, nv _, nv _, nv _, nv _, Value.iface ty u] : List Value).all (·.oneCell') = true) x hx
  · exact ih x hx
structure RelP (x : Pr) (q : Nat → Rq) (G : Gh) (h : AH) (p : Nat) : Prop where
 pr : G.C (.pr p) = .cl (prC x.next G p)
 rqs : G.C (.rqs p) = .mi (x.reqs.map fun (k : Nat) => ((k : Int), ptr (G.B (.rq p k))))
 rqp : ∀ k, k ∈ x.reqs → G.C (.rq p k) ≠ .no
 exs : G.C (.exs p) = .mp (x.exps.map fun e => (e.1, ptr (G.B (.rq p e.2))))
 exp : ∀ e, e ∈ x.exps → G.C (.rq p e.2) ≠ .no
 inb : ∃ cs, G.C (.inb p) = .gr 2 x.inb.length cs ∧ Ls (RAr h G.ro) 2 x.inb cs
 msg : ∃ cs, G.C (.msg p) = .gr 6 x.msgs.length cs ∧ Ls (RMs h G.ro) 6 x.msgs cs
 rcv : G.C (.rcv p) = .gr 1 x.rcvs.length (x.rcvs.map fun k => ptr (G.B (.rq p k)))
 rcp : ∀ k, k ∈ x.rcvs → G.C (.rq p k) ≠ .no
 crd : G.C (.crd p) = .ws x.crds.length (x.crds.map nv)
 rq : ∀ no, G.C (.rq p no) ≠ .no → ∃ dv, Dr h G.ro dv (q no).data ∧ G.C (.rq p no) = .cl (rqC G dv p no (q no))
 pcs : ∀ no, G.C (.rq p no) ≠ .no → ∃ cs, G.C (.pcs p no) = .ws (q no).pcs.length cs ∧ Ls (RPc h G.ro) 1 (q no).pcs cs
 snt : ∀ no, G.C (.rq p no) ≠ .no → G.C (.snt p no) = .ws (q no).sent.length ((q no).sent.map .bool)
 nxt : ∀ no, G.C (.rq p no) ≠ .no → no < x.next
structure Rel (W : Wd) (G : Gh) (h : AH) : Prop where
 wd : G.C .wd = .cl [nv W.lim, G.S .prs, .map (some (G.B .ways))]
 prs : G.C .prs = .sd 1 W.n ((List.range W.n).map fun p => ptr (G.B (.pr p)))
 ways : ∃ m, G.C .ways = .mp m ∧ (m.map (·.1)).Nodup ∧ ∀ a b, (kget m (a, b)).getD nilS = G.S (.way a b)
 way : ∀ a b, ∃ cs, G.C (.way a b) = .gr 1 (W.way a b).length cs ∧ Ls (RPk h G.ro) 1 (W.way a b) cs
 pr : ∀ p, p < W.n → RelP (W.pr p) (W.rq p) G h p
structure Rep (W : Wd) (G : Gh) (h : AH) : Prop where
 op : Op G h
 rel : Rel W G h
section
variable {W : Wd} {G : Gh} {h h' : AH} {ro ro' : Nat → Prop} {p no : Nat} {v : Value} {d : By}
omit [Tys] in
theorem Dr.mono (H : Dr h ro v d) (s : Sm G.mut h h') (hr : ∀ b, ro b → ¬ G.mut b) (hro : ∀ b, ro b → ro' b) : Dr h' ro' v d := ⟨H.1.sm s (fun b hb hm => hr b (H.2 b hb) hm), fun b hb => hro b (H.2 b hb)⟩
theorem PkV.mono {x : Pk} (H : PkV h ro v x) (f : ∀ v d, Dr h ro v d → Dr h' ro' v d) : PkV h' ro' v x := by
 cases x with
 | eager e d => obtain ⟨dv, a, b⟩ := H; exact ⟨dv, f _ _ a, b⟩
 | ask e q => exact H
 | credit => exact H
 | clear q => exact H
 | body q d => obtain ⟨dv, a, b⟩ := H; exact ⟨dv, f _ _ a, b⟩
 | part q i d => obtain ⟨dv, a, b⟩ := H; exact ⟨dv, f _ _ a, b⟩
theorem MsV.mono {x : Ms} (H : MsV h ro v x) (f : ∀ v d, Dr h ro v d → Dr h' ro' v d) : MsV h' ro' v x := by
 cases x with
 | eager e d => exact PkV.mono (x := .eager e d) H f
 | ask e q => exact PkV.mono (x := .ask e q) H f
theorem RPk.mono {x : Pk} {c : List Value} (H : RPk h ro x c) (f : ∀ v d, Dr h ro v d → Dr h' ro' v d) : RPk h' ro' x c := by
 obtain ⟨v, a, b⟩ := H; exact ⟨v, a.mono f, b⟩
theorem RAr.mono {x : Int × Pk} {c : List Value} (H : RAr h ro x c) (f : ∀ v d, Dr h ro v d → Dr h' ro' v d) : RAr h' ro' x c := by
 obtain ⟨v, a, b⟩ := H; exact ⟨v, a.mono f, b⟩
theorem RMs.mono {x : Ms} {c : List Value} (H : RMs h ro x c) (f : ∀ v d, Dr h ro v d → Dr h' ro' v d) : RMs h' ro' x c := by
 obtain ⟨v, a, b⟩ := H; exact ⟨v, a.mono f, b⟩
omit [Tys] in
theorem RPc.mono {x : Option By} {c : List Value} (H : RPc h ro x c) (f : ∀ v d, Dr h ro v d → Dr h' ro' v d) : RPc h' ro' x c := by
 obtain ⟨v, a, b⟩ := H
 refine ⟨v, a, ?_⟩
 cases x with
 | none => exact b
 | some d => exact ⟨f _ _ b.1, b.2⟩
theorem RelP.mono {x : Pr} {q : Nat → Rq} {G' : Gh} (R : RelP x q G h p) (hB : G'.B = G.B) (hS : G'.S = G.S) (hC : G'.C = G.C) (f : ∀ v d, Dr h G.ro v d → Dr h' G'.ro v d) : RelP x q G' h' p := by
 obtain ⟨B, S, C, ro⟩ := G
 obtain ⟨B', S', C', ro'⟩ := G'
 dsimp only at hB hS hC
 subst hB hS hC
 exact ⟨R.pr, R.rqs, R.rqp, R.exs, R.exp, by obtain ⟨cs, x, y⟩ := R.inb; exact ⟨cs, x, y.mono fun _ _ z => z.mono f⟩, by obtain ⟨cs, x, y⟩ := R.msg; exact ⟨cs, x, y.mono fun _ _ z => z.mono f⟩, R.rcv, R.rcp, R.crd,
  fun no hr => by obtain ⟨dv, x, y⟩ := R.rq no hr; exact ⟨dv, f _ _ x, y⟩, fun no hr => by obtain ⟨cs, x, y⟩ := R.pcs no hr; exact ⟨cs, x, y.mono fun _ _ z => z.mono f⟩, R.snt, R.nxt⟩
theorem Rel.mono {G' : Gh} (R : Rel W G h) (hB : G'.B = G.B) (hS : G'.S = G.S) (hC : G'.C = G.C) (f : ∀ v d, Dr h G.ro v d → Dr h' G'.ro v d) : Rel W G' h' := by
 have hpr := fun p hp => (R.pr p hp).mono (G' := G') hB hS hC f
 obtain ⟨B, S, C, ro⟩ := G
 obtain ⟨B', S', C', ro'⟩ := G'
 dsimp only at hB hS hC
 subst hB hS hC
 exact ⟨R.wd, R.prs, R.ways, fun a b => by obtain ⟨cs, x, y⟩ := R.way a b; exact ⟨cs, x, y.mono fun _ _ z => z.mono f⟩, hpr⟩
theorem Rel.mono0 (R : Rel W G h) (f : ∀ v d, Dr h G.ro v d → Dr h' G.ro v d) : Rel W G h' := R.mono rfl rfl rfl f
def Ro.of : Ro → Option Nat
 | .pr p => some p
 | .rqs p => some p
 | .exs p => some p
 | .inb p => some p
 | .msg p => some p
 | .rcv p => some p
 | .crd p => some p
 | .rq p _ => some p
 | .pcs p _ => some p
 | .snt p _ => some p
 | _ => none
theorem RelP.congr {x : Pr} {q : Nat → Rq} {G' : Gh} (R : RelP x q G h p) (hA : ∀ r, r.of = some p → G'.C r = G.C r ∧ G'.S r = G.S r ∧ G'.B r = G.B r) (hr : G'.ro = G.ro) : RelP x q G' h p := by
 have hC : ∀ r, r.of = some p → G'.C r = G.C r := fun r hr => (hA r hr).1
 have hS : ∀ r, r.of = some p → G'.S r = G.S r := fun r hr => (hA r hr).2.1
 have hB : ∀ r, r.of = some p → G'.B r = G.B r := fun r hr => (hA r hr).2.2
 have hpc : ∀ n, prC n G' p = prC n G p := fun n => by
   unfold prC
   rw [hB (.rqs p) rfl, hB (.exs p) rfl, hS (.inb p) rfl, hS (.msg p) rfl, hS (.rcv p) rfl, hS (.crd p) rfl]
 have hrc : ∀ dv no r, rqC G' dv p no r = rqC G dv p no r := fun dv no r => by
   unfold rqC
   rw [hS (.pcs p no) rfl, hS (.snt p no) rfl]
 have hbq : ∀ k, G'.B (.rq p k) = G.B (.rq p k) := fun k => hB _ rfl
 have hcq : ∀ k, G'.C (.rq p k) = G.C (.rq p k) := fun k => hC _ rfl
 refine ⟨?_, ?_, fun k hk => ?_, ?_, fun k hk => ?_, ?_, ?_, ?_, fun k hk => ?_, ?_, fun no hn => ?_, fun no hn => ?_, fun no hn => ?_, fun no hn => ?_⟩
 · rw [hC (.pr p) rfl, hpc]; exact R.pr
 · rw [hC (.rqs p) rfl]; simp only [hbq]; exact R.rqs
 · rw [hcq]; exact R.rqp k hk
 · rw [hC (.exs p) rfl]; simp only [hbq]; exact R.exs
 · rw [hcq]; exact R.exp k hk
 · rw [hC (.inb p) rfl, hr]; exact R.inb
 · rw [hC (.msg p) rfl, hr]; exact R.msg
 · rw [hC (.rcv p) rfl]; simp only [hbq]; exact R.rcv
 · rw [hcq]; exact R.rcp k hk
 · rw [hC (.crd p) rfl]; exact R.crd
 · rw [hcq] at hn ⊢
   obtain ⟨dv, a, b⟩ := R.rq no hn
   exact ⟨dv, by rw [hr]; exact a, by rw [hrc]; exact b⟩
 · rw [hcq] at hn
   rw [hC (.pcs p no) rfl, hr]; exact R.pcs no hn
 · rw [hcq] at hn
   rw [hC (.snt p no) rfl]; exact R.snt no hn
 · rw [hcq] at hn
   exact R.nxt no hn
omit [Tys] in
theorem Op.dr (O : Op G h) (s : Sm G.mut h h') : ∀ v d, Dr h G.ro v d → Dr h' G.ro v d := fun _ _ H => H.mono s (fun b hb hm => O.ro b hm hb) (fun _ x => x)
theorem Rep.ext (R : Rep W G h) (s : Sm Nix h h') : Rep W G h' := ⟨R.op.ext s, R.rel.mono0 (R.op.dr s.of)⟩
theorem Rep.sm {S : Nat → Prop} (R : Rep W G h) (s : Sm S h h') (hS : ∀ b, S b → ¬ G.mut b ∧ ¬ G.ro b) : Rep W G h' :=
 ⟨R.op.sm s fun b hb => (hS b hb).1, R.rel.mono0 fun _ _ H => ⟨H.1.sm s (fun b hb hs => (hS b hs).2 (H.2 b hb)), H.2⟩⟩
theorem Rep.wdL (R : Rep W G h) : Cl h (G.B .wd) [nv W.lim, G.S .prs, .map (some (G.B .ways))] := by
 have := R.op.here .wd
 rw [R.rel.wd] at this
 obtain ⟨b, e, c⟩ := this
 cases e; exact c
theorem Rep.prL (R : Rep W G h) (hp : p < W.n) : Cl h (G.B (.pr p)) (prC (W.pr p).next G p) := by
 have := R.op.here (.pr p)
 rw [(R.rel.pr p hp).pr] at this
 obtain ⟨b, e, c⟩ := this
 cases e; exact c
theorem Rep.rqL (R : Rep W G h) (hp : p < W.n) (hr : G.C (.rq p no) ≠ .no) : ∃ dv, Dr h G.ro dv (W.rq p no).data ∧ Cl h (G.B (.rq p no)) (rqC G dv p no (W.rq p no)) := by
 have := R.op.here (.rq p no)
 obtain ⟨dv, h1, h2⟩ := (R.rel.pr p hp).rq no hr
 rw [h2] at this
 obtain ⟨b, e, c⟩ := this
 cases e; exact ⟨dv, h1, c⟩
theorem Rep.prsL (R : Rep W G h) : Sd h 1 (G.S .prs) W.n ((List.range W.n).map fun p => ptr (G.B (.pr p))) := by
 have := R.op.here .prs
 rw [R.rel.prs] at this
 exact this
theorem Rep.prsAt {P : Program} {T el : TypeId} (R : Rep W G h) (hT : P.underlying T = some (.slice el)) (hk : szOf P el = some 1) (hs : scalT P el = true) (hp : p < W.n) :
  ∃ b o, aIndex P T (G.S .prs) (.int .i64 p) = some (.pointer (some ⟨b, o, none⟩)) ∧ aLoad P el ⟨b, o, none⟩ h = some (ptr (G.B (.pr p))) := by
 obtain ⟨b, o, _, h1, h2⟩ := R.prsL.at hT hk hp .i64
 refine ⟨b, o, h1, ld_cell hs ?_⟩
 have := h2 0 (by decide)
 rw [Nat.add_zero, Nat.mul_one, Nat.add_zero, List.getElem?_map, List.getElem?_range hp] at this
 exact this
theorem Rep.prsAt2 {P : Program} {T el : TypeId} (R : Rep W G h) (hT : P.underlying T = some (.slice el)) (hk : szOf P el = some 1) (hs : scalT P el = true) (hp : p < W.n) :
  ∃ b o, aIndex P T (G.S .prs) (.int .i64 p) = some (.pointer (some ⟨b, o, none⟩)) ∧ aLoad P el ⟨b, o, none⟩ h = some (ptr (G.B (.pr p))) ∧ vb (G.S .prs) = some b := by
 obtain ⟨b, o, hv, h1, h2⟩ := R.prsL.at hT hk hp .i64
 refine ⟨b, o, h1, ld_cell hs ?_, hv⟩
 have := h2 0 (by decide)
 rw [Nat.add_zero, Nat.mul_one, Nat.add_zero, List.getElem?_map, List.getElem?_range hp] at this
 exact this
theorem Rep.way (R : Rep W G h) (a b : Int) : ∃ cs, Gr h 1 (G.S (.way a b)) (W.way a b).length cs ∧ Ls (RPk h G.ro) 1 (W.way a b) cs := by
 obtain ⟨cs, h1, h2⟩ := R.rel.way a b
 have := R.op.here (.way a b)
 rw [h1] at this
 exact ⟨cs, this, h2⟩
theorem Rep.inb (R : Rep W G h) (hp : p < W.n) : ∃ cs, Gr h 2 (G.S (.inb p)) (W.pr p).inb.length cs ∧ Ls (RAr h G.ro) 2 (W.pr p).inb cs := by
 obtain ⟨cs, h1, h2⟩ := (R.rel.pr p hp).inb
 have := R.op.here (.inb p)
 rw [h1] at this
 exact ⟨cs, this, h2⟩
theorem Rep.msg (R : Rep W G h) (hp : p < W.n) : ∃ cs, Gr h 6 (G.S (.msg p)) (W.pr p).msgs.length cs ∧ Ls (RMs h G.ro) 6 (W.pr p).msgs cs := by
 obtain ⟨cs, h1, h2⟩ := (R.rel.pr p hp).msg
 have := R.op.here (.msg p)
 rw [h1] at this
 exact ⟨cs, this, h2⟩
theorem Rep.rcv (R : Rep W G h) (hp : p < W.n) : Gr h 1 (G.S (.rcv p)) (W.pr p).rcvs.length ((W.pr p).rcvs.map fun k => ptr (G.B (.rq p k))) := by
 have := R.op.here (.rcv p)
 rw [(R.rel.pr p hp).rcv] at this
 exact this
theorem Rep.crd (R : Rep W G h) (hp : p < W.n) : Ws h 1 (G.S (.crd p)) (W.pr p).crds.length ((W.pr p).crds.map nv) := by
 have := R.op.here (.crd p)
 rw [(R.rel.pr p hp).crd] at this
 exact this
theorem Rep.rqs (R : Rep W G h) (hp : p < W.n) : Mp h (G.B (.rqs p)) nv Eq ((W.pr p).reqs.map fun (k : Nat) => ((k : Int), ptr (G.B (.rq p k)))) ∧ Mb h (G.B (.rqs p)) := by
 have := R.op.here (.rqs p)
 rw [(R.rel.pr p hp).rqs] at this
 obtain ⟨b, e, c⟩ := this
 cases e; exact c
theorem Rep.exs (R : Rep W G h) (hp : p < W.n) : Mp h (G.B (.exs p)) k2 Eq ((W.pr p).exps.map fun e => (e.1, ptr (G.B (.rq p e.2)))) ∧ Mb h (G.B (.exs p)) := by
 have := R.op.here (.exs p)
 rw [(R.rel.pr p hp).exs] at this
 obtain ⟨b, e, c⟩ := this
 cases e; exact c
theorem Rep.waysN (R : Rep W G h) : ∃ m, Mp h (G.B .ways) k2 Eq m ∧ Mb h (G.B .ways) ∧ G.C .ways = .mp m ∧ (m.map (·.1)).Nodup ∧ ∀ a b, (kget m (a, b)).getD nilS = G.S (.way a b) := by
 obtain ⟨m, h1, h2⟩ := R.rel.ways
 have := R.op.here .ways
 rw [h1] at this
 obtain ⟨b, e, c, d⟩ := this
 cases e; exact ⟨m, c, d, h1, h2⟩
theorem Rep.ways (R : Rep W G h) : ∃ m, Mp h (G.B .ways) k2 Eq m ∧ Mb h (G.B .ways) ∧ G.C .ways = .mp m ∧ ∀ a b, (kget m (a, b)).getD nilS = G.S (.way a b) := by
 obtain ⟨m, a, b, c, d, e⟩ := R.waysN; exact ⟨m, a, b, c, e⟩
end
end
end Go.Arm
namespace Go.Arm
noncomputable section
open Go Go.X Go.Mt
variable [Tys]
section
variable {W W' : Wd} {G G' : Gh} {h h' : AH} {p no : Nat} {v : Value} {x : Pr} {q : Nat → Rq} {cs : List Value}
theorem Rel.at (R : Rel W G h) (h1 : W'.lim = W.lim) (h2 : W'.n = W.n) (h3 : W'.way = W.way) (h4 : ∀ k, k ≠ p → W'.pr k = W.pr k ∧ W'.rq k = W.rq k)
   (hG : ∀ r, r.of ≠ some p → G'.C r = G.C r ∧ G'.S r = G.S r ∧ G'.B r = G.B r) (hB : G'.B (.pr p) = G.B (.pr p)) (hr : G'.ro = G.ro) (P : p < W.n → RelP (W'.pr p) (W'.rq p) G' h p) : Rel W' G' h := by
 have hw := hG .wd (by simp [Ro.of])
 have hq := hG .prs (by simp [Ro.of])
 have hy := hG .ways (by simp [Ro.of])
 refine ⟨by rw [hw.1, h1, hq.2.1, hy.2.2]; exact R.wd, ?_, ?_, fun a b => ?_, fun k hk => ?_⟩
 · rw [hq.1, h2, R.prs]
   congr 1
   refine List.map_congr_left fun k _ => ?_
   by_cases e : k = p
   · rw [e, hB]
   · rw [(hG (.pr k) (by simpa [Ro.of] using e)).2.2]
 · obtain ⟨m, a1, a2⟩ := R.ways
   exact ⟨m, by rw [hy.1]; exact a1, a2.1, fun a b => by rw [(hG (.way a b) (by simp [Ro.of])).2.1]; exact a2.2 a b⟩
 · rw [(hG (.way a b) (by simp [Ro.of])).1, h3, hr]; exact R.way a b
 · rw [h2] at hk
   by_cases e : k = p
   · subst e; exact P hk
   · rw [(h4 k e).1, (h4 k e).2]
     exact (R.pr k hk).congr (fun r hr => hG r (by rw [hr]; simpa using e)) hr
omit [Tys] in
theorem of_ne {r r' : Ro} {p : Nat} (hr : r.of = some p) (h : r'.of ≠ some p) : r' ≠ r := fun e => h (e ▸ hr)
theorem RelP.inbX (P : RelP x q G h p) {l : List (Int × Pk)} (H : Ls (RAr h G.ro) 2 l cs) :
  RelP { x with inb := l } q ((G.putS (.inb p) v (.gr 2 l.length cs)).putC (.pr p) (.cl (prC x.next (G.putS (.inb p) v (.gr 2 l.length cs)) p))) h p :=
 ⟨ups_at _ _ _, P.rqs, P.rqp, P.exs, P.exp, ⟨cs, ups_at _ _ _, H⟩, P.msg, P.rcv, P.rcp, P.crd, P.rq, P.pcs, P.snt, P.nxt⟩
theorem RelP.msgX (P : RelP x q G h p) {l : List Ms} (H : Ls (RMs h G.ro) 6 l cs) :
  RelP { x with msgs := l } q ((G.putS (.msg p) v (.gr 6 l.length cs)).putC (.pr p) (.cl (prC x.next (G.putS (.msg p) v (.gr 6 l.length cs)) p))) h p :=
 ⟨ups_at _ _ _, P.rqs, P.rqp, P.exs, P.exp, P.inb, ⟨cs, ups_at _ _ _, H⟩, P.rcv, P.rcp, P.crd, P.rq, P.pcs, P.snt, P.nxt⟩
theorem RelP.rcvX (P : RelP x q G h p) {l : List Nat} (H : ∀ k, k ∈ l → G.C (.rq p k) ≠ .no) :
  RelP { x with rcvs := l } q ((G.putS (.rcv p) v (.gr 1 l.length (l.map fun k => ptr (G.B (.rq p k))))).putC (.pr p) (.cl (prC x.next (G.putS (.rcv p) v (.gr 1 l.length (l.map fun k => ptr (G.B (.rq p k))))) p))) h p :=
 ⟨ups_at _ _ _, P.rqs, P.rqp, P.exs, P.exp, P.inb, P.msg, ups_at _ _ _, H, P.crd, P.rq, P.pcs, P.snt, P.nxt⟩
theorem RelP.crdX (P : RelP x q G h p) (l : List Int) : RelP { x with crds := l } q (G.putC (.crd p) (.ws l.length (l.map nv))) h p :=
 ⟨P.pr, P.rqs, P.rqp, P.exs, P.exp, P.inb, P.msg, P.rcv, P.rcp, ups_at _ _ _, P.rq, P.pcs, P.snt, P.nxt⟩
theorem RelP.exsX (P : RelP x q G h p) {l : List ((Int × Int) × Nat)} (H : ∀ e, e ∈ l → G.C (.rq p e.2) ≠ .no) : RelP { x with exps := l } q (G.putC (.exs p) (.mp (l.map fun e => (e.1, ptr (G.B (.rq p e.2)))))) h p :=
 ⟨P.pr, P.rqs, P.rqp, ups_at _ _ _, H, P.inb, P.msg, P.rcv, P.rcp, P.crd, P.rq, P.pcs, P.snt, P.nxt⟩
theorem RelP.rqsX (P : RelP x q G h p) {l : List Nat} (H : ∀ k, k ∈ l → G.C (.rq p k) ≠ .no) : RelP { x with reqs := l } q (G.putC (.rqs p) (.mi (l.map fun (k : Nat) => ((k : Int), ptr (G.B (.rq p k)))))) h p :=
 ⟨P.pr, ups_at _ _ _, H, P.exs, P.exp, P.inb, P.msg, P.rcv, P.rcp, P.crd, P.rq, P.pcs, P.snt, P.nxt⟩
omit [Tys] in
theorem pres {r r' : Ro} {x : Th} (hx : x ≠ .no) (h0 : G.C r ≠ .no) : (G.putC r x).C r' ≠ .no ↔ G.C r' ≠ .no := by
 show ups G.C r x r' ≠ .no ↔ _
 by_cases e : r' = r
 · subst e; rw [ups_at]; simp [hx, h0]
 · rw [ups_ne _ _ e]
theorem RelP.rqX (P : RelP x q G h p) (h0 : G.C (.rq p no) ≠ .no) {dv : Value} {r : Rq} (hd : Dr h G.ro dv r.data) (hp : r.pcs = (q no).pcs) (hs : r.sent = (q no).sent) : RelP x (ups q no r) (G.putC (.rq p no) (.cl (rqC G dv p no r))) h p := by
 have hpr : ∀ k, (G.putC (.rq p no) (.cl (rqC G dv p no r))).C (.rq p k) ≠ .no ↔ G.C (.rq p k) ≠ .no := fun k => pres (by simp) h0
 have hat : (G.putC (.rq p no) (.cl (rqC G dv p no r))).C (.rq p no) = .cl (rqC G dv p no r) := ups_at _ _ _
 have hne : ∀ k, k ≠ no → (G.putC (.rq p no) (.cl (rqC G dv p no r))).C (.rq p k) = G.C (.rq p k) := fun k e => ups_ne _ _ (by simpa using e)
 refine ⟨P.pr, P.rqs, fun k hk => (hpr k).2 (P.rqp k hk), P.exs, fun e he => (hpr e.2).2 (P.exp e he), P.inb, P.msg, P.rcv, fun k hk => (hpr k).2 (P.rcp k hk), P.crd, fun k hk => ?_, fun k hk => ?_, fun k hk => ?_, fun k hk => P.nxt k ((hpr k).1 hk)⟩
 · by_cases e : k = no
   · subst e
     exact ⟨dv, by rw [ups_at]; exact hd, by rw [hat, ups_at]; rfl⟩
   · obtain ⟨dv', a, b⟩ := P.rq k ((hpr k).1 hk)
     exact ⟨dv', by rw [ups_ne _ _ e]; exact a, by rw [hne k e, ups_ne _ _ e]; exact b⟩
 · by_cases e : k = no
   · subst e
     rw [ups_at, hp]; exact P.pcs k h0
   · rw [ups_ne _ _ e]; exact P.pcs k ((hpr k).1 hk)
 · by_cases e : k = no
   · subst e
     rw [ups_at, hs]; exact P.snt k h0
   · rw [ups_ne _ _ e]; exact P.snt k ((hpr k).1 hk)
end
end
end Go.Arm
namespace Go.Arm
noncomputable section
open Go Go.X Go.Mt
variable [Tys]
def Nxt (W' : Wd) (G : Gh) (h h' : AH) : Prop := ∃ S C ro, Rep W' ⟨G.B, S, C, ro⟩ h' ∧ Gx G h ⟨G.B, S, C, ro⟩ h'
section
variable {κ β : Type} [DecidableEq κ]
omit [Tys] in
theorem kgs_at (m : List (κ × β)) (k : κ) (v : β) : kget (kset m k v) k = some v := by
 induction m with
 | nil => simp [kset, kget]
 | cons x m ih =>
  unfold kset
  split
  · simp [kget]
  · rename_i hne; unfold kget; rw [if_neg hne]; exact ih
omit [Tys] in
theorem kgs_ne (m : List (κ × β)) {k k' : κ} {v : β} (e : k' ≠ k) : kget (kset m k v) k' = kget m k' := by
 induction m with
 | nil => simp only [kset, kget]; rw [if_neg (fun h => e h.symm)]
 | cons x m ih =>
  unfold kset
  split
  · rename_i hx
    unfold kget
    rw [if_neg (fun h => e h.symm), if_neg (fun h => e (by rw [← h, hx]))]
  · unfold kget
    split
    · rfl
    · exact ih
end
def Ow (h0 : AH) (G : Gh) (b : Nat) : Prop := h0.next ≤ b ∧ ¬ G.mut b ∧ ¬ G.ro b
section
variable {W W' : Wd} {G G' G1 : Gh} {h h' h1 h2 : AH} {p no : Nat} {v : Value} {cs : List Value} {S : Nat → Prop}
theorem Nxt.after {S : Ro → Value} {C : Ro → Th} {ro : Nat → Prop} (N : Nxt W' ⟨G.B, S, C, ro⟩ h1 h') (X : Gx G h ⟨G.B, S, C, ro⟩ h1) : Nxt W' G h h' := by
 obtain ⟨S', C', ro', R, Y⟩ := N
 exact ⟨S', C', ro', R, X.trans Y⟩
theorem Nxt.pre (s : Sm Nix h h1) (N : Nxt W' G h1 h') : Nxt W' G h h' := by
 obtain ⟨S', C', ro', R, Y⟩ := N
 exact ⟨S', C', ro', R, (Gx.of s).trans Y⟩
theorem Rep.ow {h0 : AH} (R : Rep W G h) (t : Sm (Ow h0 G) h h') : Rep W G h' := R.sm t fun _ hb => ⟨hb.2.1, hb.2.2⟩
omit [Tys] in
theorem Gx.ow {h0 : AH} (X : Gx G h0 G' h) (t : Sm (Ow h0 G') h h') : Gx G h0 G' h' := ⟨X.sm.trans t (fun _b hb => .inr hb.1), X.mu, X.ron, X.rok, X.keep, X.prs, X.fix⟩
omit [Tys] in
theorem Gx.dr (X : Gx G h G' h') (O : Op G h) : ∀ v d, Dr h G.ro v d → Dr h' G'.ro v d := fun _ _ H => H.mono X.sm (fun b hb hm => O.ro b hm hb) X.rok
theorem Rep.more (R : Rep W G h) {Q : Nat → Prop} (s : Sm Nix h h') (h1 : ∀ b, Q b → h.next ≤ b) (h2 : ∀ b, Q b → b < h'.next) : Rep W (G.more Q) h' ∧ Gx G h (G.more Q) h' := by
 obtain ⟨O, X⟩ := R.op.more s h1 h2
 exact ⟨⟨O, R.rel.mono rfl rfl rfl (X.dr R.op)⟩, X⟩
theorem Rep.setRq (R : Rep W G h) (_hp : p < W.n) (hr : G.C (.rq p no) ≠ .no) {dv : Value} {r : Rq} (c : Cl h' (G.B (.rq p no)) (rqC G dv p no r)) (t : Sm S h h') (hS : ∀ k, S k → k = G.B (.rq p no) ∨ h.next ≤ k) (hd : Dr h' G.ro dv r.data) (h1 : r.pcs = (W.rq p no).pcs) (h2 : r.sent = (W.rq p no).sent) :
  Rep (W.setRq p no r) (G.putC (.rq p no) (.cl (rqC G dv p no r))) h' ∧ Gx G h (G.putC (.rq p no) (.cl (rqC G dv p no r))) h' := by
 have t2 : Sm (fun k => k = G.B (.rq p no)) h h' := ⟨t.nx, fun k hk hn => t.get k hk fun hs => (hS k hs).elim hn (by omega)⟩
 obtain ⟨O, X⟩ := R.op.putC (.rq p no) (x := .cl (rqC G dv p no r)) (by simp) hr t2 (fun k hk => by subst hk; rfl) ⟨_, rfl, c⟩
 refine ⟨⟨O, ((R.rel.mono0 (X.dr R.op)).at (p := p) rfl rfl rfl (fun k hk => ⟨rfl, ups_ne _ _ hk⟩) (fun r hr => ⟨ups_ne _ _ (of_ne (by simp [Ro.of]) hr), rfl, rfl⟩) rfl rfl fun hp => ?_)⟩, X⟩
 show RelP (W.pr p) (ups W.rq p (ups (W.rq p) no r) p) _ _ _
 rw [ups_at]
 exact ((R.rel.mono0 (X.dr R.op)).pr p hp).rqX hr hd h1 h2
theorem Rep.stRq (R : Rep W G h) (hp : p < W.n) (hr : G.C (.rq p no) ≠ .no) {dv : Value} {r : Rq} (hd : Dr h G.ro dv (W.rq p no).data) (c : Cl h' (G.B (.rq p no)) (rqC G dv p no r)) (t : Sm (fun k => k = G.B (.rq p no)) h h') (h0 : r.data = (W.rq p no).data) (h1 : r.pcs = (W.rq p no).pcs) (h2 : r.sent = (W.rq p no).sent) :
  Nxt (W.setRq p no r) G h h' := by
 have := R.setRq hp hr (dv := dv) c t (fun k hk => .inl hk) (by rw [h0]; exact R.op.dr (t.mono fun k hk => ⟨.rq p no, hr, by subst hk; rfl⟩) _ _ hd) h1 h2
 exact ⟨_, _, _, this⟩
omit [Tys] in
theorem Op.ne (O : Op G h) {r r' : Ro} (h1 : G.C r ≠ .no) (h2 : G.C r' ≠ .no) (hn : r ≠ r') {b : Nat} (hb : vbx (G.V r) = some b) : ¬ vbx (G.V r') = some b := fun e => hn (O.inj _ _ _ h1 h2 hb e)
theorem Rep.listX (R : Rep W G h) (hp : p < W.n) {r : Ro} (hr : r = .inb p ∨ r = .msg p ∨ r = .rcv p) {k n : Nat} {x : Pr} (_hx : x.next = (W.pr p).next) (g : Gr h1 k v n cs) (s : Sm S h h1) (hS : ∀ c, S c → vb (G.S r) = some c ∨ h.next ≤ c) (hv : ∀ c, vb v = some c → vb (G.S r) = some c ∨ h.next ≤ c)
   (c : Cl h2 (G.B (.pr p)) (prC (W.pr p).next (G.putS r v (.gr k n cs)) p)) (t : Sm (fun k => k = G.B (.pr p)) h1 h2)
   (hP : ∀ _f : (∀ v d, Dr h G.ro v d → Dr h2 G.ro v d), RelP (W.pr p) (W.rq p) G h2 p → RelP x (W.rq p) ((G.putS r v (.gr k n cs)).putC (.pr p) (.cl (prC (W.pr p).next (G.putS r v (.gr k n cs)) p))) h2 p) :
   Rep (W.setPr p x) ((G.putS r v (.gr k n cs)).putC (.pr p) (.cl (prC (W.pr p).next (G.putS r v (.gr k n cs)) p))) h2 ∧ Gx G h ((G.putS r v (.gr k n cs)).putC (.pr p) (.cl (prC (W.pr p).next (G.putS r v (.gr k n cs)) p))) h2 := by
 have P0 := R.rel.pr p hp
 have h0 : G.C r ≠ .no := by
   rcases hr with rfl | rfl | rfl
   · obtain ⟨cs, e, _⟩ := P0.inb; rw [e]; simp
   · obtain ⟨cs, e, _⟩ := P0.msg; rw [e]; simp
   · rw [P0.rcv]; simp
 have hV : ∀ G : Gh, G.V r = G.S r := by rcases hr with rfl | rfl | rfl <;> intro G <;> rfl
 have hof : r.of = some p := by rcases hr with rfl | rfl | rfl <;> rfl
 have hprs : r ≠ .prs := by rcases hr with rfl | rfl | rfl <;> simp
 have hpr : r ≠ .pr p := by rcases hr with rfl | rfl | rfl <;> simp
 have hB : ∃ b, G.S r = G.S r ∧ b = G.B (.pr p) := ⟨_, rfl, rfl⟩
 obtain ⟨O1, X1⟩ := R.op.putS r v (x := .gr k n cs) (by simp) h0 hV hprs s (fun c hc => (hS c hc).imp vb_vbx id) g (fun c hc => by
   have hc2 : vb v = some c := vbx_sl (by obtain ⟨a, e, f⟩ := g.sd.form; exact ⟨a, n, e, f⟩) hc
   exact (hv c hc2).imp vb_vbx id) (fun p no => by rcases hr with rfl | rfl | rfl <;> exact ⟨(fun e => by cases e), (fun e => by cases e)⟩)
 obtain ⟨O2, X2⟩ := O1.putC (.pr p) (x := .cl (prC (W.pr p).next (G.putS r v (.gr k n cs)) p)) (by simp) (by show ups G.C r _ _ ≠ _; rw [ups_ne _ _ (Ne.symm hpr), P0.pr]; simp) t (fun k hk => by subst hk; rfl) ⟨_, rfl, c⟩
 have X := X1.trans X2
 refine ⟨⟨O2, (R.rel.mono0 (X.dr R.op)).at (p := p) rfl rfl rfl (fun k hk => ⟨ups_ne _ _ hk, rfl⟩) (fun r' hr' => ⟨?_, ?_, rfl⟩) rfl rfl fun hp => ?_⟩, X⟩
 · exact (ups_ne _ _ (of_ne (by simp [Ro.of]) hr')).trans (ups_ne _ _ (of_ne hof hr'))
 · exact ups_ne _ _ (of_ne hof hr')
 · show RelP (ups W.pr p x p) _ _ _ _
   rw [ups_at]
   exact hP (X.dr R.op) ((R.rel.mono0 (X.dr R.op)).pr p hp)
theorem Rep.list (R : Rep W G h) (hp : p < W.n) {r : Ro} (hr : r = .inb p ∨ r = .msg p ∨ r = .rcv p) {k n : Nat} {x : Pr} (hx : x.next = (W.pr p).next) (g : Gr h1 k v n cs) (s : Sm S h h1) (hS : ∀ c, S c → vb (G.S r) = some c ∨ h.next ≤ c) (hv : ∀ c, vb v = some c → vb (G.S r) = some c ∨ h.next ≤ c)
 (c : Cl h2 (G.B (.pr p)) (prC (W.pr p).next (G.putS r v (.gr k n cs)) p)) (t : Sm (fun k => k = G.B (.pr p)) h1 h2)
 (hP : ∀ _f : (∀ v d, Dr h G.ro v d → Dr h2 G.ro v d), RelP (W.pr p) (W.rq p) G h2 p → RelP x (W.rq p) ((G.putS r v (.gr k n cs)).putC (.pr p) (.cl (prC (W.pr p).next (G.putS r v (.gr k n cs)) p))) h2 p) : Nxt (W.setPr p x) G h h2 := ⟨_, _, _, R.listX hp hr hx g s hS hv c t hP⟩
theorem Rep.setInb (R : Rep W G h) (hp : p < W.n) {l : List (Int × Pk)} (H : Ls (RAr h G.ro) 2 l cs) (g : Gr h1 2 v l.length cs) (s : Sm S h h1) (hS : ∀ c, S c → vb (G.S (.inb p)) = some c ∨ h.next ≤ c) (hv : ∀ c, vb v = some c → vb (G.S (.inb p)) = some c ∨ h.next ≤ c)
  (c : Cl h2 (G.B (.pr p)) [nk (W.pr p).next, .map (some (G.B (.rqs p))), .map (some (G.B (.exs p))), v, G.S (.msg p), G.S (.rcv p), G.S (.crd p)]) (t : Sm (fun k => k = G.B (.pr p)) h1 h2) : Nxt (W.setPr p { W.pr p with inb := l }) G h h2 :=
 R.list hp (r := .inb p) (.inl rfl) rfl g s hS hv (by
  have : prC (W.pr p).next (G.putS (.inb p) v (.gr 2 l.length cs)) p = [nk (W.pr p).next, .map (some (G.B (.rqs p))), .map (some (G.B (.exs p))), v, G.S (.msg p), G.S (.rcv p), G.S (.crd p)] := by
   unfold prC
   rw [show (G.putS (.inb p) v (.gr 2 l.length cs)).S (.inb p) = v from ups_at _ _ _]
   rfl
  rw [this]; exact c) t fun f P => P.inbX (H.mono fun _ _ z => z.mono f)
theorem Rep.nilInb (R : Rep W G h) (hp : p < W.n) (c : Cl h2 (G.B (.pr p)) [nk (W.pr p).next, .map (some (G.B (.rqs p))), .map (some (G.B (.exs p))), .slice none 0 0, G.S (.msg p), G.S (.rcv p), G.S (.crd p)]) (t : Sm (fun k => k = G.B (.pr p)) h h2) :
   ∃ S C ro, (Rep (W.setPr p { W.pr p with inb := [] }) ⟨G.B, S, C, ro⟩ h2 ∧ Gx G h ⟨G.B, S, C, ro⟩ h2) ∧ ∀ b, vb (G.S (.inb p)) = some b → ¬ (Gh.mut ⟨G.B, S, C, ro⟩) b ∧ ¬ ro b := by
 obtain ⟨cs, ec, _⟩ := (R.rel.pr p hp).inb
 have hpr := (R.rel.pr p hp).pr
 have := R.listX hp (r := .inb p) (.inl rfl) (x := { W.pr p with inb := [] }) rfl (v := .slice none 0 0) (k := 2) (n := 0) (cs := []) Gr.nil (Sm.refl (S := Nix)) (fun c hc => hc.elim) (fun c hc => by cases hc) (by
   have : prC (W.pr p).next (G.putS (.inb p) (.slice none 0 0) (.gr 2 0 [])) p = [nk (W.pr p).next, .map (some (G.B (.rqs p))), .map (some (G.B (.exs p))), .slice none 0 0, G.S (.msg p), G.S (.rcv p), G.S (.crd p)] := by
    unfold prC
    rw [show (G.putS (.inb p) (.slice none 0 0) (.gr 2 0 [])).S (.inb p) = .slice none 0 0 from ups_at _ _ _]
    rfl
   rw [this]; exact c) t fun f P => P.inbX (l := []) (cs := []) .nil
 refine ⟨_, _, _, this, fun b hb => ⟨?_, R.op.ro b ⟨.inb p, by rw [ec]; simp, vb_vbx hb⟩⟩⟩
 rintro ⟨r, h1, h3⟩
 by_cases e : r = .inb p
 · subst e
   have : ((G.putS (.inb p) (.slice none 0 0) (.gr 2 0 [])).putC (.pr p) (.cl (prC (W.pr p).next (G.putS (.inb p) (.slice none 0 0) (.gr 2 0 [])) p))).V (.inb p) = .slice none 0 0 := ups_at _ _ _
   have h3 := (congrArg vbx this).symm.trans h3
   cases h3
 · have hv : ((G.putS (.inb p) (.slice none 0 0) (.gr 2 0 [])).putC (.pr p) (.cl (prC (W.pr p).next (G.putS (.inb p) (.slice none 0 0) (.gr 2 0 [])) p))).V r = G.V r := by
    cases r <;> first | rfl | exact ups_ne _ _ e
   have hc : G.C r ≠ .no := by
    by_cases e2 : r = .pr p
    · rw [e2, hpr]; simp
    · have : ups (ups G.C (.inb p) (.gr 2 0 [])) (.pr p) (.cl (prC (W.pr p).next (G.putS (.inb p) (.slice none 0 0) (.gr 2 0 [])) p)) r = G.C r := by rw [ups_ne _ _ e2, ups_ne _ _ e]
      exact fun h5 => h1 (by show ups (ups G.C (.inb p) _) (.pr p) _ r = _; exact this.trans h5)
   have h3 := (congrArg vbx hv).symm.trans h3
   exact e (R.op.inj _ _ _ hc (by rw [ec]; simp) h3 (vb_vbx hb))
theorem Rep.setMsg (R : Rep W G h) (hp : p < W.n) {l : List Ms} (H : Ls (RMs h G.ro) 6 l cs) (g : Gr h1 6 v l.length cs) (s : Sm S h h1) (hS : ∀ c, S c → vb (G.S (.msg p)) = some c ∨ h.next ≤ c) (hv : ∀ c, vb v = some c → vb (G.S (.msg p)) = some c ∨ h.next ≤ c)
  (c : Cl h2 (G.B (.pr p)) [nk (W.pr p).next, .map (some (G.B (.rqs p))), .map (some (G.B (.exs p))), G.S (.inb p), v, G.S (.rcv p), G.S (.crd p)]) (t : Sm (fun k => k = G.B (.pr p)) h1 h2) : Nxt (W.setPr p { W.pr p with msgs := l }) G h h2 :=
 R.list hp (r := .msg p) (.inr (.inl rfl)) rfl g s hS hv (by
  have : prC (W.pr p).next (G.putS (.msg p) v (.gr 6 l.length cs)) p = [nk (W.pr p).next, .map (some (G.B (.rqs p))), .map (some (G.B (.exs p))), G.S (.inb p), v, G.S (.rcv p), G.S (.crd p)] := by
   unfold prC
   rw [show (G.putS (.msg p) v (.gr 6 l.length cs)).S (.msg p) = v from ups_at _ _ _]
   rfl
  rw [this]; exact c) t fun f P => P.msgX (H.mono fun _ _ z => z.mono f)
theorem Rep.setRcv (R : Rep W G h) (hp : p < W.n) {l : List Nat} (H : ∀ k, k ∈ l → G.C (.rq p k) ≠ .no) (g : Gr h1 1 v l.length (l.map fun k => ptr (G.B (.rq p k)))) (s : Sm S h h1) (hS : ∀ c, S c → vb (G.S (.rcv p)) = some c ∨ h.next ≤ c) (hv : ∀ c, vb v = some c → vb (G.S (.rcv p)) = some c ∨ h.next ≤ c)
  (c : Cl h2 (G.B (.pr p)) [nk (W.pr p).next, .map (some (G.B (.rqs p))), .map (some (G.B (.exs p))), G.S (.inb p), G.S (.msg p), v, G.S (.crd p)]) (t : Sm (fun k => k = G.B (.pr p)) h1 h2) : Nxt (W.setPr p { W.pr p with rcvs := l }) G h h2 :=
 R.list hp (r := .rcv p) (.inr (.inr rfl)) rfl g s hS hv (by
  have : prC (W.pr p).next (G.putS (.rcv p) v (.gr 1 l.length (l.map fun k => ptr (G.B (.rq p k))))) p = [nk (W.pr p).next, .map (some (G.B (.rqs p))), .map (some (G.B (.exs p))), G.S (.inb p), G.S (.msg p), v, G.S (.crd p)] := by
   unfold prC
   rw [show (G.putS (.rcv p) v (.gr 1 l.length (l.map fun k => ptr (G.B (.rq p k))))).S (.rcv p) = v from ups_at _ _ _]
   rfl
  rw [this]; exact c) t fun f P => P.rcvX H
theorem Rep.one (R : Rep W G h) (_hp : p < W.n) {r : Ro} (hof : r.of = some p) (_hB : r ≠ .pr p) {y : Th} {x : Pr} (hy : y ≠ .no) (h0 : G.C r ≠ .no) (s : Sm S h h') (hS : ∀ c, S c → vbx (G.V r) = some c) (A : At h' (G.V r) y)
  (hP : RelP (W.pr p) (W.rq p) G h' p → RelP x (W.rq p) (G.putC r y) h' p) : Rep (W.setPr p x) (G.putC r y) h' ∧ Gx G h (G.putC r y) h' := by
 obtain ⟨O, X⟩ := R.op.putC r (x := y) hy h0 s hS A
 refine ⟨⟨O, (R.rel.mono0 (X.dr R.op)).at (p := p) rfl rfl rfl (fun k hk => ⟨ups_ne _ _ hk, rfl⟩) (fun r' hr' => ⟨ups_ne _ _ (of_ne hof hr'), rfl, rfl⟩) rfl rfl fun hp => ?_⟩, X⟩
 show RelP (ups W.pr p x p) _ _ _ _
 rw [ups_at]
 exact hP ((R.rel.mono0 (X.dr R.op)).pr p hp)
theorem Rep.setCrd (R : Rep W G h) (hp : p < W.n) {l : List Int} (A : Ws h' 1 (G.S (.crd p)) l.length (l.map nv)) (s : Sm (fun b => vb (G.S (.crd p)) = some b) h h') : Nxt (W.setPr p { W.pr p with crds := l }) G h h' := by
 have := R.one hp (r := .crd p) rfl (by simp) (y := .ws l.length (l.map nv)) (x := { W.pr p with crds := l }) (by simp) (by rw [(R.rel.pr p hp).crd]; simp) s (fun c hc => vb_vbx hc) A (fun P => P.crdX l)
 exact ⟨_, _, _, this⟩
theorem Rep.setExs (R : Rep W G h) (hp : p < W.n) {l : List ((Int × Int) × Nat)} (H : ∀ e, e ∈ l → G.C (.rq p e.2) ≠ .no) (A : Mp h' (G.B (.exs p)) k2 Eq (l.map fun e => (e.1, ptr (G.B (.rq p e.2))))) (B : Mb h' (G.B (.exs p))) (s : Sm (fun b => b = G.B (.exs p)) h h') : Nxt (W.setPr p { W.pr p with exps := l }) G h h' := by
 have := R.one hp (r := .exs p) rfl (by simp) (y := .mp (l.map fun e => (e.1, ptr (G.B (.rq p e.2))))) (x := { W.pr p with exps := l }) (by simp) (by rw [(R.rel.pr p hp).exs]; simp) s (fun c hc => by subst hc; rfl) ⟨_, rfl, A, B⟩ (fun P => P.exsX H)
 exact ⟨_, _, _, this⟩
theorem Rep.setRqs (R : Rep W G h) (hp : p < W.n) {l : List Nat} (H : ∀ k, k ∈ l → G.C (.rq p k) ≠ .no) (A : Mp h' (G.B (.rqs p)) nv Eq (l.map fun (k : Nat) => ((k : Int), ptr (G.B (.rq p k))))) (B : Mb h' (G.B (.rqs p))) (s : Sm (fun b => b = G.B (.rqs p)) h h') : Nxt (W.setPr p { W.pr p with reqs := l }) G h h' := by
 have := R.one hp (r := .rqs p) rfl (by simp) (y := .mi (l.map fun (k : Nat) => ((k : Int), ptr (G.B (.rq p k))))) (x := { W.pr p with reqs := l }) (by simp) (by rw [(R.rel.pr p hp).rqs]; simp) s (fun c hc => by subst hc; rfl) ⟨_, rfl, A, B⟩ (fun P => P.rqsX H)
 exact ⟨_, _, _, this⟩
omit [Tys] in
theorem kset_keys {κ β : Type} [DecidableEq κ] (m : List (κ × β)) (k : κ) (v : β) : ∀ x, x ∈ (kset m k v).map (·.1) → x = k ∨ x ∈ m.map (·.1) := by
 induction m with
 | nil => intro x hx; simp [kset] at hx; exact .inl hx
 | cons y m ih =>
  intro x hx
  unfold kset at hx
  split at hx
  · rename_i e
    rcases List.mem_cons.1 hx with hx | hx
    · exact .inl hx
    · exact .inr (List.mem_cons_of_mem _ hx)
  · rcases List.mem_cons.1 hx with hx | hx
    · exact .inr (List.mem_cons.2 (.inl hx))
    · exact (ih x hx).imp id (List.mem_cons_of_mem _)
omit [Tys] in
theorem kset_nodup {κ β : Type} [DecidableEq κ] {m : List (κ × β)} (h : (m.map (·.1)).Nodup) (k : κ) (v : β) : ((kset m k v).map (·.1)).Nodup := by
 induction m with
 | nil => simp [kset]
 | cons y m ih =>
  rw [List.map_cons, List.nodup_cons] at h
  unfold kset
  split
  · rename_i e
    rw [List.map_cons, List.nodup_cons]
    exact ⟨by rw [← e]; exact h.1, h.2⟩
  · rename_i e
    rw [List.map_cons, List.nodup_cons]
    refine ⟨fun hx => ?_, ih h.2⟩
    rcases kset_keys m k v _ hx with h5 | h5
    · exact e h5
    · exact h.1 h5
omit [Tys] in
theorem kget_nodup {κ β : Type} [DecidableEq κ] {m : List (κ × β)} (h : (m.map (·.1)).Nodup) {x : κ × β} (hx : x ∈ m) : kget m x.1 = some x.2 := by
 induction m with
 | nil => cases hx
 | cons y m ih =>
  rw [List.map_cons, List.nodup_cons] at h
  unfold kget
  rcases List.mem_cons.1 hx with rfl | hx
  · rw [if_pos rfl]
  · rw [if_neg (fun e => h.1 (by rw [e]; exact List.mem_map.2 ⟨x, hx, rfl⟩))]
    exact ih h.2 hx
omit [Tys] in
theorem hw_kset {a b : Int} {m : List ((Int × Int) × Value)} (hm : ∀ i j, (kget m (i, j)).getD nilS = G.S (.way i j)) : ∀ i j, (kget (kset m (a, b) v) (i, j)).getD nilS = ups G.S (.way a b) v (.way i j) := fun i j => by
 by_cases e : (i, j) = (a, b)
 · cases e
   rw [ups_at, kgs_at]; rfl
 · rw [ups_ne _ _ (by intro h; cases h; exact e rfl), ← hm i j, kgs_ne _ e]
theorem Rep.touch (R : Rep W G h) {m : List ((Int × Int) × Value)} (hnd : (m.map (·.1)).Nodup) (hm : ∀ i j, (kget m (i, j)).getD nilS = G.S (.way i j)) (A : Mp h' (G.B .ways) k2 Eq m) (B : Mb h' (G.B .ways)) (t : Sm (fun k => k = G.B .ways) h h') :
  Rep W (G.putC .ways (.mp m)) h' ∧ Gx G h (G.putC .ways (.mp m)) h' := by
 obtain ⟨m0, em, _⟩ := R.rel.ways
 obtain ⟨O, X⟩ := R.op.putC .ways (x := .mp m) (by simp) (by rw [em]; simp) t (fun k hk => by subst hk; rfl) ⟨_, rfl, A, B⟩
 have R1 := R.rel.mono0 (X.dr R.op)
 exact ⟨⟨O, ⟨R1.wd, R1.prs, ⟨m, ups_at G.C Ro.ways (.mp m), hnd, hm⟩, R1.way, fun p hp => (R1.pr p hp).congr (fun r hr => ⟨ups_ne _ _ (by intro h; rw [h] at hr; cases hr), rfl, rfl⟩) rfl⟩⟩, X⟩
theorem Rep.waysLt (R : Rep W G h) : G.B .ways < h.next := by
 obtain ⟨m, a, _⟩ := R.ways
 exact a.1
theorem Rep.prLt (R : Rep W G h) (hp : p < W.n) : G.B (.pr p) < h.next := (R.prL hp).lt
theorem Rep.setWay (R : Rep W G h) (a b : Int) {l : List Pk} {m : List ((Int × Int) × Value)} (hnd : (m.map (·.1)).Nodup) (hw : ∀ i j, (kget m (i, j)).getD nilS = ups G.S (.way a b) v (.way i j)) (H : Ls (RPk h G.ro) 1 l cs) (g : Gr h1 1 v l.length cs) (s : Sm S h h1) (hS : ∀ c, S c → vb (G.S (.way a b)) = some c ∨ h.next ≤ c) (hv : ∀ c, vb v = some c → vb (G.S (.way a b)) = some c ∨ h.next ≤ c)
  (A : Mp h2 (G.B .ways) k2 Eq m) (B : Mb h2 (G.B .ways)) (t : Sm (fun k => k = G.B .ways) h1 h2) : Nxt (W.setWay a b l) G h h2 := by
 obtain ⟨cs0, e0, _⟩ := R.rel.way a b
 obtain ⟨m0, em, _⟩ := R.rel.ways
 obtain ⟨O1, X1⟩ := R.op.putS (.way a b) v (x := .gr 1 l.length cs) (by simp) (by rw [e0]; simp) (fun _ => rfl) (by simp) s (fun c hc => (hS c hc).imp vb_vbx id) g (fun c hc => by
  have hc2 : vb v = some c := vbx_sl (by obtain ⟨a, e, f⟩ := g.sd.form; exact ⟨a, _, e, f⟩) hc
  exact (hv c hc2).imp vb_vbx id)
 obtain ⟨O2, X2⟩ := O1.putC .ways (x := .mp m) (by simp) (by show G.C .ways ≠ _; rw [em]; simp) t (fun k hk => by subst hk; rfl) ⟨_, rfl, A, B⟩
 have X := X1.trans X2
 have R1 := R.rel.mono0 (X.dr R.op)
 have hcg : ∀ r p, r.of = some p → (ups (ups G.C (.way a b) (.gr 1 l.length cs)) .ways (.mp m)) r = G.C r ∧ ups G.S (.way a b) v r = G.S r := fun r p hr =>
  ⟨by rw [ups_ne _ _ (by intro h; rw [h] at hr; cases hr), ups_ne _ _ (by intro h; rw [h] at hr; cases hr)], by rw [ups_ne _ _ (by intro h; rw [h] at hr; cases hr)]⟩
 have hwy : ∀ i j, ∃ cs', (ups (ups G.C (.way a b) (.gr 1 l.length cs)) .ways (.mp m)) (.way i j) = .gr 1 ((W.setWay a b l).way i j).length cs' ∧ Ls (RPk h2 G.ro) 1 ((W.setWay a b l).way i j) cs' := fun i j => by
  by_cases e : (i, j) = (a, b)
  · cases e
    have ew : (W.setWay a b l).way a b = l := by
     show ups W.way a (ups (W.way a) b l) a b = _
     rw [ups_at, ups_at]
    exact ⟨cs, by rw [ups_ne _ _ (by simp), ups_at, ew], by rw [ew]; exact H.mono fun _ _ z => z.mono (X.dr R.op)⟩
  · obtain ⟨cs', e1, e2⟩ := R1.way i j
    have ew : (W.setWay a b l).way i j = W.way i j := by
     show ups W.way a (ups (W.way a) b l) i j = _
     by_cases ei : i = a
     · subst ei
       rw [ups_at, ups_ne _ _ (fun h => e (by rw [h]))]
     · rw [ups_ne _ _ ei]
    exact ⟨cs', by rw [ups_ne _ _ (by simp), ups_ne _ _ (by intro h; cases h; exact e rfl), ew]; exact e1, by rw [ew]; exact e2⟩
 exact ⟨_, _, _, ⟨O2, ⟨R1.wd, R1.prs, ⟨m, ups_at (ups G.C (.way a b) (.gr 1 l.length cs)) Ro.ways (.mp m), hnd, hw⟩, hwy, fun p hp => (R1.pr p hp).congr (fun r hr => ⟨(hcg r p hr).1, (hcg r p hr).2, rfl⟩) rfl⟩⟩, X⟩
end
end
end Go.Arm
namespace Go.Proofs.Ytmehemeoaplepaa
noncomputable section
open Go Go.X Go.Arm Go.Mt
theorem blk_norm {id : Nat} {Q : Post} {f : Fr} {w : AH} (h : Q .normal f w) : InBlock id Q .normal f w := h
instance tys : Tys := ⟨144, 142, 151, 155, 189, 127⟩
theorem valid_ok {W : Wd} {G : Gh} {h : AH} (R : Rep W G h) :
  Arm.Calls Try.prog 47 [ptr (G.B .wd)] h (fun r => r.1 = .bool true ∧ Sm Nix h r.2) := by
 refine Calls_W 12 Try.f47 ?_
 have T0 : Sm Nix h h := .refl
 refine W_sg 1 kr (L_nil (W_sg 6 kr (L_want kr (L_ld _ rfl rfl kr ((R.ext T0).wdL.ld (o := 2) kr rfl) (L_g 3 kr (L_nil (W_ret ?_)))))))
 repeat first | with_reducible refine then_ret ?_ | with_reducible refine blk_ret ?_
 refine done_of (v := .bool true) (.inl rfl) kr ?_
 exact ⟨rfl, T0⟩
theorem at_ok {W : Wd} {G : Gh} {h : AH} {p : Nat} (R : Rep W G h) (hp : p < W.n) :
  Arm.Calls Try.prog 39 [ptr (G.B .wd), nv (p : Int)] h (fun r => r.1 = .tuple ⟨[ptr (G.B (.pr p)), nv 0]⟩ ∧ Sm Nix h r.2) := by
 refine Calls_W 29 Try.f39 ?_
 have T0 : Sm Nix h h := .refl
 refine W_sg 2 kr (L_nil (W_seq (W_block (W_sg 1 kr (L_c rfl rfl kr (valid_ok (R.ext T0)) ?_)))))
 rintro v1 h1 ⟨e1, t1⟩
 try dsimp only at e1
 try dsimp only at t1
 subst e1
 have T1 := T0.ext t1
 have N1 := T1.nx
 have M1 := t1.nx
 refine L_g 2 kr (L_nil ?_)
 refine W_cond false kr (fun e => by cases e) (fun _ => ?_)
 refine W_sg 1 kr (L_i ((p : Int)) (0) (.bool false) rfl rfl kr kr rfl (by first | (simp; done) | (simp; omega)) (L_g 5 kr (L_want kr (L_ld _ rfl rfl kr ((R.ext T1).wdL.ld (o := 1) kr rfl) (L_want kr (L_ln _ rfl rfl kr ((R.ext T1).prsL.len (T := 74) (el := 77) kr) (L_want kr (L_i ((p : Int)) ((W.n : Int)) (.bool false) rfl rfl kr kr rfl (by first | (simp; done) | (simp; omega)) (L_g 2 kr ?_)))))))))
 refine L_nil ?_
 refine W_cond false kr (fun e => by cases e) (fun _ => ?_)
 refine W_skip (W_sg 3 kr (L_ld _ rfl rfl kr ((R.ext T1).wdL.ld (o := 1) kr rfl) (L_g 1 kr ?_)))
 obtain ⟨b1, o1, i1, l1⟩ := (R.ext T1).prsAt (P := Try.prog) (T := 74) (el := 77) kr kr kr hp
 refine L_ix _ rfl rfl kr kr (i1) (L_ld _ rfl rfl kr (l1) (L_g 2 kr (L_nil (W_ret ?_))))
 repeat first | with_reducible refine then_ret ?_ | with_reducible refine blk_ret ?_
 refine done_of (v := .tuple ⟨[ptr (G.B (.pr p)), nv 0]⟩) (.inl rfl) kr ?_
 exact ⟨rfl, T1⟩
theorem full_ok {W : Wd} {G : Gh} {h : AH} {p : Nat} (R : Rep W G h) (hp : p < W.n) {b : Bool} (hb : decide (256 ≤ (W.pr p).reqs.length) = b) :
  Arm.Calls Try.prog 42 [ptr (G.B .wd), nv (p : Int)] h (fun r => r.1 = nv (if b = true then 9 else 0) ∧ Sm Nix h r.2) := by
 cases b with
 | true =>
  refine Calls_W 17 Try.f42 ?_
  have T0 : Sm Nix h h := .refl
  refine W_sg 1 kr (L_nil (W_seq (W_sg 3 kr (L_ld _ rfl rfl kr ((R.ext T0).wdL.ld (o := 1) kr rfl) (L_g 1 kr ?_)))))
  obtain ⟨b1, o1, i1, l1⟩ := (R.ext T0).prsAt (P := Try.prog) (T := 74) (el := 77) kr kr kr hp
  refine L_ix _ rfl rfl kr kr (i1) (L_ld _ rfl rfl kr (l1) (L_g 2 kr (L_ld _ rfl rfl kr (((R.ext T0).prL hp).ld (o := 1) kr rfl) (L_ln _ rfl rfl kr ((((R.ext T0).rqs hp).1.len (P := Try.prog) (T := 78) (kt := 3) (el := 103) kr)) (L_i ((((W.pr p).reqs.map fun (k : Nat) => ((k : Int), ptr (G.B (.rq p k)))).length : Int)) (256) (.bool true) rfl rfl kr kr rfl (by simp at hb; simp; omega) (L_nil ?_))))))
  refine W_cond true kr (fun _ => ?_) (fun e => by cases e)
  refine W_sg 1 kr (L_nil (W_ret ?_))
  repeat first | with_reducible refine then_ret ?_ | with_reducible refine blk_ret ?_
  refine done_of (v := nv 9) (.inl rfl) kr ?_
  exact ⟨rfl, T0⟩
 | false =>
  refine Calls_W 17 Try.f42 ?_
  have T0 : Sm Nix h h := .refl
  refine W_sg 1 kr (L_nil (W_seq (W_sg 3 kr (L_ld _ rfl rfl kr ((R.ext T0).wdL.ld (o := 1) kr rfl) (L_g 1 kr ?_)))))
  obtain ⟨b1, o1, i1, l1⟩ := (R.ext T0).prsAt (P := Try.prog) (T := 74) (el := 77) kr kr kr hp
  refine L_ix _ rfl rfl kr kr (i1) (L_ld _ rfl rfl kr (l1) (L_g 2 kr (L_ld _ rfl rfl kr (((R.ext T0).prL hp).ld (o := 1) kr rfl) (L_ln _ rfl rfl kr ((((R.ext T0).rqs hp).1.len (P := Try.prog) (T := 78) (kt := 3) (el := 103) kr)) (L_i ((((W.pr p).reqs.map fun (k : Nat) => ((k : Int), ptr (G.B (.rq p k)))).length : Int)) (256) (.bool false) rfl rfl kr kr rfl (by simp at hb; simp; omega) (L_nil ?_))))))
  refine W_cond false kr (fun e => by cases e) (fun _ => ?_)
  refine W_skip (W_sg 1 kr (L_nil (W_ret ?_)))
  repeat first | with_reducible refine then_ret ?_ | with_reducible refine blk_ret ?_
  refine done_of (v := nv 0) (.inl rfl) kr ?_
  exact ⟨rfl, T0⟩
end
end Go.Proofs.Ytmehemeoaplepaa
namespace Go.Arm
noncomputable section
open Go Go.X
theorem find_step {α : Type} {l : List α} {pr : α → Bool} {k : Nat} {x : α} (hf : l.findIdx? pr = ((l.drop k).findIdx? pr).map (· + k)) (hdr : l.drop k = x :: l.drop (k + 1)) (hfb : pr x = false) : l.findIdx? pr = ((l.drop (k + 1)).findIdx? pr).map (· + (k + 1)) := by
 rw [hf, hdr, List.findIdx?_cons, hfb]
 cases (l.drop (k + 1)).findIdx? pr with
 | none => rfl
 | some i => simp; omega
section
variable {P : Program} {h h' : AH} {b : Nat} {κ : Type} [DecidableEq κ] {kv : κ → Value} {m : List (κ × Value)} {T kt el : TypeId} {z : Value}
theorem born_at : ∀ (es : List (Value × Value × Nat)) (i q : Nat) (e : Value × Value × Nat), (es.map (·.2.2)).Nodup → es[i]? = some e → bornIdx es e.2.2 q = some (i + q)
 | [], i, q, e, _, h => by simp at h
 | x :: es, i, q, e, hn, h => by
  rw [List.map_cons, List.nodup_cons] at hn
  cases i with
  | zero =>
   simp at h; subst h
   unfold bornIdx
   simp
  | succ i =>
   have h : es[i]? = some e := by simpa using h
   have hne : ¬ x.2.2 = e.2.2 := fun h5 => hn.1 (by rw [h5]; exact List.mem_map.2 ⟨e, List.mem_of_getElem? h, rfl⟩)
   have ih := born_at es i (q + 1) e hn.2 h
   unfold bornIdx
   rw [if_neg (by omega), ih]
   congr 1; omega
theorem setV_at : ∀ (es : List (Value × Value × Nat)) (i : Nat) (e : Value × Value × Nat) (k v : Value), es[i]? = some e → (setV es i k v)[i]? = some (k, v, e.2.2)
 | [], i, e, k, v, h => by simp at h
 | x :: es, 0, e, k, v, h => by simp at h; subst h; rfl
 | x :: es, i + 1, e, k, v, h => setV_at es i e k v (by simpa using h)
theorem setV_setV : ∀ (es : List (Value × Value × Nat)) (i : Nat) (k v w : Value), setV (setV es i k v) i k w = setV es i k w
 | [], i, k, v, w => by cases i <;> rfl
 | x :: es, 0, k, v, w => rfl
 | x :: es, i + 1, k, v, w => congrArg (x :: ·) (setV_setV es i k v w)
theorem Mp.entry (hT : P.underlying T = some (.map kt el)) (hK : KeyK P kt kv) (hz : zeroOf P el = some z) (hm : Mp h b kv Eq m) (hb : Mb h b) (k : κ) :
   ∃ v st h1, aEntry P T (.map (some b)) (kv k) h = some (.tuple ⟨[v, .int .i64 st]⟩, h1) ∧ v = (kget m k).getD z ∧ Sm (fun x => x = b) h h1 ∧ h1.next = h.next ∧ Mp h1 b kv Eq (kset m k v) ∧ Mb h1 b ∧
     ∀ h2 w, h2.m.get b = h1.m.get b → b < h2.next → ∃ h3, aEStore T (.map (some b)) (.int .i64 st) w h2 = some h3 ∧ Mp h3 b kv Eq (kset m k w) ∧ Mb h3 b ∧ Sm (fun x => x = b) h2 h3 ∧ h3.next = h2.next := by
 obtain ⟨hl, es, cl, h1, h2⟩ := hm
 obtain ⟨es', cl', h3, h4, h5⟩ := hb
 rw [h1] at h3
 cases h3
 unfold aEntry
 simp only [hT, h1, hK.chk, if_true, afind_eq hK h2]
 have got : ∀ (h : AH) es cl, (aSetMap h b es cl).m.get b = some (.map es cl false) := fun h es cl => by show (h.m.set b _).get b = _; rw [X.T.get_set, if_pos rfl]
 rcases h2.at k with ⟨a, c, d, _⟩ | ⟨i, e, x, a, c, d, g, j, p, _⟩
 · rw [a]
   dsimp only
   rw [hz]
   have hnd : ((es ++ [(kv k, z, cl)]).map (·.2.2)).Nodup := by
     rw [List.map_append, List.nodup_append]
     refine ⟨h4, by simp, fun x hx y hy => ?_⟩
     obtain ⟨e, he, rfl⟩ := List.mem_map.1 hx
     have := h5 e he
     simp only [List.map_cons, List.map_nil, List.mem_singleton] at hy
     omega
   refine ⟨z, cl, _, rfl, by rw [c]; rfl, aSet_sm _ _ _ _, rfl, aSet_mp hl (d z z cl rfl), ⟨_, _, got _ _ _, hnd, fun e he => by
     rcases List.mem_append.1 he with he | he
     · have := h5 e he; omega
     · cases List.mem_singleton.1 he; exact Nat.lt_succ_self _⟩, fun h6 w hg hlt => ?_⟩
   rw [got] at hg
   have hlen : (es ++ [(kv k, z, cl)])[es.length]? = some (kv k, z, cl) := by simp
   have hbi := born_at _ es.length 0 _ hnd hlen
   unfold aEStore
   simp only [hg]
   rw [show bornIdx (es ++ [(kv k, z, cl)]) (cl : Nat) 0 = some es.length from by simpa using hbi]
   dsimp only
   rw [hlen]
   dsimp only
   have hset : setV (es ++ [(kv k, z, cl)]) es.length (kv k) w = es ++ [(kv k, w, cl)] := by
     clear hbi hlen hnd got hg d h2 a h1 h4 h5
     induction es with
     | nil => rfl
     | cons e es ih => simp only [List.cons_append, List.length_cons]; unfold setV; rw [ih]
   refine ⟨_, rfl, aSet_mp hlt (by rw [hset]; exact d w w cl rfl), ⟨_, _, got _ _ _, by rw [setV_age]; exact hnd, fun e he => ?_⟩, aSet_sm _ _ _ _, rfl⟩
   rw [hset] at he
   rcases List.mem_append.1 he with he | he
   · have := h5 e he; omega
   · cases List.mem_singleton.1 he; exact Nat.lt_succ_self _
 · rw [a]
   dsimp only
   rw [c]
   dsimp only
   rw [d, if_pos (hK.stay k)]
   have hnd : ((setV es i (kv k) e.2.1).map (·.2.2)).Nodup := by rw [setV_age]; exact h4
   have hat : (setV es i (kv k) e.2.1)[i]? = some (kv k, e.2.1, e.2.2) := setV_at es i e _ _ c
   refine ⟨e.2.1, e.2.2, _, rfl, by rw [j, g]; rfl, aSet_sm _ _ _ _, rfl, aSet_mp hl (p e.2.1 e.2.1 rfl), ⟨_, _, got _ _ _, hnd, fun e' he => by
     have : e'.2.2 ∈ (setV es i (kv k) e.2.1).map (·.2.2) := List.mem_map.2 ⟨e', he, rfl⟩
     rw [setV_age] at this
     obtain ⟨e2, he2, h7⟩ := List.mem_map.1 this
     rw [← h7]; exact h5 e2 he2⟩, fun h6 w hg hlt => ?_⟩
   rw [got] at hg
   have hbi := born_at _ i 0 _ hnd hat
   unfold aEStore
   simp only [hg]
   rw [show bornIdx (setV es i (kv k) e.2.1) (e.2.2 : Nat) 0 = some i from by simpa using hbi]
   dsimp only
   rw [hat]
   dsimp only
   have hset : setV (setV es i (kv k) e.2.1) i (kv k) w = setV es i (kv k) w := setV_setV es i _ _ _
   refine ⟨_, rfl, aSet_mp hlt (by rw [hset]; exact p w w rfl), ⟨_, _, got _ _ _, by rw [hset, setV_age]; exact h4, fun e' he => ?_⟩, aSet_sm _ _ _ _, rfl⟩
   rw [hset] at he
   have : e'.2.2 ∈ (setV es i (kv k) w).map (·.2.2) := List.mem_map.2 ⟨e', he, rfl⟩
   rw [setV_age] at this
   obtain ⟨e2, he2, h7⟩ := List.mem_map.1 this
   rw [← h7]; exact h5 e2 he2
theorem Mb.delete {k : Value} (H : Mb h b) (hu : aDelete P T (.map (some b)) k h = some h') : Mb h' b := by
 obtain ⟨es, cl, h1, h2, h3⟩ := H
 have got : ∀ es cl, (aSetMap h b es cl).m.get b = some (.map es cl false) := fun es cl => by show (h.m.set b _).get b = _; rw [X.T.get_set, if_pos rfl]
 unfold aDelete at hu
 split at hu
 · rename_i hu2 _
   rename_i hb
   cases hb
   rw [h1] at hu
   dsimp only at hu
   split at hu
   · split at hu
     · cases hu
       refine ⟨_, _, got _ _, ?_, fun e he => h3 e (List.mem_of_mem_eraseIdx he)⟩
       exact (h2.sublist ((List.eraseIdx_sublist es _).map _))
     · cases hu
       exact ⟨_, _, got _ _, h2, h3⟩
     · cases hu
   · cases hu
 · cases hu
end
section
variable {P : Program} [Kn P] {n : Nat} {h h' : AH} {Q : Post} {f : Fr} {ops : Array Oper} {rest : List Oper} {o : Oper} {v : Value}
theorem L_me {T : TypeId} {m k : Operand} {a b : Value} (v : Value) (h' : AH) (ho : o.op = .mapEntry T m k) (hs : okO n o = true) (ha : ev n f m = some a) (hb : ev n f k = some b) (hv : aEntry P T a b h = some (v, h'))
  (k : L P n ops Q rest (updO f o.dst v) h') : L P n ops Q (o :: rest) f h :=
 L_dov (okO_ok hs).1 (okO_ok hs).2 (by rw [ho]; rfl) (by rw [ho]; simp only [evAct, ha, hb, hv]; rfl) k
theorem L_es {T : TypeId} {m s x : Operand} {a b c : Value} (h' : AH) (ho : o.op = .entryStore T m s x) (hs : okO n o = true) (hd : o.dst = none) (ha : ev n f m = some a) (hb : ev n f s = some b) (hc : ev n f x = some c) (hv : aEStore T a b c h = some h')
  (k : L P n ops Q rest f h') : L P n ops Q (o :: rest) f h :=
 L_do (okO_ok hs).1 hd (by rw [ho]; rfl) (by rw [ho]; simp only [evAct, ha, hb, hc, hv]; rfl) k
end
end
end Go.Arm
namespace Go.Proofs.Ytmehemeoaplepaa
noncomputable section
open Go Go.X Go.Arm Go.Mt
theorem clone_by {h : AH} {s : Value} {d : List Value} (H : Rb h s d) (h1 : ∀ x, x ∈ d → x.oneCell' = true) (hl : d.length < big) :
  Arm.Calls Try.prog 38 [s] h (fun r => Rb r.2 r.1 d ∧ Cut r.2 r.1 d.length ∧ Sm Nix h r.2 ∧ (∀ b, vb r.1 = some b → h.next ≤ b ∧ b < r.2.next) ∧ ((∃ a n c, s = .slice (some a) n c) → ∃ a n c, r.1 = .slice (some a) n c)) := by
 refine Calls_W 8 Try.f38 ?_
 have H' := H
 have hl : d.length < 1000000000 := hl
 obtain ⟨a, c, rfl⟩ := H.form
 cases a with
 | none =>
  have hn : d = [] := by
   rcases H with ⟨h0, _⟩ | ⟨b, o, c, h0, h1, e, _⟩
   · exact h0
   · cases e
  subst hn
  have T0 : Sm Nix h h := .refl
  refine W_sg 1 kr (L_nil (W_seq (W_sg 2 kr (L_nil ?_))))
  refine W_cond true kr (fun _ => ?_) (fun e => by cases e)
  refine W_sg 1 kr (L_nil (W_ret ?_))
  repeat first | with_reducible refine then_ret ?_ | with_reducible refine blk_ret ?_
  refine done_of (v := .slice none 0 0) (.inl rfl) kr ?_
  exact ⟨Rb.nil, .inl rfl, T0, (fun b hb => by cases hb), fun ⟨a, n, c, e⟩ => by cases e⟩
 | some q =>
  have T0 : Sm Nix h h := .refl
  refine W_sg 1 kr (L_nil (W_seq (W_sg 2 kr (L_nil ?_))))
  refine W_cond false kr (fun e => by cases e) (fun _ => ?_)
  refine W_skip (W_seq (W_region (L_nwc [] (.sl 0 0) rfl rfl kr fun h4 c4 t4 n4 => ?_)))
  have T4 := T0.ext t4
  have N4 := T4.nx
  refine L_g 1 kr ?_
  obtain ⟨v5, h5, e5, r5, k5, t5, f5, s5, n5⟩ := app_bytes (P := Try.prog) (sT := 23) (xT := 23) (el := 5) (by_ := 1) (z := .int .u8 0) (a := ⟨h.next, 0, none⟩) kr kr kr kr kr rfl kr (H'.ext T4) h1 (by omega) c4.lt
  refine L_bi v5 h5 rfl rfl kr (vs := [Value.slice (some ⟨h.next, 0, none⟩) 0 0, Value.slice (some q) d.length c]) kr (bi_append e5) ?_
  have T5 := T4.ext t5
  have N5 := T5.nx
  refine L_g 1 kr (L_nil (W_ret ?_))
  repeat first | with_reducible refine then_ret ?_ | with_reducible refine blk_ret ?_
  have hfr : ∀ b, vb v5 = some b → h.next ≤ b := fun b hb => by
   have := (T5).nx
   rcases f5 b hb with e | e
   · rw [e]; exact Nat.le_refl _
   · omega
  refine done_of (v := v5) (.inl rfl) kr ?_
  exact ⟨r5, k5, T5, fun b hb => ⟨hfr b hb, n5 b hb⟩, fun _ => s5⟩
theorem clone_ms {h : AH} {s : Value} {n : Nat} {cs : List Value} (H : Sd h 6 s n cs) (h1 : ∀ x, x ∈ cs → x.oneCell' = true) (hl : n < big) :
  Arm.Calls Try.prog 63 [s] h (fun r => Gr r.2 6 r.1 n cs ∧ Sm Nix h r.2 ∧ ∀ b, vb r.1 = some b → h.next ≤ b) := by
 refine Calls_W 8 Try.f63 ?_
 have H' := H
 have hl : n < 1000000000 := hl
 obtain ⟨a, c, rfl⟩ := H.form
 cases a with
 | none =>
  have hn : n = 0 ∧ cs = [] := by
   rcases H.2 with ⟨h0, _⟩ | ⟨b, o, c, cc, nn, op, ro, h0, h1, e, _⟩
   · exact ⟨h0, List.length_eq_zero_iff.1 (by rw [H.1, h0, Nat.zero_mul])⟩
   · cases e
  obtain ⟨rfl, rfl⟩ := hn
  have T0 : Sm Nix h h := .refl
  refine W_sg 1 kr (L_nil (W_seq (W_sg 2 kr (L_nil ?_))))
  refine W_cond true kr (fun _ => ?_) (fun e => by cases e)
  refine W_sg 1 kr (L_nil (W_ret ?_))
  repeat first | with_reducible refine then_ret ?_ | with_reducible refine blk_ret ?_
  refine done_of (v := .slice none 0 0) (.inl rfl) kr ?_
  exact ⟨Gr.nil, T0, fun b hb => by cases hb⟩
 | some q =>
  have T0 : Sm Nix h h := .refl
  refine W_sg 1 kr (L_nil (W_seq (W_sg 2 kr (L_nil ?_))))
  refine W_cond false kr (fun e => by cases e) (fun _ => ?_)
  refine W_skip (W_seq (W_region (L_nwc [] (.sl 0 0) rfl rfl kr fun h6 c6 t6 n6 => ?_)))
  have T6 := T0.ext t6
  have N6 := T6.nx
  refine L_g 1 kr ?_
  have g0 : Gr h6 6 (Value.slice (some ⟨h.next, 0, none⟩) 0 0) 0 [] := ⟨by simp, .inl ⟨rfl, .inr ⟨_, rfl, c6.lt⟩⟩⟩
  obtain ⟨v7, h7, e7, g7, t7, f7⟩ := g0.append (P := Try.prog) (sT := 82) (xT := 82) (el := 117) (by_ := 56) (z := (.agg ⟨[.int .i64 0, .int .i64 0, .int .i64 0, .int .i64 0, .int .i64 0, .nilIface]⟩)) (m := n) (ds := cs) kr kr kr kr kr rfl (by decide) (H'.ext T6) h1 (by omega)
  rw [Nat.zero_add, List.nil_append] at g7
  refine L_bi v7 h7 rfl rfl kr (vs := [Value.slice (some ⟨h.next, 0, none⟩) 0 0, Value.slice (some q) n c]) kr (bi_append e7) ?_
  replace c6 := c6.lt
  have T7 : Sm Nix h h7 := T6.trans t7 (fun x hx => .inr (by cases hx; exact Nat.le_refl _))
  have N7 := T7.nx
  refine L_g 1 kr (L_nil (W_ret ?_))
  repeat first | with_reducible refine then_ret ?_ | with_reducible refine blk_ret ?_
  refine done_of (v := v7) (.inl rfl) kr ?_
  exact ⟨g7, T7, fun b hb => by
   rcases f7 b hb with e | e
   · cases e; exact Nat.le_refl _
   · have := (T7).nx; omega⟩
theorem clone_rq {h : AH} {s : Value} {n : Nat} {cs : List Value} (H : Sd h 1 s n cs) (h1 : ∀ x, x ∈ cs → x.oneCell' = true) (hl : n < big) :
  Arm.Calls Try.prog 96 [s] h (fun r => Gr r.2 1 r.1 n cs ∧ Sm Nix h r.2 ∧ ∀ b, vb r.1 = some b → h.next ≤ b) := by
 refine Calls_W 8 Try.f96 ?_
 have H' := H
 have hl : n < 1000000000 := hl
 obtain ⟨a, c, rfl⟩ := H.form
 cases a with
 | none =>
  have hn : n = 0 ∧ cs = [] := by
   rcases H.2 with ⟨h0, _⟩ | ⟨b, o, c, cc, nn, op, ro, h0, h1, e, _⟩
   · exact ⟨h0, List.length_eq_zero_iff.1 (by rw [H.1, h0, Nat.zero_mul])⟩
   · cases e
  obtain ⟨rfl, rfl⟩ := hn
  have T0 : Sm Nix h h := .refl
  refine W_sg 1 kr (L_nil (W_seq (W_sg 2 kr (L_nil ?_))))
  refine W_cond true kr (fun _ => ?_) (fun e => by cases e)
  refine W_sg 1 kr (L_nil (W_ret ?_))
  repeat first | with_reducible refine then_ret ?_ | with_reducible refine blk_ret ?_
  refine done_of (v := .slice none 0 0) (.inl rfl) kr ?_
  exact ⟨Gr.nil, T0, fun b hb => by cases hb⟩
 | some q =>
  have T0 : Sm Nix h h := .refl
  refine W_sg 1 kr (L_nil (W_seq (W_sg 2 kr (L_nil ?_))))
  refine W_cond false kr (fun e => by cases e) (fun _ => ?_)
  refine W_skip (W_seq (W_region (L_nwc [] (.sl 0 0) rfl rfl kr fun h8 c8 t8 n8 => ?_)))
  have T8 := T0.ext t8
  have N8 := T8.nx
  refine L_g 1 kr ?_
  have g0 : Gr h8 1 (Value.slice (some ⟨h.next, 0, none⟩) 0 0) 0 [] := ⟨by simp, .inl ⟨rfl, .inr ⟨_, rfl, c8.lt⟩⟩⟩
  obtain ⟨v9, h9, e9, g9, t9, f9⟩ := g0.append (P := Try.prog) (sT := 85) (xT := 85) (el := 103) (by_ := 8) (z := .pointer none) (m := n) (ds := cs) kr kr kr kr kr rfl (by decide) (H'.ext T8) h1 (by omega)
  rw [Nat.zero_add, List.nil_append] at g9
  refine L_bi v9 h9 rfl rfl kr (vs := [Value.slice (some ⟨h.next, 0, none⟩) 0 0, Value.slice (some q) n c]) kr (bi_append e9) ?_
  replace c8 := c8.lt
  have T9 : Sm Nix h h9 := T8.trans t9 (fun x hx => .inr (by cases hx; exact Nat.le_refl _))
  have N9 := T9.nx
  refine L_g 1 kr (L_nil (W_ret ?_))
  repeat first | with_reducible refine then_ret ?_ | with_reducible refine blk_ret ?_
  refine done_of (v := v9) (.inl rfl) kr ?_
  exact ⟨g9, T9, fun b hb => by
   rcases f9 b hb with e | e
   · cases e; exact Nat.le_refl _
   · have := (T9).nx; omega⟩
theorem ixf_ms {h : AH} {s cap : Value} {g : FuncId} {cs : List Value} {α : Type} {l : List α} {pr : α → Bool} (H : Sd h 6 s l.length cs) (hl : l.length < big) (hg : ∀ vs h, aCallX Try.prog g vs h = some [(.enter g vs, h)])
  (hc : ∀ (i : Nat) x, l[i]? = some x → ∃ c, c.length = 6 ∧ (∀ j, j < 6 → cs[i * 6 + j]? = c[j]?) ∧ ∀ h', Sm Nix h h' → Arm.Calls Try.prog g [(.agg ⟨c⟩), cap] h' (fun r => r.1 = .bool (pr x) ∧ Sm Nix h' r.2)) :
  Arm.Calls Try.prog 61 [s, .func (.func g) ⟨[]⟩ ⟨[cap]⟩] h (fun r => r.1 = nv (match l.findIdx? pr with | some i => (i : Int) | none => -1) ∧ Sm Nix h r.2) := by
 have hl : l.length < 1000000000 := hl
 refine Calls_W 19 Try.f61 ?_
 have T0 : Sm Nix h h := .refl
 refine W_sg 1 kr (L_nil (W_seq (W_sg 1 kr (L_ln _ rfl rfl kr ((H.ext T0).len (T := 82) (el := 117) kr) (L_g 1 kr (L_nil (W_block ?_)))))))
 refine W_loop (fun mm fr hh => ∃ (k : Nat), (k ≤ l.length) ∧ (l.findIdx? pr = ((l.drop k).findIdx? pr).map (· + k)) ∧ mm = l.length - k ∧ fr 0 = s ∧ fr 1 = .func (.func g) ⟨[]⟩ ⟨[cap]⟩ ∧ fr 7 = nv (l.length : Int) ∧ fr 8 = nv (k : Int) ∧ Sm Nix h hh) (l.length) ?_ ?_
 ·
  exact ⟨0, Nat.zero_le _, by simp, rfl, kr, kr, kr, kr, T0⟩
 rintro mm10 fr10 h10 ⟨k, hk, hf, hm10, y10_0, y10_1, y10_7, y10_8, T10⟩
 have N10 := T10.nx
 refine W_set (k := 0) y10_0 (W_set (k := 1) y10_1 (W_set (k := 7) y10_7 (W_set (k := 8) y10_8 (W_sg 1 kr (L_nil (W_seq ?_))))))
 refine W_cond (decide ((k : Int) < (l.length : Nat))) kr (fun hb => ?_) (fun hb => ?_)
 ·
  have hlt : k < l.length := by simp at hb; omega
  obtain ⟨x, hx⟩ : ∃ x, l[k]? = some x := ⟨_, List.getElem?_eq_getElem hlt⟩
  have hdr : l.drop k = x :: l.drop (k + 1) := by rw [List.drop_eq_getElem_cons hlt]; congr 1; exact (List.getElem?_eq_some_iff.1 hx).2
  obtain ⟨c, hcl, hcc, hcall⟩ := hc k x hx
  obtain ⟨b9, o9, _, i9, l9⟩ := (H.ext T10).at (P := Try.prog) (T := 82) (el := 117) kr kr hlt .i64
  refine W_skip (W_seq (W_block (W_sg 2 kr (L_nil (W_sg 3 kr (L_ix _ rfl rfl kr kr (i9) (L_ld _ rfl rfl kr (ld_l (l := c) (by rw [hcl]; kernel_rfl) (fun j hj => by rw [l9 j (by omega)]; exact hcc j (by omega))) ?_)))))))
  refine L_c rfl rfl (Eq.trans (b := aCallX Try.prog g [(.agg ⟨c⟩), cap] h10) kr (hg _ _)) (hcall _ T10) ?_
  rintro v11 h11 ⟨e11, t11⟩
  try dsimp only at e11
  try dsimp only at t11
  subst e11
  have T11 := T10.ext t11
  have N11 := T11.nx
  have M11 := t11.nx
  refine L_nil ?_
  refine W_cond (pr x) kr (fun hb => ?_) (fun hb => ?_)
  ·
   have hres : nv (match l.findIdx? pr with | some i => (i : Int) | none => -1) = nv (k : Int) := by rw [hf, hdr, List.findIdx?_cons, hb]; simp
   rw [hres]
   refine W_sg 2 kr (L_nil (W_ret ?_))
   repeat first | with_reducible refine then_ret ?_ | with_reducible refine blk_ret ?_
   refine done_of (v := nv (k : Int)) (.inl rfl) kr ?_
   exact ⟨rfl, T11⟩
  ·
   have hfb : pr x = false := hb
   refine W_skip (W_region (L_i ((k : Int)) (1) (nv ((k + 1 : Nat) : Int)) rfl rfl kr kr rfl (inc_ok (by omega)) (L_g 1 kr (L_nil ?_))))
   exact ⟨l.length - (k + 1), by omega, k + 1, by omega, find_step hf hdr hfb, rfl, kr, kr, kr, kr, T11⟩
 ·
  have hge : k = l.length := by simp at hb; omega
  have hres : nv (match l.findIdx? pr with | some i => (i : Int) | none => -1) = nv (-1) := by rw [hf, hge]; simp
  rw [hres]
  refine W_exit ?_
  repeat with_reducible refine then_exit ?_
  refine exit_here (W_sg 1 kr (L_nil (W_ret ?_)))
  repeat first | with_reducible refine then_ret ?_ | with_reducible refine blk_ret ?_
  refine done_of (v := nv (-1)) (.inl rfl) kr ?_
  exact ⟨rfl, T10⟩
theorem ixf_rq {h : AH} {s cap : Value} {g : FuncId} {cs : List Value} {α : Type} {l : List α} {pr : α → Bool} (H : Sd h 1 s l.length cs) (hl : l.length < big) (hg : ∀ vs h, aCallX Try.prog g vs h = some [(.enter g vs, h)])
  (hc : ∀ (i : Nat) x, l[i]? = some x → ∃ v, cs[i]? = some v ∧ ∀ h', Sm Nix h h' → Arm.Calls Try.prog g [v, cap] h' (fun r => r.1 = .bool (pr x) ∧ Sm Nix h' r.2)) :
  Arm.Calls Try.prog 94 [s, .func (.func g) ⟨[]⟩ ⟨[cap]⟩] h (fun r => r.1 = nv (match l.findIdx? pr with | some i => (i : Int) | none => -1) ∧ Sm Nix h r.2) := by
 have hl : l.length < 1000000000 := hl
 refine Calls_W 19 Try.f94 ?_
 have T0 : Sm Nix h h := .refl
 refine W_sg 1 kr (L_nil (W_seq (W_sg 1 kr (L_ln _ rfl rfl kr ((H.ext T0).len (T := 85) (el := 103) kr) (L_g 1 kr (L_nil (W_block ?_)))))))
 refine W_loop (fun mm fr hh => ∃ (k : Nat), (k ≤ l.length) ∧ (l.findIdx? pr = ((l.drop k).findIdx? pr).map (· + k)) ∧ mm = l.length - k ∧ fr 0 = s ∧ fr 1 = .func (.func g) ⟨[]⟩ ⟨[cap]⟩ ∧ fr 7 = nv (l.length : Int) ∧ fr 8 = nv (k : Int) ∧ Sm Nix h hh) (l.length) ?_ ?_
 ·
  exact ⟨0, Nat.zero_le _, by simp, rfl, kr, kr, kr, kr, T0⟩
 rintro mm12 fr12 h12 ⟨k, hk, hf, hm12, y12_0, y12_1, y12_7, y12_8, T12⟩
 have N12 := T12.nx
 refine W_set (k := 0) y12_0 (W_set (k := 1) y12_1 (W_set (k := 7) y12_7 (W_set (k := 8) y12_8 (W_sg 1 kr (L_nil (W_seq ?_))))))
 refine W_cond (decide ((k : Int) < (l.length : Nat))) kr (fun hb => ?_) (fun hb => ?_)
 ·
  have hlt : k < l.length := by simp at hb; omega
  obtain ⟨x, hx⟩ : ∃ x, l[k]? = some x := ⟨_, List.getElem?_eq_getElem hlt⟩
  have hdr : l.drop k = x :: l.drop (k + 1) := by rw [List.drop_eq_getElem_cons hlt]; congr 1; exact (List.getElem?_eq_some_iff.1 hx).2
  obtain ⟨v, hv, hcall⟩ := hc k x hx
  obtain ⟨b9, o9, _, i9, l9⟩ := (H.ext T12).at (P := Try.prog) (T := 85) (el := 103) kr kr hlt .i64
  refine W_skip (W_seq (W_block (W_sg 2 kr (L_nil (W_sg 3 kr (L_ix _ rfl rfl kr kr (i9) (L_ld _ rfl rfl kr (ld_cell kr (by have := l9 0 (by decide); rw [Nat.add_zero, Nat.mul_one, Nat.add_zero] at this; rw [this]; exact hv)) ?_)))))))
  refine L_c rfl rfl (Eq.trans (b := aCallX Try.prog g [v, cap] h12) kr (hg _ _)) (hcall _ T12) ?_
  rintro v13 h13 ⟨e13, t13⟩
  try dsimp only at e13
  try dsimp only at t13
  subst e13
  have T13 := T12.ext t13
  have N13 := T13.nx
  have M13 := t13.nx
  refine L_nil ?_
  refine W_cond (pr x) kr (fun hb => ?_) (fun hb => ?_)
  ·
   have hres : nv (match l.findIdx? pr with | some i => (i : Int) | none => -1) = nv (k : Int) := by rw [hf, hdr, List.findIdx?_cons, hb]; simp
   rw [hres]
   refine W_sg 2 kr (L_nil (W_ret ?_))
   repeat first | with_reducible refine then_ret ?_ | with_reducible refine blk_ret ?_
   refine done_of (v := nv (k : Int)) (.inl rfl) kr ?_
   exact ⟨rfl, T13⟩
  ·
   have hfb : pr x = false := hb
   refine W_skip (W_region (L_i ((k : Int)) (1) (nv ((k + 1 : Nat) : Int)) rfl rfl kr kr rfl (inc_ok (by omega)) (L_g 1 kr (L_nil ?_))))
   exact ⟨l.length - (k + 1), by omega, k + 1, by omega, find_step hf hdr hfb, rfl, kr, kr, kr, kr, T13⟩
 ·
  have hge : k = l.length := by simp at hb; omega
  have hres : nv (match l.findIdx? pr with | some i => (i : Int) | none => -1) = nv (-1) := by rw [hf, hge]; simp
  rw [hres]
  refine W_exit ?_
  repeat with_reducible refine then_exit ?_
  refine exit_here (W_sg 1 kr (L_nil (W_ret ?_)))
  repeat first | with_reducible refine then_ret ?_ | with_reducible refine blk_ret ?_
  refine done_of (v := nv (-1)) (.inl rfl) kr ?_
  exact ⟨rfl, T12⟩
end
end Go.Proofs.Ytmehemeoaplepaa
namespace Go.Arm
noncomputable section
open Go Go.X
section
variable {P : Program} {h h' : AH} {k n i b o nn : Nat} {cs : List Value} {T xT el : TypeId} {cc : X.T Value}
theorem bnd_nat (i d : Nat) : bnd (some (.int .i64 (i : Nat))) d = some i := by unfold bnd; simp
theorem cut1 (hT : P.underlying T = some (.slice el)) (hk : szOf P el = some k) (hb : h.m.get b = some (.cells cc nn k false)) (hn : o + n * k ≤ nn) (hi : i < n) (hl : n < open_) :
  ∃ v, aSl P T (.slice (some ⟨b, o, none⟩) n open_) (some (.int .i64 (i : Nat))) (some (.int .i64 ((i + 1 : Nat) : Int))) (some (.int .i64 (n : Nat))) h = some v := by
 have e0 : X.opOf h b = some (nn, k) := by unfold X.opOf; rw [hb]
 have : ∃ v, aSlice P T (.slice (some ⟨b, o, none⟩) n open_) (some (.int .i64 (i : Nat))) (some (.int .i64 ((i + 1 : Nat) : Int))) (some (.int .i64 (n : Nat))) h = some v := by
  unfold aSlice
  rw [if_pos (show mxOk _ _ = true from rfl)]
  simp only [hT, hk, if_true]
  have e1 : bnd (some (.int .i64 (n : Nat))) 0 = some n := bnd_nat _ _
  have e2 : bnd (some (.int .i64 ((i + 1 : Nat) : Int))) n = some (i + 1) := bnd_nat _ _
  have e3 : bnd (some (.int .i64 (i : Nat))) 0 = some i := bnd_nat _ _
  simp only [e1, e2, e3, e0]
  rw [if_pos ⟨by omega, by omega, trivial, hn, hl⟩]
  exact ⟨_, rfl⟩
 obtain ⟨v, e⟩ := this
 exact ⟨v, by unfold aSl; rw [e]⟩
theorem cut2 (hT : P.underlying T = some (.slice el)) (hk : szOf P el = some k) (hb : h.m.get b = some (.cells cc nn k false)) (hi : i ≤ n) :
  aSl P T (.slice (some ⟨b, o, none⟩) n open_) none (some (.int .i64 (i : Nat))) none h = some (.slice (some ⟨b, o, none⟩) i open_) := by
 have e0 : X.opOf h b = some (nn, k) := by unfold X.opOf; rw [hb]
 have : aSlice P T (.slice (some ⟨b, o, none⟩) n open_) none (some (.int .i64 (i : Nat))) none h = some (.slice (some ⟨b, o, none⟩) i open_) := by
  unfold aSlice
  rw [if_pos (show mxOk _ _ = true from rfl)]
  simp only [hT, hk, if_true]
  have e2 : bnd (some (.int .i64 (i : Nat))) n = some i := bnd_nat _ _
  have e3 : bnd none 0 = some 0 := rfl
  simp only [e2, e3, e0]
  rw [if_pos ⟨by omega, trivial, .inl hi⟩]
  simp
 unfold aSl; rw [this]
theorem cut3 (hT : P.underlying T = some (.slice el)) (hk : szOf P el = some k) (hb : h.m.get b = some (.cells cc nn k false)) (hi : i ≤ n) :
  aSl P T (.slice (some ⟨b, o, none⟩) n open_) (some (.int .i64 (i : Nat))) none none h = some (.slice (some ⟨b, o + i * k, none⟩) (n - i) open_) := by
 have e0 : X.opOf h b = some (nn, k) := by unfold X.opOf; rw [hb]
 have : aSlice P T (.slice (some ⟨b, o, none⟩) n open_) (some (.int .i64 (i : Nat))) none none h = some (.slice (some ⟨b, o + i * k, none⟩) (n - i) open_) := by
  unfold aSlice
  rw [if_pos (show mxOk _ _ = true from rfl)]
  simp only [hT, hk, if_true]
  have e2 : bnd none n = some n := rfl
  have e3 : bnd (some (.int .i64 (i : Nat))) 0 = some i := bnd_nat _ _
  simp only [e2, e3, e0]
  rw [if_pos ⟨hi, trivial, .inl (Nat.le_refl _)⟩]
 unfold aSl; rw [this]
theorem cut4 (hT : P.underlying T = some (.slice el)) (hk : szOf P el = some k) (hb : h.m.get b = some (.cells cc nn k false)) (hn : o + (n + 1) * k ≤ nn) :
  aSl P T (.slice (some ⟨b, o, none⟩) n open_) (some (.int .i64 (n : Nat))) (some (.int .i64 ((n + 1 : Nat) : Int))) none h = some (.slice (some ⟨b, o + n * k, none⟩) 1 open_) := by
 have e0 : X.opOf h b = some (nn, k) := by unfold X.opOf; rw [hb]
 have : aSlice P T (.slice (some ⟨b, o, none⟩) n open_) (some (.int .i64 (n : Nat))) (some (.int .i64 ((n + 1 : Nat) : Int))) none h = some (.slice (some ⟨b, o + n * k, none⟩) 1 open_) := by
  unfold aSlice
  rw [if_pos (show mxOk _ _ = true from rfl)]
  simp only [hT, hk, if_true]
  have e2 : bnd (some (.int .i64 ((n + 1 : Nat) : Int))) n = some (n + 1) := bnd_nat _ _
  have e3 : bnd (some (.int .i64 (n : Nat))) 0 = some n := bnd_nat _ _
  simp only [e2, e3, e0]
  rw [if_pos ⟨by omega, trivial, .inr hn⟩]
  simp
 unfold aSl; rw [this]
theorem bi_clear {x : Value} (e : aClear P T x h = some h') : aBuiltin P .clear [T] [x] h = some [(.val (.tuple ⟨[]⟩), h')] := by
 show oun (aClear P T x h) = _
 rw [e]; rfl
theorem Gr.del {by_ : Nat} {z : Value} (hT : P.underlying T = some (.slice el)) (hx : newsK P xT = .list) (hk : szOf P el = some k) (hby : byOf P el = some by_) (hz : zeroOf P el = some z) (hzl : (cellsL z).length = k) (hzo : ∀ x, x ∈ cellsL z → x.oneCell' = true) (hu8 : isU8 P el = none) (hlim : n * (by_ + 1) < 1099511627776)
   (h1 : ∀ x, x ∈ cs → x.oneCell' = true) (hk0 : 0 < k) (hb : h.m.get b = some (.cells cc nn k false)) (hlt : b < h.next) (hcl : cs.length = n * k) (hn : o + n * k ≤ nn) (hc : ∀ j, j < cs.length → cc.get (o + j) = cs[j]?) (hi : i < n) :
   ∃ h1 h2, aAppend P T xT (.slice (some ⟨b, o, none⟩) i open_) (.slice (some ⟨b, o + (i + 1) * k, none⟩) (n - (i + 1)) open_) h = some (.slice (some ⟨b, o, none⟩) (n - 1) open_, h1) ∧
     (∃ c1, h1.m.get b = some (.cells c1 nn k false)) ∧ Sm (fun x => x = b) h h1 ∧ aClear P T (.slice (some ⟨b, o + (n - 1) * k, none⟩) 1 open_) h1 = some h2 ∧ Gr h2 k (.slice (some ⟨b, o, none⟩) (n - 1) open_) (n - 1) (cs.take (i * k) ++ cs.drop (i * k + k)) ∧ Sm (fun x => x = b) h1 h2 := by
 have hmul : (i + 1) * k = i * k + k := Nat.succ_mul i k
 have hle : (i + 1) * k ≤ n * k := Nat.mul_le_mul_right _ hi
 have hnk : (n - (i + 1)) * k = n * k - (i * k + k) := by rw [Nat.mul_sub_right_distrib, hmul]
 have hn1 : (n - 1) * k = n * k - k := by rw [Nat.mul_sub_right_distrib, Nat.one_mul]
 have hdl : (cs.drop (i * k + k)).length = (n - (i + 1)) * k := by rw [List.length_drop, hcl, hnk]
 have hf : aFirst k (n - (i + 1)) (.slice (some ⟨b, o + (i + 1) * k, none⟩) (n - (i + 1)) open_) h = some (cs.drop (i * k + k)) := by
   unfold aFirst
   dsimp only
   by_cases h0 : n - (i + 1) = 0
   · rw [if_pos h0]
     have : cs.drop (i * k + k) = [] := List.length_eq_zero_iff.1 (by rw [hdl, h0, Nat.zero_mul])
     rw [this]
   · rw [if_neg h0, if_neg (fun e => e.elim open_ne h0)]
     refine cells_of hb ((n - (i + 1)) * k) 0 _ hdl (by rw [hnk, hmul]; omega) (fun j hj => ?_)
     rw [List.getElem?_drop, Nat.add_zero, hmul, show o + (i * k + k) + j = o + (i * k + k + j) by omega]
     rw [hnk] at hj
     exact hc _ (by omega)
 obtain ⟨h1', cc', a1, a2, a3, a4, a5⟩ := setcs_of (o := o) (cs.drop (i * k + k)) (i * k) hb (by rw [hdl, hnk]; omega) (fun v hv => h1 v (List.mem_of_mem_drop hv))
 obtain ⟨h2', cc2, b1, b2, b3, b4, b5⟩ := setcs_of (o := o + (n - 1) * k) (cellsL z) 0 a2 (by rw [hzl, hn1]; omega) hzo
 refine ⟨h1', h2', ?_, ⟨_, a2⟩, ⟨by omega, fun x _ hx => a5 x hx⟩, ?_, ⟨?_, .inr ⟨b, o, cc2, nn, rfl, by omega, b2, hk0, by rw [hn1]; omega, fun j hj => ?_⟩⟩, ⟨by omega, fun x _ hx => b5 x hx⟩⟩
 · unfold aAppend
   simp only [hT, hk, hby, hz]
   unfold aNews
   have hlen : X.lenV (.slice (some ⟨b, o + (i + 1) * k, none⟩) (n - (i + 1)) open_) = some (n - (i + 1)) := rfl
   have hl0 : X.lenV (.slice (some ⟨b, o, none⟩) i open_) = some i := rfl
   simp only [hx, hlen, hf, hl0]
   rw [if_pos ⟨hzl, hdl, by rw [List.all_eq_true]; exact fun v hv => h1 v (List.mem_of_mem_drop hv), by rw [show i + (n - (i + 1)) = n - 1 by omega]; exact Nat.lt_of_le_of_lt (Nat.mul_le_mul_right _ (by omega)) hlim⟩, hu8]
   unfold aAppendTo
   dsimp only
   rw [if_pos rfl]
   have e0 : X.opOf h b = some (nn, k) := by unfold X.opOf; rw [hb]
   simp only [e0, if_true]
   rw [show i + (n - (i + 1)) = n - 1 by omega, if_pos (by rw [hn1]; omega), a1]
 · unfold aClear
   simp only [hT, hz]
   rw [if_neg (by decide), if_neg open_ne]
   have : zrep 1 (cellsL z) = cellsL z := by simp [zrep]
   rw [this]; exact b1
 · rw [List.length_append, List.length_take, hdl, hcl, hnk, hn1, Nat.min_eq_left (by omega)]; omega
 · rw [List.length_append, List.length_take, hdl, hcl, hnk, Nat.min_eq_left (by omega)] at hj
   rw [b3, if_neg (by rw [hn1]; omega), a3]
   by_cases hj2 : j < i * k
   · rw [if_neg (by omega), List.getElem?_append_left (by rw [List.length_take]; omega), List.getElem?_take, if_pos hj2]
     exact hc j (by omega)
   · rw [if_pos (by rw [hdl, hnk]; omega), List.getElem?_append_right (by rw [List.length_take]; omega), List.length_take, hcl, Nat.min_eq_left (by omega)]
     congr 1; omega
end
end
end Go.Arm
namespace Go.Proofs.Ytmehemeoaplepaa
noncomputable section
open Go Go.X Go.Arm Go.Mt
theorem del_ms {h : AH} {b o nn n i : Nat} {cc : X.T Value} {cs : List Value} (hb : h.m.get b = some (.cells cc nn 6 false)) (hlt : b < h.next) (hcl : cs.length = n * 6) (hn : o + n * 6 ≤ nn) (hc : ∀ j, j < cs.length → cc.get (o + j) = cs[j]?) (h1 : ∀ x, x ∈ cs → x.oneCell' = true) (hi : i < n) (hl : n < big) :
  Arm.Calls Try.prog 62 [.slice (some ⟨b, o, none⟩) n open_, nv (i : Int), nv ((i + 1 : Nat) : Int)] h (fun r => r.1 = .slice (some ⟨b, o, none⟩) (n - 1) open_ ∧ Gr r.2 6 r.1 (n - 1) (cs.take (i * 6) ++ cs.drop (i * 6 + 6)) ∧ Sm (fun x => x = b) h r.2) := by
 have hl : n < 1000000000 := hl
 have hop : n < open_ := Nat.lt_trans hl (by decide)
 obtain ⟨m, rfl⟩ : ∃ m, n = m + 1 := ⟨n - 1, by omega⟩
 obtain ⟨vx, ex⟩ := cut1 (P := Try.prog) (T := 82) (el := 117) (o := o) kr kr hb hn hi hop
 obtain ⟨ha, hz, ea, ⟨c1, ga⟩, ta, ez, gz, tz⟩ := Gr.del (P := Try.prog) (T := 82) (xT := 82) (el := 117) (by_ := 56) (z := (.agg ⟨[.int .i64 0, .int .i64 0, .int .i64 0, .int .i64 0, .int .i64 0, .nilIface]⟩)) (o := o) kr kr kr kr kr rfl (List.all_eq_true.1 rfl) kr (by omega) h1 (by decide) hb hlt hcl hn hc hi
 simp only [Nat.add_sub_cancel] at ea ez gz ⊢
 refine Calls_W 33 Try.f62 ?_
 have T0 : Sm (fun x => x = b) h h := .refl
 refine W_sg 1 kr (L_nil (W_sg 5 kr (L_sl _ rfl rfl kr kr kr kr (ex) (L_nil (W_seq (W_seq (W_region ?_)))))))
 refine L_g 2 kr (L_i ((i : Int)) (((i + 1 : Nat) : Int)) (.bool false) rfl rfl kr kr rfl (by first | (simp; done) | (simp; omega)) (L_nil ?_))
 refine W_cond false kr (fun e => by cases e) (fun _ => ?_)
 refine W_skip (W_sg 3 kr (L_nil (W_seq (W_drawn kr (D_e (e := 6) (l := [0,1,2,3,4,5]) (s' := []) kr kr rfl kr Rk_nil (NS_b 2 kr (NS_sl _ rfl rfl kr kr kr kr kr kr (cut2 (P := Try.prog) (T := 82) (el := 117) (n := m + 1) (i := i) (o := o) kr kr hb (by omega)) (NS_b 2 kr (NS_sl _ rfl rfl kr kr kr kr kr kr (cut3 (P := Try.prog) (T := 82) (el := 117) (n := m + 1) (i := i + 1) (o := o) kr kr hb (by omega)) ?_)))))))))
 refine NS_nil (L_bi (.slice (some ⟨b, o, none⟩) m open_) ha rfl rfl kr (vs := [.slice (some ⟨b, o, none⟩) i open_, .slice (some ⟨b, o + (i + 1) * 6, none⟩) (m + 1 - (i + 1)) open_]) kr (bi_append ea) ?_)
 generalize hh14 : ha = h14 at ea ga ta ez tz ⊢
 have T14 : Sm (fun x => x = b) h h14 := T0.trans ta (fun x hx => .inl hx)
 have N14 := T14.nx
 refine L_nil ⟨rfl, ?_⟩
 refine D_l (l := [7]) kr kr Rk_nil (NS_b 1 kr (NS_nil (W_sg 4 kr (L_sl _ rfl rfl kr kr kr kr (cut4 (P := Try.prog) (T := 82) (el := 117) (n := m) (o := o) kr kr ga hn) (L_bi (.tuple ⟨[]⟩) hz rfl rfl kr (vs := [.slice (some ⟨b, o + m * 6, none⟩) 1 open_]) kr (bi_clear ez) ?_)))))
 generalize hh15 : hz = h15 at gz tz ⊢
 have T15 : Sm (fun x => x = b) h h15 := T14.trans tz (fun x hx => .inl hx)
 have N15 := T15.nx
 refine L_nil (W_sg 2 kr (L_nil (W_ret ?_)))
 repeat first | with_reducible refine then_ret ?_ | with_reducible refine blk_ret ?_
 refine done_of (v := .slice (some ⟨b, o, none⟩) m open_) (.inl rfl) kr ?_
 exact ⟨rfl, gz, T15⟩
theorem del_rq {h : AH} {b o nn n i : Nat} {cc : X.T Value} {cs : List Value} (hb : h.m.get b = some (.cells cc nn 1 false)) (hlt : b < h.next) (hcl : cs.length = n * 1) (hn : o + n * 1 ≤ nn) (hc : ∀ j, j < cs.length → cc.get (o + j) = cs[j]?) (h1 : ∀ x, x ∈ cs → x.oneCell' = true) (hi : i < n) (hl : n < big) :
  Arm.Calls Try.prog 95 [.slice (some ⟨b, o, none⟩) n open_, nv (i : Int), nv ((i + 1 : Nat) : Int)] h (fun r => r.1 = .slice (some ⟨b, o, none⟩) (n - 1) open_ ∧ Gr r.2 1 r.1 (n - 1) (cs.take (i * 1) ++ cs.drop (i * 1 + 1)) ∧ Sm (fun x => x = b) h r.2) := by
 have hl : n < 1000000000 := hl
 have hop : n < open_ := Nat.lt_trans hl (by decide)
 obtain ⟨m, rfl⟩ : ∃ m, n = m + 1 := ⟨n - 1, by omega⟩
 obtain ⟨vx, ex⟩ := cut1 (P := Try.prog) (T := 85) (el := 103) (o := o) kr kr hb hn hi hop
 obtain ⟨ha, hz, ea, ⟨c1, ga⟩, ta, ez, gz, tz⟩ := Gr.del (P := Try.prog) (T := 85) (xT := 85) (el := 103) (by_ := 8) (z := .pointer none) (o := o) kr kr kr kr kr rfl (List.all_eq_true.1 rfl) kr (by omega) h1 (by decide) hb hlt hcl hn hc hi
 simp only [Nat.add_sub_cancel] at ea ez gz ⊢
 refine Calls_W 33 Try.f95 ?_
 have T0 : Sm (fun x => x = b) h h := .refl
 refine W_sg 1 kr (L_nil (W_sg 5 kr (L_sl _ rfl rfl kr kr kr kr (ex) (L_nil (W_seq (W_seq (W_region ?_)))))))
 refine L_g 2 kr (L_i ((i : Int)) (((i + 1 : Nat) : Int)) (.bool false) rfl rfl kr kr rfl (by first | (simp; done) | (simp; omega)) (L_nil ?_))
 refine W_cond false kr (fun e => by cases e) (fun _ => ?_)
 refine W_skip (W_sg 3 kr (L_nil (W_seq (W_drawn kr (D_e (e := 6) (l := [0,1,2,3,4,5]) (s' := []) kr kr rfl kr Rk_nil (NS_b 2 kr (NS_sl _ rfl rfl kr kr kr kr kr kr (cut2 (P := Try.prog) (T := 85) (el := 103) (n := m + 1) (i := i) (o := o) kr kr hb (by omega)) (NS_b 2 kr (NS_sl _ rfl rfl kr kr kr kr kr kr (cut3 (P := Try.prog) (T := 85) (el := 103) (n := m + 1) (i := i + 1) (o := o) kr kr hb (by omega)) ?_)))))))))
 refine NS_nil (L_bi (.slice (some ⟨b, o, none⟩) m open_) ha rfl rfl kr (vs := [.slice (some ⟨b, o, none⟩) i open_, .slice (some ⟨b, o + (i + 1) * 1, none⟩) (m + 1 - (i + 1)) open_]) kr (bi_append ea) ?_)
 generalize hh16 : ha = h16 at ea ga ta ez tz ⊢
 have T16 : Sm (fun x => x = b) h h16 := T0.trans ta (fun x hx => .inl hx)
 have N16 := T16.nx
 refine L_nil ⟨rfl, ?_⟩
 refine D_l (l := [7]) kr kr Rk_nil (NS_b 1 kr (NS_nil (W_sg 4 kr (L_sl _ rfl rfl kr kr kr kr (cut4 (P := Try.prog) (T := 85) (el := 103) (n := m) (o := o) kr kr ga hn) (L_bi (.tuple ⟨[]⟩) hz rfl rfl kr (vs := [.slice (some ⟨b, o + m * 1, none⟩) 1 open_]) kr (bi_clear ez) ?_)))))
 generalize hh17 : hz = h17 at gz tz ⊢
 have T17 : Sm (fun x => x = b) h h17 := T16.trans tz (fun x hx => .inl hx)
 have N17 := T17.nx
 refine L_nil (W_sg 2 kr (L_nil (W_ret ?_)))
 repeat first | with_reducible refine then_ret ?_ | with_reducible refine blk_ret ?_
 refine done_of (v := .slice (some ⟨b, o, none⟩) m open_) (.inl rfl) kr ?_
 exact ⟨rfl, gz, T17⟩
end
end Go.Proofs.Ytmehemeoaplepaa
