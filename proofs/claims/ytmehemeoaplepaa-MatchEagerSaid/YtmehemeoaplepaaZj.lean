/- Worlds of the program and walks of its functions. -/
import Derived.Test.YtmehemeoaplepaaZi
import Derived.Test.YtmehemeoaplepaaZg
import Derived.WalkKit
import Derived.ProofKit
import Derived.OpenShut
import Derived.Deep.Slices
import Derived.Carry
import Derived.Test.YtmehemeoaplepaaZh
namespace Go.Arm
noncomputable section
open Go Go.X
def ups {ρ α : Type} [DecidableEq ρ] (f : ρ → α) (r : ρ) (x : α) : ρ → α := fun r' => if r' = r then x else f r'
theorem ups_at {ρ α : Type} [DecidableEq ρ] (f : ρ → α) (r : ρ) (x : α) : ups f r x r = x := by unfold ups; rw [if_pos rfl]
theorem ups_ne {ρ α : Type} [DecidableEq ρ] (f : ρ → α) {r r' : ρ} (x : α) (h : r' ≠ r) : ups f r x r' = f r' := by unfold ups; rw [if_neg h]
theorem ups_id {ρ α : Type} [DecidableEq ρ] (f : ρ → α) (r : ρ) : ups f r (f r) = f := by
 funext r'
 unfold ups
 split
 · rename_i e; rw [e]
 · rfl
def Ws (h : AH) (k : Nat) (v : Value) (n : Nat) (cs : List Value) : Prop :=
 cs.length = n * k ∧ ((n = 0 ∧ ∃ a c, v = .slice a 0 c ∧ (a = none → c = 0) ∧ ∀ q, a = some q → q.block < h.next) ∨
  ∃ b o c cc nn op, 0 < n ∧ c ≠ 0 ∧ v = .slice (some ⟨b, o, none⟩) n c ∧ b < h.next ∧ h.m.get b = some (.cells cc nn op false) ∧ o + n * k ≤ nn ∧ ∀ j, j < cs.length → cc.get (o + j) = cs[j]?)
section
variable {P : Program} {h h' : AH} {S : Nat → Prop} {k n b : Nat} {v : Value} {cs : List Value} {T el : TypeId}
theorem Ws.sd (H : Ws h k v n cs) : Sd h k v n cs := by
 refine ⟨H.1, ?_⟩
 rcases H.2 with hl | ⟨b, o, c, cc, nn, op, h0, h1, e, h2, h3, h4, h5⟩
 · exact .inl hl
 · exact .inr ⟨b, o, c, cc, nn, op, false, h0, h1, e, h2, h3, h4, h5⟩
theorem Ws.sm (H : Ws h k v n cs) (s : Sm S h h') (hb : ∀ b, vb v = some b → ¬ S b) : Ws h' k v n cs := by
 obtain ⟨hl, hs⟩ := H
 refine ⟨hl, ?_⟩
 rcases hs with ⟨h0, a, c, e, h1, h2⟩ | ⟨b, o, c, cc, nn, op, h0, h1, rfl, h2, h3, h4, h5⟩
 · exact .inl ⟨h0, a, c, e, h1, fun q hq => Nat.lt_of_lt_of_le (h2 q hq) s.nx⟩
 · exact .inr ⟨b, o, c, cc, nn, op, h0, h1, rfl, Nat.lt_of_lt_of_le h2 s.nx, (s.get b h2 (hb b rfl)).trans h3, h4, h5⟩
theorem Ws.nil : Ws h k (.slice none 0 0) 0 [] := ⟨by simp, .inl ⟨rfl, none, 0, rfl, fun _ => rfl, (fun q hq => by cases hq)⟩⟩
theorem Gr.ws (hg : Gr h k v n cs) : Ws h k v n cs := by
 obtain ⟨hl, hg⟩ := hg
 refine ⟨hl, ?_⟩
 rcases hg with ⟨h0, rfl | ⟨a, rfl, ha⟩⟩ | ⟨b, o, cc, nn, rfl, h2, h3, h4, h5, h6⟩
 · exact .inl ⟨h0, none, 0, rfl, fun _ => rfl, (fun q hq => by cases hq)⟩
 · exact .inl ⟨h0, some a, 0, rfl, (fun h => by cases h), (fun q hq => by cases hq; exact ha)⟩
 · by_cases hn : n = 0
   · subst hn
     exact .inl ⟨rfl, _, _, rfl, (fun h => by cases h), (fun q hq => by cases hq; exact h2)⟩
   · exact .inr ⟨b, o, _, cc, nn, k, by omega, open_ne, rfl, h2, h3, h5, h6⟩
theorem Cl.ws (hc : Cl h b cs) (hn : cs.length = n) : Ws h 1 (.slice (some ⟨b, 0, none⟩) n n) n cs := by
 refine ⟨by omega, ?_⟩
 obtain ⟨h1, c, op, h2, h3⟩ := hc
 by_cases h0 : n = 0
 · exact .inl ⟨h0, some ⟨b, 0, none⟩, n, by rw [h0], (fun e => by cases e), (fun q hq => by cases hq; exact h1)⟩
 · exact .inr ⟨b, 0, n, c, cs.length, op, by omega, h0, rfl, h1, h2, by omega, fun j hj => by rw [Nat.zero_add]; exact h3 j hj⟩
theorem Ws.elem {i : Nat} (hT : P.underlying T = some (.slice el)) (hk : szOf P el = some 1) (hs : scalT P el = true) (hg : Ws h 1 v n cs) (hi : i < n) (kd : IntKind) :
   ∃ p x, aIndex P T v (.int kd i) = some (.pointer (some p)) ∧ cs[i]? = some x ∧ aLoad P el p h = some x ∧ vb v = some p.block ∧
     ∀ u, cellsL u = [u] → u.oneCell' = true → ∃ h', aStore P el p u h = some h' ∧ Ws h' 1 v n (cs.set i u) ∧ Sm (fun b => vb v = some b) h h' ∧ h'.next = h.next := by
 obtain ⟨hl, hg⟩ := hg
 rcases hg with ⟨h0, _⟩ | ⟨b, o, c, cc, nn, op, h0, h1, rfl, h2, h3, h5, h6⟩
 · omega
 · have hil : i < cs.length := by omega
   refine ⟨⟨b, o + i, none⟩, cs[i], ?_, List.getElem?_eq_getElem hil, ?_, rfl, fun u hu hu1 => ?_⟩
   · unfold aIndex
     simp only [hT, hk]
     rw [if_pos ⟨h1, by omega, by omega⟩]
     simp
   · unfold scalT at hs
     cases hu : P.underlying el with
     | none => rw [hu] at hs; cases hs
     | some d =>
       rw [hu] at hs
       have hs : isAg d = false := by simpa using hs
       unfold aLoad
       simp only [hu, hs]
       show h.cell _ = _
       unfold AH.cell
       simp only [h3]
       rw [if_pos (by omega), h6 i (by omega), List.getElem?_eq_getElem hil]
   · refine ⟨⟨h.m.set b (some (.cells (cc.set (o + i) (some u)) nn op false)), h.next⟩, ?_, ⟨by rw [List.length_set]; exact hl, .inr ⟨b, o, c, cc.set (o + i) (some u), nn, op, h0, h1, rfl, h2, ?_, h5, fun j hj => ?_⟩⟩, ⟨Nat.le_refl _, fun x hx hn => ?_⟩, rfl⟩
     · unfold aStore
       simp only [hk, hu, List.length_singleton, if_true]
       unfold AH.setcs
       rw [if_pos hu1]
       dsimp only
       rw [Nat.add_zero]
       unfold AH.setc
       simp only [h3]
       rw [if_pos (by omega)]
       rfl
     · show (h.m.set b _).get b = _
       rw [X.T.get_set, if_pos rfl]
     · rw [List.length_set] at hj
       rw [X.T.get_set, List.getElem?_set]
       by_cases e : j = i
       · subst e; rw [if_pos rfl, if_pos rfl, if_pos hil]
       · rw [if_neg (by omega), if_neg (fun e2 => e e2.symm)]; exact h6 j hj
     · show (h.m.set b _).get x = _
       rw [X.T.get_set, if_neg (fun e => hn (by rw [e]; rfl))]
end
def Gw (g : Bool) (h : AH) (k : Nat) (v : Value) (n : Nat) (cs : List Value) : Prop := match g with
 | true => Gr h k v n cs
 | false => Ws h k v n cs
section
variable {h h' : AH} {S : Nat → Prop} {g : Bool} {k n : Nat} {v : Value} {cs : List Value}
theorem Gw.ws (H : Gw g h k v n cs) : Ws h k v n cs := by
 cases g with
 | true => exact Gr.ws H
 | false => exact H
theorem Gw.sm (H : Gw g h k v n cs) (s : Sm S h h') (hb : ∀ b, vb v = some b → ¬ S b) : Gw g h' k v n cs := by
 cases g with
 | true => exact Gr.sm H s hb
 | false => exact Ws.sm H s hb
theorem Gw.nil : Gw g h k (.slice none 0 0) 0 [] := by
 cases g with
 | true => exact Gr.nil
 | false => exact Ws.nil
end
section
variable {ρ : Type} [DecidableEq ρ] {h h' : AH} {S : Nat → Prop} {g : ρ → Bool} {k : ρ → Nat} {V : ρ → Value} {n : ρ → Nat} {cs : ρ → List Value}
structure Lay (h : AH) (g : ρ → Bool) (k : ρ → Nat) (V : ρ → Value) (n : ρ → Nat) (cs : ρ → List Value) : Prop where
 gr : ∀ r, Gw (g r) h (k r) (V r) (n r) (cs r)
 inj : ∀ r r' b, vb (V r) = some b → vb (V r') = some b → r = r'
omit [DecidableEq ρ] in
theorem Lay.sm (L : Lay h g k V n cs) (s : Sm S h h') (hS : ∀ r b, vb (V r) = some b → ¬ S b) : Lay h' g k V n cs := ⟨fun r => (L.gr r).sm s (hS r), L.inj⟩
theorem Lay.put (L : Lay h g k V n cs) (r : ρ) {v : Value} {m : Nat} {c : List Value} (s : Sm S h h') (hS : ∀ r', r' ≠ r → ∀ b, vb (V r') = some b → ¬ S b) (G : Gw (g r) h' (k r) v m c) (hv : ∀ r', r' ≠ r → ∀ b, vb (V r') = some b → vb v ≠ some b) :
   Lay h' g k (ups V r v) (ups n r m) (ups cs r c) := by
 refine ⟨fun r' => ?_, fun a a' b ha ha' => ?_⟩
 · by_cases hr : r' = r
   · subst hr; rw [ups_at, ups_at, ups_at]; exact G
   · rw [ups_ne _ _ hr, ups_ne _ _ hr, ups_ne _ _ hr]; exact (L.gr r').sm s (hS r' hr)
 · by_cases h1 : a = r
   · by_cases h2 : a' = r
     · rw [h1, h2]
     · subst h1; rw [ups_at] at ha; rw [ups_ne _ _ h2] at ha'; exact (hv _ h2 b ha' ha).elim
   · by_cases h2 : a' = r
     · subst h2; rw [ups_at] at ha'; rw [ups_ne _ _ h1] at ha; exact (hv _ h1 b ha ha').elim
     · rw [ups_ne _ _ h1] at ha; rw [ups_ne _ _ h2] at ha'; exact L.inj _ _ _ ha ha'
end
section
variable {P : Program} {h h' : AH} {b o i n k : Nat} {cs : List Value} {v : Value} {T el : TypeId}
theorem Gr.at (hT : P.underlying T = some (.slice el)) (hk : szOf P el = some k) (hg : Gr h k v n cs) (hi : i < n) (kd : IntKind) :
 ∃ b o, vb v = some b ∧ aIndex P T v (.int kd i) = some (.pointer (some ⟨b, o, none⟩)) ∧ ∀ j, j < k → h.cell ⟨b, o + j, none⟩ = cs[i * k + j]? := hg.sd.at hT hk hi kd
theorem ld_cell (hs : scalT P el = true) (hc : h.cell ⟨b, o, none⟩ = some v) : aLoad P el ⟨b, o, none⟩ h = some v := by
 unfold scalT at hs
 cases hu : P.underlying el with
 | none => rw [hu] at hs; cases hs
 | some d =>
  rw [hu] at hs
  have hs : isAg d = false := by simpa using hs
  unfold aLoad
  simp only [hu, hs]
  exact hc
theorem Gr.tailK (hT : P.underlying T = some (.slice el)) (hk : szOf P el = some k) (hg : Gr h k v (n + 1) cs) :
   ∃ v', aSl P T v (some (.int .i64 1)) none none h = some v' ∧ Gr h k v' n (cs.drop k) ∧ vb v' = vb v := by
 obtain ⟨hl, hg⟩ := hg
 rcases hg with ⟨h0, _⟩ | ⟨b, o, cc, nn, rfl, h2, h3, h4, h5, h6⟩
 · omega
 · have hkl : (n + 1) * k = n * k + k := Nat.succ_mul n k
   refine ⟨.slice (some ⟨b, o + k, none⟩) n open_, ?_, ⟨by rw [List.length_drop, hl, hkl]; omega, .inr ⟨b, o + k, cc, nn, rfl, h2, h3, h4, by omega, fun j hj => ?_⟩⟩, rfl⟩
   · have : aSlice P T (.slice (some ⟨b, o, none⟩) (n + 1) open_) (some (.int .i64 1)) none none h = some (.slice (some ⟨b, o + k, none⟩) n open_) := by
      unfold aSlice
      rw [if_pos (show mxOk none none = true from rfl)]
      simp only [hT, hk, if_true]
      have e1 : bnd none (n + 1) = some (n + 1) := rfl
      have e2 : bnd (some (.int .i64 1)) 0 = some 1 := rfl
      have e3 : opOf h b = some (nn, k) := by unfold opOf; rw [h3]
      simp only [e1, e2, e3]
      rw [if_pos ⟨by omega, trivial, .inl (Nat.le_refl _)⟩]
      simp
     unfold aSl
     rw [this]
   · rw [List.length_drop] at hj
     rw [show o + k + j = o + (k + j) by omega, h6 (k + j) (by omega), List.getElem?_drop]
end
end
end Go.Arm
namespace Go.Mt
open Go.Arm
abbrev By := List UInt8
structure En where
 src : Int
 ctx : Int
 tag : Int
 size : Int
 parts : Int
deriving DecidableEq
inductive Pk
 | eager (e : En) (d : By)
 | ask (e : En) (req : Int)
 | credit
 | clear (req : Int)
 | body (req : Int) (d : By)
 | part (req i : Int) (d : By)
inductive Ms
 | eager (e : En) (d : By)
 | ask (e : En) (req : Int)
def Ms.en : Ms → En
 | .eager e _ => e
 | .ask e _ => e
structure St where
 src : Int
 tag : Int
 size : Int
 err : Int
deriving DecidableEq
def St.z : St := ⟨0, 0, 0, 0⟩
structure Rq where
 no : Nat
 peer : Int
 ctx : Int
 tag : Int
 room : Int
 send : Bool
 sync : Bool
 pers : Bool
 act : Bool
 done : Bool
 parts : Nat
 size : Nat
 data : By
 pcs : List (Option By)
 gone : Nat
 sent : List Bool
 clr : Bool
 st : St
structure Pr where
 next : Nat
 reqs : List Nat
 exps : List ((Int × Int) × Nat)
 inb : List (Int × Pk)
 msgs : List Ms
 rcvs : List Nat
 crds : List Int
structure Wd where
 lim : Int
 n : Nat
 pr : Nat → Pr
 rq : Nat → Nat → Rq
 way : Int → Int → List Pk
def big : Nat := 1000000000
namespace Wd
def setPr (w : Wd) (p : Nat) (x : Pr) : Wd := { w with pr := ups w.pr p x }
def setRq (w : Wd) (p no : Nat) (x : Rq) : Wd := { w with rq := ups w.rq p (ups (w.rq p) no x) }
def setWay (w : Wd) (a b : Int) (l : List Pk) : Wd := { w with way := ups w.way a (ups (w.way a) b l) }
theorem setRq_at (w : Wd) (p no : Nat) (x : Rq) : (w.setRq p no x).rq p no = x := by
 show ups w.rq p (ups (w.rq p) no x) p no = x
 rw [ups_at, ups_at]
theorem setRq_setRq (w : Wd) (p no : Nat) (x y : Rq) : (w.setRq p no x).setRq p no y = w.setRq p no y := by
 unfold setRq
 congr 1
 funext q
 by_cases e : q = p
 · subst e
   funext k
   by_cases e2 : k = no
   · subst e2; simp [ups]
   · simp [ups, e2]
 · simp [ups, e]
theorem setPr_at (w : Wd) (p : Nat) (x : Pr) : (w.setPr p x).pr p = x := ups_at _ _ _
def put (w : Wd) (a b : Int) (x : Pk) : Option Wd := if (w.way a b).length < big then some (w.setWay a b (w.way a b ++ [x])) else none
end Wd
def Rq.fits (r : Rq) (e : En) : Bool := !(e.ctx != r.ctx || (r.peer != -1 && r.peer != e.src) || (r.tag != -1 && r.tag != e.tag)) && (e.parts == r.parts && (r.parts == 0 || e.size == ((r.parts * r.size : Nat) : Int)))
def Rq.gets (r : Rq) (d : By) : Rq := if r.parts = 0 ∧ r.room < d.length then { r with data := d.take r.room.toNat, done := true, st := { r.st with err := 15 } } else { r with data := d, done := true }
def Rq.small (r : Rq) : Prop := r.parts * r.size < big
instance (r : Rq) : Decidable r.small := inferInstanceAs (Decidable (_ < _))
theorem Rq.fits_split (r : Rq) (e : En) : (e.ctx ≠ r.ctx ∧ r.fits e = false) ∨ (e.ctx = r.ctx ∧ r.peer ≠ -1 ∧ r.peer ≠ e.src ∧ r.fits e = false) ∨
   (e.ctx = r.ctx ∧ r.peer = -1 ∧ r.tag ≠ -1 ∧ r.tag ≠ e.tag ∧ r.fits e = false) ∨ (e.ctx = r.ctx ∧ r.peer ≠ -1 ∧ r.peer = e.src ∧ r.tag ≠ -1 ∧ r.tag ≠ e.tag ∧ r.fits e = false) ∨
   (e.ctx = r.ctx ∧ r.peer = -1 ∧ r.tag = -1 ∧ r.fits e = (e.parts == r.parts && (r.parts == 0 || e.size == ((r.parts * r.size : Nat) : Int)))) ∨ (e.ctx = r.ctx ∧ r.peer ≠ -1 ∧ r.peer = e.src ∧ r.tag = -1 ∧ r.fits e = (e.parts == r.parts && (r.parts == 0 || e.size == ((r.parts * r.size : Nat) : Int)))) ∨
   (e.ctx = r.ctx ∧ r.peer = -1 ∧ r.tag ≠ -1 ∧ r.tag = e.tag ∧ r.fits e = (e.parts == r.parts && (r.parts == 0 || e.size == ((r.parts * r.size : Nat) : Int)))) ∨ (e.ctx = r.ctx ∧ r.peer ≠ -1 ∧ r.peer = e.src ∧ r.tag ≠ -1 ∧ r.tag = e.tag ∧ r.fits e = (e.parts == r.parts && (r.parts == 0 || e.size == ((r.parts * r.size : Nat) : Int)))) := by
 unfold Rq.fits
 by_cases h1 : e.ctx = r.ctx
 · by_cases h2 : r.peer = -1
   · by_cases h3 : r.tag = -1
     · simp [h1, h2, h3] <;> omega
     · by_cases h4 : r.tag = e.tag <;> simp [h1, h2, h3, h4] <;> omega
   · by_cases h5 : r.peer = e.src
     · by_cases h3 : r.tag = -1
       · simp [h1, h3, h5] <;> omega
       · by_cases h4 : r.tag = e.tag <;> simp [h1, h3, h4, h5] <;> omega
     · simp [h1, h2, h5] <;> omega
 · simp [h1] <;> omega
namespace Wd
def mtch (w : Wd) (p no : Nat) (m : Ms) : Option Wd :=
 let r := { w.rq p no with st := ⟨m.en.src, m.en.tag, m.en.size, 0⟩ }
 match m with
 | .eager e d => if d.length < big ∧ 0 ≤ r.room then (w.setRq p no (r.gets d)).put p e.src .credit else none
 | .ask e q => ((w.setRq p no r).setPr p { w.pr p with exps := kset (w.pr p).exps (e.src, q) no }).put p e.src (.clear q)
def came (w : Wd) (p : Nat) (m : Ms) : Option Wd := if ¬ ((∀ no, no ∈ (w.pr p).rcvs → (w.rq p no).small) ∧ (w.pr p).rcvs.length < big) then none else
 match (w.pr p).rcvs.findIdx? fun no => (w.rq p no).fits m.en with
 | some i => (w.setPr p { w.pr p with rcvs := (w.pr p).rcvs.eraseIdx i }).mtch p ((w.pr p).rcvs.getD i 0) m
 | none => if (w.pr p).msgs.length < big then some (w.setPr p { w.pr p with msgs := (w.pr p).msgs ++ [m] }) else none
def handle (w : Wd) (p : Nat) (f : Int) (x : Pk) : Option Wd :=
 match x with
 | .eager e d => w.came p (.eager e d)
 | .ask e q => w.came p (.ask e q)
 | .credit => if 0 ≤ f ∧ f < (w.pr p).crds.length ∧ (w.pr p).crds.getD f.toNat 0 < big ∧ 0 ≤ (w.pr p).crds.getD f.toNat 0 then some (w.setPr p { w.pr p with crds := (w.pr p).crds.set f.toNat ((w.pr p).crds.getD f.toNat 0 + 1) }) else none
 | .clear q => if 0 ≤ q ∧ q.toNat ∈ (w.pr p).reqs then
   (if (w.rq p q.toNat).parts = 0 then ((w.put p f (.body q (w.rq p q.toNat).data)).map fun w' => w'.setRq p q.toNat { w'.rq p q.toNat with done := true }) else none) else none
 | .body q d => match kget (w.pr p).exps (f, q) with
  | some no => if d.length < big ∧ 0 ≤ (w.rq p no).room then some ((w.setRq p no ((w.rq p no).gets d)).setPr p { w.pr p with exps := kdel (w.pr p).exps (f, q) }) else none
  | none => none
 | .part _ _ _ => none
def handles (p : Nat) : Wd → List (Int × Pk) → Option Wd
 | w, [] => some w
 | w, x :: l => match w.handle p x.1 x.2 with
  | some w' => handles p w' l
  | none => none
theorem handles_cons {p : Nat} {w w' : Wd} {x : Int × Pk} {l : List (Int × Pk)} (h : handles p w (x :: l) = some w') : ∃ w1, w.handle p x.1 x.2 = some w1 ∧ handles p w1 l = some w' := by
 unfold handles at h
 split at h
 · rename_i w1 h1; exact ⟨w1, h1, h⟩
 · cases h
theorem put_n {w w' : Wd} {a b : Int} {x : Pk} (h : w.put a b x = some w') : w'.n = w.n := by
 unfold put at h
 split at h
 · cases h; rfl
 · cases h
theorem mtch_n {w w' : Wd} {p no : Nat} {m : Ms} (h : w.mtch p no m = some w') : w'.n = w.n := by
 unfold mtch at h
 dsimp only at h
 split at h
 · split at h
   · exact Eq.trans (put_n h) rfl
   · cases h
 · exact Eq.trans (put_n h) rfl
theorem came_n {w w' : Wd} {p : Nat} {m : Ms} (h : w.came p m = some w') : w'.n = w.n := by
 unfold came at h
 split at h
 · cases h
 · split at h
   · exact Eq.trans (mtch_n h) rfl
   · split at h
     · cases h; rfl
     · cases h
theorem handle_n {w w' : Wd} {p : Nat} {f : Int} {x : Pk} (h : w.handle p f x = some w') : w'.n = w.n := by
 unfold handle at h
 split at h
 · exact Eq.trans (came_n h) rfl
 · exact Eq.trans (came_n h) rfl
 · split at h
   · cases h; rfl
   · cases h
 · split at h
   · split at h
     · rw [Option.map_eq_some_iff] at h
       obtain ⟨w1, h1, rfl⟩ := h
       have e := put_n h1
       exact e
     · cases h
   · cases h
 · split at h
   · split at h
     · cases h; rfl
     · cases h
   · cases h
 · cases h
theorem handles_n {p : Nat} : ∀ {l : List (Int × Pk)} {w w' : Wd}, handles p w l = some w' → w'.n = w.n
 | [], w, w', h => by cases h; rfl
 | x :: l, w, w', h => by
  obtain ⟨w1, h1, h2⟩ := handles_cons h
  rw [handles_n h2, handle_n h1]
def call (w : Wd) (p : Nat) : Option Wd := if (w.pr p).inb.length < big then handles p (w.setPr p { w.pr p with inb := [] }) (w.pr p).inb else none
theorem call_n {w w' : Wd} {p : Nat} (h : w.call p = some w') : w'.n = w.n := by
 unfold call at h
 split at h
 · exact Eq.trans (handles_n h) rfl
 · cases h
def add (w : Wd) (p : Nat) (r : Rq) : Option Wd := if (w.pr p).next < big ∧ (w.pr p).next ∉ (w.pr p).reqs then
 some (((w.setPr p { w.pr p with next := (w.pr p).next + 1 }).setRq p (w.pr p).next { r with no := (w.pr p).next }).setPr p { w.pr p with next := (w.pr p).next + 1, reqs := (w.pr p).reqs ++ [(w.pr p).next] }) else none
def send (w : Wd) (p no : Nat) (e : En) : Option Wd :=
  let r := w.rq p no
  if r.peer = -2 then some (w.setRq p no { r with done := true })
  else if r.sync = true ∨ r.parts > 0 ∨ e.size > w.lim then w.put p r.peer (.ask e r.no)
  else if 0 ≤ r.peer ∧ r.peer < (w.pr p).crds.length then
    (if (w.pr p).crds.getD r.peer.toNat 0 = 0 then w.put p r.peer (.ask e r.no)
     else if 0 < (w.pr p).crds.getD r.peer.toNat 0 ∧ (w.pr p).crds.getD r.peer.toNat 0 < big then
      (((w.setPr p { w.pr p with crds := (w.pr p).crds.set r.peer.toNat ((w.pr p).crds.getD r.peer.toNat 0 - 1) }).put p r.peer (.eager e r.data)).map fun w' => w'.setRq p no { r with done := true })
     else none) else none
theorem send_split {w w' : Wd} {p no : Nat} {e : En} (h : w.send p no e = some w') :
   ((w.rq p no).peer = -2 ∧ w' = w.setRq p no { w.rq p no with done := true }) ∨ ((w.rq p no).peer ≠ -2 ∧ (w.rq p no).sync = true ∧ w.put p (w.rq p no).peer (.ask e (w.rq p no).no) = some w') ∨
   ((w.rq p no).peer ≠ -2 ∧ (w.rq p no).sync = false ∧ 0 < (w.rq p no).parts ∧ w.put p (w.rq p no).peer (.ask e (w.rq p no).no) = some w') ∨ ((w.rq p no).peer ≠ -2 ∧ (w.rq p no).sync = false ∧ (w.rq p no).parts = 0 ∧ w.lim < e.size ∧ w.put p (w.rq p no).peer (.ask e (w.rq p no).no) = some w') ∨
   (∃ i : Nat, (w.rq p no).peer = (i : Int) ∧ i < (w.pr p).crds.length ∧ (w.rq p no).sync = false ∧ (w.rq p no).parts = 0 ∧ e.size ≤ w.lim ∧ (w.pr p).crds.getD i 0 = 0 ∧ w.put p (w.rq p no).peer (.ask e (w.rq p no).no) = some w') ∨
   (∃ (i : Nat) (w1 : Wd), (w.rq p no).peer = (i : Int) ∧ i < (w.pr p).crds.length ∧ (w.rq p no).sync = false ∧ (w.rq p no).parts = 0 ∧ e.size ≤ w.lim ∧ 0 < (w.pr p).crds.getD i 0 ∧ (w.pr p).crds.getD i 0 < big ∧
     (w.setPr p { w.pr p with crds := (w.pr p).crds.set i ((w.pr p).crds.getD i 0 - 1) }).put p (w.rq p no).peer (.eager e (w.rq p no).data) = some w1 ∧ w' = w1.setRq p no { w.rq p no with done := true }) := by
 unfold send at h
 dsimp only at h
 split at h
 · rename_i h1
   exact .inl ⟨h1, (Option.some.inj h).symm⟩
 · rename_i h1
   split at h
   · rename_i h2
     cases hs : (w.rq p no).sync with
     | true => exact .inr (.inl ⟨h1, rfl, h⟩)
     | false =>
       rw [hs] at h2
       by_cases hp : 0 < (w.rq p no).parts
       · exact .inr (.inr (.inl ⟨h1, rfl, hp, h⟩))
       · refine .inr (.inr (.inr (.inl ⟨h1, rfl, by omega, ?_, h⟩)))
         rcases h2 with h2 | h2 | h2
         · cases h2
         · exact (hp h2).elim
         · exact h2
   · rename_i h2
     have hs : (w.rq p no).sync = false := by
       cases hs : (w.rq p no).sync with
       | true => exact (h2 (.inl hs)).elim
       | false => rfl
     have hp : (w.rq p no).parts = 0 := by
       by_cases hp : (w.rq p no).parts > 0
       · exact (h2 (.inr (.inl hp))).elim
       · omega
     have hl : e.size ≤ w.lim := by
       by_cases hl : e.size > w.lim
       · exact (h2 (.inr (.inr hl))).elim
       · omega
     split at h
     · rename_i h3
       obtain ⟨i, hi⟩ : ∃ i : Nat, (w.rq p no).peer = (i : Int) := ⟨(w.rq p no).peer.toNat, by omega⟩
       have hit : (w.rq p no).peer.toNat = i := by omega
       rw [hit] at h
       split at h
       · rename_i h4
         exact .inr (.inr (.inr (.inr (.inl ⟨i, hi, by omega, hs, hp, hl, h4, h⟩))))
       · split at h
         · rename_i h5
           rw [Option.map_eq_some_iff] at h
           obtain ⟨w1, a, b⟩ := h
           exact .inr (.inr (.inr (.inr (.inr ⟨i, w1, hi, by omega, hs, hp, hl, h5.1, h5.2, a, b.symm⟩))))
         · cases h
     · cases h
theorem send_n {w w' : Wd} {p no : Nat} {e : En} (h : w.send p no e = some w') : w'.n = w.n := by
 rcases send_split h with ⟨_, rfl⟩ | ⟨_, _, h⟩ | ⟨_, _, _, h⟩ | ⟨_, _, _, _, h⟩ | ⟨_, _, _, _, _, _, _, h⟩ | ⟨_, w1, _, _, _, _, _, _, _, h2, rfl⟩
 · rfl
 · exact put_n h
 · exact put_n h
 · exact put_n h
 · exact put_n h
 · have h3 := put_n h2; exact h3
def start (w : Wd) (p no : Nat) (d : By) : Option Wd :=
 let r := { w.rq p no with act := true, done := false, st := St.z, data := d }
 if ¬ (r.small ∧ d.length < big ∧ (w.pr p).msgs.length < big ∧ 0 ≤ r.room) then none else
 let e : En := ⟨p, r.ctx, r.tag, ((d.length + r.parts * r.size : Nat) : Int), r.parts⟩
 if r.send = true then (w.setRq p no { r with st := ⟨r.peer, r.tag, e.size, 0⟩ }).send p no e
 else if r.peer = -2 then some (w.setRq p no { r with st := ⟨-2, -1, 0, 0⟩, done := true })
 else match (w.pr p).msgs.findIdx? fun m => r.fits m.en with
  | some i => ((w.setRq p no r).setPr p { w.pr p with msgs := (w.pr p).msgs.eraseIdx i }).mtch p no ((w.pr p).msgs.getD i (.ask e 0))
  | none => if (w.pr p).rcvs.length < big then some ((w.setRq p no r).setPr p { w.pr p with rcvs := (w.pr p).rcvs ++ [no] }) else none
theorem add_n {w w' : Wd} {p : Nat} {r : Rq} (h : w.add p r = some w') : w'.n = w.n := by
 unfold add at h
 split at h
 · cases h; rfl
 · cases h
theorem start_n {w w' : Wd} {p no : Nat} {d : By} (h : w.start p no d = some w') : w'.n = w.n := by
 unfold start at h
 dsimp only at h
 split at h
 · cases h
 · split at h
   · have e := send_n h; exact e
   · split at h
     · cases h; rfl
     · split at h
       · have e := mtch_n h; exact e
       · split at h
         · cases h; rfl
         · cases h
def over (w : Wd) (p no : Nat) : Wd :=
 let w' := w.setRq p no { w.rq p no with act := false }
 if (w.rq p no).pers = true then w' else w'.setPr p { w.pr p with reqs := (w.pr p).reqs.erase (w.rq p no).no }
theorem over_n (w : Wd) (p no : Nat) : (w.over p no).n = w.n := by
 unfold over
 split <;> rfl
theorem over_rq (w : Wd) (p no : Nat) : (w.over p no).rq p no = { w.rq p no with act := false } := by
 unfold over
 split
 · exact setRq_at _ _ _ _
 · exact setRq_at _ _ _ _
def quiet (w : Wd) : Prop := (∀ a b, w.way a b = []) ∧ ∀ p, p < w.n → (w.pr p).inb = []
end Wd
end Go.Mt
namespace Go.Arm
structure TE where
 k : Int
 p : Int
 t : Int
 n : Int
 v : Int
 w : Bool
structure TS where
 b : Int
 e : Int
 w : Int
 y : Int
structure TC where
 s : Int
 c : Int
 r : Int
 m : Int
abbrev Tr := List (List TE)
def fits (k p n : Int) (x : TE) : Bool := decide (x.k = k) && decide (x.n = n) && (decide (k = 3) || decide (x.p = p))
def fnd (l : List TE) (k p n : Int) : Option Nat := l.findIdx? (fits k p n)
def sameT (x y : TE) : Bool := decide (y.k = x.k) && (decide (x.k = 3) || decide (y.p = x.p))
def before (pre : List TE) (x : TE) : Nat := pre.countP (sameT x)
def peerOk (N : Nat) (x : TE) : Bool := decide (0 ≤ x.p) && decide (x.p < N)
def okE (N : Nat) (pre : List TE) (x : TE) : Bool :=
 if x.k = 1 then peerOk N x && decide (x.n = before pre x)
 else if x.k = 2 then peerOk N x && (fnd pre 2 x.p x.n).isNone
 else if x.k = 3 then decide (x.n = before pre x)
 else if x.k = 4 then decide (0 ≤ x.v) && decide (x.v ≤ 1048576)
 else false
def sendsL (p : Int) : Nat → List TE → List ((Int × Int × Int) × (Int × Int))
 | _, [] => []
 | i, x :: l => if x.k = 1 then ((p, x.p, x.n), (p, (i : Int))) :: sendsL p (i + 1) l else sendsL p (i + 1) l
theorem kset_new {κ β : Type} [DecidableEq κ] : ∀ (l : List (κ × β)) (k : κ) (y : β), kget l k = none → kset l k y = l ++ [(k, y)]
 | [], k, y, _ => rfl
 | e :: l, k, y, h => by
  simp only [kget] at h
  split at h
  · cases h
  · rename_i hne
    simp only [kset, if_neg hne, List.cons_append, kset_new l k y h]
def sendsA : Nat → Tr → List ((Int × Int × Int) × (Int × Int))
 | _, [] => []
 | p, l :: L => sendsL p 0 l ++ sendsA (p + 1) L
end Go.Arm
namespace Go.Arm
abbrev Lf := Nat → List TE
abbrev Sf := Nat → List TS
def bgn (S : Sf) (p i : Nat) : Int := if i = 0 then 0 else match (S p)[i - 1]? with
 | some s => s.e
 | none => 0
def opn (L : Lf) (S : Sf) (no : Int) : Nat → Option (Option (Int × Nat × Nat))
 | 0 => some none
 | k + 1 => match opn L S no k with
  | none => none
  | some acc => match fnd (L k) 3 0 no with
   | none => some acc
   | some i => if (S k).length < i then none else some (match acc with
    | some a => if a.1 < bgn S k i then some (bgn S k i, k, i) else some a
    | none => some (bgn S k i, k, i))
def strt (N : Nat) (L : Lf) (C : TC) (S : Sf) (p : Nat) (x : TE) : Option (Int × Int × Int) :=
 if x.k = 1 then some (0, C.s, 0)
 else if x.k = 4 then some (0, x.v, 0)
 else if x.k = 2 then match fnd (L x.p.toNat) 1 p x.n with
  | none => none
  | some j => match (S x.p.toNat)[j]? with
   | none => none
   | some s => some (s.e + C.c, C.r, 1)
 else match opn L S x.n N with
  | some (some a) => some (a.1, C.m, 2)
  | _ => none
def spanOf (b : Int) (a : Int × Int × Int) : TS := ⟨b, b + max 0 (a.1 - b) + a.2.1, max 0 (a.1 - b), if 0 < max 0 (a.1 - b) then a.2.2 else 0⟩
def nxt (N : Nat) (L : Lf) (C : TC) (S : Sf) (p : Nat) : Option TS := match (L p)[(S p).length]? with
 | none => none
 | some x => (strt N L C S p x).map (spanOf (bgn S p (S p).length))
def put1 (S : Sf) (p : Nat) (s : TS) : Sf := fun q => if q = p then S p ++ [s] else S q
theorem put1_at (S : Sf) (p : Nat) (s : TS) : put1 S p s p = S p ++ [s] := by unfold put1; rw [if_pos rfl]
theorem put1_ne (S : Sf) {p q : Nat} (s : TS) (h : q ≠ p) : put1 S p s q = S q := by unfold put1; rw [if_neg h]
def run1 (N : Nat) (L : Lf) (C : TC) : Nat → Sf → Nat → Sf
 | 0, S, _ => S
 | k + 1, S, p => match nxt N L C S p with
  | none => S
  | some s => run1 N L C k (put1 S p s) p
def left1 (L : Lf) (S : Sf) (p : Nat) : Nat := (L p).length - (S p).length
def goP (N : Nat) (L : Lf) (C : TC) (S : Sf) (p : Nat) : Sf := run1 N L C (left1 L S p) S p
theorem nxt_lt {N : Nat} {L : Lf} {C : TC} {S : Sf} {p : Nat} {s : TS} (h : nxt N L C S p = some s) : (S p).length < (L p).length := by
 unfold nxt at h
 cases hg : (L p)[(S p).length]? with
 | none => rw [hg] at h; cases h
 | some x => exact (List.getElem?_eq_some_iff.1 hg).1
theorem goP_some {N : Nat} {L : Lf} {C : TC} {S : Sf} {p : Nat} {s : TS} (h : nxt N L C S p = some s) : goP N L C S p = goP N L C (put1 S p s) p := by
 have hlt := nxt_lt h
 have : left1 L S p = left1 L (put1 S p s) p + 1 := by
  unfold left1
  rw [put1_at, List.length_append]
  simp only [List.length_singleton]
  omega
 unfold goP
 rw [this]
 simp only [run1, h]
def rnd (N : Nat) (L : Lf) (C : TC) : Nat → Sf × Bool → Sf × Bool
 | 0, a => a
 | k + 1, a => (goP N L C (rnd N L C k a).1 k, (rnd N L C k a).2 || (nxt N L C (rnd N L C k a).1 k).isSome)
def tot (N : Nat) (S : Sf) : Nat := match N with
 | 0 => 0
 | k + 1 => tot k S + (S k).length
def totL (N : Nat) (L : Lf) : Nat := match N with
 | 0 => 0
 | k + 1 => totL k L + (L k).length
def allR (N : Nat) (L : Lf) (C : TC) : Nat → Sf → Sf
 | 0, S => S
 | k + 1, S => if (rnd N L C N (S, false)).2 then allR N L C k (rnd N L C N (S, false)).1 else (rnd N L C N (S, false)).1
def nil_ : Sf := fun _ => []
def timesS (N : Nat) (L : Lf) (C : TC) : Sf := allR N L C (totL N L + 1) nil_
structure Gd (N : Nat) (L : Lf) (S : Sf) : Prop where
 le : ∀ p, (S p).length ≤ (L p).length
 hi : ∀ p, N ≤ p → S p = []
 e0 : ∀ p s, s ∈ S p → 0 ≤ s.e ∧ s.e ≤ tot N S * 2097152
structure Okc (C : TC) : Prop where
 s : 0 ≤ C.s ∧ C.s ≤ 1048576
 c : 0 ≤ C.c ∧ C.c ≤ 1048576
 r : 0 ≤ C.r ∧ C.r ≤ 1048576
 m : 0 ≤ C.m ∧ C.m ≤ 1048576
structure Okl (N : Nat) (L : Lf) : Prop where
 hi : ∀ p, N ≤ p → L p = []
 ev : ∀ p i x, (L p)[i]? = some x → okE N ((L p).take i) x = true
 snt : ∀ p x, x ∈ L p → x.k = 2 → (fnd (L x.p.toNat) 1 p x.n).isSome = true
theorem tot_put {N : Nat} {S : Sf} {p : Nat} {s : TS} : tot N (put1 S p s) = tot N S + if p < N then 1 else 0 := by
 induction N with
 | zero => simp [tot]
 | succ n ih =>
  simp only [tot, ih]
  by_cases h : n = p
  · subst h
    rw [put1_at, if_neg (Nat.lt_irrefl _), if_pos (Nat.lt_succ_self _)]
    simp
    omega
  · rw [put1_ne _ _ h]
    by_cases h2 : p < n
    · rw [if_pos h2, if_pos (by omega)]; omega
    · rw [if_neg h2, if_neg (by omega)]; omega
theorem Gd.bgn {N : Nat} {L : Lf} {S : Sf} (g : Gd N L S) (p i : Nat) : 0 ≤ bgn S p i ∧ bgn S p i ≤ tot N S * 2097152 := by
 unfold Arm.bgn
 split
 · exact ⟨Int.le_refl _, by omega⟩
 · split
   · rename_i s hs
     exact g.e0 p s (List.mem_of_getElem? hs)
   · exact ⟨Int.le_refl _, by omega⟩
theorem Gd.opn {N : Nat} {L : Lf} {S : Sf} (g : Gd N L S) (no : Int) : ∀ (k : Nat) (a : Int × Nat × Nat), opn L S no k = some (some a) → 0 ≤ a.1 ∧ a.1 ≤ tot N S * 2097152 ∧ a.2.1 < k ∧ fnd (L a.2.1) 3 0 no = some a.2.2 ∧ a.1 = Arm.bgn S a.2.1 a.2.2 ∧ a.2.2 ≤ (S a.2.1).length
 | 0, a, h => by simp [Arm.opn] at h
 | k + 1, a, h => by
  unfold Arm.opn at h
  split at h
  · cases h
  · rename_i acc hk
    split at h
    · cases h
      obtain ⟨h1, h2, h3, h4⟩ := g.opn no k a hk
      exact ⟨h1, h2, by omega, h4⟩
    · rename_i i hi
      split at h
      · cases h
      · rename_i hl
        have hb := g.bgn k i
        cases acc with
        | none =>
         simp only [Option.some.injEq] at h
         subst h
         exact ⟨hb.1, hb.2, Nat.lt_succ_self _, hi, rfl, Nat.le_of_not_lt hl⟩
        | some c =>
         simp only at h
         split at h
         · cases h
           exact ⟨hb.1, hb.2, Nat.lt_succ_self _, hi, rfl, Nat.le_of_not_lt hl⟩
         · cases h
           obtain ⟨h1, h2, h3, h4⟩ := g.opn no k a hk
           exact ⟨h1, h2, by omega, h4⟩
theorem opn_known {L : Lf} {S : Sf} {no : Int} : ∀ (k : Nat) {a : Option (Int × Nat × Nat)}, opn L S no k = some a → ∀ q, q < k → ∀ i, fnd (L q) 3 0 no = some i → i ≤ (S q).length
 | 0, _, _, q, hq, _, _ => by omega
 | k + 1, a, h, q, hq, i, hi => by
  unfold opn at h
  split at h
  · cases h
  · rename_i acc hk
    by_cases e : q = k
    · subst e
      rw [hi] at h
      dsimp only at h
      split at h
      · cases h
      · omega
    · exact opn_known k hk q (by omega) i hi
theorem opn_one {L : Lf} {S : Sf} {no : Int} : ∀ (k : Nat), opn L S no k = some none → ∀ q, q < k → fnd (L q) 3 0 no = none
 | 0, _, q, hq => by omega
 | k + 1, h, q, hq => by
  unfold opn at h
  split at h
  · cases h
  · rename_i acc hk
    split at h
    · rename_i hn
      cases h
      by_cases e : q = k
      · subst e; exact hn
      · exact opn_one k hk q (by omega)
    · split at h
      · cases h
      · cases acc with
        | none => simp at h
        | some c => simp only at h; split at h <;> cases h
theorem Gd.strt {N : Nat} {L : Lf} {C : TC} {S : Sf} (g : Gd N L S) (hC : Okc C) {p i : Nat} {x : TE} (hL : Okl N L) (hx : (L p)[i]? = some x) {a : Int × Int × Int} (h : strt N L C S p x = some a) :
   0 ≤ a.1 ∧ a.1 ≤ tot N S * 2097152 + 1048576 ∧ 0 ≤ a.2.1 ∧ a.2.1 ≤ 1048576 := by
 unfold Arm.strt at h
 have := hC.s; have := hC.c; have := hC.r; have := hC.m
 split at h
 · cases h; dsimp only; omega
 · split at h
   · rename_i h1 h4
     cases h
     have he := hL.ev p i x hx
     unfold okE at he
     rw [if_neg h1, if_neg (by omega), if_neg (by omega), if_pos h4] at he
     simp at he
     dsimp only; omega
   · split at h
     · split at h
       · cases h
       · split at h
         · cases h
         · rename_i j hj s hs
           cases h
           have := g.e0 _ s (List.mem_of_getElem? hs)
           dsimp only; omega
     · split at h
       · rename_i c hc
         cases h
         have := g.opn x.n N c hc
         dsimp only; omega
       · cases h
theorem Gd.nxt {N : Nat} {L : Lf} {C : TC} {S : Sf} (g : Gd N L S) (hC : Okc C) (hL : Okl N L) {p : Nat} (hp : p < N) {s : TS} (h : nxt N L C S p = some s) : Gd N L (put1 S p s) := by
 have hlt := nxt_lt h
 unfold Arm.nxt at h
 cases hg : (L p)[(S p).length]? with
 | none => rw [hg] at h; cases h
 | some x =>
  rw [hg] at h
  dsimp only at h
  cases hs : Arm.strt N L C S p x with
  | none => rw [hs] at h; cases h
  | some a =>
   rw [hs] at h
   have ha := g.strt hC hL hg hs
   have hb := g.bgn p (S p).length
   have ht : tot N (put1 S p s) = tot N S + 1 := by rw [tot_put, if_pos hp]
   have he : 0 ≤ s.e ∧ s.e ≤ tot N (put1 S p s) * 2097152 := by
     rw [ht]
     simp only [Option.map_some, Option.some.injEq] at h
     subst h
     unfold spanOf
     dsimp only
     push_cast
     omega
   refine ⟨fun q => ?_, fun q hq => ?_, fun q u hu => ?_⟩
   · by_cases e : q = p
     · subst e; rw [put1_at, List.length_append, List.length_singleton]; omega
     · rw [put1_ne _ _ e]; exact g.le q
   · rw [put1_ne _ _ (by omega)]; exact g.hi q hq
   · by_cases e : q = p
     · subst e
       rw [put1_at] at hu
       rcases List.mem_append.1 hu with hu | hu
       · have := g.e0 _ u hu
         rw [ht]; push_cast; omega
       · cases List.mem_singleton.1 hu; exact he
     · rw [put1_ne _ _ e] at hu
       have := g.e0 _ u hu
       rw [ht]; push_cast; omega
end Go.Arm
namespace Go.Arm
structure Rkd (N : Nat) (L : Lf) (S : Sf) (rk : Nat → Nat → Nat) : Prop where
 lt : ∀ p i, i < (S p).length → rk p i < tot N S
 up : ∀ p i i', i < i' → i' < (S p).length → rk p i < rk p i'
 rcv : ∀ (p i : Nat) (x : TE), i < (S p).length → (L p)[i]? = some x → x.k = 2 → ∀ j, fnd (L x.p.toNat) 1 p x.n = some j → j < (S x.p.toNat).length ∧ rk x.p.toNat j < rk p i
 mt : ∀ (p i : Nat) (x : TE), i < (S p).length → (L p)[i]? = some x → x.k = 3 → ∀ q, q < N → ∀ j, fnd (L q) 3 0 x.n = some j → j ≤ (S q).length ∧ ∀ j', j' < j → rk q j' < rk p i
 y1 : ∀ (p i : Nat) (x : TE) (s : TS), (S p)[i]? = some s → (L p)[i]? = some x → (s.y = 1 → x.k = 2) ∧ (s.y = 2 → x.k = 3) ∧ (s.y = 0 ∨ s.y = 1 ∨ s.y = 2) ∧ (s.y = 0 → s.w = 0)
theorem okE_k {N : Nat} {pre : List TE} {x : TE} (h : okE N pre x = true) : x.k = 1 ∨ x.k = 2 ∨ x.k = 3 ∨ x.k = 4 := by
 unfold okE at h
 by_cases h1 : x.k = 1
 · exact .inl h1
 · by_cases h2 : x.k = 2
   · exact .inr (.inl h2)
   · by_cases h3 : x.k = 3
     · exact .inr (.inr (.inl h3))
     · by_cases h4 : x.k = 4
       · exact .inr (.inr (.inr h4))
       · rw [if_neg h1, if_neg h2, if_neg h3, if_neg h4] at h; cases h
theorem Rkd.nxt {N : Nat} {L : Lf} {C : TC} {S : Sf} {rk : Nat → Nat → Nat} (R : Rkd N L S rk) (g : Gd N L S) (hL : Okl N L) {p : Nat} (hp : p < N) {s : TS} (h : nxt N L C S p = some s) :
  Rkd N L (put1 S p s) (fun a b => if a = p ∧ b = (S p).length then tot N S else rk a b) := by
 unfold Arm.nxt at h
 cases hg : (L p)[(S p).length]? with
 | none => rw [hg] at h; cases h
 | some x =>
  rw [hg] at h
  dsimp only at h
  cases hs : Arm.strt N L C S p x with
  | none => rw [hs] at h; cases h
  | some a =>
   rw [hs] at h
   simp only [Option.map_some, Option.some.injEq] at h
   have ht : tot N (put1 S p s) = tot N S + 1 := by rw [tot_put, if_pos hp]
   have hlen : ∀ q, (put1 S p s q).length = (S q).length + if q = p then 1 else 0 := by
     intro q
     by_cases e : q = p
     · subst e; rw [put1_at, List.length_append, if_pos rfl]; rfl
     · rw [put1_ne _ _ e, if_neg e]; rfl
   have old : ∀ q i, i < (put1 S p s q).length → (¬ (q = p ∧ i = (S p).length)) → i < (S q).length := by
     intro q i hi hn
     rw [hlen] at hi
     by_cases e : q = p
     · subst e; rw [if_pos rfl] at hi
       have : i ≠ (S q).length := fun e2 => hn ⟨rfl, e2⟩
       omega
     · rw [if_neg e] at hi; omega
   have grow : ∀ q, (S q).length ≤ (put1 S p s q).length := fun q => by rw [hlen]; omega
   have same : ∀ q i, i < (S q).length → (if q = p ∧ i = (S p).length then tot N S else rk q i) = rk q i := by
     intro q i hi
     rw [if_neg]
     rintro ⟨rfl, rfl⟩
     omega
   refine ⟨fun q i hi => ?_, fun q i i' hii hi' => ?_, fun q i y hi hy hk j hj => ?_, fun q i y hi hy hk r hr j hj => ?_, fun q i y u hu hy => ?_⟩
   · try dsimp only
     by_cases e : q = p ∧ i = (S p).length
     · rw [if_pos e, ht]; omega
     · rw [if_neg e, ht]
       have := R.lt q i (old q i hi e)
       omega
   · try dsimp only
     by_cases e : q = p ∧ i' = (S p).length
     · obtain ⟨rfl, rfl⟩ := e
       rw [if_neg (show ¬ (q = q ∧ i = (S q).length) by omega), if_pos ⟨rfl, rfl⟩]
       exact R.lt q i hii
     · have h5 := old q i' hi' e
       rw [if_neg e, same q i (by omega)]
       exact R.up q i i' hii h5
   · by_cases e : q = p ∧ i = (S p).length
     · obtain ⟨rfl, rfl⟩ := e
       rw [hg] at hy; cases hy
       unfold Arm.strt at hs
       rw [if_neg (by omega), if_neg (by omega), if_pos hk, hj] at hs
       dsimp only at hs
       cases hsj : (S x.p.toNat)[j]? with
       | none => rw [hsj] at hs; cases hs
       | some u =>
         have hjl := (List.getElem?_eq_some_iff.1 hsj).1
         refine ⟨Nat.lt_of_lt_of_le hjl (grow _), ?_⟩
         try dsimp only
         rw [same _ _ hjl, if_pos ⟨rfl, rfl⟩]
         exact R.lt _ _ hjl
     · have h5 := old q i hi e
       obtain ⟨h6, h7⟩ := R.rcv q i y h5 hy hk j hj
       refine ⟨Nat.lt_of_lt_of_le h6 (grow _), ?_⟩
       try dsimp only
       rw [same _ _ h6, same _ _ h5]
       exact h7
   · by_cases e : q = p ∧ i = (S p).length
     · obtain ⟨rfl, rfl⟩ := e
       rw [hg] at hy; cases hy
       unfold Arm.strt at hs
       rw [if_neg (by omega), if_neg (by omega), if_neg (by omega)] at hs
       split at hs
       · rename_i c hc
         have h6 := opn_known N hc r hr j hj
         refine ⟨Nat.le_trans h6 (grow _), fun j' hj' => ?_⟩
         try dsimp only
         rw [same _ _ (by omega), if_pos ⟨rfl, rfl⟩]
         exact R.lt _ _ (by omega)
       · cases hs
     · have h5 := old q i hi e
       obtain ⟨h6, h7⟩ := R.mt q i y h5 hy hk r hr j hj
       refine ⟨Nat.le_trans h6 (grow _), fun j' hj' => ?_⟩
       try dsimp only
       rw [same _ _ (by omega), same _ _ h5]
       exact h7 j' hj'
   · by_cases e : q = p ∧ i = (S p).length
     · obtain ⟨rfl, rfl⟩ := e
       rw [hg] at hy; cases hy
       rw [put1_at, List.getElem?_append_right (Nat.le_refl _), Nat.sub_self] at hu
       cases hu
       subst h
       unfold spanOf
       dsimp only
       have hk := okE_k (hL.ev _ _ _ hg)
       unfold Arm.strt at hs
       have hy0 : (a.2.2 = 1 → x.k = 2) ∧ (a.2.2 = 2 → x.k = 3) ∧ (a.2.2 = 0 ∨ a.2.2 = 1 ∨ a.2.2 = 2) ∧ (a.2.2 = 0 → a.1 = 0) := by
         split at hs
         · cases hs; simp
         · split at hs
           · cases hs; simp
           · split at hs
             · split at hs
               · cases hs
               · split at hs
                 · cases hs
                 · rename_i h2 _ _ _ _ _ _
                   cases hs
                   exact ⟨fun _ => h2, fun h => by simp at h, by simp, fun h => by simp at h⟩
             · split at hs
               · cases hs
                 exact ⟨fun h => by simp at h, fun _ => by omega, by simp, fun h => by simp at h⟩
               · cases hs
       have hb := g.bgn q (S q).length
       by_cases hw : 0 < max 0 (a.1 - bgn S q (S q).length)
       · rw [if_pos hw]
         refine ⟨hy0.1, hy0.2.1, hy0.2.2.1, fun h0 => ?_⟩
         have := hy0.2.2.2 h0
         omega
       · rw [if_neg hw]
         exact ⟨fun h => by simp at h, fun h => by simp at h, .inl rfl, fun _ => by omega⟩
     · have h5 := old q i (List.getElem?_eq_some_iff.1 hu).1 e
       refine R.y1 q i y u ?_ hy
       by_cases e2 : q = p
       · subst e2
         rw [put1_at, List.getElem?_append_left h5] at hu
         exact hu
       · rw [put1_ne _ _ e2] at hu; exact hu
def cause (N : Nat) (L : Lf) (S : Sf) (a : Nat × Nat) : Option (Nat × Nat) := match (L a.1)[a.2]?, (S a.1)[a.2]? with
 | some x, some s => if s.y = 1 then (fnd (L x.p.toNat) 1 a.1 x.n).map fun j => (x.p.toNat, j)
  else match (if s.y = 2 then (match opn L S x.n N with
   | some (some c) => (c.2.1, c.2.2)
   | _ => a) else a) with
   | (_q, 0) => none
   | (q, j + 1) => some (q, j)
 | _, _ => none
inductive Pth (N : Nat) (L : Lf) (S : Sf) : Nat × Nat → List (Nat × Nat) → Prop
 | last {a} (h : cause N L S a = none) : Pth N L S a [a]
 | cons {a b l} (h : cause N L S a = some b) (k : Pth N L S b l) : Pth N L S a (a :: l)
structure Dn (N : Nat) (L : Lf) (S : Sf) : Prop where
 g : Gd N L S
 r : ∃ rk, Rkd N L S rk
 d : ∀ p, (S p).length = (L p).length
 l : Okl N L
end Go.Arm
namespace Go.Arm
structure Inv (N : Nat) (L : Lf) (S : Sf) : Prop where
 g : Gd N L S
 r : ∃ rk, Rkd N L S rk
section
variable {N : Nat} {L : Lf} {C : TC} {S : Sf} {p : Nat}
theorem Inv.nxt (I : Inv N L S) (hC : Okc C) (hL : Okl N L) (hp : p < N) {s : TS} (h : nxt N L C S p = some s) : Inv N L (put1 S p s) := by
 obtain ⟨rk, R⟩ := I.r
 exact ⟨I.g.nxt hC hL hp h, _, R.nxt I.g hL hp h⟩
theorem Inv.go (hC : Okc C) (hL : Okl N L) (hp : p < N) : ∀ (k : Nat) {S : Sf}, Inv N L S → Inv N L (run1 N L C k S p) ∧ tot N S ≤ tot N (run1 N L C k S p)
 | 0, S, I => ⟨I, Nat.le_refl _⟩
 | k + 1, S, I => by
  unfold run1
  cases h : Arm.nxt N L C S p with
  | none => exact ⟨I, Nat.le_refl _⟩
  | some s =>
   obtain ⟨h1, h2⟩ := Inv.go hC hL hp k (I.nxt hC hL hp h)
   have ht : tot N (put1 S p s) = tot N S + 1 := by rw [tot_put, if_pos hp]
   exact ⟨h1, by dsimp only; omega⟩
theorem Inv.goP (I : Inv N L S) (hC : Okc C) (hL : Okl N L) (hp : p < N) : Inv N L (Arm.goP N L C S p) ∧ tot N S ≤ tot N (Arm.goP N L C S p) ∧ ((Arm.nxt N L C S p).isSome = true → tot N S < tot N (Arm.goP N L C S p)) := by
 obtain ⟨h1, h2⟩ := Inv.go hC hL hp (left1 L S p) I
 refine ⟨h1, h2, fun h => ?_⟩
 obtain ⟨s, hs⟩ := Option.isSome_iff_exists.1 h
 rw [goP_some hs]
 obtain ⟨_, h4⟩ := Inv.go hC hL hp (left1 L (put1 S p s) p) (I.nxt hC hL hp hs)
 have ht : tot N (put1 S p s) = tot N S + 1 := by rw [tot_put, if_pos hp]
 unfold Arm.goP
 omega
theorem Inv.rnd (I : Inv N L S) (hC : Okc C) (hL : Okl N L) : ∀ k, k ≤ N → Inv N L (Arm.rnd N L C k (S, false)).1 ∧ tot N S ≤ tot N (Arm.rnd N L C k (S, false)).1 ∧ ((Arm.rnd N L C k (S, false)).2 = true → tot N S < tot N (Arm.rnd N L C k (S, false)).1)
 | 0, _ => ⟨I, Nat.le_refl _, fun h => by cases h⟩
 | k + 1, hk => by
  obtain ⟨h1, h2, h3⟩ := Inv.rnd I hC hL k (by omega)
  obtain ⟨h4, h5, h6⟩ := h1.goP hC hL (p := k) (by omega)
  refine ⟨h4, Nat.le_trans h2 h5, fun h => ?_⟩
  unfold Arm.rnd at h ⊢
  dsimp only at h ⊢
  rw [Bool.or_eq_true] at h
  rcases h with h | h
  · have := h3 h; omega
  · have := h6 h; omega
end
end Go.Arm
namespace Go.X
noncomputable section
open Go Go.RowKit
structure Held (k : IntKind) (w : World) (v : Value) (l : List Int) : Prop where
 wf : ∀ x, x ∈ l → (Lit.int k x).wf = true
 has : (v = .slice none 0 0 ∧ l = []) ∨ ∃ a cap, v = .slice (some a) l.length cap ∧ l.length ≤ cap ∧ cap ≤ maxLen ∧ (0 < cap → a.spot = none ∧ a.block < w.heap.size) ∧
  ∀ i, i < l.length → w.cell? ⟨a.block, a.off + i, none⟩ = (l[i]?).map (.int k) ∧ w.frozen? ⟨a.block, a.off + i, none⟩ = false
end
end Go.X
namespace Go.Arm
noncomputable section
open Go Go.X Go.RowKit
def First (h : AH) : Prop := ∀ b o, h.m.get b = some o → o.ro = true
theorem hold {W : World} {φ : Phi} {h : AH} (r : R W φ h W) (hf : First h) {k : IntKind} {v : Value} {l : List Int} (H : Held k W v l) :
   ∃ v' φ' h', R W φ' h' W ∧ First h' ∧ Le φ φ' ∧ VR φ' v' v ∧ Sd h' 1 v' l.length (l.map (.int k)) ∧ Sm Nix h h' := by
 have bump : R W φ ⟨h.m, h.next + 1⟩ W := ⟨r.dom, r.low, r.inj, fun b i hi => ⟨(r.lt b i hi).1, Nat.lt_succ_of_lt (r.lt b i hi).2⟩, trivial, r.below⟩
 have smb : Sm Nix h ⟨h.m, h.next + 1⟩ := ⟨Nat.le_succ _, fun _ _ _ => rfl⟩
 rcases H.has with ⟨rfl, rfl⟩ | ⟨a, cap, rfl, hlc, hcm, hpos, hall⟩
 · exact ⟨.slice none 0 0, φ, _, bump, hf, Le.refl φ, .nils 0 0, Sd.nil, smb⟩
 · by_cases h0 : cap = 0
   · subst h0
     have hl0 : l = [] := List.length_eq_zero_iff.1 (by omega)
     subst hl0
     exact ⟨.slice (some ⟨h.next, 0, none⟩) 0 0, φ, _, bump, hf, Le.refl φ, .slice0 _ _ _, ⟨rfl, .inl ⟨rfl, _, _, rfl, (fun e => by cases e), fun q hq => by cases hq; exact Nat.lt_succ_self _⟩⟩, smb⟩
   · obtain ⟨hs, hb⟩ := hpos (by omega)
     obtain ⟨bk, off, spot⟩ := a
     dsimp only at hs hb hall
     subst hs
     have hopen : cap ≠ open_ := by
       have : maxLen < open_ := by decide
       omega
     by_cases hl0 : l = []
     · subst hl0
       have le : Le φ (fun b => if b = h.next then some (⟨bk, off, 0, 0, 0⟩ : Im) else φ b) := by
         intro b j hj
         have := (r.lt b j hj).2
         show (if b = h.next then _ else φ b) = some j
         rw [if_neg (by omega)]; exact hj
       have hget : ∀ b o, h.m.get b = some o → ∀ i, (if b = h.next then some (⟨bk, off, 0, 0, 0⟩ : Im) else φ b) = some i → h.m.get b = none ∨ φ b = some i ∨ b = h.next := by
         intro b o _ i hi
         by_cases e : b = h.next
         · exact .inr (.inr e)
         · rw [if_neg e] at hi; exact .inr (.inl hi)
       have hnone : h.m.get h.next = none ∨ ∃ o, h.m.get h.next = some o := by
         cases h.m.get h.next with
         | none => exact .inl rfl
         | some o => exact .inr ⟨o, rfl⟩
       have getm : ∀ b, (h.m.set h.next none).get b = if b = h.next then none else h.m.get b := fun b => T.get_set b
       refine ⟨.slice (some ⟨h.next, 0, none⟩) 0 cap, _, ⟨h.m.set h.next none, h.next + 1⟩, ⟨fun b i o hi ho => ?_, fun b i o hi ho hr => ?_, fun b b' i i' o o' hi hi' ho ho' hr hc => ?_, fun b i hi => ?_, trivial, r.below⟩, fun b o ho => ?_, le, ?_, ⟨rfl, .inl ⟨rfl, _, _, rfl, (fun e => by cases e), fun q hq => by cases hq; exact Nat.lt_succ_self _⟩⟩, ⟨Nat.le_succ _, fun b hb _ => by show (h.m.set h.next none).get b = _; rw [getm, if_neg (by omega)]⟩⟩
       · rw [getm] at ho
         by_cases e : b = h.next
         · rw [if_pos e] at ho; cases ho
         · rw [if_neg e] at ho hi; exact (r.dom b i o hi ho).mono le
       · rw [getm] at ho
         by_cases e : b = h.next
         · rw [if_pos e] at ho; cases ho
         · rw [if_neg e] at ho hi; exact r.low b i o hi ho hr
       · rw [getm] at ho
         by_cases e : b = h.next
         · rw [if_pos e] at ho; cases ho
         · rw [if_neg e] at ho; have := hf b o ho; rw [hr] at this; cases this
       · by_cases e : b = h.next
         · rw [if_pos e] at hi; cases hi; exact ⟨hb, by subst e; exact Nat.lt_succ_self _⟩
         · rw [if_neg e] at hi; exact ⟨(r.lt b i hi).1, Nat.lt_succ_of_lt (r.lt b i hi).2⟩
       · rw [getm] at ho
         by_cases e : b = h.next
         · rw [if_pos e] at ho; cases ho
         · rw [if_neg e] at ho; exact hf b o ho
       · have := VR.slice (φ := fun b => if b = h.next then some (⟨bk, off, 0, 0, 0⟩ : Im) else φ b) (a := ⟨h.next, 0, none⟩) (l := 0) (c := cap) ⟨bk, off, 0, 0, 0⟩ (if_pos rfl) rfl hopen
         simpa using this
     · have hl1 : 0 < l.length := List.length_pos_iff.2 hl0
       have hcell := (hall 0 hl1).1
       obtain ⟨arr, el, fz, hw⟩ : ∃ arr el fz, W.heap[bk]? = some (.cells arr el fz) := by
         unfold World.cell? at hcell
         split at hcell
         · rename_i e5; exact ⟨_, _, _, e5⟩
         · rw [List.getElem?_eq_getElem hl1] at hcell; cases hcell
       have hat : ∀ j, (hj : j < l.length) → arr[j + off]? = some (.int k l[j]) := by
         intro j hj
         have := (hall j hj).1
         unfold World.cell? at this
         rw [hw] at this
         rw [List.getElem?_eq_getElem hj] at this
         rw [Nat.add_comm]; simpa using this
       have hsz : l.length + off ≤ arr.size := by
         have := (Array.getElem?_eq_some_iff.1 (hat (l.length - 1) (by omega))).1
         omega
       have le : Le φ (fun b => if b = h.next then some (⟨bk, off, l.length, arr.size, 0⟩ : Im) else φ b) := by
         intro b j hj
         have := (r.lt b j hj).2
         show (if b = h.next then _ else φ b) = some j
         rw [if_neg (by omega)]; exact hj
       have getm : ∀ b, (h.m.set h.next (some (AObj.cells (T.fill (l.map (.int k)) 0 .e) l.length 0 true))).get b = if b = h.next then some (AObj.cells (T.fill (l.map (.int k)) 0 .e) l.length 0 true) else h.m.get b := fun b => T.get_set b
       refine ⟨.slice (some ⟨h.next, 0, none⟩) l.length cap, _, ⟨h.m.set h.next (some (AObj.cells (T.fill (l.map (.int k)) 0 .e) l.length 0 true)), h.next + 1⟩, ⟨fun b i o hi ho => ?_, fun b i o hi ho hr => ?_, fun b b' i i' o o' hi hi' ho ho' hr hc => ?_, fun b i hi => ?_, trivial, r.below⟩, fun b o ho => ?_, le, ?_, ⟨by simp, .inr ⟨h.next, 0, cap, _, l.length, 0, true, hl1, h0, rfl, Nat.lt_succ_self _, by show (h.m.set h.next _).get h.next = _; rw [getm, if_pos rfl], by omega, fun j hj => ?_⟩⟩, ⟨Nat.le_succ _, fun b hb _ => by show (h.m.set h.next _).get b = _; rw [getm, if_neg (by omega)]⟩⟩
       · rw [getm] at ho
         by_cases e : b = h.next
         · rw [if_pos e] at ho hi; cases ho; cases hi
           refine ⟨rfl, rfl, trivial, arr, el, ⟨fz, hw, (fun e => by cases e), fun j hj => ?_⟩, rfl, hsz, fun j hj => ?_⟩
           · have := (hall j hj).2
             rw [Nat.add_comm] at this; exact this
           · refine ⟨.int k l[j], .int k l[j], ?_, hat j hj, .int _ _⟩
             rw [T.get_fill, if_pos (by simp; omega)]
             simp [hj]
         · rw [if_neg e] at ho hi; exact (r.dom b i o hi ho).mono le
       · rw [getm] at ho
         by_cases e : b = h.next
         · rw [if_pos e] at ho; cases ho; cases hr
         · rw [if_neg e] at ho hi; exact r.low b i o hi ho hr
       · rw [getm] at ho
         by_cases e : b = h.next
         · rw [if_pos e] at ho; cases ho; cases hr
         · rw [if_neg e] at ho; have := hf b o ho; rw [hr] at this; cases this
       · by_cases e : b = h.next
         · rw [if_pos e] at hi; cases hi; exact ⟨hb, by subst e; exact Nat.lt_succ_self _⟩
         · rw [if_neg e] at hi; exact ⟨(r.lt b i hi).1, Nat.lt_succ_of_lt (r.lt b i hi).2⟩
       · rw [getm] at ho
         by_cases e : b = h.next
         · rw [if_pos e] at ho; cases ho; rfl
         · rw [if_neg e] at ho; exact hf b o ho
       · have := VR.slice (φ := fun b => if b = h.next then some (⟨bk, off, l.length, arr.size, 0⟩ : Im) else φ b) (a := ⟨h.next, 0, none⟩) (l := l.length) (c := cap) ⟨bk, off, l.length, arr.size, 0⟩ (if_pos rfl) rfl hopen
         simpa using this
       · rw [T.get_fill, if_pos (by simp at hj ⊢; omega)]
         simp
theorem first0 : First ah0 := fun b o h => by
 have : (T.e : T AObj).get b = some o := h
 rw [T.get_e] at this; cases this
end
end Go.Arm
namespace Go.X
noncomputable section
open Go Go.RowKit
structure HeldK (k : Nat) (w : World) (v : Value) (n : Nat) (cs : List Value) : Prop where
 len : cs.length = n * k
 fl : ∀ x, x ∈ cs → ∀ φ, VR φ x x
 has : (v = .slice none 0 0 ∧ n = 0) ∨ ∃ a cap, v = .slice (some a) n cap ∧ n ≤ cap ∧ cap ≤ maxLen ∧ (0 < cap → a.spot = none ∧ a.block < w.heap.size) ∧
  ∀ i, i < cs.length → w.cell? ⟨a.block, a.off + i, none⟩ = cs[i]? ∧ w.frozen? ⟨a.block, a.off + i, none⟩ = false
theorem flat_get {α : Type} (f : α → List Value) {k : Nat} (hf : ∀ a, (f a).length = k) : ∀ (l : List α) (i j : Nat), j < k → (l.flatMap f)[i * k + j]? = (l[i]?).bind fun a => (f a)[j]?
 | [], i, j, _ => by simp
 | a :: l, 0, j, hj => by
  rw [List.flatMap_cons, Nat.zero_mul, Nat.zero_add, List.getElem?_append_left (by rw [hf]; exact hj)]
  simp
 | a :: l, i + 1, j, hj => by
  have hk : (i + 1) * k + j = k + (i * k + j) := by rw [Nat.succ_mul]; omega
  rw [List.flatMap_cons, hk, List.getElem?_append_right (by rw [hf]; omega), hf, Nat.add_sub_cancel_left, flat_get f hf l i j hj]
  simp
theorem flat_len {α : Type} (f : α → List Value) {k : Nat} (hf : ∀ a, (f a).length = k) : ∀ (l : List α), (l.flatMap f).length = l.length * k
 | [] => by simp
 | a :: l => by rw [List.flatMap_cons, List.length_append, hf, flat_len f hf l, List.length_cons, Nat.succ_mul, Nat.add_comm]
theorem heldK_of {P : Program} {t e : TypeId} {α : Type} {k : Nat} {f : α → List Value} {ok : α → Prop} (hk0 : 0 < k) (hf : ∀ a, (f a).length = k) (hfl : ∀ a x, x ∈ f a → ∀ φ, VR φ x x) (ht : P.underlying t = some (.slice e)) (hc : P.cellsOf e = k) {H : Type} {enc : TypeId × Value → H} {w : World} {held : Bool}
   (ho : ∀ (fuel : Nat) (cs : List Value) (x : DataW H × List MemPlace), DataW.trod enc P w 0 (fun _ => true) held fuel e cs = some x → ∃ a : α, ok a ∧ cs = f a)
   {b0 : Option Addr} {len0 cap0 : Nat} {d : DataW H} {ps : List MemPlace}
   (h : DataW.Trod enc P w 0 (fun _ => true) held t (.slice b0 len0 cap0) d ps) (hz : w.noneFrozen ps) : ∃ l : List α, (∀ x, x ∈ l → ok x) ∧ HeldK k w (.slice b0 len0 cap0) l.length (l.flatMap f) := by
 obtain ⟨fuel, h⟩ := h
 rcases Deep.open_slice ht h with ⟨e1, _⟩ | ⟨a, len, cap, m, n, D, Pl, e1, _, hlc, hcm, hm, hx, hall⟩
 · have e1 : [Value.slice b0 len0 cap0] = [.slice none 0 0] := e1
   cases e1
   exact ⟨[], fun x hx => by (cases hx), (by simp), fun x hx => by (cases hx), .inl ⟨rfl, rfl⟩⟩
 · have e1 : [Value.slice b0 len0 cap0] = [.slice (some a) len cap] := e1
   cases e1
   have hm : m = cap0 := by simpa using hm
   rw [hc] at hall hx
   have key : ∀ i, i < m → ∃ x : α, ok x ∧ w.cells? 0 (a.add (i * k)) k = some (f x) := by
     intro i hi
     obtain ⟨cs', h1, h2⟩ := hall i hi
     obtain ⟨x, h3, h4⟩ := ho n cs' _ h2
     subst h4
     exact ⟨x, h3, h1⟩
   obtain ⟨b, off, spot⟩ := a
   have hspot : 0 < cap0 → spot = none ∧ b < w.heap.size := by
     intro h0
     obtain ⟨x, _, h1⟩ := key 0 (by omega)
     obtain ⟨_, h2, h3⟩ := World.cells?_some h1
     have h4 := h3 0 (by omega)
     rw [List.getElem?_eq_getElem (by rw [hf]; omega)] at h4
     have hs : spot = none := by simpa [Addr.add] using World.cell?_spot h4
     refine ⟨hs, ?_⟩
     unfold World.cell? at h4
     split at h4
     · rename_i e5; have := (Array.getElem?_eq_some_iff.1 e5).1; simpa [Addr.add] using this
     · cases h4
   refine ⟨List.ofFn (fun i : Fin len0 => Classical.choose (key i.1 (by omega))), fun x hx => ?_, flat_len f hf _, fun x hx φ => ?_, .inr ⟨⟨b, off, spot⟩, cap0, by simp, by simpa using hlc, hcm, hspot, fun i hi => ?_⟩⟩
   · rw [List.mem_ofFn] at hx
     obtain ⟨i, rfl⟩ := hx
     exact (Classical.choose_spec (key i.1 (by omega))).1
   · obtain ⟨y, _, hy⟩ := List.mem_flatMap.1 hx
     exact hfl y x hy φ
   · rw [flat_len f hf, List.length_ofFn] at hi
     have hq : i / k < len0 := (Nat.div_lt_iff_lt_mul hk0).2 hi
     have hr : i % k < k := Nat.mod_lt _ hk0
     have hi2 : i / k * k + i % k = i := by rw [Nat.mul_comm]; exact Nat.div_add_mod i k
     have h0l : 0 < len0 := Nat.lt_of_le_of_lt (Nat.zero_le _) hq
     obtain ⟨hs, _⟩ := hspot (by omega)
     subst hs
     obtain ⟨_, h6⟩ := Classical.choose_spec (key (i / k) (by omega))
     obtain ⟨_, h2, h3⟩ := World.cells?_some h6
     have h4 := h3 (i % k) hr
     have h7 : w.cell? ⟨b, off + i, none⟩ = (f (Classical.choose (key (i / k) (by omega))))[i % k]? := by
       have e1 : ((⟨b, off, none⟩ : Addr).add (i / k * k)).add (i % k) = ⟨b, off + i, none⟩ := by
        rw [WideShapes.add_plain, WideShapes.add_plain, show off + i / k * k + i % k = off + i by omega]
       rw [← e1]
       exact h4
     refine ⟨?_, ?_⟩
     · rw [h7]
       have := flat_get f hf (List.ofFn (fun i : Fin len0 => Classical.choose (key i.1 (by omega)))) (i / k) (i % k) hr
       rw [hi2] at this
       rw [this, List.getElem?_ofFn, dif_pos hq]
       rfl
     · have hps : MemPlace.cell b (off + i) ∈ ps := by
        have hx2 : ps = MemPlace.row ⟨b, off, none⟩ (m * k) ++ (List.range m).flatMap Pl := (Prod.mk.inj hx).2
        rw [hx2]
        refine List.mem_append_left _ ?_
        unfold MemPlace.row
        simp only [List.mem_map, List.mem_range]
        refine ⟨i, ?_, by simp⟩
        have : len0 * k ≤ m * k := Nat.mul_le_mul_right _ (by omega)
        omega
       exact hz b (off + i) hps
end
end Go.X
namespace Go.Arm
noncomputable section
open Go Go.X Go.RowKit
theorem holdK {W : World} {φ : Phi} {h : AH} (r : R W φ h W) (hf : First h) {k n : Nat} {v : Value} {l : List Value} (hk0 : 0 < k) (H : HeldK k W v n l) :
   ∃ v' φ' h', R W φ' h' W ∧ First h' ∧ Le φ φ' ∧ VR φ' v' v ∧ Sd h' k v' n l ∧ Sm Nix h h' := by
 have bump : R W φ ⟨h.m, h.next + 1⟩ W := ⟨r.dom, r.low, r.inj, fun b i hi => ⟨(r.lt b i hi).1, Nat.lt_succ_of_lt (r.lt b i hi).2⟩, trivial, r.below⟩
 have smb : Sm Nix h ⟨h.m, h.next + 1⟩ := ⟨Nat.le_succ _, fun _ _ _ => rfl⟩
 rcases H.has with ⟨rfl, rfl⟩ | ⟨a, cap, rfl, hlc, hcm, hpos, hall⟩
 · have hl0 : l = [] := List.length_eq_zero_iff.1 (by rw [H.len]; simp)
   subst hl0
   exact ⟨.slice none 0 0, φ, _, bump, hf, Le.refl φ, .nils 0 0, Sd.nil, smb⟩
 · by_cases h0 : cap = 0
   · subst h0
     have hn0 : n = 0 := by omega
     subst hn0
     have hl0 : l = [] := List.length_eq_zero_iff.1 (by rw [H.len]; simp)
     subst hl0
     exact ⟨.slice (some ⟨h.next, 0, none⟩) 0 0, φ, _, bump, hf, Le.refl φ, .slice0 _ _ _, ⟨(by simp), .inl ⟨rfl, _, _, rfl, (fun e => by cases e), fun q hq => by cases hq; exact Nat.lt_succ_self _⟩⟩, smb⟩
   · obtain ⟨hs, hb⟩ := hpos (by omega)
     obtain ⟨bk, off, spot⟩ := a
     dsimp only at hs hb hall
     subst hs
     have hopen : cap ≠ open_ := by
       have : maxLen < open_ := by decide
       omega
     by_cases hn0 : n = 0
     · subst hn0
       have hl0 : l = [] := List.length_eq_zero_iff.1 (by rw [H.len]; simp)
       subst hl0
       have le : Le φ (fun b => if b = h.next then some (⟨bk, off, 0, 0, 0⟩ : Im) else φ b) := by
         intro b j hj
         have := (r.lt b j hj).2
         show (if b = h.next then _ else φ b) = some j
         rw [if_neg (by omega)]; exact hj
       have hget : ∀ b o, h.m.get b = some o → ∀ i, (if b = h.next then some (⟨bk, off, 0, 0, 0⟩ : Im) else φ b) = some i → h.m.get b = none ∨ φ b = some i ∨ b = h.next := by
         intro b o _ i hi
         by_cases e : b = h.next
         · exact .inr (.inr e)
         · rw [if_neg e] at hi; exact .inr (.inl hi)
       have hnone : h.m.get h.next = none ∨ ∃ o, h.m.get h.next = some o := by
         cases h.m.get h.next with
         | none => exact .inl rfl
         | some o => exact .inr ⟨o, rfl⟩
       have getm : ∀ b, (h.m.set h.next none).get b = if b = h.next then none else h.m.get b := fun b => T.get_set b
       refine ⟨.slice (some ⟨h.next, 0, none⟩) 0 cap, _, ⟨h.m.set h.next none, h.next + 1⟩, ⟨fun b i o hi ho => ?_, fun b i o hi ho hr => ?_, fun b b' i i' o o' hi hi' ho ho' hr hc => ?_, fun b i hi => ?_, trivial, r.below⟩, fun b o ho => ?_, le, ?_, ⟨(by simp), .inl ⟨rfl, _, _, rfl, (fun e => by cases e), fun q hq => by cases hq; exact Nat.lt_succ_self _⟩⟩, ⟨Nat.le_succ _, fun b hb _ => by show (h.m.set h.next none).get b = _; rw [getm, if_neg (by omega)]⟩⟩
       · rw [getm] at ho
         by_cases e : b = h.next
         · rw [if_pos e] at ho; cases ho
         · rw [if_neg e] at ho hi; exact (r.dom b i o hi ho).mono le
       · rw [getm] at ho
         by_cases e : b = h.next
         · rw [if_pos e] at ho; cases ho
         · rw [if_neg e] at ho hi; exact r.low b i o hi ho hr
       · rw [getm] at ho
         by_cases e : b = h.next
         · rw [if_pos e] at ho; cases ho
         · rw [if_neg e] at ho; have := hf b o ho; rw [hr] at this; cases this
       · by_cases e : b = h.next
         · rw [if_pos e] at hi; cases hi; exact ⟨hb, by subst e; exact Nat.lt_succ_self _⟩
         · rw [if_neg e] at hi; exact ⟨(r.lt b i hi).1, Nat.lt_succ_of_lt (r.lt b i hi).2⟩
       · rw [getm] at ho
         by_cases e : b = h.next
         · rw [if_pos e] at ho; cases ho
         · rw [if_neg e] at ho; exact hf b o ho
       · have := VR.slice (φ := fun b => if b = h.next then some (⟨bk, off, 0, 0, 0⟩ : Im) else φ b) (a := ⟨h.next, 0, none⟩) (l := 0) (c := cap) ⟨bk, off, 0, 0, 0⟩ (if_pos rfl) rfl hopen
         simpa using this
     · have hl1 : 0 < l.length := by rw [H.len]; exact Nat.mul_pos (by omega) hk0
       have hcell := (hall 0 hl1).1
       obtain ⟨arr, el, fz, hw⟩ : ∃ arr el fz, W.heap[bk]? = some (.cells arr el fz) := by
         unfold World.cell? at hcell
         split at hcell
         · rename_i e5; exact ⟨_, _, _, e5⟩
         · rw [List.getElem?_eq_getElem hl1] at hcell; cases hcell
       have hat : ∀ j, (hj : j < l.length) → arr[j + off]? = some l[j] := by
         intro j hj
         have := (hall j hj).1
         unfold World.cell? at this
         rw [hw] at this
         rw [List.getElem?_eq_getElem hj] at this
         rw [Nat.add_comm]; simpa using this
       have hsz : l.length + off ≤ arr.size := by
         have := (Array.getElem?_eq_some_iff.1 (hat (l.length - 1) (by omega))).1
         omega
       have le : Le φ (fun b => if b = h.next then some (⟨bk, off, l.length, arr.size, 0⟩ : Im) else φ b) := by
         intro b j hj
         have := (r.lt b j hj).2
         show (if b = h.next then _ else φ b) = some j
         rw [if_neg (by omega)]; exact hj
       have getm : ∀ b, (h.m.set h.next (some (AObj.cells (T.fill l 0 .e) l.length 0 true))).get b = if b = h.next then some (AObj.cells (T.fill l 0 .e) l.length 0 true) else h.m.get b := fun b => T.get_set b
       refine ⟨.slice (some ⟨h.next, 0, none⟩) n cap, _, ⟨h.m.set h.next (some (AObj.cells (T.fill l 0 .e) l.length 0 true)), h.next + 1⟩, ⟨fun b i o hi ho => ?_, fun b i o hi ho hr => ?_, fun b b' i i' o o' hi hi' ho ho' hr hc => ?_, fun b i hi => ?_, trivial, r.below⟩, fun b o ho => ?_, le, ?_, ⟨H.len, .inr ⟨h.next, 0, cap, _, l.length, 0, true, by omega, h0, rfl, Nat.lt_succ_self _, by show (h.m.set h.next _).get h.next = _; rw [getm, if_pos rfl], by rw [← H.len]; omega, fun j hj => ?_⟩⟩, ⟨Nat.le_succ _, fun b hb _ => by show (h.m.set h.next _).get b = _; rw [getm, if_neg (by omega)]⟩⟩
       · rw [getm] at ho
         by_cases e : b = h.next
         · rw [if_pos e] at ho hi; cases ho; cases hi
           refine ⟨rfl, rfl, trivial, arr, el, ⟨fz, hw, (fun e => by cases e), fun j hj => ?_⟩, rfl, hsz, fun j hj => ?_⟩
           · have := (hall j hj).2
             rw [Nat.add_comm] at this; exact this
           · refine ⟨l[j], l[j], ?_, hat j hj, H.fl _ (List.getElem_mem hj) _⟩
             rw [T.get_fill, if_pos (by omega)]
             simp [hj]
         · rw [if_neg e] at ho hi; exact (r.dom b i o hi ho).mono le
       · rw [getm] at ho
         by_cases e : b = h.next
         · rw [if_pos e] at ho; cases ho; cases hr
         · rw [if_neg e] at ho hi; exact r.low b i o hi ho hr
       · rw [getm] at ho
         by_cases e : b = h.next
         · rw [if_pos e] at ho; cases ho; cases hr
         · rw [if_neg e] at ho; have := hf b o ho; rw [hr] at this; cases this
       · by_cases e : b = h.next
         · rw [if_pos e] at hi; cases hi; exact ⟨hb, by subst e; exact Nat.lt_succ_self _⟩
         · rw [if_neg e] at hi; exact ⟨(r.lt b i hi).1, Nat.lt_succ_of_lt (r.lt b i hi).2⟩
       · rw [getm] at ho
         by_cases e : b = h.next
         · rw [if_pos e] at ho; cases ho; rfl
         · rw [if_neg e] at ho; exact hf b o ho
       · have := VR.slice (φ := fun b => if b = h.next then some (⟨bk, off, l.length, arr.size, 0⟩ : Im) else φ b) (a := ⟨h.next, 0, none⟩) (l := n) (c := cap) ⟨bk, off, l.length, arr.size, 0⟩ (if_pos rfl) rfl hopen
         simpa using this
       · rw [T.get_fill, if_pos (by omega)]
         simp
end
end Go.Arm
namespace Go.Arm
noncomputable section
open Go Go.X
def nv (x : Int) : Value := .int .i64 x
def ev6 (x : TE) : List Value := [nv x.k, nv x.p, nv x.t, nv x.n, nv x.v, .bool x.w]
def sp4 (s : TS) : List Value := [nv s.b, nv s.e, nv s.w, nv s.y]
section
variable {P : Program} {h h' : AH} {S F : Nat → Prop} {b o n k : Nat} {v : Value} {cs l : List Value} {T el : TypeId}
theorem cells_l : ∀ (l : List Value) (i : Nat), (∀ j, j < l.length → h.cell ⟨b, o + (i + j), none⟩ = l[j]?) → h.cells ⟨b, o, none⟩ i l.length = some l
 | [], i, _ => rfl
 | x :: l, i, hl => by
  have ih := cells_l l (i + 1) (fun j hj => by
   have := hl (j + 1) (by simpa using hj)
   rw [show i + 1 + j = i + (j + 1) by omega]
   simpa using this)
  have h0 : h.cell ⟨b, o + i, none⟩ = some x := hl 0 (by simp)
  show h.cells ⟨b, o, none⟩ i (l.length + 1) = _
  unfold AH.cells
  dsimp only
  rw [h0, ih]
theorem ld_l (hs : aggT P el l.length = true) (hl : ∀ j, j < l.length → h.cell ⟨b, o + j, none⟩ = l[j]?) : aLoad P el ⟨b, o, none⟩ h = some (.agg ⟨l⟩) := by
 unfold aggT at hs
 cases hu : P.underlying el with
 | none => rw [hu] at hs; cases hs
 | some d =>
  rw [hu] at hs
  simp only [Bool.and_eq_true] at hs
  cases hz : szOf P el with
  | none => rw [hz] at hs; cases hs.2
  | some j =>
   rw [hz] at hs
   have : j = l.length := Nat.eq_of_beq_eq_true hs.2
   subst this
   unfold aLoad
   simp only [hu, hs.1, if_true, hz]
   rw [cells_l l 0 (fun j hj => by rw [Nat.zero_add]; exact hl j hj)]
end
structure TIn (h : AH) (F : Nat → Prop) (V : Option Nat → Value) (N : Nat) (L : Lf) : Prop where
 o : Sd h 1 (V none) N ((List.range N).map fun p => V (some p))
 r : ∀ p, p < N → Sd h 6 (V (some p)) (L p).length ((L p).flatMap ev6)
 fo : ∀ b, vb (V none) = some b → F b
 fr : ∀ p b, p < N → vb (V (some p)) = some b → F b
section
variable {P : Program} {h h' : AH} {S F F' : Nat → Prop} {V : Option Nat → Value} {N : Nat} {L : Lf} {T el : TypeId} {p i : Nat} {x : TE}
end
def sgg : Option Nat → Bool
 | none => false
 | some _ => true
def skk : Option Nat → Nat
 | none => 1
 | some _ => 4
def snn (N : Nat) (S : Sf) : Option Nat → Nat
 | none => N
 | some p => (S p).length
def scs (V : Option Nat → Value) (N : Nat) (S : Sf) : Option Nat → List Value
 | none => (List.range N).map fun p => V (some p)
 | some p => (S p).flatMap sp4
structure SpL (h : AH) (hi B : Nat) (V : Option Nat → Value) (N : Nat) (S : Sf) : Prop where
 lay : Lay h sgg skk V (snn N S) (scs V N S)
 b : V none = .slice (some ⟨B, 0, none⟩) N N
 lo : ∀ p b, vb (V (some p)) = some b → hi ≤ b
 Bl : B < hi
 hn : hi ≤ h.next
section
variable {P : Program} {h h' h1 h2 : AH} {Q F F' : Nat → Prop} {V : Option Nat → Value} {N hi B : Nat} {S : Sf} {T el : TypeId} {p i : Nat} {s : TS} {v' : Value}
end
end
end Go.Arm
namespace Go.Arm
noncomputable section
open Go Go.X
def meetL (L : Lf) (no : Int) : Nat → List (Nat × Nat)
 | 0 => []
 | k + 1 => match fnd (L k) 3 0 no with
  | none => meetL L no k
  | some i => meetL L no k ++ [(k, i)]
def k3 (m : Int × Int × Int) : Value := .agg ⟨[nv m.1, nv m.2.1, nv m.2.2]⟩
def st2 (e : Nat × Nat) : List Value := [nv (e.1 : Int), nv (e.2 : Int)]
def r2 (v : Value) (x : Int × Int) : Prop := v = .agg ⟨[nv x.1, nv x.2]⟩
def Rst (h : AH) (F : Nat → Prop) (v : Value) (l : List (Nat × Nat)) : Prop := Sd h 2 v l.length (l.flatMap st2) ∧ ∀ b, vb v = some b → F b
structure PT (h : AH) (F : Nat → Prop) (tb sb mb : Nat) (VL : Option Nat → Value) (sp : Value) (N : Nat) (L : Lf) (C : TC) (mt : List (Int × List (Nat × Nat))) : Prop where
 cl : Cl h tb [VL none, nv C.s, nv C.c, nv C.r, nv C.m, .map (some sb), .map (some mb), sp]
 inp : TIn h F VL N L
 sent : Mp h sb k3 r2 (sendsA 0 ((List.range N).map L))
 meets : Mp h mb nv (Rst h F) mt
 ft : F tb
 fs : F sb
 fm : F mb
 mts : ∀ no, (kget mt no).getD [] = meetL L no N
section
variable {h h' : AH} {F Q : Nat → Prop} {tb sb mb N : Nat} {VL : Option Nat → Value} {sp : Value} {L : Lf} {C : TC} {mt : List (Int × List (Nat × Nat))}
theorem ldx {P : Program} {h h' : AH} {T : TypeId} {b o : Nat} {v : Value} (hv : aLoad P T ⟨b, o, none⟩ h = some v) (hb : b < h.next) (t : Sm Nix h h') : aLoad P T ⟨b, o, none⟩ h' = some v := by
 have hg := t.get b hb (fun x => x)
 have hc : ∀ k : Nat, h'.cell ⟨b, k, none⟩ = h.cell ⟨b, k, none⟩ := fun k => by unfold AH.cell; simp only [hg]
 have hcs : ∀ (m i : Nat), h'.cells ⟨b, o, none⟩ i m = h.cells ⟨b, o, none⟩ i m := by
  intro m
  induction m with
  | zero => intro i; rfl
  | succ m ih => intro i; unfold AH.cells; dsimp only; rw [hc, ih]
 unfold aLoad at hv ⊢
 simp only [hc, hcs]
 exact hv
theorem Rk_lk {P : Program} {n : Nat} {ops : Array Oper} {f : Fr} {h : AH} {i : Nat} {r : List Nat} {o : Oper} {T : TypeId} {x y : Operand} {a b : Value} {c : Bool} {d : Nat} (v : Value) (ho : ops[i]? = some o) (hop : o.op = .lookup T x y c) (hd : o.dst = some d) (ha : ev n f x = some a) (hb : ev n f y = some b) (hv : aLookup P T a b c h = some v) (hf : f d = v) (k : Rk P n ops f h r) : Rk P n ops f h (i :: r) :=
 Rk_v (v := v) ho hd (by rw [hop]; simp only [evVal, ha, hb]; exact aLookupX_of hv) hf k
theorem Rk_ln {P : Program} {n : Nat} {ops : Array Oper} {f : Fr} {h : AH} {i : Nat} {r : List Nat} {o : Oper} {T : TypeId} {x : Operand} {a : Value} {d : Nat} (v : Value) (ho : ops[i]? = some o) (hop : o.op = .call ⟨.builtin .len, ⟨[x]⟩, ⟨[T]⟩⟩) (hd : o.dst = some d) (ha : ev n f x = some a) (hv : aLen P T a h = some v) (hf : f d = v) (k : Rk P n ops f h r) : Rk P n ops f h (i :: r) :=
 Rk_v (v := v) ho hd (by rw [hop]; simp only [evVal, ha]; exact hv) hf k
theorem Cl.all {P : Program} {h : AH} {b : Nat} {l : List Value} {T : TypeId} (hc : Cl h b l) (hT : aggT P T l.length = true) : aLoad P T ⟨b, 0, none⟩ h = some (.agg ⟨l⟩) := by
 have := hc.ldS (o := 0) hT (by omega)
 rw [List.drop_zero, List.take_length] at this
 exact this
theorem Cl.allN {P : Program} {h : AH} {b n : Nat} {l : List Value} {T : TypeId} (hc : Cl h b l) (hl : l.length = n) (hT : aggT P T n = true) : aLoad P T ⟨b, 0, none⟩ h = some (.agg ⟨l⟩) := hc.all (by rw [hl]; exact hT)
theorem Cl.storeN {P : Program} {h : AH} {b n : Nat} {l cs : List Value} {T : TypeId} {v : Value} (hc : Cl h b l) (hl : l.length = n) (hz : szOf P T = some n) (hv : cellsL v = cs) (hcs : cs.length = n) (h1 : ∀ v, v ∈ cs → v.oneCell' = true) :
 ∃ h', aStore P T ⟨b, 0, none⟩ v h = some h' ∧ Cl h' b cs ∧ Sm (fun k => k = b) h h' ∧ h'.next = h.next := hc.storeS (by rw [hl]; exact hz) hv (by rw [hl, hcs]) h1
end
end
end Go.Arm
namespace Go.Arm
noncomputable section
open Go Go.X
section
variable {P : Program} {h h' : AH} {S : Nat → Prop} {b : Nat} {T : TypeId} {k v : Value}
def Mb (h : AH) (b : Nat) : Prop := ∃ es cl, h.m.get b = some (.map es cl false) ∧ (es.map (·.2.2)).Nodup ∧ ∀ e, e ∈ es → e.2.2 < cl
theorem Mb.sm (H : Mb h b) (s : Sm S h h') (hl : b < h.next) (hb : ¬ S b) : Mb h' b := by
 obtain ⟨es, cl, h1, h2⟩ := H
 exact ⟨es, cl, (s.get b hl hb).trans h1, h2⟩
theorem Mb.new (h : AH) : Mb (h.push (.map [] 0 false)) h.next := ⟨[], 0, push_get _ _, by simp, fun e he => by cases he⟩
theorem setV_age : ∀ (es : List (Value × Value × Nat)) (i : Nat) (k v : Value), (setV es i k v).map (·.2.2) = es.map (·.2.2)
 | [], i, k, v => by unfold setV; cases i <;> rfl
 | e :: es, 0, k, v => by unfold setV; rfl
 | e :: es, i + 1, k, v => by
  have := setV_age es i k v
  unfold setV
  simp only [List.map_cons, this]
theorem Mb.update (H : Mb h b) (hu : aUpdate P T (.map (some b)) k v h = some h') : Mb h' b := by
 obtain ⟨es, cl, h1, h2, h3⟩ := H
 have got : ∀ es cl, (aSetMap h b es cl).m.get b = some (.map es cl false) := fun es cl => by show (h.m.set b _).get b = _; rw [X.T.get_set, if_pos rfl]
 unfold aUpdate at hu
 split at hu
 · rename_i hu2 _
   rename_i hb
   cases hb
   rw [h1] at hu
   dsimp only at hu
   split at hu
   · split at hu
     · rename_i i hi
       split at hu
       · split at hu
         · cases hu
           refine ⟨_, _, got _ _, by rw [setV_age]; exact h2, fun e he => ?_⟩
           have : e.2.2 ∈ (setV es i k v).map (·.2.2) := List.mem_map.2 ⟨e, he, rfl⟩
           rw [setV_age] at this
           obtain ⟨e', he', h5⟩ := List.mem_map.1 this
           rw [← h5]; exact h3 e' he'
         · cases hu
       · cases hu
     · cases hu
       refine ⟨_, _, got _ _, ?_, fun e he => ?_⟩
       · rw [List.map_append, List.nodup_append]
         refine ⟨h2, by simp, fun a ha c hc => ?_⟩
         obtain ⟨e, he, rfl⟩ := List.mem_map.1 ha
         have := h3 e he
         simp only [List.map_cons, List.map_nil, List.mem_singleton] at hc
         omega
       · rcases List.mem_append.1 he with he | he
         · have := h3 e he; omega
         · cases List.mem_singleton.1 he; exact Nat.lt_succ_self _
     · cases hu
   · cases hu
 · cases hu
end
section
variable {P : Program} {h h' : AH} {S : Nat → Prop} {it b c : Nat} {κ β : Type} {kv : κ → Value} {R : Value → β → Prop} {m : List (κ × β)} {dn : Nat → Prop}
theorem Mr.atI {es : List (Value × Value × Nat)} (hr : Mr kv R es m) : ∀ {i : Nat} {e : Value × Value × Nat}, es[i]? = some e → ∃ x, m[i]? = some x ∧ e.1 = kv x.1 ∧ R e.2.1 x.2 := by
 induction hr with
 | nil => intro i e h; simp at h
 | cons hk hv _ ih =>
  intro i e h
  cases i with
  | zero => simp at h; subst h; exact ⟨_, rfl, hk, hv⟩
  | succ i => simp at h; simpa using ih h
def leftOf (es : List (Value × Value × Nat)) (seen : List Nat) : List (Value × Value × Nat) := es.filter fun e => !seen.contains e.2.2
def Itr (h : AH) (it b : Nat) (kv : κ → Value) (R : Value → β → Prop) (m : List (κ × β)) (dn : Nat → Prop) (c : Nat) : Prop :=
 ∃ es cl seen, h.m.get b = some (.map es cl false) ∧ Mr kv R es m ∧ (es.map (·.2.2)).Nodup ∧ (∀ e, e ∈ es → e.2.2 < cl) ∧ h.m.get it = some (.iter (some b) cl seen cl) ∧
  (∀ i e, es[i]? = some e → (e.2.2 ∈ seen ↔ dn i)) ∧ b < h.next ∧ it < h.next ∧ it ≠ b ∧ c = (leftOf es seen).length
theorem Itr.sm (H : Itr h it b kv R m dn c) (s : Sm S h h') (hb : ¬ S b) (hi : ¬ S it) : Itr h' it b kv R m dn c := by
 obtain ⟨es, cl, seen, h1, h2, h3, h4, h5, h6, h7, h8, h9⟩ := H
 exact ⟨es, cl, seen, (s.get b h7 hb).trans h1, h2, h3, h4, (s.get it h8 hi).trans h5, h6, Nat.lt_of_lt_of_le h7 s.nx, Nat.lt_of_lt_of_le h8 s.nx, h9⟩
theorem Itr.start {T kt el : TypeId} (hT : P.underlying T = some (.map kt el)) (hm : Mp h b kv R m) (hb : Mb h b) :
   ∃ h', aRange P T (.map (some b)) h = some (.pointer (some ⟨h.next, 0, none⟩), h') ∧ (∃ c, Itr h' h.next b kv R m (fun _ => False) c) ∧ Sm Nix h h' ∧ h'.next = h.next + 1 := by
 obtain ⟨hl, es, cl, h1, h2⟩ := hm
 obtain ⟨es', cl', h3, h4, h5⟩ := hb
 rw [h1] at h3
 cases h3
 unfold aRange
 simp only [hT, h1]
 refine ⟨h.push (.iter (some b) cl [] cl), rfl, ⟨_, es, cl, [], ?_, h2, h4, h5, push_get _ _, fun i e _ => ?_, Nat.lt_succ_of_lt hl, Nat.lt_succ_self _, by omega, rfl⟩, .push _ _, rfl⟩
 · exact ((Sm.push h (.iter (some b) cl [] cl)).get b hl (fun x => x)).trans h1
 · simp
theorem filter_lt {α : Type} (p q : α → Bool) (hpq : ∀ x, q x = true → p x = true) : ∀ (l : List α) (a : α), a ∈ l → p a = true → q a = false → (l.filter q).length < (l.filter p).length
 | [], a, h, _, _ => by cases h
 | x :: l, a, h, hp, hq => by
  have le : ∀ l : List α, (l.filter q).length ≤ (l.filter p).length := by
    intro l
    induction l with
    | nil => exact Nat.le_refl _
    | cons y l ih =>
      rw [List.filter_cons, List.filter_cons]
      by_cases hy : q y = true
      · rw [if_pos hy, if_pos (hpq y hy)]; simp; exact ih
      · rw [if_neg hy]; split
        · simp; omega
        · exact ih
  rw [List.filter_cons, List.filter_cons]
  rcases List.mem_cons.1 h with rfl | h
  · rw [if_pos hp, if_neg (by rw [hq]; simp)]
    have := le l; simp; omega
  · have ih := filter_lt p q hpq l a h hp hq
    by_cases hy : q x = true
    · rw [if_pos hy, if_pos (hpq x hy)]; simp; exact ih
    · rw [if_neg hy]; split
      · simp; omega
      · exact ih
theorem find_age : ∀ (es : List (Value × Value × Nat)) (e : Value × Value × Nat), (es.map (·.2.2)).Nodup → e ∈ es → es.find? (fun x => x.2.2 == e.2.2) = some e
 | [], e, _, h => by cases h
 | x :: es, e, hn, h => by
  rw [List.map_cons, List.nodup_cons] at hn
  rw [List.find?_cons]
  rcases List.mem_cons.1 h with rfl | h
  · simp
  · have hne : x.2.2 ≠ e.2.2 := fun h5 => hn.1 (by rw [h5]; exact List.mem_map.2 ⟨e, h, rfl⟩)
    have : (x.2.2 == e.2.2) = false := by simpa using hne
    rw [this]
    exact find_age es e hn.2 h
theorem Itr.next (H : Itr h it b kv R m dn c) : ∃ l, aNext (.pointer (some ⟨it, 0, none⟩)) false h = some l ∧ ∀ p, p ∈ l →
   (p = (.tuple ⟨[.bool false]⟩, h) ∧ ∀ i, i < m.length → dn i) ∨
   ∃ i x v c', m[i]? = some x ∧ ¬ dn i ∧ R v x.2 ∧ p.1 = .tuple ⟨[.bool true, kv x.1, v]⟩ ∧ c' < c ∧ Itr p.2 it b kv R m (fun j => j = i ∨ dn j) c' ∧ Sm (fun x => x = it) h p.2 ∧ p.2.next = h.next ∧ aEntryIt (.pointer (some ⟨it, 0, none⟩)) p.2 = some (.tuple ⟨[kv x.1, v]⟩) := by
 obtain ⟨es, cl, seen, h1, h2, h3, h4, h5, h6, h7, h8, h9, hc⟩ := H
 unfold aNext
 simp only [h5, h1]
 have hno : (!seen.isEmpty && !es.isEmpty && es.all fun e => decide (e.2.2 ≥ cl)) = false := by
   cases es with
   | nil => simp
   | cons e es =>
     have := h4 e (by simp)
     have : ¬ e.2.2 ≥ cl := by omega
     simp [this]
 rw [hno]
 refine ⟨_, rfl, fun p hp => ?_⟩
 unfold nextOuts at hp
 have hold : (es.filter fun e => !seen.contains e.2.2).filter (fun e => decide (e.2.2 < cl)) = es.filter fun e => !seen.contains e.2.2 := by
   refine List.filter_eq_self.2 fun e he => ?_
   simpa using h4 e (List.mem_filter.1 he).1
 have hnew : (es.filter fun e => !seen.contains e.2.2).filter (fun e => !decide (e.2.2 < cl)) = [] := by
   refine List.filter_eq_nil_iff.2 fun e he => ?_
   simpa using h4 e (List.mem_filter.1 he).1
 dsimp only at hp
 rw [hold, hnew, List.append_nil] at hp
 rcases List.mem_append.1 hp with hp | hp
 · split at hp
   · rename_i he
     cases List.mem_singleton.1 hp
     refine .inl ⟨rfl, fun i hi => ?_⟩
     rw [← h2.length] at hi
     have hg : es[i]? = some es[i] := List.getElem?_eq_getElem hi
     refine (h6 i _ hg).1 ?_
     rw [List.isEmpty_iff, List.filter_eq_nil_iff] at he
     have := he es[i] (List.getElem_mem hi)
     simpa using this
   · cases hp
 · obtain ⟨e, he, rfl⟩ := List.mem_map.1 hp
   obtain ⟨he1, he2⟩ := List.mem_filter.1 he
   obtain ⟨i, hi, hie⟩ := List.getElem_of_mem he1
   have hg : es[i]? = some e := by rw [List.getElem?_eq_getElem hi, hie]
   obtain ⟨x, hx, hk, hv⟩ := h2.atI hg
   have hns : ¬ e.2.2 ∈ seen := by simpa using he2
   refine .inr ⟨i, x, e.2.1, _, hx, fun hd => hns ((h6 i e hg).2 hd), hv, by rw [hk], ?_, ⟨es, cl, seen ++ [e.2.2], ?_, h2, h3, h4, ?_, fun j e' hj => ?_, h7, h8, h9, rfl⟩, ⟨Nat.le_refl _, fun y _ hn => ?_⟩, rfl, ?_⟩
   · rw [hc]
     refine filter_lt _ _ (fun y hy => ?_) es e he1 he2 (by simp)
     simp at hy ⊢
     exact hy.1
   · show (h.m.set it _).get b = _
     rw [X.T.get_set, if_neg (fun e => h9 e.symm)]; exact h1
   · show (h.m.set it _).get it = _
     rw [X.T.get_set, if_pos rfl]
   · rw [List.mem_append, List.mem_singleton, h6 j e' hj]
     constructor
     · rintro (h | h)
       · exact .inr h
       · refine .inl ?_
         have hjl := (List.getElem?_eq_some_iff.1 hj).1
         have h10 : (es.map (·.2.2))[j]'(by simpa using hjl) = (es.map (·.2.2))[i]'(by simpa using hi) := by
          rw [List.getElem_map, List.getElem_map, hie, (List.getElem?_eq_some_iff.1 hj).2]; exact h
         exact (List.getElem_inj h3).1 h10
     · rintro (rfl | h)
       · rw [hg] at hj; cases hj; exact .inr rfl
       · exact .inl h
   · show (h.m.set it _).get y = _
     rw [X.T.get_set, if_neg hn]
   · have g1 : ({ h with m := h.m.set it (some (.iter (some b) cl (seen ++ [e.2.2]) cl)) } : AH).m.get it = some (.iter (some b) cl (seen ++ [e.2.2]) cl) := by
       show (h.m.set it _).get it = _
       rw [X.T.get_set, if_pos rfl]
     have g2 : ({ h with m := h.m.set it (some (.iter (some b) cl (seen ++ [e.2.2]) cl)) } : AH).m.get b = some (.map es cl false) := by
       show (h.m.set it _).get b = _
       rw [X.T.get_set, if_neg (fun e => h9 e.symm)]; exact h1
     unfold aEntryIt
     dsimp only
     simp only [g1, g2, List.getLast?_append, List.getLast?_singleton, Option.some_or, if_true, find_age es e h3 he1]
     rw [hk]
end
section
variable {P : Program} [Kn P] {n : Nat} {ops : Array Oper} {Q : Post} {o : Oper} {rest : List Oper} {f : Fr} {h : AH} {it b c : Nat} {κ β : Type} {kv : κ → Value} {R : Value → β → Prop} {m : List (κ × β)} {dn : Nat → Prop}
theorem L_rg {T : TypeId} {x : Operand} {a v : Value} (h' : AH) (ho : o.op = .range T x) (hs : okO n o = true) (ha : ev n f x = some a) (hv : aRange P T a h = some (v, h'))
  (k : L P n ops Q rest (updO f o.dst v) h') : L P n ops Q (o :: rest) f h :=
 L_dov (okO_ok hs).1 (okO_ok hs).2 (by rw [ho]; rfl) (by rw [ho]; simp only [evAct, ha, hv]; rfl) k
theorem L_nx {x : Operand} (ho : o.op = .next x false) (hs : okO n o = true) (ha : ev n f x = some (.pointer (some ⟨it, 0, none⟩))) (H : Itr h it b kv R m dn c)
   (k0 : (∀ i, i < m.length → dn i) → L P n ops Q rest (updO f o.dst (.tuple ⟨[.bool false]⟩)) h)
   (k1 : ∀ i x v c' h', m[i]? = some x → ¬ dn i → R v x.2 → c' < c → Itr h' it b kv R m (fun j => j = i ∨ dn j) c' → Sm (fun x => x = it) h h' → h'.next = h.next → aEntryIt (.pointer (some ⟨it, 0, none⟩)) h' = some (.tuple ⟨[kv x.1, v]⟩) → L P n ops Q rest (updO f o.dst (.tuple ⟨[.bool true, kv x.1, v]⟩)) h') :
   L P n ops Q (o :: rest) f h := by
 obtain ⟨l, hl, hp⟩ := H.next
 refine L_any (l := l.map fun p => (.val p.1, p.2)) (okO_ok hs).1 (okO_ok hs).2 (by rw [ho]; rfl) (by rw [ho]; simp only [evAct, ha, hl]; rfl) fun p hm => ?_
 obtain ⟨q, hq, rfl⟩ := List.mem_map.1 hm
 refine ⟨_, rfl, ?_⟩
 rcases hp q hq with ⟨rfl, h1⟩ | ⟨i, x, v, c', h1, h2, h3, h4, h5, h6, h7, h8, h10⟩
 · exact k0 h1
 · dsimp only
   rw [h4]
   exact k1 i x v c' q.2 h1 h2 h3 h5 h6 h7 h8 h10
end
end
end Go.Arm
namespace Go.Arm
noncomputable section
open Go Go.X
abbrev ptr (b : Nat) : Value := .pointer (some ⟨b, 0, none⟩)
def k2 (w : Int × Int) : Value := .agg ⟨[nv w.1, nv w.2]⟩
def vbx : Value → Option Nat
 | .pointer (some a) => some a.block
 | .map (some b) => some b
 | .slice (some a) _ _ => some a.block
 | _ => none
theorem vbx_sl {v : Value} {b : Nat} (hs : ∃ a n c, v = .slice a n c) (h : vbx v = some b) : vb v = some b := by
 obtain ⟨a, n, c, rfl⟩ := hs
 cases a with
 | none => cases h
 | some a => exact h
theorem vb_vbx {v : Value} {b : Nat} (h : vb v = some b) : vbx v = some b := by
 unfold vb at h
 split at h
 · exact h
 · cases h
inductive Th
 | no
 | cl (l : List Value)
 | sd (k n : Nat) (cs : List Value)
 | gr (k n : Nat) (cs : List Value)
 | ws (n : Nat) (cs : List Value)
 | mi (m : List (Int × Value))
 | mp (m : List ((Int × Int) × Value))
def nk (x : Nat) : Value := nv (x : Int)
def At (h : AH) (v : Value) : Th → Prop
 | .no => True
 | .cl l => ∃ b, v = ptr b ∧ Cl h b l
 | .sd k n cs => Sd h k v n cs
 | .gr k n cs => Gr h k v n cs
 | .ws n cs => Ws h 1 v n cs
 | .mi m => ∃ b, v = .map (some b) ∧ Mp h b nv Eq m ∧ Mb h b
 | .mp m => ∃ b, v = .map (some b) ∧ Mp h b k2 Eq m ∧ Mb h b
section
variable {h h' : AH} {S : Nat → Prop} {v : Value} {k n : Nat} {cs : List Value}
theorem Sd.smx (hs : Sd h k v n cs) (s : Sm S h h') (hb : ∀ b, vbx v = some b → ¬ S b) : Sd h' k v n cs := hs.sm s fun b x => hb b (vb_vbx x)
theorem Ws.smx (hs : Ws h k v n cs) (s : Sm S h h') (hb : ∀ b, vbx v = some b → ¬ S b) : Ws h' k v n cs := hs.sm s fun b x => hb b (vb_vbx x)
theorem Gr.smx (hs : Gr h k v n cs) (s : Sm S h h') (hb : ∀ b, vbx v = some b → ¬ S b) : Gr h' k v n cs := hs.sm s fun b x => hb b (vb_vbx x)
theorem At.sm {x : Th} (A : At h v x) (s : Sm S h h') (hb : ∀ b, vbx v = some b → ¬ S b) : At h' v x := by
 cases x with
 | no => trivial
 | cl l => obtain ⟨b, rfl, c⟩ := A; exact ⟨b, rfl, c.sm s (hb b rfl)⟩
 | sd k n cs => exact Sd.smx A s hb
 | gr k n cs => exact Gr.smx A s hb
 | ws n cs => exact Ws.smx A s hb
 | mi m => obtain ⟨b, rfl, c, d⟩ := A; exact ⟨b, rfl, c.sm s (hb b rfl) (fun _ _ e => e), d.sm s c.1 (hb b rfl)⟩
 | mp m => obtain ⟨b, rfl, c, d⟩ := A; exact ⟨b, rfl, c.sm s (hb b rfl) (fun _ _ e => e), d.sm s c.1 (hb b rfl)⟩
theorem Sd.ltx (hs : Sd h k v n cs) {b : Nat} (hb : vbx v = some b) : b < h.next := hs.lt (vbx_sl (by obtain ⟨a, c, e⟩ := hs.form; exact ⟨a, n, c, e⟩) hb)
theorem At.lt {x : Th} (A : At h v x) (hx : x ≠ .no) {b : Nat} (hb : vbx v = some b) : b < h.next := by
 cases x with
 | no => exact (hx rfl).elim
 | cl l => obtain ⟨b', rfl, c⟩ := A; cases hb; exact c.lt
 | sd k n cs => exact Sd.ltx A hb
 | gr k n cs => exact Sd.ltx (Gr.sd A) hb
 | ws n cs => exact Sd.ltx (Ws.sd A) hb
 | mi m => obtain ⟨b', rfl, c, d⟩ := A; cases hb; exact c.1
 | mp m => obtain ⟨b', rfl, c, d⟩ := A; cases hb; exact c.1
end
end
end Go.Arm
