/- Worlds of the program and walks of its functions. -/
import Derived.Test.YtjealfplbigphaaGreatZi
import Derived.Test.YtjealfplbigphaaGreatProg
import Derived.ProofKit
namespace Go.Mt
open Go.Arm
abbrev By := List UInt8
structure En where
 src : Int
 ctx : Int
 tag : Int
 size : Int
 parts : Int
deriving DecidableEq
inductive Pk
 | eager (e : En) (d : By)
 | ask (e : En) (req : Int)
 | credit
 | clear (req : Int)
 | body (req : Int) (d : By)
 | part (req i : Int) (d : By)
inductive Ms
 | eager (e : En) (d : By)
 | ask (e : En) (req : Int)
def Ms.en : Ms -> En
 | .eager e _ => e
 | .ask e _ => e
structure St where
 src : Int
 tag : Int
 size : Int
 err : Int
deriving DecidableEq
def St.z : St := ⟨0, 0, 0, 0⟩
structure Rq where
 no : Nat
 peer : Int
 ctx : Int
 tag : Int
 room : Int
 send : Bool
 sync : Bool
 pers : Bool
 act : Bool
 done : Bool
 parts : Nat
 size : Nat
 data : By
 pcs : List (Option By)
 gone : Nat
 sent : List Bool
 clr : Bool
 st : St
structure Pr where
 next : Nat
 reqs : List Nat
 exps : List ((Int × Int) × Nat)
 inb : List (Int × Pk)
 msgs : List Ms
 rcvs : List Nat
 crds : List Int
structure Wd where
 lim : Int
 n : Nat
 pr : Nat -> Pr
 rq : Nat -> Nat -> Rq
 way : Int -> Int -> List Pk
def big : Nat := 1000000000
namespace Wd
def setPr (w : Wd) (p : Nat) (x : Pr) : Wd := { w with pr := ups w.pr p x }
def setRq (w : Wd) (p no : Nat) (x : Rq) : Wd := { w with rq := ups w.rq p (ups (w.rq p) no x) }
def setWay (w : Wd) (a b : Int) (l : List Pk) : Wd := { w with way := ups w.way a (ups (w.way a) b l) }
theorem setRq_at (w : Wd) (p no : Nat) (x : Rq) : (w.setRq p no x).rq p no = x := by
 show ups w.rq p (ups (w.rq p) no x) p no = x
 rw [j0, j0]
theorem setRq_setRq (w : Wd) (p no : Nat) (x y : Rq) : (w.setRq p no x).setRq p no y = w.setRq p no y := by
 unfold setRq
 congr 1
 funext q
 by_cases e : q = p
 . subst e
   funext k
   by_cases e2 : k = no
   . subst e2; simp [ups]
   . simp [ups, e2]
 . simp [ups, e]
theorem setPr_at (w : Wd) (p : Nat) (x : Pr) : (w.setPr p x).pr p = x := j0 _ _ _
def put (w : Wd) (a b : Int) (x : Pk) : Option Wd := if (w.way a b).length < big then some (w.setWay a b (w.way a b ++ [x])) else none
end Wd
def Rq.fits (r : Rq) (e : En) : Bool := !(e.ctx != r.ctx || (r.peer != -1 && r.peer != e.src) || (r.tag != -1 && r.tag != e.tag)) && (e.parts == r.parts && (r.parts == 0 || e.size == ((r.parts * r.size : Nat) : Int)))
def Rq.gets (r : Rq) (d : By) : Rq := if r.parts = 0 /\ r.room < d.length then { r with data := d.take r.room.toNat, done := true, st := { r.st with err := 15 } } else { r with data := d, done := true }
def Rq.small (r : Rq) : Prop := r.parts * r.size < big
instance (r : Rq) : Decidable r.small := inferInstanceAs (Decidable (_ < _))
theorem Rq.fits_split (r : Rq) (e : En) : (e.ctx ≠ r.ctx /\ r.fits e = false) ∨ (e.ctx = r.ctx /\ r.peer ≠ -1 /\ r.peer ≠ e.src /\ r.fits e = false) ∨
   (e.ctx = r.ctx /\ r.peer = -1 /\ r.tag ≠ -1 /\ r.tag ≠ e.tag /\ r.fits e = false) ∨ (e.ctx = r.ctx /\ r.peer ≠ -1 /\ r.peer = e.src /\ r.tag ≠ -1 /\ r.tag ≠ e.tag /\ r.fits e = false) ∨
   (e.ctx = r.ctx /\ r.peer = -1 /\ r.tag = -1 /\ r.fits e = (e.parts == r.parts && (r.parts == 0 || e.size == ((r.parts * r.size : Nat) : Int)))) ∨ (e.ctx = r.ctx /\ r.peer ≠ -1 /\ r.peer = e.src /\ r.tag = -1 /\ r.fits e = (e.parts == r.parts && (r.parts == 0 || e.size == ((r.parts * r.size : Nat) : Int)))) ∨
   (e.ctx = r.ctx /\ r.peer = -1 /\ r.tag ≠ -1 /\ r.tag = e.tag /\ r.fits e = (e.parts == r.parts && (r.parts == 0 || e.size == ((r.parts * r.size : Nat) : Int)))) ∨ (e.ctx = r.ctx /\ r.peer ≠ -1 /\ r.peer = e.src /\ r.tag ≠ -1 /\ r.tag = e.tag /\ r.fits e = (e.parts == r.parts && (r.parts == 0 || e.size == ((r.parts * r.size : Nat) : Int)))) := by
 unfold Rq.fits
 by_cases h1 : e.ctx = r.ctx
 . by_cases h2 : r.peer = -1
   . by_cases h3 : r.tag = -1
     . simp [h1, h2, h3] <;> omega
     . by_cases h4 : r.tag = e.tag <;> simp [h1, h2, h3, h4] <;> omega
   . by_cases h5 : r.peer = e.src
     . by_cases h3 : r.tag = -1
       . simp [h1, h3, h5] <;> omega
       . by_cases h4 : r.tag = e.tag <;> simp [h1, h3, h4, h5] <;> omega
     . simp [h1, h2, h5] <;> omega
 . simp [h1] <;> omega
namespace Wd
def mtch (w : Wd) (p no : Nat) (m : Ms) : Option Wd :=
 let r := { w.rq p no with st := ⟨m.en.src, m.en.tag, m.en.size, 0⟩ }
 match m with
 | .eager e d => if d.length < big /\ 0 ≤ r.room then (w.setRq p no (r.gets d)).put p e.src .credit else none
 | .ask e q => ((w.setRq p no r).setPr p { w.pr p with exps := kset (w.pr p).exps (e.src, q) no }).put p e.src (.clear q)
def came (w : Wd) (p : Nat) (m : Ms) : Option Wd := if ¬ ((∀ no, no ∈ (w.pr p).rcvs -> (w.rq p no).small) /\ (w.pr p).rcvs.length < big) then none else
 match (w.pr p).rcvs.findIdx? fun no => (w.rq p no).fits m.en with
 | some i => (w.setPr p { w.pr p with rcvs := (w.pr p).rcvs.eraseIdx i }).mtch p ((w.pr p).rcvs.getD i 0) m
 | none => if (w.pr p).msgs.length < big then some (w.setPr p { w.pr p with msgs := (w.pr p).msgs ++ [m] }) else none
def spart (w : Wd) (p no i : Nat) : Option Wd :=
 match (w.rq p no).pcs[i]? with
 | some (some d) => match (w.rq p no).sent[i]? with
  | some false => if (w.rq p no).gone < big then (w.put p (w.rq p no).peer (.part (w.rq p no).no i d)).map fun w' => w'.setRq p no { w'.rq p no with sent := (w'.rq p no).sent.set i true, gone := (w'.rq p no).gone + 1 } else none
  | some true => some w
  | none => none
 | _ => some w
def spartsL (p no : Nat) : List Nat -> Wd -> Option Wd
 | [], w => some w
 | i :: l, w => match w.spart p no i with
  | some w' => spartsL p no l w'
  | none => none
def sparts (w : Wd) (p no : Nat) : Option Wd := if (w.rq p no).pcs.length < big then (spartsL p no (List.range (w.rq p no).pcs.length) w).map fun w' => w'.setRq p no { w'.rq p no with done := decide ((w'.rq p no).gone = (w'.rq p no).parts) } else none
theorem qg1 {w w' : Wd} {a b : Int} {x : Pk} (h : w.put a b x = some w') : w'.n = w.n := by
 unfold put at h
 split at h
 . cases h; rfl
 . cases h
theorem uw9 {w w' : Wd} {p no i : Nat} (h : w.spart p no i = some w') : w'.n = w.n := by
 unfold spart at h
 split at h
 . split at h
   . split at h
     . rw [Option.map_eq_some_iff] at h
       obtain ⟨w1, h1, rfl⟩ := h
       have e := qg1 h1
       exact e
     . cases h
   . cases h; rfl
   . cases h
 . cases h; rfl
theorem zw1 {p no : Nat} : ∀ {l : List Nat} {w w' : Wd}, spartsL p no l w = some w' -> w'.n = w.n
 | [], w, w', h => by cases h; rfl
 | i :: l, w, w', h => by
  unfold spartsL at h
  split at h
  . rename_i w1 h1; rw [zw1 h, uw9 h1]
  . cases h
theorem jk6 {w w' : Wd} {p no : Nat} (h : w.sparts p no = some w') : w'.n = w.n := by
 unfold sparts at h
 split at h
 . rw [Option.map_eq_some_iff] at h
   obtain ⟨w1, h1, rfl⟩ := h
   have e := zw1 h1
   exact e
 . cases h
def pget (r : Rq) (i : Nat) (d : By) : Rq := { r with pcs := r.pcs.set i (some d) }
def catD (l : List (Option By)) : By := l.flatMap fun x => x.getD []
def handle (w : Wd) (p : Nat) (f : Int) (x : Pk) : Option Wd :=
  match x with
  | .eager e d => w.came p (.eager e d)
  | .ask e q => w.came p (.ask e q)
  | .credit => if 0 ≤ f /\ f < (w.pr p).crds.length /\ (w.pr p).crds.getD f.toNat 0 < big /\ 0 ≤ (w.pr p).crds.getD f.toNat 0 then some (w.setPr p { w.pr p with crds := (w.pr p).crds.set f.toNat ((w.pr p).crds.getD f.toNat 0 + 1) }) else none
  | .clear q => if 0 ≤ q /\ q.toNat ∈ (w.pr p).reqs then
      (if (w.rq p q.toNat).parts = 0 then ((w.put p f (.body q (w.rq p q.toNat).data)).map fun w' => w'.setRq p q.toNat { w'.rq p q.toNat with done := true }) else (w.setRq p q.toNat { w.rq p q.toNat with clr := true }).sparts p q.toNat) else none
  | .body q d => match kget (w.pr p).exps (f, q) with
    | some no => if d.length < big /\ 0 ≤ (w.rq p no).room then some ((w.setRq p no ((w.rq p no).gets d)).setPr p { w.pr p with exps := kdel (w.pr p).exps (f, q) }) else none
    | none => none
  | .part q i d => match kget (w.pr p).exps (f, q) with
    | some no => if 0 ≤ i /\ i.toNat < (w.rq p no).pcs.length /\ (w.rq p no).pcs.length < big /\ (catD (pget (w.rq p no) i.toNat d).pcs).length < big /\ 0 ≤ (w.rq p no).room then
        (if (pget (w.rq p no) i.toNat d).pcs.any Option.isNone = true then some (w.setRq p no (pget (w.rq p no) i.toNat d))
         else some ((w.setRq p no ((pget (w.rq p no) i.toNat d).gets (catD (pget (w.rq p no) i.toNat d).pcs))).setPr p { w.pr p with exps := kdel (w.pr p).exps (f, q) })) else none
    | none => none
def handles (p : Nat) : Wd -> List (Int × Pk) -> Option Wd
 | w, [] => some w
 | w, x :: l => match w.handle p x.1 x.2 with
  | some w' => handles p w' l
  | none => none
theorem handles_cons {p : Nat} {w w' : Wd} {x : Int × Pk} {l : List (Int × Pk)} (h : handles p w (x :: l) = some w') : ∃ w1, w.handle p x.1 x.2 = some w1 /\ handles p w1 l = some w' := by
 unfold handles at h
 split at h
 . rename_i w1 h1; exact ⟨w1, h1, h⟩
 . cases h
theorem uz1 {w w' : Wd} {p no : Nat} {m : Ms} (h : w.mtch p no m = some w') : w'.n = w.n := by
 unfold mtch at h
 dsimp only at h
 split at h
 . split at h
   . exact Eq.trans (qg1 h) rfl
   . cases h
 . exact Eq.trans (qg1 h) rfl
theorem uu6 {w w' : Wd} {p : Nat} {m : Ms} (h : w.came p m = some w') : w'.n = w.n := by
 unfold came at h
 split at h
 . cases h
 . split at h
   . exact Eq.trans (uz1 h) rfl
   . split at h
     . cases h; rfl
     . cases h
theorem handle_n {w w' : Wd} {p : Nat} {f : Int} {x : Pk} (h : w.handle p f x = some w') : w'.n = w.n := by
 unfold handle at h
 split at h
 . exact Eq.trans (uu6 h) rfl
 . exact Eq.trans (uu6 h) rfl
 . split at h
   . cases h; rfl
   . cases h
 . split at h
   . split at h
     . rw [Option.map_eq_some_iff] at h
       obtain ⟨w1, h1, rfl⟩ := h
       have e := qg1 h1
       exact e
     . exact Eq.trans (jk6 h) rfl
   . cases h
 . split at h
   . split at h
     . cases h; rfl
     . cases h
   . cases h
 . split at h
   . split at h
     . split at h
       . cases h; rfl
       . cases h; rfl
     . cases h
   . cases h
theorem zg5 {p : Nat} : ∀ {l : List (Int × Pk)} {w w' : Wd}, handles p w l = some w' -> w'.n = w.n
 | [], w, w', h => by cases h; rfl
 | x :: l, w, w', h => by
  obtain ⟨w1, h1, h2⟩ := handles_cons h
  rw [zg5 h2, handle_n h1]
def call (w : Wd) (p : Nat) : Option Wd := if (w.pr p).inb.length < big then handles p (w.setPr p { w.pr p with inb := [] }) (w.pr p).inb else none
theorem call_n {w w' : Wd} {p : Nat} (h : w.call p = some w') : w'.n = w.n := by
 unfold call at h
 split at h
 . exact Eq.trans (zg5 h) rfl
 . cases h
def add (w : Wd) (p : Nat) (r : Rq) : Option Wd := if (w.pr p).next < big /\ (w.pr p).next ∉ (w.pr p).reqs then
 some (((w.setPr p { w.pr p with next := (w.pr p).next + 1 }).setRq p (w.pr p).next { r with no := (w.pr p).next }).setPr p { w.pr p with next := (w.pr p).next + 1, reqs := (w.pr p).reqs ++ [(w.pr p).next] }) else none
def send (w : Wd) (p no : Nat) (e : En) : Option Wd :=
  let r := w.rq p no
  if r.peer = -2 then some (w.setRq p no { r with done := true })
  else if r.sync = true ∨ r.parts > 0 ∨ e.size > w.lim then w.put p r.peer (.ask e r.no)
  else if 0 ≤ r.peer /\ r.peer < (w.pr p).crds.length then
    (if (w.pr p).crds.getD r.peer.toNat 0 = 0 then w.put p r.peer (.ask e r.no)
     else if 0 < (w.pr p).crds.getD r.peer.toNat 0 /\ (w.pr p).crds.getD r.peer.toNat 0 < big then
      (((w.setPr p { w.pr p with crds := (w.pr p).crds.set r.peer.toNat ((w.pr p).crds.getD r.peer.toNat 0 - 1) }).put p r.peer (.eager e r.data)).map fun w' => w'.setRq p no { r with done := true })
     else none) else none
theorem send_split {w w' : Wd} {p no : Nat} {e : En} (h : w.send p no e = some w') :
   ((w.rq p no).peer = -2 /\ w' = w.setRq p no { w.rq p no with done := true }) ∨ ((w.rq p no).peer ≠ -2 /\ (w.rq p no).sync = true /\ w.put p (w.rq p no).peer (.ask e (w.rq p no).no) = some w') ∨
   ((w.rq p no).peer ≠ -2 /\ (w.rq p no).sync = false /\ 0 < (w.rq p no).parts /\ w.put p (w.rq p no).peer (.ask e (w.rq p no).no) = some w') ∨ ((w.rq p no).peer ≠ -2 /\ (w.rq p no).sync = false /\ (w.rq p no).parts = 0 /\ w.lim < e.size /\ w.put p (w.rq p no).peer (.ask e (w.rq p no).no) = some w') ∨
   (∃ i : Nat, (w.rq p no).peer = (i : Int) /\ i < (w.pr p).crds.length /\ (w.rq p no).sync = false /\ (w.rq p no).parts = 0 /\ e.size ≤ w.lim /\ (w.pr p).crds.getD i 0 = 0 /\ w.put p (w.rq p no).peer (.ask e (w.rq p no).no) = some w') ∨
   (∃ (i : Nat) (w1 : Wd), (w.rq p no).peer = (i : Int) /\ i < (w.pr p).crds.length /\ (w.rq p no).sync = false /\ (w.rq p no).parts = 0 /\ e.size ≤ w.lim /\ 0 < (w.pr p).crds.getD i 0 /\ (w.pr p).crds.getD i 0 < big /\
     (w.setPr p { w.pr p with crds := (w.pr p).crds.set i ((w.pr p).crds.getD i 0 - 1) }).put p (w.rq p no).peer (.eager e (w.rq p no).data) = some w1 /\ w' = w1.setRq p no { w.rq p no with done := true }) := by
 unfold send at h
 dsimp only at h
 split at h
 . rename_i h1
   exact .inl ⟨h1, (Option.some.inj h).symm⟩
 . rename_i h1
   split at h
   . rename_i h2
     cases hs : (w.rq p no).sync with
     | true => exact .inr (.inl ⟨h1, rfl, h⟩)
     | false =>
       rw [hs] at h2
       by_cases hp : 0 < (w.rq p no).parts
       . exact .inr (.inr (.inl ⟨h1, rfl, hp, h⟩))
       . refine .inr (.inr (.inr (.inl ⟨h1, rfl, by omega, ?_, h⟩)))
         rcases h2 with h2 | h2 | h2
         . cases h2
         . exact (hp h2).elim
         . exact h2
   . rename_i h2
     have hs : (w.rq p no).sync = false := by
       cases hs : (w.rq p no).sync with
       | true => exact (h2 (.inl hs)).elim
       | false => rfl
     have hp : (w.rq p no).parts = 0 := by
       by_cases hp : (w.rq p no).parts > 0
       . exact (h2 (.inr (.inl hp))).elim
       . omega
     have hl : e.size ≤ w.lim := by
       by_cases hl : e.size > w.lim
       . exact (h2 (.inr (.inr hl))).elim
       . omega
     split at h
     . rename_i h3
       obtain ⟨i, hi⟩ : ∃ i : Nat, (w.rq p no).peer = (i : Int) := ⟨(w.rq p no).peer.toNat, by omega⟩
       have hit : (w.rq p no).peer.toNat = i := by omega
       rw [hit] at h
       split at h
       . rename_i h4
         exact .inr (.inr (.inr (.inr (.inl ⟨i, hi, by omega, hs, hp, hl, h4, h⟩))))
       . split at h
         . rename_i h5
           rw [Option.map_eq_some_iff] at h
           obtain ⟨w1, a, b⟩ := h
           exact .inr (.inr (.inr (.inr (.inr ⟨i, w1, hi, by omega, hs, hp, hl, h5.1, h5.2, a, b.symm⟩))))
         . cases h
     . cases h
theorem send_n {w w' : Wd} {p no : Nat} {e : En} (h : w.send p no e = some w') : w'.n = w.n := by
 rcases send_split h with ⟨_, rfl⟩ | ⟨_, _, h⟩ | ⟨_, _, _, h⟩ | ⟨_, _, _, _, h⟩ | ⟨_, _, _, _, _, _, _, h⟩ | ⟨_, w1, _, _, _, _, _, _, _, h2, rfl⟩
 . rfl
 . exact qg1 h
 . exact qg1 h
 . exact qg1 h
 . exact qg1 h
 . have h3 := qg1 h2; exact h3
def start (w : Wd) (p no : Nat) (d : By) : Option Wd :=
 let r := { w.rq p no with act := true, done := false, st := St.z, data := d }
 if ¬ (r.small /\ d.length < big /\ (w.pr p).msgs.length < big /\ 0 ≤ r.room) then none else
 let e : En := ⟨p, r.ctx, r.tag, ((d.length + r.parts * r.size : Nat) : Int), r.parts⟩
 if r.send = true then (w.setRq p no { r with st := ⟨r.peer, r.tag, e.size, 0⟩ }).send p no e
 else if r.peer = -2 then some (w.setRq p no { r with st := ⟨-2, -1, 0, 0⟩, done := true })
 else match (w.pr p).msgs.findIdx? fun m => r.fits m.en with
  | some i => ((w.setRq p no r).setPr p { w.pr p with msgs := (w.pr p).msgs.eraseIdx i }).mtch p no ((w.pr p).msgs.getD i (.ask e 0))
  | none => if (w.pr p).rcvs.length < big then some ((w.setRq p no r).setPr p { w.pr p with rcvs := (w.pr p).rcvs ++ [no] }) else none
theorem add_n {w w' : Wd} {p : Nat} {r : Rq} (h : w.add p r = some w') : w'.n = w.n := by
 unfold add at h
 split at h
 . cases h; rfl
 . cases h
theorem start_n {w w' : Wd} {p no : Nat} {d : By} (h : w.start p no d = some w') : w'.n = w.n := by
 unfold start at h
 dsimp only at h
 split at h
 . cases h
 . split at h
   . have e := send_n h; exact e
   . split at h
     . cases h; rfl
     . split at h
       . have e := uz1 h; exact e
       . split at h
         . cases h; rfl
         . cases h
def over (w : Wd) (p no : Nat) : Wd :=
 let w' := w.setRq p no { w.rq p no with act := false }
 if (w.rq p no).pers = true then w' else w'.setPr p { w.pr p with reqs := (w.pr p).reqs.erase (w.rq p no).no }
theorem over_n (w : Wd) (p no : Nat) : (w.over p no).n = w.n := by
 unfold over
 split <;> rfl
theorem over_rq (w : Wd) (p no : Nat) : (w.over p no).rq p no = { w.rq p no with act := false } := by
 unfold over
 split
 . exact setRq_at _ _ _ _
 . exact setRq_at _ _ _ _
def quiet (w : Wd) : Prop := (∀ a b, w.way a b = []) /\ ∀ p, p < w.n -> (w.pr p).inb = []
end Wd
end Go.Mt
namespace Go.Arm
noncomputable section
open Go Go.X
section
variable {P : Program} {h h' : AH} {S : Nat -> Prop} {b : Nat} {T : TypeId} {k v : Value}
def Mb (h : AH) (b : Nat) : Prop := ∃ es cl, h.m.get b = some (.map es cl false) /\ (es.map (·.2.2)).Nodup /\ ∀ e, e ∈ es -> e.2.2 < cl
theorem Mb.sm (H : Mb h b) (s : Sm S h h') (hl : b < h.next) (hb : ¬ S b) : Mb h' b := by
 obtain ⟨es, cl, h1, h2⟩ := H
 exact ⟨es, cl, (s.get b hl hb).trans h1, h2⟩
theorem Mb.new (h : AH) : Mb (h.push (.map [] 0 false)) h.next := ⟨[], 0, qg2 _ _, by simp, fun e he => by cases he⟩
theorem F5 : ∀ (es : List (Value × Value × Nat)) (i : Nat) (k v : Value), (setV es i k v).map (·.2.2) = es.map (·.2.2)
 | [], i, k, v => by unfold setV; cases i <;> rfl
 | e :: es, 0, k, v => by unfold setV; rfl
 | e :: es, i + 1, k, v => by
  have := F5 es i k v
  unfold setV
  simp only [List.map_cons, this]
theorem Mb.update (H : Mb h b) (hu : aUpdate P T (.map (some b)) k v h = some h') : Mb h' b := by
 obtain ⟨es, cl, h1, h2, h3⟩ := H
 have got : ∀ es cl, (aSetMap h b es cl).m.get b = some (.map es cl false) := fun es cl => by show (h.m.set b _).get b = _; rw [X.T.get_set, if_pos rfl]
 unfold aUpdate at hu
 split at hu
 . rename_i hu2 _
   rename_i hb
   cases hb
   rw [h1] at hu
   dsimp only at hu
   split at hu
   . split at hu
     . rename_i i hi
       split at hu
       . split at hu
         . cases hu
           refine ⟨_, _, got _ _, by rw [F5]; exact h2, fun e he => ?_⟩
           have : e.2.2 ∈ (setV es i k v).map (·.2.2) := List.mem_map.2 ⟨e, he, rfl⟩
           rw [F5] at this
           obtain ⟨e', he', h5⟩ := List.mem_map.1 this
           rw [<- h5]; exact h3 e' he'
         . cases hu
       . cases hu
     . cases hu
       refine ⟨_, _, got _ _, ?_, fun e he => ?_⟩
       . rw [List.map_append, List.nodup_append]
         refine ⟨h2, by simp, fun a ha c hc => ?_⟩
         obtain ⟨e, he, rfl⟩ := List.mem_map.1 ha
         have := h3 e he
         simp only [List.map_cons, List.map_nil, List.mem_singleton] at hc
         omega
       . rcases List.mem_append.1 he with he | he
         . have := h3 e he; omega
         . cases List.mem_singleton.1 he; exact Nat.lt_succ_self _
     . cases hu
   . cases hu
 . cases hu
end
section
variable {P : Program} {h h' : AH} {S : Nat -> Prop} {it b c : Nat} {κ β : Type} {kv : κ -> Value} {R : Value -> β -> Prop} {m : List (κ × β)} {dn : Nat -> Prop}
theorem Mr.atI {es : List (Value × Value × Nat)} (hr : Mr kv R es m) : ∀ {i : Nat} {e : Value × Value × Nat}, es[i]? = some e -> ∃ x, m[i]? = some x /\ e.1 = kv x.1 /\ R e.2.1 x.2 := by
 induction hr with
 | nil => intro i e h; simp at h
 | cons hk hv _ ih =>
  intro i e h
  cases i with
  | zero => simp at h; subst h; exact ⟨_, rfl, hk, hv⟩
  | succ i => simp at h; simpa using ih h
def leftOf (es : List (Value × Value × Nat)) (seen : List Nat) : List (Value × Value × Nat) := es.filter fun e => !seen.contains e.2.2
def Itr (h : AH) (it b : Nat) (kv : κ -> Value) (R : Value -> β -> Prop) (m : List (κ × β)) (dn : Nat -> Prop) (c : Nat) : Prop :=
 ∃ es cl seen, h.m.get b = some (.map es cl false) /\ Mr kv R es m /\ (es.map (·.2.2)).Nodup /\ (∀ e, e ∈ es -> e.2.2 < cl) /\ h.m.get it = some (.iter (some b) cl seen cl) /\
  (∀ i e, es[i]? = some e -> (e.2.2 ∈ seen ↔ dn i)) /\ b < h.next /\ it < h.next /\ it ≠ b /\ c = (leftOf es seen).length
theorem Itr.start {T kt el : TypeId} (hT : P.underlying T = some (.map kt el)) (hm : Mp h b kv R m) (hb : Mb h b) :
   ∃ h', aRange P T (.map (some b)) h = some (.pointer (some ⟨h.next, 0, none⟩), h') /\ (∃ c, Itr h' h.next b kv R m (fun _ => False) c) /\ Sm Nix h h' /\ h'.next = h.next + 1 := by
 obtain ⟨hl, es, cl, h1, h2⟩ := hm
 obtain ⟨es', cl', h3, h4, h5⟩ := hb
 rw [h1] at h3
 cases h3
 unfold aRange
 simp only [hT, h1]
 refine ⟨h.push (.iter (some b) cl [] cl), rfl, ⟨_, es, cl, [], ?_, h2, h4, h5, qg2 _ _, fun i e _ => ?_, Nat.lt_succ_of_lt hl, Nat.lt_succ_self _, by omega, rfl⟩, .push _ _, rfl⟩
 . exact ((Sm.push h (.iter (some b) cl [] cl)).get b hl (fun x => x)).trans h1
 . simp
theorem zg6 {α : Type} (p q : α -> Bool) (hpq : ∀ x, q x = true -> p x = true) : ∀ (l : List α) (a : α), a ∈ l -> p a = true -> q a = false -> (l.filter q).length < (l.filter p).length
 | [], a, h, _, _ => by cases h
 | x :: l, a, h, hp, hq => by
  have le : ∀ l : List α, (l.filter q).length ≤ (l.filter p).length := by
    intro l
    induction l with
    | nil => exact Nat.le_refl _
    | cons y l ih =>
      rw [List.filter_cons, List.filter_cons]
      by_cases hy : q y = true
      . rw [if_pos hy, if_pos (hpq y hy)]; simp; exact ih
      . rw [if_neg hy]; split
        . simp; omega
        . exact ih
  rw [List.filter_cons, List.filter_cons]
  rcases List.mem_cons.1 h with rfl | h
  . rw [if_pos hp, if_neg (by rw [hq]; simp)]
    have := le l; simp; omega
  . have ih := zg6 p q hpq l a h hp hq
    by_cases hy : q x = true
    . rw [if_pos hy, if_pos (hpq x hy)]; simp; exact ih
    . rw [if_neg hy]; split
      . simp; omega
      . exact ih
theorem yk7 : ∀ (es : List (Value × Value × Nat)) (e : Value × Value × Nat), (es.map (·.2.2)).Nodup -> e ∈ es -> es.find? (fun x => x.2.2 == e.2.2) = some e
 | [], e, _, h => by cases h
 | x :: es, e, hn, h => by
  rw [List.map_cons, List.nodup_cons] at hn
  rw [List.find?_cons]
  rcases List.mem_cons.1 h with rfl | h
  . simp
  . have hne : x.2.2 ≠ e.2.2 := fun h5 => hn.1 (by rw [h5]; exact List.mem_map.2 ⟨e, h, rfl⟩)
    have : (x.2.2 == e.2.2) = false := by simpa using hne
    rw [this]
    exact yk7 es e hn.2 h
theorem Itr.next (H : Itr h it b kv R m dn c) : ∃ l, aNext (.pointer (some ⟨it, 0, none⟩)) false h = some l /\ ∀ p, p ∈ l ->
   (p = (.tuple ⟨[.bool false]⟩, h) /\ ∀ i, i < m.length -> dn i) ∨
   ∃ i x v c', m[i]? = some x /\ ¬ dn i /\ R v x.2 /\ p.1 = .tuple ⟨[.bool true, kv x.1, v]⟩ /\ c' < c /\ Itr p.2 it b kv R m (fun j => j = i ∨ dn j) c' /\ Sm (fun x => x = it) h p.2 /\ p.2.next = h.next /\ aEntryIt (.pointer (some ⟨it, 0, none⟩)) p.2 = some (.tuple ⟨[kv x.1, v]⟩) := by
 obtain ⟨es, cl, seen, h1, h2, h3, h4, h5, h6, h7, h8, h9, hc⟩ := H
 unfold aNext
 simp only [h5, h1]
 have hno : (!seen.isEmpty && !es.isEmpty && es.all fun e => decide (e.2.2 ≥ cl)) = false := by
   cases es with
   | nil => simp
   | cons e es =>
     have := h4 e (by simp)
     have : ¬ e.2.2 ≥ cl := by omega
     simp [this]
 rw [hno]
 refine ⟨_, rfl, fun p hp => ?_⟩
 unfold nextOuts at hp
 have hold : (es.filter fun e => !seen.contains e.2.2).filter (fun e => decide (e.2.2 < cl)) = es.filter fun e => !seen.contains e.2.2 := by
   refine List.filter_eq_self.2 fun e he => ?_
   simpa using h4 e (List.mem_filter.1 he).1
 have hnew : (es.filter fun e => !seen.contains e.2.2).filter (fun e => !decide (e.2.2 < cl)) = [] := by
   refine List.filter_eq_nil_iff.2 fun e he => ?_
   simpa using h4 e (List.mem_filter.1 he).1
 dsimp only at hp
 rw [hold, hnew, List.append_nil] at hp
 rcases List.mem_append.1 hp with hp | hp
 . split at hp
   . rename_i he
     cases List.mem_singleton.1 hp
     refine .inl ⟨rfl, fun i hi => ?_⟩
     rw [<- h2.length] at hi
     have hg : es[i]? = some es[i] := List.getElem?_eq_getElem hi
     refine (h6 i _ hg).1 ?_
     rw [List.isEmpty_iff, List.filter_eq_nil_iff] at he
     have := he es[i] (List.getElem_mem hi)
     simpa using this
   . cases hp
 . obtain ⟨e, he, rfl⟩ := List.mem_map.1 hp
   obtain ⟨he1, he2⟩ := List.mem_filter.1 he
   obtain ⟨i, hi, hie⟩ := List.getElem_of_mem he1
   have hg : es[i]? = some e := by rw [List.getElem?_eq_getElem hi, hie]
   obtain ⟨x, hx, hk, hv⟩ := h2.atI hg
   have hns : ¬ e.2.2 ∈ seen := by simpa using he2
   refine .inr ⟨i, x, e.2.1, _, hx, fun hd => hns ((h6 i e hg).2 hd), hv, by rw [hk], ?_, ⟨es, cl, seen ++ [e.2.2], ?_, h2, h3, h4, ?_, fun j e' hj => ?_, h7, h8, h9, rfl⟩, ⟨Nat.le_refl _, fun y _ hn => ?_⟩, rfl, ?_⟩
   . rw [hc]
     refine zg6 _ _ (fun y hy => ?_) es e he1 he2 (by simp)
     simp at hy ⊢
     exact hy.1
   . show (h.m.set it _).get b = _
     rw [X.T.get_set, if_neg (fun e => h9 e.symm)]; exact h1
   . show (h.m.set it _).get it = _
     rw [X.T.get_set, if_pos rfl]
   . rw [List.mem_append, List.mem_singleton, h6 j e' hj]
     constructor
     . rintro (h | h)
       . exact .inr h
       . refine .inl ?_
         have hjl := (List.getElem?_eq_some_iff.1 hj).1
         have h10 : (es.map (·.2.2))[j]'(by simpa using hjl) = (es.map (·.2.2))[i]'(by simpa using hi) := by
          rw [List.getElem_map, List.getElem_map, hie, (List.getElem?_eq_some_iff.1 hj).2]; exact h
         exact (List.getElem_inj h3).1 h10
     . rintro (rfl | h)
       . rw [hg] at hj; cases hj; exact .inr rfl
       . exact .inl h
   . show (h.m.set it _).get y = _
     rw [X.T.get_set, if_neg hn]
   . have g1 : ({ h with m := h.m.set it (some (.iter (some b) cl (seen ++ [e.2.2]) cl)) } : AH).m.get it = some (.iter (some b) cl (seen ++ [e.2.2]) cl) := by
       show (h.m.set it _).get it = _
       rw [X.T.get_set, if_pos rfl]
     have g2 : ({ h with m := h.m.set it (some (.iter (some b) cl (seen ++ [e.2.2]) cl)) } : AH).m.get b = some (.map es cl false) := by
       show (h.m.set it _).get b = _
       rw [X.T.get_set, if_neg (fun e => h9 e.symm)]; exact h1
     unfold aEntryIt
     dsimp only
     simp only [g1, g2, List.getLast?_append, List.getLast?_singleton, Option.some_or, if_true, yk7 es e h3 he1]
     rw [hk]
end
section
variable {P : Program} [Kn P] {n : Nat} {ops : Array Oper} {Q : Post} {o : Oper} {rest : List Oper} {f : Fr} {h : AH} {it b c : Nat} {κ β : Type} {kv : κ -> Value} {R : Value -> β -> Prop} {m : List (κ × β)} {dn : Nat -> Prop}
theorem L_rg {T : TypeId} {x : Operand} {a v : Value} (h' : AH) (ho : o.op = .range T x) (hs : okO n o = true) (ha : ev n f x = some a) (hv : aRange P T a h = some (v, h'))
  (k : L P n ops Q rest (updO f o.dst v) h') : L P n ops Q (o :: rest) f h :=
 L_dov (Z6 hs).1 (Z6 hs).2 (by rw [ho]; rfl) (by rw [ho]; simp only [evAct, ha, hv]; rfl) k
theorem L_nx {x : Operand} (ho : o.op = .next x false) (hs : okO n o = true) (ha : ev n f x = some (.pointer (some ⟨it, 0, none⟩))) (H : Itr h it b kv R m dn c)
   (k0 : (∀ i, i < m.length -> dn i) -> L P n ops Q rest (updO f o.dst (.tuple ⟨[.bool false]⟩)) h)
   (k1 : ∀ i x v c' h', m[i]? = some x -> ¬ dn i -> R v x.2 -> c' < c -> Itr h' it b kv R m (fun j => j = i ∨ dn j) c' -> Sm (fun x => x = it) h h' -> h'.next = h.next -> aEntryIt (.pointer (some ⟨it, 0, none⟩)) h' = some (.tuple ⟨[kv x.1, v]⟩) -> L P n ops Q rest (updO f o.dst (.tuple ⟨[.bool true, kv x.1, v]⟩)) h') :
   L P n ops Q (o :: rest) f h := by
 obtain ⟨l, hl, hp⟩ := H.next
 refine L_any (l := l.map fun p => (.val p.1, p.2)) (Z6 hs).1 (Z6 hs).2 (by rw [ho]; rfl) (by rw [ho]; simp only [evAct, ha, hl]; rfl) fun p hm => ?_
 obtain ⟨q, hq, rfl⟩ := List.mem_map.1 hm
 refine ⟨_, rfl, ?_⟩
 rcases hp q hq with ⟨rfl, h1⟩ | ⟨i, x, v, c', h1, h2, h3, h4, h5, h6, h7, h8, h10⟩
 . exact k0 h1
 . dsimp only
   rw [h4]
   exact k1 i x v c' q.2 h1 h2 h3 h5 h6 h7 h8 h10
end
end
end Go.Arm
namespace Go.Arm
noncomputable section
open Go Go.X
abbrev ptr (b : Nat) : Value := .pointer (some ⟨b, 0, none⟩)
def k2 (w : Int × Int) : Value := .agg ⟨[nv w.1, nv w.2]⟩
def vbx : Value -> Option Nat
 | .pointer (some a) => some a.block
 | .map (some b) => some b
 | .slice (some a) _ _ => some a.block
 | _ => none
theorem zj4 {v : Value} {b : Nat} (hs : ∃ a n c, v = .slice a n c) (h : vbx v = some b) : vb v = some b := by
 obtain ⟨a, n, c, rfl⟩ := hs
 cases a with
 | none => cases h
 | some a => exact h
theorem J4 {v : Value} {b : Nat} (h : vb v = some b) : vbx v = some b := by
 unfold vb at h
 split at h
 . exact h
 . cases h
inductive Th
 | no
 | cl (l : List Value)
 | sd (k n : Nat) (cs : List Value)
 | gr (k n : Nat) (cs : List Value)
 | ws (n : Nat) (cs : List Value)
 | mi (m : List (Int × Value))
 | mp (m : List ((Int × Int) × Value))
def nk (x : Nat) : Value := nv (x : Int)
def At (h : AH) (v : Value) : Th -> Prop
 | .no => True
 | .cl l => ∃ b, v = ptr b /\ Cl h b l
 | .sd k n cs => Sd h k v n cs
 | .gr k n cs => Gr h k v n cs
 | .ws n cs => Ws h 1 v n cs
 | .mi m => ∃ b, v = .map (some b) /\ Mp h b nv Eq m /\ Mb h b
 | .mp m => ∃ b, v = .map (some b) /\ Mp h b k2 Eq m /\ Mb h b
section
variable {h h' : AH} {S : Nat -> Prop} {v : Value} {k n : Nat} {cs : List Value}
theorem Sd.smx (hs : Sd h k v n cs) (s : Sm S h h') (hb : ∀ b, vbx v = some b -> ¬ S b) : Sd h' k v n cs := hs.sm s fun b x => hb b (J4 x)
theorem Ws.smx (hs : Ws h k v n cs) (s : Sm S h h') (hb : ∀ b, vbx v = some b -> ¬ S b) : Ws h' k v n cs := hs.sm s fun b x => hb b (J4 x)
theorem Gr.smx (hs : Gr h k v n cs) (s : Sm S h h') (hb : ∀ b, vbx v = some b -> ¬ S b) : Gr h' k v n cs := hs.sm s fun b x => hb b (J4 x)
theorem At.sm {x : Th} (A : At h v x) (s : Sm S h h') (hb : ∀ b, vbx v = some b -> ¬ S b) : At h' v x := by
 cases x with
 | no => trivial
 | cl l => obtain ⟨b, rfl, c⟩ := A; exact ⟨b, rfl, c.sm s (hb b rfl)⟩
 | sd k n cs => exact Sd.smx A s hb
 | gr k n cs => exact Gr.smx A s hb
 | ws n cs => exact Ws.smx A s hb
 | mi m => obtain ⟨b, rfl, c, d⟩ := A; exact ⟨b, rfl, c.sm s (hb b rfl) (fun _ _ e => e), d.sm s c.1 (hb b rfl)⟩
 | mp m => obtain ⟨b, rfl, c, d⟩ := A; exact ⟨b, rfl, c.sm s (hb b rfl) (fun _ _ e => e), d.sm s c.1 (hb b rfl)⟩
theorem Sd.ltx (hs : Sd h k v n cs) {b : Nat} (hb : vbx v = some b) : b < h.next := hs.lt (zj4 (by obtain ⟨a, c, e⟩ := hs.form; exact ⟨a, n, c, e⟩) hb)
theorem At.lt {x : Th} (A : At h v x) (hx : x ≠ .no) {b : Nat} (hb : vbx v = some b) : b < h.next := by
 cases x with
 | no => exact (hx rfl).elim
 | cl l => obtain ⟨b', rfl, c⟩ := A; cases hb; exact c.lt
 | sd k n cs => exact Sd.ltx A hb
 | gr k n cs => exact Sd.ltx (Gr.sd A) hb
 | ws n cs => exact Sd.ltx (Ws.sd A) hb
 | mi m => obtain ⟨b', rfl, c, d⟩ := A; cases hb; exact c.1
 | mp m => obtain ⟨b', rfl, c, d⟩ := A; cases hb; exact c.1
end
end
end Go.Arm
namespace Go.Arm
noncomputable section
open Go Go.X Go.Mt
inductive Ro
 | wd
 | prs
 | ways
 | way (a b : Int)
 | pr (p : Nat)
 | rqs (p : Nat)
 | exs (p : Nat)
 | inb (p : Nat)
 | msg (p : Nat)
 | rcv (p : Nat)
 | crd (p : Nat)
 | rq (p no : Nat)
 | pcs (p no : Nat)
 | snt (p no : Nat)
deriving DecidableEq
structure Gh where
 B : Ro -> Nat
 S : Ro -> Value
 C : Ro -> Th
 ro : Nat -> Prop
def Gh.V (G : Gh) : Ro -> Value
 | .wd => ptr (G.B .wd)
 | .ways => .map (some (G.B .ways))
 | .pr p => ptr (G.B (.pr p))
 | .rqs p => .map (some (G.B (.rqs p)))
 | .exs p => .map (some (G.B (.exs p)))
 | .rq p no => ptr (G.B (.rq p no))
 | r => G.S r
def Gh.mut (G : Gh) (b : Nat) : Prop := ∃ r, G.C r ≠ .no /\ vbx (G.V r) = some b
structure Op (G : Gh) (h : AH) : Prop where
 here : ∀ r, At h (G.V r) (G.C r)
 inj : ∀ r r' b, G.C r ≠ .no -> G.C r' ≠ .no -> vbx (G.V r) = some b -> vbx (G.V r') = some b -> r = r'
 ro : ∀ b, G.mut b -> ¬ G.ro b
 rolt : ∀ b, G.ro b -> b < h.next
structure Gx (G : Gh) (h : AH) (G' : Gh) (h' : AH) : Prop where
 sm : Sm G.mut h h'
 mu : ∀ b, G'.mut b -> G.mut b ∨ h.next ≤ b
 ron : ∀ b, G'.ro b -> G.ro b ∨ h.next ≤ b
 rok : ∀ b, G.ro b -> G'.ro b
 keep : ∀ r, G.C r ≠ .no -> G'.C r ≠ .no /\ G'.B r = G.B r
 prs : G'.S .prs = G.S .prs
 fix : ∀ p no, G.C (.rq p no) ≠ .no -> G'.S (.pcs p no) = G.S (.pcs p no) /\ G'.S (.snt p no) = G.S (.snt p no)
section
variable {G G' G'' : Gh} {h h' h'' : AH} {S : Nat -> Prop} {r : Ro}
theorem Op.lt (O : Op G h) {b : Nat} (hb : G.mut b) : b < h.next := by
 obtain ⟨r, h1, h2⟩ := hb
 exact (O.here r).lt h1 h2
theorem Op.new (O : Op G h) {b : Nat} (hb : h.next ≤ b) : ¬ G.mut b := fun hm => by have := O.lt hm; omega
theorem Op.newr (O : Op G h) {b : Nat} (hb : h.next ≤ b) : ¬ G.ro b := fun hm => by have := O.rolt b hm; omega
theorem Op.sm (O : Op G h) (s : Sm S h h') (hS : ∀ b, S b -> ¬ G.mut b) : Op G h' :=
 ⟨fun r => by
  by_cases e : G.C r = .no
  . rw [e]; trivial
  . exact (O.here r).sm s (fun b hb hs => hS b hs ⟨r, e, hb⟩), O.inj, O.ro, fun b hb => Nat.lt_of_lt_of_le (O.rolt b hb) s.nx⟩
theorem Op.ext (O : Op G h) (s : Sm Nix h h') : Op G h' := O.sm s (fun _ x => x.elim)
theorem Gx.refl : Gx G h G h := ⟨.refl, fun _ x => .inl x, fun _ x => .inl x, fun _ x => x, fun _ x => ⟨x, rfl⟩, rfl, fun _ _ _ => ⟨rfl, rfl⟩⟩
theorem Gx.trans (X : Gx G h G' h') (Y : Gx G' h' G'' h'') : Gx G h G'' h'' :=
 ⟨X.sm.trans Y.sm X.mu, fun b hb => (Y.mu b hb).elim (X.mu b) (fun x => .inr (Nat.le_trans X.sm.nx x)), fun b hb => (Y.ron b hb).elim (X.ron b) (fun x => .inr (Nat.le_trans X.sm.nx x)), fun b hb => Y.rok b (X.rok b hb),
  fun r hr => ⟨(Y.keep r (X.keep r hr).1).1, ((Y.keep r (X.keep r hr).1).2).trans (X.keep r hr).2⟩, Y.prs.trans X.prs, fun p no hr => ⟨(Y.fix p no (X.keep _ hr).1).1.trans (X.fix p no hr).1, (Y.fix p no (X.keep _ hr).1).2.trans (X.fix p no hr).2⟩⟩
theorem Gx.ext (X : Gx G h G' h') (s : Sm Nix h' h'') : Gx G h G' h'' := ⟨X.sm.ext s, X.mu, X.ron, X.rok, X.keep, X.prs, X.fix⟩
theorem Gx.of (s : Sm Nix h h') : Gx G h G h' := ⟨s.of, fun _ x => .inl x, fun _ x => .inl x, fun _ x => x, fun _ x => ⟨x, rfl⟩, rfl, fun _ _ _ => ⟨rfl, rfl⟩⟩
def Gh.put (G : Gh) (r : Ro) (b : Nat) (v : Value) (x : Th) : Gh := ⟨ups G.B r b, ups G.S r v, ups G.C r x, G.ro⟩
theorem qz0 {b : Nat} {v : Value} {x : Th} {r' : Ro} (hr : r' ≠ r) : (G.put r b v x).V r' = G.V r' := by
 cases r' <;> simp [Gh.V, Gh.put, z7 _ _ hr]
theorem F9 {b : Nat} {v : Value} {x : Th} {r' : Ro} (hr : r' ≠ r) : (G.put r b v x).C r' = G.C r' := z7 _ _ hr
theorem C_at {b : Nat} {v : Value} {x : Th} : (G.put r b v x).C r = x := j0 _ _ _
theorem Op.put (O : Op G h) (r : Ro) {b : Nat} {v : Value} {x : Th} (hx : x ≠ .no) (s : Sm S h h') (hS : ∀ c, S c -> (G.C r ≠ .no /\ vbx (G.V r) = some c) ∨ h.next ≤ c)
   (A : At h' ((G.put r b v x).V r) x) (hv : ∀ c, vbx ((G.put r b v x).V r) = some c -> (G.C r ≠ .no /\ vbx (G.V r) = some c) ∨ h.next ≤ c)
   (hk : G.C r ≠ .no -> b = G.B r) (hp : r = .prs -> v = G.S .prs) (hf : ∀ p no, r = .pcs p no ∨ r = .snt p no -> G.C (.rq p no) ≠ .no -> v = G.S r) : Op (G.put r b v x) h' /\ Gx G h (G.put r b v x) h' := by
 have hother : ∀ r', r' ≠ r -> ∀ c, G.C r' ≠ .no -> vbx (G.V r') = some c -> ¬ S c := fun r' hr c hc hb hs => by
   rcases hS c hs with ⟨e1, e2⟩ | e
   . exact hr (O.inj _ _ _ hc e1 hb e2)
   . exact O.new e ⟨r', hc, hb⟩
 have hmu : ∀ c, (G.put r b v x).mut c -> G.mut c ∨ h.next ≤ c := by
   rintro c ⟨r', h1, h2⟩
   by_cases e : r' = r
   . subst e
     exact (hv c h2).imp (fun y => ⟨_, y.1, y.2⟩) id
   . rw [F9 e] at h1; rw [qz0 e] at h2; exact .inl ⟨r', h1, h2⟩
 refine ⟨⟨fun r' => ?_, fun r' r'' c h1 h2 h3 h4 => ?_, fun c hc hr => ?_, fun c hc => ?_⟩, ⟨⟨s.nx, fun c hc hn => s.get c hc fun hs => ?_⟩, hmu, fun c hc => .inl hc, fun c hc => hc, fun r' hr => ?_, ?_, fun p no hr => ?_⟩⟩
 . by_cases e : r' = r
   . subst e; rw [C_at]; exact A
   . rw [qz0 e, F9 e]
     by_cases e2 : G.C r' = .no
     . rw [e2]; trivial
     . exact (O.here r').sm s (fun c hb => hother r' e c e2 hb)
 . by_cases e : r' = r
   . by_cases e2 : r'' = r
     . rw [e, e2]
     . subst e
       rw [F9 e2] at h2; rw [qz0 e2] at h4
       rcases hv c h3 with ⟨q1, q2⟩ | q
       . exact O.inj _ _ _ q1 h2 q2 h4
       . exact (O.new q ⟨_, h2, h4⟩).elim
   . rw [F9 e] at h1; rw [qz0 e] at h3
     by_cases e2 : r'' = r
     . subst e2
       rcases hv c h4 with ⟨q1, q2⟩ | q
       . exact O.inj _ _ _ h1 q1 h3 q2
       . exact (O.new q ⟨_, h1, h3⟩).elim
     . rw [F9 e2] at h2; rw [qz0 e2] at h4
       exact O.inj _ _ _ h1 h2 h3 h4
 . rcases hmu c hc with q | q
   . exact O.ro c q hr
   . exact O.newr q hr
 . exact Nat.lt_of_lt_of_le (O.rolt c hc) s.nx
 . rcases hS c hs with q | q
   . exact hn ⟨r, q.1, q.2⟩
   . omega
 . by_cases e : r' = r
   . subst e
     refine ⟨by rw [C_at]; exact hx, ?_⟩
     show ups G.B r' b r' = _
     rw [j0]; exact hk hr
   . refine ⟨by rw [F9 e]; exact hr, ?_⟩
     show ups G.B r b r' = _
     rw [z7 _ _ e]
 . show ups G.S r v .prs = _
   by_cases e : Ro.prs = r
   . subst e; rw [j0]; exact hp rfl
   . rw [z7 _ _ e]
 . have key : ∀ r', r' = .pcs p no ∨ r' = .snt p no -> ups G.S r v r' = G.S r' := fun r' h1 => by
     by_cases e : r' = r
     . subst e; rw [j0]; exact hf p no h1 hr
     . rw [z7 _ _ e]
   exact ⟨key _ (.inl rfl), key _ (.inr rfl)⟩
def Gh.putC (G : Gh) (r : Ro) (x : Th) : Gh := ⟨G.B, G.S, ups G.C r x, G.ro⟩
def Gh.putS (G : Gh) (r : Ro) (v : Value) (x : Th) : Gh := ⟨G.B, ups G.S r v, ups G.C r x, G.ro⟩
def Gh.putB (G : Gh) (r : Ro) (b : Nat) (x : Th) : Gh := ⟨ups G.B r b, G.S, ups G.C r x, G.ro⟩
theorem jg7 (x : Th) : G.put r (G.B r) (G.S r) x = G.putC r x := by unfold Gh.put Gh.putC; rw [zq3, zq3]
theorem qj4 (v : Value) (x : Th) : G.put r (G.B r) v x = G.putS r v x := by unfold Gh.put Gh.putS; rw [zq3]
theorem xv4 (b : Nat) (x : Th) : G.put r b (G.S r) x = G.putB r b x := by unfold Gh.put Gh.putB; rw [zq3]
theorem uk8 {x : Th} {r' : Ro} : (G.putC r x).V r' = G.V r' := by cases r' <;> rfl
theorem Op.putC (O : Op G h) (r : Ro) {x : Th} (hx : x ≠ .no) (h0 : G.C r ≠ .no) (s : Sm S h h') (hS : ∀ c, S c -> vbx (G.V r) = some c) (A : At h' (G.V r) x) : Op (G.putC r x) h' /\ Gx G h (G.putC r x) h' := by
 have := O.put r (b := G.B r) (v := G.S r) (x := x) hx s (fun c hc => .inl ⟨h0, hS c hc⟩) (by rw [jg7, uk8]; exact A) (fun c hc => by rw [jg7, uk8] at hc; exact .inl ⟨h0, hc⟩) (fun _ => rfl) (fun e => by rw [e]) (fun _ _ _ _ => rfl)
 rw [jg7] at this
 exact this
theorem Op.putS (O : Op G h) (r : Ro) (v : Value) {x : Th} (hx : x ≠ .no) (h0 : G.C r ≠ .no) (hV : ∀ G : Gh, G.V r = G.S r) (hr : r ≠ .prs) (s : Sm S h h') (hS : ∀ c, S c -> vbx (G.S r) = some c ∨ h.next ≤ c) (A : At h' v x) (hv : ∀ c, vbx v = some c -> vbx (G.S r) = some c ∨ h.next ≤ c) (hps : ∀ p no, r ≠ .pcs p no /\ r ≠ .snt p no := by exact fun p no => ⟨(fun e => by cases e), (fun e => by cases e)⟩) : Op (G.putS r v x) h' /\ Gx G h (G.putS r v x) h' := by
 have e : (G.putS r v x).V r = v := by rw [hV]; exact j0 _ _ _
 have := O.put r (b := G.B r) (v := v) (x := x) hx s (fun c hc => (hS c hc).imp (fun y => ⟨h0, by rw [hV]; exact y⟩) id) (by rw [qj4, e]; exact A) (fun c hc => by rw [qj4, e] at hc; exact (hv c hc).imp (fun y => ⟨h0, by rw [hV]; exact y⟩) id) (fun _ => rfl) (fun e => (hr e).elim) (fun p no h1 => h1.elim (fun e => ((hps p no).1 e).elim) (fun e => ((hps p no).2 e).elim))
 rw [qj4] at this
 exact this
def Gh.more (G : Gh) (Q : Nat -> Prop) : Gh := ⟨G.B, G.S, G.C, fun b => G.ro b ∨ Q b⟩
theorem qw3 {Q : Nat -> Prop} (r : Ro) : (G.more Q).V r = G.V r := by cases r <;> rfl
theorem Op.more (O : Op G h) {Q : Nat -> Prop} (s : Sm Nix h h') (h1 : ∀ b, Q b -> h.next ≤ b) (h2 : ∀ b, Q b -> b < h'.next) : Op (G.more Q) h' /\ Gx G h (G.more Q) h' := by
 have O' := O.ext s
 refine ⟨⟨fun r => by rw [qw3]; exact O'.here r, fun r r' b a1 a2 a3 a4 => O.inj r r' b a1 a2 (by rw [qw3] at a3; exact a3) (by rw [qw3] at a4; exact a4), fun b hb hr => ?_, fun b hb => hb.elim (O'.rolt b) (h2 b)⟩,
   ⟨s.of, fun b hb => .inl ?_, fun b hb => hb.imp id (h1 b), fun b hb => .inl hb, fun r hr => ⟨hr, rfl⟩, rfl, fun _ _ _ => ⟨rfl, rfl⟩⟩⟩
 . obtain ⟨r, q1, q2⟩ := hb
   rw [qw3] at q2
   rcases hr with hr | hr
   . exact O.ro b ⟨r, q1, q2⟩ hr
   . exact O.new (h1 b hr) ⟨r, q1, q2⟩
 . obtain ⟨r, q1, q2⟩ := hb
   rw [qw3] at q2
   exact ⟨r, q1, q2⟩
end
end
end Go.Arm
namespace Go.Arm
noncomputable section
open Go Go.X
def Rb (h : AH) (v : Value) (cs : List Value) : Prop :=
 (cs = [] /\ ∃ a c, v = .slice a 0 c /\ (a = none -> c = 0) /\ ∀ q, a = some q -> q.block < h.next) ∨
  ∃ b o c, cs ≠ [] /\ c ≠ 0 /\ v = .slice (some ⟨b, o, none⟩) cs.length c /\ b < h.next /\ ∀ j, j < cs.length -> h.cell ⟨b, o + j, none⟩ = cs[j]?
def Cut (h : AH) (v : Value) (n : Nat) : Prop := n = 0 ∨ ∃ b o nn, v = .slice (some ⟨b, o, none⟩) n u7 /\ b < h.next /\ X.opOf h b = some (nn, 1) /\ o + n ≤ nn
section
variable {P : Program} {h h' : AH} {S : Nat -> Prop} {v : Value} {cs : List Value} {n : Nat} {T el : TypeId}
theorem yy3 (s : Sm S h h') {b o : Nat} (hl : b < h.next) (hb : ¬ S b) : h'.cell ⟨b, o, none⟩ = h.cell ⟨b, o, none⟩ := by
 unfold AH.cell
 simp only [s.get b hl hb]
theorem Rb.sm (H : Rb h v cs) (s : Sm S h h') (hb : ∀ b, vb v = some b -> ¬ S b) : Rb h' v cs := by
 rcases H with ⟨h0, a, c, e, h1, h2⟩ | ⟨b, o, c, h0, h1, rfl, h2, h3⟩
 . exact .inl ⟨h0, a, c, e, h1, fun q hq => Nat.lt_of_lt_of_le (h2 q hq) s.nx⟩
 . exact .inr ⟨b, o, c, h0, h1, rfl, Nat.lt_of_lt_of_le h2 s.nx, fun j hj => by rw [yy3 s h2 (hb b rfl)]; exact h3 j hj⟩
theorem Rb.ext (H : Rb h v cs) (s : Sm Nix h h') : Rb h' v cs := H.sm s fun _ _ x => x
theorem Cut.sm (H : Cut h v n) (s : Sm S h h') (hb : ∀ b, vb v = some b -> ¬ S b) : Cut h' v n := by
 rcases H with h0 | ⟨b, o, nn, rfl, h2, h3, h4⟩
 . exact .inl h0
 . refine .inr ⟨b, o, nn, rfl, Nat.lt_of_lt_of_le h2 s.nx, ?_, h4⟩
   unfold X.opOf at h3 ⊢
   rw [s.get b h2 (hb b rfl)]; exact h3
theorem Rb.nil : Rb h (.slice none 0 0) [] := .inl ⟨rfl, none, 0, rfl, fun _ => rfl, fun q hq => by cases hq⟩
theorem Rb.form (H : Rb h v cs) : ∃ a c, v = .slice a cs.length c := by
 rcases H with ⟨h0, a, c, e, h1, h2⟩ | ⟨b, o, c, h0, h1, rfl, h2, h3⟩
 . subst h0; exact ⟨a, c, e⟩
 . exact ⟨_, c, rfl⟩
theorem Rb.lt (H : Rb h v cs) {b : Nat} (hb : vb v = some b) : b < h.next := by
 rcases H with ⟨h0, a, c, rfl, h1, h2⟩ | ⟨b', o, c, h0, h1, rfl, h2, h3⟩
 . cases a with
   | none => cases hb
   | some q => cases hb; exact h2 q rfl
 . cases hb; exact h2
theorem Rb.len (H : Rb h v cs) (hT : P.underlying T = some (.slice el)) : aLen P T v h = some (.int .i64 cs.length) := by
 obtain ⟨a, c, rfl⟩ := H.form
 unfold aLen
 simp only [hT]
theorem Rb.lenA (H : Rb h v cs) (hT : P.underlying T = some (.slice el)) (h' : AH) : aLen P T v h' = some (.int .i64 cs.length) := by
 obtain ⟨a, c, rfl⟩ := H.form
 unfold aLen
 simp only [hT]
theorem xw8 {b o : Nat} : ∀ (l : List Value) (i : Nat), (∀ j, j < l.length -> h.cell ⟨b, o + (i + j), none⟩ = l[j]?) -> h.cells ⟨b, o, none⟩ i l.length = some l
 | [], i, _ => rfl
 | x :: l, i, hl => by
  have ih := xw8 l (i + 1) (fun j hj => by
   have := hl (j + 1) (by simpa using hj)
   rw [show i + 1 + j = i + (j + 1) by omega]
   simpa using this)
  have h0 : h.cell ⟨b, o + i, none⟩ = some x := hl 0 (by simp)
  show h.cells ⟨b, o, none⟩ i (l.length + 1) = _
  unfold AH.cells
  dsimp only
  rw [h0, ih]
theorem Rb.first (H : Rb h v cs) : aFirst 1 cs.length v h = some cs := by
 rcases H with ⟨h0, a, c, rfl, h1, h2⟩ | ⟨b, o, c, h0, h1, rfl, h2, h3⟩
 . subst h0
   cases a with
   | none => rfl
   | some q => simp [aFirst]
 . unfold aFirst
   dsimp only
   have hp : 0 < cs.length := List.length_pos_iff.2 h0
   rw [if_neg (by omega), if_neg (by omega), Nat.mul_one]
   exact xw8 cs 0 (fun j hj => by rw [Nat.zero_add]; exact h3 j hj)
theorem Sd.rb (H : Sd h 1 v n cs) : Rb h v cs := by
 have hn : cs.length = n := by have := H.1; omega
 rcases H.2 with ⟨h0, a, c, rfl, h1, h2⟩ | ⟨b, o, c, cc, nn, op, ro, h0, h1, rfl, h2, h3, h4, h5⟩
 . exact .inl ⟨List.length_eq_zero_iff.1 (by omega), a, c, rfl, h1, h2⟩
 . refine .inr ⟨b, o, c, fun e => by subst e; simp at hn; omega, h1, by rw [hn], h2, fun j hj => ?_⟩
   unfold AH.cell
   simp only [h3]
   rw [if_pos (by omega)]; exact h5 j hj
theorem ju3 {sT xT : TypeId} {by_ : Nat} {z u : Value} {a : Addr} (hT : P.underlying sT = some (.slice el)) (hx : newsK P xT = .list) (hs : szOf P el = some 1) (hb : byOf P el = some by_) (hz : zeroOf P el = some z) (hzl : (cellsL z).length = 1) (hu8 : isU8 P el = some el)
   (hu : Rb h u cs) (h1 : ∀ x, x ∈ cs -> x.oneCell' = true) (hlim : cs.length * (by_ + 1) < 1099511627776) (ha : a.block < h.next) :
   ∃ v' h', aAppend P sT xT (.slice (some a) 0 0) u h = some (v', h') /\ Rb h' v' cs /\ Cut h' v' cs.length /\ Sm Nix h h' /\ (∀ b, vb v' = some b -> b = a.block ∨ b = h.next) /\ (∃ a n c, v' = .slice (some a) n c) /\ ∀ b, vb v' = some b -> b < h'.next := by
 have hf := hu.first
 obtain ⟨ua, uc, rfl⟩ := hu.form
 by_cases h0 : cs = []
 . subst h0
   refine ⟨.slice (some a) 0 0, h, ?_, .inl ⟨rfl, _, _, rfl, (fun e => by cases e), fun q hq => by cases hq; exact ha⟩, .inl rfl, .refl, fun b hb => by cases hb; exact .inl rfl, ⟨_, _, _, rfl⟩, fun b hb => by cases hb; exact ha⟩
   unfold aAppend
   simp only [hT, hs, hb, hz]
   unfold aNews
   have hlen : X.lenV (.slice ua ([] : List Value).length uc) = some 0 := rfl
   have hf : aFirst 1 0 (.slice ua ([] : List Value).length uc) h = some [] := hf
   simp only [hx, hlen, hf]
   have hl0 : X.lenV (.slice (some a) 0 0) = some 0 := rfl
   simp only [hl0]
   rw [if_pos ⟨hzl, rfl, rfl, by omega⟩]
   unfold aAppendTo
   dsimp only
   rw [if_neg (show ¬ (0 : Nat) = u7 by decide), if_pos (by omega), if_pos rfl]
 . have hp : 0 < cs.length := List.length_pos_iff.2 h0
   refine ⟨.slice (some ⟨h.next, 0, none⟩) cs.length u7, ⟨h.m.set h.next (some (.tcells el (T.fill cs 0 .e) cs.length 1)), h.next + 1⟩, ?_, .inr ⟨h.next, 0, u7, h0, qq2, rfl, Nat.lt_succ_self _, fun j hj => ?_⟩, .inr ⟨h.next, 0, cs.length, rfl, Nat.lt_succ_self _, ?_, by omega⟩, ⟨Nat.le_succ _, fun k hk _ => ?_⟩,
     fun b hb => by cases hb; exact .inr rfl, ⟨_, _, _, rfl⟩, fun b hb => by cases hb; exact Nat.lt_succ_self _⟩
   . unfold aAppend
     simp only [hT, hs, hb, hz]
     unfold aNews
     have hlen : X.lenV (.slice ua cs.length uc) = some cs.length := rfl
     simp only [hx, hlen, hf]
     have hl0 : X.lenV (.slice (some a) 0 0) = some 0 := rfl
     simp only [hl0]
     rw [if_pos ⟨hzl, by omega, by rw [List.all_eq_true]; exact h1, by rw [Nat.zero_add]; exact hlim⟩]
     unfold aAppendTo
     dsimp only
     rw [if_neg (show ¬ (0 : Nat) = u7 by decide), if_neg (by omega), if_pos rfl]
     unfold AH.newo
     rw [hu8]
     simp [mkO]
   . unfold AH.cell
     dsimp only
     rw [X.T.get_set, if_pos rfl]
     dsimp only
     rw [if_pos (by omega), X.T.get_fill, if_pos (by omega)]; simp
   . unfold X.opOf
     dsimp only
     rw [X.T.get_set, if_pos rfl]
   . show (h.m.set h.next _).get k = _
     rw [X.T.get_set, if_neg (by omega)]
theorem Rb.cut (H : Rb h v cs) (t : Cut h v cs.length) (hT : P.underlying T = some (.slice el)) (hk : szOf P el = some 1) {m : Nat} (hm : m < cs.length) (kd : IntKind) :
   ∃ v', (∀ h' : AH, (∀ b, vb v = some b -> h'.m.get b = h.m.get b) -> aSl P T v none (some (.int kd (m : Nat))) none h' = some v') /\ Rb h v' (cs.take m) /\ Cut h v' (cs.take m).length /\ vb v' = vb v := by
 rcases t with h0 | ⟨b, o, nn, rfl, h2, h3, h4⟩
 . omega
 . rcases H with ⟨h0, _⟩ | ⟨b', o', c, h0, h1, e, h5, h6⟩
   . subst h0; simp at hm
   . cases e
     have hlm : (cs.take m).length = m := by rw [List.length_take]; omega
     refine ⟨.slice (some ⟨b, o, none⟩) m u7, ?_, ?_, ?_, rfl⟩
     . intro h' hg
       have h3 : X.opOf h' b = some (nn, 1) := by unfold X.opOf at h3 ⊢; rw [hg b rfl]; exact h3
       have : aSlice P T (.slice (some ⟨b, o, none⟩) cs.length u7) none (some (.int kd (m : Nat))) none h' = some (.slice (some ⟨b, o, none⟩) m u7) := by
         unfold aSlice
         rw [if_pos (show mxOk (some (.int kd (m : Nat))) none = true from rfl)]
         simp only [hT, hk, if_true]
         have e1 : bnd (some (.int kd (m : Nat))) cs.length = some m := by unfold bnd; simp
         have e2 : bnd none 0 = some 0 := rfl
         simp only [e1, e2, h3]
         rw [if_pos ⟨by omega, trivial, .inl (by omega)⟩]
         simp
       unfold aSl
       rw [this]
     . by_cases hm0 : m = 0
       . subst hm0
         exact .inl ⟨by simp, _, _, rfl, (fun e => by cases e), fun q hq => by cases hq; exact h5⟩
       . refine .inr ⟨b, o, u7, fun e => ?_, qq2, by rw [hlm], h5, fun j hj => ?_⟩
         . rw [e] at hlm; simp at hlm; omega
         . rw [hlm] at hj
           rw [h6 j (by omega), List.getElem?_take, if_pos hj]
     . rw [hlm]
       exact .inr ⟨b, o, nn, rfl, h2, h3, by omega⟩
end
end
end Go.Arm
namespace Go.Arm
noncomputable section
open Go Go.X Go.Mt
class Tys where
 e : TypeId
 a : TypeId
 c : TypeId
 l : TypeId
 b : TypeId
 p : TypeId
def bv (x : UInt8) : Value := .int .u8 x.toNat
def nilS : Value := .slice none 0 0
def Dr (h : AH) (ro : Nat -> Prop) (v : Value) (d : By) : Prop := Rb h v (d.map bv) /\ ∀ b, vb v = some b -> ro b
inductive Ls {α : Type} (R : α -> List Value -> Prop) (k : Nat) : List α -> List Value -> Prop
 | nil : Ls R k [] []
 | cons {x : α} {l : List α} {c cs : List Value} (h : R x c) (hc : c.length = k) (t : Ls R k l cs) : Ls R k (x :: l) (c ++ cs)
section
variable {α : Type} {R R' : α -> List Value -> Prop} {k : Nat} {l m : List α} {cs ds : List Value}
theorem Ls.mono (H : Ls R k l cs) (h : ∀ x c, R x c -> R' x c) : Ls R' k l cs := by
 induction H with
 | nil => exact .nil
 | cons h1 h2 _ ih => exact .cons (h _ _ h1) h2 ih
theorem Ls.app (H : Ls R k l cs) (K : Ls R k m ds) : Ls R k (l ++ m) (cs ++ ds) := by
 induction H with
 | nil => exact K
 | cons h1 h2 _ ih => rw [List.cons_append, List.append_assoc]; exact .cons h1 h2 ih
theorem Ls.one {x : α} {c : List Value} (h : R x c) (hc : c.length = k) : Ls R k [x] c := by
 have := Ls.cons h hc (Ls.nil (R := R) (k := k))
 rwa [List.append_nil] at this
theorem Ls.get (H : Ls R k l cs) : ∀ {i : Nat} {x : α}, l[i]? = some x -> ∃ c, R x c /\ c.length = k /\ ∀ j, j < k -> cs[i * k + j]? = c[j]? := by
 induction H with
 | nil => intro i x h; simp at h
 | @cons x l c cs h1 h2 _ ih =>
  intro i y h
  cases i with
  | zero =>
   simp at h; subst h
   refine ⟨c, h1, h2, fun j hj => ?_⟩
   rw [Nat.zero_mul, Nat.zero_add, List.getElem?_append_left (by omega)]
  | succ i =>
   obtain ⟨c', a1, a2, a3⟩ := ih (i := i) (x := y) (by simpa using h)
   refine ⟨c', a1, a2, fun j hj => ?_⟩
   rw [Nat.succ_mul, List.getElem?_append_right (by omega), <- a3 j hj]
   congr 1; omega
theorem Ls.tail {x : α} (H : Ls R k (x :: l) cs) : ∃ c, R x c /\ c.length = k /\ cs = c ++ cs.drop k /\ Ls R k l (cs.drop k) := by
 cases H with
 | @cons _ _ c cs' h1 h2 t =>
  have : (c ++ cs').drop k = cs' := by rw [<- h2]; simp
  rw [this]
  exact ⟨c, h1, h2, rfl, t⟩
theorem Ls.erase (H : Ls R k l cs) : ∀ (i : Nat), i < l.length -> Ls R k (l.eraseIdx i) (cs.take (i * k) ++ cs.drop (i * k + k)) := by
 induction H with
 | nil => intro i hi; simp at hi
 | @cons x l c cs h1 h2 t ih =>
  intro i hi
  cases i with
  | zero =>
   have : (c ++ cs).drop k = cs := by rw [<- h2]; simp
   rw [Nat.zero_mul, Nat.zero_add, List.take_zero, List.nil_append, this]
   exact t
  | succ i =>
   have := ih i (by simpa using hi)
   rw [List.eraseIdx_cons_succ, Nat.succ_mul, show i * k + k = c.length + i * k by omega, List.take_length_add_append, show c.length + i * k + k = c.length + (i * k + k) by omega, List.drop_length_add_append, List.append_assoc]
   exact .cons h1 h2 this
end
variable [Tys]
def PkV (h : AH) (ro : Nat -> Prop) (v : Value) : Pk -> Prop
 | .eager e d => ∃ dv, Dr h ro dv d /\ v = .iface Tys.e (.agg ⟨[nv e.src, nv e.ctx, nv e.tag, nv e.size, nv e.parts, dv]⟩)
 | .ask e q => v = .iface Tys.a (.agg ⟨[nv e.src, nv e.ctx, nv e.tag, nv e.size, nv e.parts, nv q]⟩)
 | .credit => v = .iface Tys.c (.agg ⟨[]⟩)
 | .clear q => v = .iface Tys.l (.agg ⟨[nv q]⟩)
 | .body q d => ∃ dv, Dr h ro dv d /\ v = .iface Tys.b (.agg ⟨[nv q, dv]⟩)
 | .part q i d => ∃ dv, Dr h ro dv d /\ (∃ a n c, dv = .slice (some a) n c) /\ v = .iface Tys.p (.agg ⟨[nv q, nv i, dv]⟩)
def MsV (h : AH) (ro : Nat -> Prop) (v : Value) : Ms -> Prop
 | .eager e d => PkV h ro v (.eager e d)
 | .ask e q => PkV h ro v (.ask e q)
def RPk (h : AH) (ro : Nat -> Prop) (x : Pk) (c : List Value) : Prop := ∃ v, PkV h ro v x /\ c = [v]
def RAr (h : AH) (ro : Nat -> Prop) (x : Int × Pk) (c : List Value) : Prop := ∃ v, PkV h ro v x.2 /\ c = [nv x.1, v]
def RMs (h : AH) (ro : Nat -> Prop) (x : Ms) (c : List Value) : Prop := ∃ v, MsV h ro v x /\ c = [nv x.en.src, nv x.en.ctx, nv x.en.tag, nv x.en.size, nv x.en.parts, v]
def RPc (h : AH) (ro : Nat -> Prop) (x : Option By) (c : List Value) : Prop := ∃ v, c = [v] /\ match x with
 | none => v = nilS
 | some d => Dr h ro v d /\ ∃ a n c, v = .slice (some a) n c
def prC (next : Nat) (G : Gh) (p : Nat) : List Value := [nk next, .map (some (G.B (.rqs p))), .map (some (G.B (.exs p))), G.S (.inb p), G.S (.msg p), G.S (.rcv p), G.S (.crd p)]
def rqC (G : Gh) (dv : Value) (p no : Nat) (r : Rq) : List Value :=
 [nk r.no, nv r.peer, nv r.ctx, nv r.tag, nv r.room, .bool r.send, .bool r.sync, .bool r.pers, .bool r.act, .bool r.done, nk r.parts, nk r.size, dv, G.S (.pcs p no), nk r.gone, G.S (.snt p no), .bool r.clr, nv r.st.src, nv r.st.tag, nv r.st.size, nv r.st.err]
theorem PkV.iface {h : AH} {ro : Nat -> Prop} {v : Value} {x : Pk} (H : PkV h ro v x) : ∃ ty u, v = .iface ty u := by
 cases x with
 | eager e d => obtain ⟨dv, _, rfl⟩ := H; exact ⟨_, _, rfl⟩
 | ask e q => exact ⟨_, _, H⟩
 | credit => exact ⟨_, _, H⟩
 | clear q => exact ⟨_, _, H⟩
 | body q d => obtain ⟨dv, _, rfl⟩ := H; exact ⟨_, _, rfl⟩
 | part q i d => obtain ⟨dv, _, _, rfl⟩ := H; exact ⟨_, _, rfl⟩
theorem MsV.iface {h : AH} {ro : Nat -> Prop} {v : Value} {x : Ms} (H : MsV h ro v x) : ∃ ty u, v = .iface ty u := by
 cases x with
 | eager e d => exact PkV.iface (x := .eager e d) H
 | ask e q => exact PkV.iface (h := h) (ro := ro) (x := .ask e q) H
theorem Ls.oneMs {h : AH} {ro : Nat -> Prop} {l : List Ms} {cs : List Value} (H : Ls (RMs h ro) 6 l cs) : ∀ x, x ∈ cs -> x.oneCell' = true := by
 induction H with
 | nil => intro x hx; cases hx
 | cons h1 h2 _ ih =>
  intro x hx
  rcases List.mem_append.1 hx with hx | hx
  . obtain ⟨v, hv, rfl⟩ := h1
    obtain ⟨ty, u, rfl⟩ := hv.iface
    exact List.all_eq_true.1 (rfl : ([nv _, nv _, nv _, nv _, nv _, Value.iface ty u] : List Value).all (·.oneCell') = true) x hx
  . exact ih x hx
structure RelP (x : Pr) (q : Nat -> Rq) (G : Gh) (h : AH) (p : Nat) : Prop where
 pr : G.C (.pr p) = .cl (prC x.next G p)
 rqs : G.C (.rqs p) = .mi (x.reqs.map fun (k : Nat) => ((k : Int), ptr (G.B (.rq p k))))
 rqp : ∀ k, k ∈ x.reqs -> G.C (.rq p k) ≠ .no
 exs : G.C (.exs p) = .mp (x.exps.map fun e => (e.1, ptr (G.B (.rq p e.2))))
 exp : ∀ e, e ∈ x.exps -> G.C (.rq p e.2) ≠ .no
 inb : ∃ cs, G.C (.inb p) = .gr 2 x.inb.length cs /\ Ls (RAr h G.ro) 2 x.inb cs
 msg : ∃ cs, G.C (.msg p) = .gr 6 x.msgs.length cs /\ Ls (RMs h G.ro) 6 x.msgs cs
 rcv : G.C (.rcv p) = .gr 1 x.rcvs.length (x.rcvs.map fun k => ptr (G.B (.rq p k)))
 rcp : ∀ k, k ∈ x.rcvs -> G.C (.rq p k) ≠ .no
 crd : G.C (.crd p) = .ws x.crds.length (x.crds.map nv)
 rq : ∀ no, G.C (.rq p no) ≠ .no -> ∃ dv, Dr h G.ro dv (q no).data /\ G.C (.rq p no) = .cl (rqC G dv p no (q no))
 pcs : ∀ no, G.C (.rq p no) ≠ .no -> ∃ cs, G.C (.pcs p no) = .ws (q no).pcs.length cs /\ Ls (RPc h G.ro) 1 (q no).pcs cs
 snt : ∀ no, G.C (.rq p no) ≠ .no -> G.C (.snt p no) = .ws (q no).sent.length ((q no).sent.map .bool)
 nxt : ∀ no, G.C (.rq p no) ≠ .no -> no < x.next
structure Rel (W : Wd) (G : Gh) (h : AH) : Prop where
 wd : G.C .wd = .cl [nv W.lim, G.S .prs, .map (some (G.B .ways))]
 prs : G.C .prs = .sd 1 W.n ((List.range W.n).map fun p => ptr (G.B (.pr p)))
 ways : ∃ m, G.C .ways = .mp m /\ (m.map (·.1)).Nodup /\ ∀ a b, (kget m (a, b)).getD nilS = G.S (.way a b)
 way : ∀ a b, ∃ cs, G.C (.way a b) = .gr 1 (W.way a b).length cs /\ Ls (RPk h G.ro) 1 (W.way a b) cs
 pr : ∀ p, p < W.n -> RelP (W.pr p) (W.rq p) G h p
structure Rep (W : Wd) (G : Gh) (h : AH) : Prop where
 op : Op G h
 rel : Rel W G h
section
variable {W : Wd} {G : Gh} {h h' : AH} {ro ro' : Nat -> Prop} {p no : Nat} {v : Value} {d : By}
omit [Tys] in
theorem Dr.mono (H : Dr h ro v d) (s : Sm G.mut h h') (hr : ∀ b, ro b -> ¬ G.mut b) (hro : ∀ b, ro b -> ro' b) : Dr h' ro' v d := ⟨H.1.sm s (fun b hb hm => hr b (H.2 b hb) hm), fun b hb => hro b (H.2 b hb)⟩
theorem PkV.mono {x : Pk} (H : PkV h ro v x) (f : ∀ v d, Dr h ro v d -> Dr h' ro' v d) : PkV h' ro' v x := by
 cases x with
 | eager e d => obtain ⟨dv, a, b⟩ := H; exact ⟨dv, f _ _ a, b⟩
 | ask e q => exact H
 | credit => exact H
 | clear q => exact H
 | body q d => obtain ⟨dv, a, b⟩ := H; exact ⟨dv, f _ _ a, b⟩
 | part q i d => obtain ⟨dv, a, b⟩ := H; exact ⟨dv, f _ _ a, b⟩
theorem MsV.mono {x : Ms} (H : MsV h ro v x) (f : ∀ v d, Dr h ro v d -> Dr h' ro' v d) : MsV h' ro' v x := by
 cases x with
 | eager e d => exact PkV.mono (x := .eager e d) H f
 | ask e q => exact PkV.mono (x := .ask e q) H f
theorem RPk.mono {x : Pk} {c : List Value} (H : RPk h ro x c) (f : ∀ v d, Dr h ro v d -> Dr h' ro' v d) : RPk h' ro' x c := by
 obtain ⟨v, a, b⟩ := H; exact ⟨v, a.mono f, b⟩
theorem RAr.mono {x : Int × Pk} {c : List Value} (H : RAr h ro x c) (f : ∀ v d, Dr h ro v d -> Dr h' ro' v d) : RAr h' ro' x c := by
 obtain ⟨v, a, b⟩ := H; exact ⟨v, a.mono f, b⟩
theorem RMs.mono {x : Ms} {c : List Value} (H : RMs h ro x c) (f : ∀ v d, Dr h ro v d -> Dr h' ro' v d) : RMs h' ro' x c := by
 obtain ⟨v, a, b⟩ := H; exact ⟨v, a.mono f, b⟩
omit [Tys] in
theorem RPc.mono {x : Option By} {c : List Value} (H : RPc h ro x c) (f : ∀ v d, Dr h ro v d -> Dr h' ro' v d) : RPc h' ro' x c := by
 obtain ⟨v, a, b⟩ := H
 refine ⟨v, a, ?_⟩
 cases x with
 | none => exact b
 | some d => exact ⟨f _ _ b.1, b.2⟩
theorem RelP.mono {x : Pr} {q : Nat -> Rq} {G' : Gh} (R : RelP x q G h p) (hB : G'.B = G.B) (hS : G'.S = G.S) (hC : G'.C = G.C) (f : ∀ v d, Dr h G.ro v d -> Dr h' G'.ro v d) : RelP x q G' h' p := by
 obtain ⟨B, S, C, ro⟩ := G
 obtain ⟨B', S', C', ro'⟩ := G'
 dsimp only at hB hS hC
 subst hB hS hC
 exact ⟨R.pr, R.rqs, R.rqp, R.exs, R.exp, by obtain ⟨cs, x, y⟩ := R.inb; exact ⟨cs, x, y.mono fun _ _ z => z.mono f⟩, by obtain ⟨cs, x, y⟩ := R.msg; exact ⟨cs, x, y.mono fun _ _ z => z.mono f⟩, R.rcv, R.rcp, R.crd,
  fun no hr => by obtain ⟨dv, x, y⟩ := R.rq no hr; exact ⟨dv, f _ _ x, y⟩, fun no hr => by obtain ⟨cs, x, y⟩ := R.pcs no hr; exact ⟨cs, x, y.mono fun _ _ z => z.mono f⟩, R.snt, R.nxt⟩
theorem Rel.mono {G' : Gh} (R : Rel W G h) (hB : G'.B = G.B) (hS : G'.S = G.S) (hC : G'.C = G.C) (f : ∀ v d, Dr h G.ro v d -> Dr h' G'.ro v d) : Rel W G' h' := by
 have hpr := fun p hp => (R.pr p hp).mono (G' := G') hB hS hC f
 obtain ⟨B, S, C, ro⟩ := G
 obtain ⟨B', S', C', ro'⟩ := G'
 dsimp only at hB hS hC
 subst hB hS hC
 exact ⟨R.wd, R.prs, R.ways, fun a b => by obtain ⟨cs, x, y⟩ := R.way a b; exact ⟨cs, x, y.mono fun _ _ z => z.mono f⟩, hpr⟩
theorem Rel.mono0 (R : Rel W G h) (f : ∀ v d, Dr h G.ro v d -> Dr h' G.ro v d) : Rel W G h' := R.mono rfl rfl rfl f
def Ro.of : Ro -> Option Nat
 | .pr p => some p
 | .rqs p => some p
 | .exs p => some p
 | .inb p => some p
 | .msg p => some p
 | .rcv p => some p
 | .crd p => some p
 | .rq p _ => some p
 | .pcs p _ => some p
 | .snt p _ => some p
 | _ => none
theorem RelP.congr {x : Pr} {q : Nat -> Rq} {G' : Gh} (R : RelP x q G h p) (hA : ∀ r, r.of = some p -> G'.C r = G.C r /\ G'.S r = G.S r /\ G'.B r = G.B r) (hr : G'.ro = G.ro) : RelP x q G' h p := by
 have hC : ∀ r, r.of = some p -> G'.C r = G.C r := fun r hr => (hA r hr).1
 have hS : ∀ r, r.of = some p -> G'.S r = G.S r := fun r hr => (hA r hr).2.1
 have hB : ∀ r, r.of = some p -> G'.B r = G.B r := fun r hr => (hA r hr).2.2
 have hpc : ∀ n, prC n G' p = prC n G p := fun n => by
   unfold prC
   rw [hB (.rqs p) rfl, hB (.exs p) rfl, hS (.inb p) rfl, hS (.msg p) rfl, hS (.rcv p) rfl, hS (.crd p) rfl]
 have hrc : ∀ dv no r, rqC G' dv p no r = rqC G dv p no r := fun dv no r => by
   unfold rqC
   rw [hS (.pcs p no) rfl, hS (.snt p no) rfl]
 have hbq : ∀ k, G'.B (.rq p k) = G.B (.rq p k) := fun k => hB _ rfl
 have hcq : ∀ k, G'.C (.rq p k) = G.C (.rq p k) := fun k => hC _ rfl
 refine ⟨?_, ?_, fun k hk => ?_, ?_, fun k hk => ?_, ?_, ?_, ?_, fun k hk => ?_, ?_, fun no hn => ?_, fun no hn => ?_, fun no hn => ?_, fun no hn => ?_⟩
 . rw [hC (.pr p) rfl, hpc]; exact R.pr
 . rw [hC (.rqs p) rfl]; simp only [hbq]; exact R.rqs
 . rw [hcq]; exact R.rqp k hk
 . rw [hC (.exs p) rfl]; simp only [hbq]; exact R.exs
 . rw [hcq]; exact R.exp k hk
 . rw [hC (.inb p) rfl, hr]; exact R.inb
 . rw [hC (.msg p) rfl, hr]; exact R.msg
 . rw [hC (.rcv p) rfl]; simp only [hbq]; exact R.rcv
 . rw [hcq]; exact R.rcp k hk
 . rw [hC (.crd p) rfl]; exact R.crd
 . rw [hcq] at hn ⊢
   obtain ⟨dv, a, b⟩ := R.rq no hn
   exact ⟨dv, by rw [hr]; exact a, by rw [hrc]; exact b⟩
 . rw [hcq] at hn
   rw [hC (.pcs p no) rfl, hr]; exact R.pcs no hn
 . rw [hcq] at hn
   rw [hC (.snt p no) rfl]; exact R.snt no hn
 . rw [hcq] at hn
   exact R.nxt no hn
omit [Tys] in
theorem Op.dr (O : Op G h) (s : Sm G.mut h h') : ∀ v d, Dr h G.ro v d -> Dr h' G.ro v d := fun _ _ H => H.mono s (fun b hb hm => O.ro b hm hb) (fun _ x => x)
theorem Rep.ext (R : Rep W G h) (s : Sm Nix h h') : Rep W G h' := ⟨R.op.ext s, R.rel.mono0 (R.op.dr s.of)⟩
theorem Rep.sm {S : Nat -> Prop} (R : Rep W G h) (s : Sm S h h') (hS : ∀ b, S b -> ¬ G.mut b /\ ¬ G.ro b) : Rep W G h' :=
 ⟨R.op.sm s fun b hb => (hS b hb).1, R.rel.mono0 fun _ _ H => ⟨H.1.sm s (fun b hb hs => (hS b hs).2 (H.2 b hb)), H.2⟩⟩
theorem Rep.wdL (R : Rep W G h) : Cl h (G.B .wd) [nv W.lim, G.S .prs, .map (some (G.B .ways))] := by
 have := R.op.here .wd
 rw [R.rel.wd] at this
 obtain ⟨b, e, c⟩ := this
 cases e; exact c
theorem Rep.prL (R : Rep W G h) (hp : p < W.n) : Cl h (G.B (.pr p)) (prC (W.pr p).next G p) := by
 have := R.op.here (.pr p)
 rw [(R.rel.pr p hp).pr] at this
 obtain ⟨b, e, c⟩ := this
 cases e; exact c
theorem Rep.rqL (R : Rep W G h) (hp : p < W.n) (hr : G.C (.rq p no) ≠ .no) : ∃ dv, Dr h G.ro dv (W.rq p no).data /\ Cl h (G.B (.rq p no)) (rqC G dv p no (W.rq p no)) := by
 have := R.op.here (.rq p no)
 obtain ⟨dv, h1, h2⟩ := (R.rel.pr p hp).rq no hr
 rw [h2] at this
 obtain ⟨b, e, c⟩ := this
 cases e; exact ⟨dv, h1, c⟩
theorem Rep.prsL (R : Rep W G h) : Sd h 1 (G.S .prs) W.n ((List.range W.n).map fun p => ptr (G.B (.pr p))) := by
 have := R.op.here .prs
 rw [R.rel.prs] at this
 exact this
theorem Rep.prsAt {P : Program} {T el : TypeId} (R : Rep W G h) (hT : P.underlying T = some (.slice el)) (hk : szOf P el = some 1) (hs : scalT P el = true) (hp : p < W.n) :
  ∃ b o, aIndex P T (G.S .prs) (.int .i64 p) = some (.pointer (some ⟨b, o, none⟩)) /\ aLoad P el ⟨b, o, none⟩ h = some (ptr (G.B (.pr p))) := by
 obtain ⟨b, o, _, h1, h2⟩ := R.prsL.at hT hk hp .i64
 refine ⟨b, o, h1, K5 hs ?_⟩
 have := h2 0 (by decide)
 rw [Nat.add_zero, Nat.mul_one, Nat.add_zero, List.getElem?_map, List.getElem?_range hp] at this
 exact this
theorem Rep.prsAt2 {P : Program} {T el : TypeId} (R : Rep W G h) (hT : P.underlying T = some (.slice el)) (hk : szOf P el = some 1) (hs : scalT P el = true) (hp : p < W.n) :
  ∃ b o, aIndex P T (G.S .prs) (.int .i64 p) = some (.pointer (some ⟨b, o, none⟩)) /\ aLoad P el ⟨b, o, none⟩ h = some (ptr (G.B (.pr p))) /\ vb (G.S .prs) = some b := by
 obtain ⟨b, o, hv, h1, h2⟩ := R.prsL.at hT hk hp .i64
 refine ⟨b, o, h1, K5 hs ?_, hv⟩
 have := h2 0 (by decide)
 rw [Nat.add_zero, Nat.mul_one, Nat.add_zero, List.getElem?_map, List.getElem?_range hp] at this
 exact this
theorem Rep.way (R : Rep W G h) (a b : Int) : ∃ cs, Gr h 1 (G.S (.way a b)) (W.way a b).length cs /\ Ls (RPk h G.ro) 1 (W.way a b) cs := by
 obtain ⟨cs, h1, h2⟩ := R.rel.way a b
 have := R.op.here (.way a b)
 rw [h1] at this
 exact ⟨cs, this, h2⟩
theorem Rep.inb (R : Rep W G h) (hp : p < W.n) : ∃ cs, Gr h 2 (G.S (.inb p)) (W.pr p).inb.length cs /\ Ls (RAr h G.ro) 2 (W.pr p).inb cs := by
 obtain ⟨cs, h1, h2⟩ := (R.rel.pr p hp).inb
 have := R.op.here (.inb p)
 rw [h1] at this
 exact ⟨cs, this, h2⟩
theorem Rep.msg (R : Rep W G h) (hp : p < W.n) : ∃ cs, Gr h 6 (G.S (.msg p)) (W.pr p).msgs.length cs /\ Ls (RMs h G.ro) 6 (W.pr p).msgs cs := by
 obtain ⟨cs, h1, h2⟩ := (R.rel.pr p hp).msg
 have := R.op.here (.msg p)
 rw [h1] at this
 exact ⟨cs, this, h2⟩
theorem Rep.rcv (R : Rep W G h) (hp : p < W.n) : Gr h 1 (G.S (.rcv p)) (W.pr p).rcvs.length ((W.pr p).rcvs.map fun k => ptr (G.B (.rq p k))) := by
 have := R.op.here (.rcv p)
 rw [(R.rel.pr p hp).rcv] at this
 exact this
theorem Rep.crd (R : Rep W G h) (hp : p < W.n) : Ws h 1 (G.S (.crd p)) (W.pr p).crds.length ((W.pr p).crds.map nv) := by
 have := R.op.here (.crd p)
 rw [(R.rel.pr p hp).crd] at this
 exact this
theorem Rep.rqs (R : Rep W G h) (hp : p < W.n) : Mp h (G.B (.rqs p)) nv Eq ((W.pr p).reqs.map fun (k : Nat) => ((k : Int), ptr (G.B (.rq p k)))) /\ Mb h (G.B (.rqs p)) := by
 have := R.op.here (.rqs p)
 rw [(R.rel.pr p hp).rqs] at this
 obtain ⟨b, e, c⟩ := this
 cases e; exact c
theorem Rep.exs (R : Rep W G h) (hp : p < W.n) : Mp h (G.B (.exs p)) k2 Eq ((W.pr p).exps.map fun e => (e.1, ptr (G.B (.rq p e.2)))) /\ Mb h (G.B (.exs p)) := by
 have := R.op.here (.exs p)
 rw [(R.rel.pr p hp).exs] at this
 obtain ⟨b, e, c⟩ := this
 cases e; exact c
theorem Rep.waysN (R : Rep W G h) : ∃ m, Mp h (G.B .ways) k2 Eq m /\ Mb h (G.B .ways) /\ G.C .ways = .mp m /\ (m.map (·.1)).Nodup /\ ∀ a b, (kget m (a, b)).getD nilS = G.S (.way a b) := by
 obtain ⟨m, h1, h2⟩ := R.rel.ways
 have := R.op.here .ways
 rw [h1] at this
 obtain ⟨b, e, c, d⟩ := this
 cases e; exact ⟨m, c, d, h1, h2⟩
theorem Rep.ways (R : Rep W G h) : ∃ m, Mp h (G.B .ways) k2 Eq m /\ Mb h (G.B .ways) /\ G.C .ways = .mp m /\ ∀ a b, (kget m (a, b)).getD nilS = G.S (.way a b) := by
 obtain ⟨m, a, b, c, d, e⟩ := R.waysN; exact ⟨m, a, b, c, e⟩
end
end
end Go.Arm
namespace Go.Proofs.YtjealfplbigphaaGreat
noncomputable section
open Go Go.X Go.Arm
end
end Go.Proofs.YtjealfplbigphaaGreat
namespace Go.Arm
open Go Go.X Go.Proofs Go.Proofs.YtjealfplbigphaaGreat
variable {S S' : Nat -> Prop} {h h' h'' : AH}
theorem Sm.tr (s : Sm S h h') (k : Sm S' h' h'') (hs : ∀ x, S' x -> S x ∨ h.next ≤ x := by
    intro x hx
    have hx : x = _ := hx
    first | exact .inr (by omega) | exact .inl (by subst hx; first | rfl | exact .inl rfl | exact .inr rfl | exact .inr (.inl rfl) | exact .inr (.inr rfl) | (show _ < _; omega))) : Sm S h h'' := s.trans k hs
variable {b : Nat} {l : List Value}
theorem Cl.sn (c : Cl h b l) (t : Sm S h h') (hn : ¬ S b := by (show ¬ _ = _); omega) : Cl h' b l := c.sm t hn
theorem Cl.sN (c : Cl h b l) (T : TypeId) (v : Value) (cs : List Value) (hl : l.length = cs.length := by exact rfl) (hz : szOf Tryz.prog T = some cs.length := by kernel_rfl) (hv : cellsL v = cs := by exact rfl) (h1 : ∀ v, v ∈ cs -> v.oneCell' = true := by exact List.all_eq_true.1 rfl) :
    ∃ h', aStore Tryz.prog T ⟨b, 0, none⟩ v h = some h' /\ Cl h' b cs /\ Sm (fun k => k = b) h h' /\ h'.next = h.next := Cl.storeN c hl hz hv rfl h1
theorem Cl.sA (c : Cl h b l) (T : TypeId) (cs : List Value) (hl : l.length = cs.length := by exact rfl) (hz : szOf Tryz.prog T = some cs.length := by kernel_rfl) (hv : cellsL (.agg ⟨cs⟩) = cs := by exact rfl) (h1 : ∀ v, v ∈ cs -> v.oneCell' = true := by exact List.all_eq_true.1 rfl) :
    ∃ h', aStore Tryz.prog T ⟨b, 0, none⟩ (.agg ⟨cs⟩) h = some h' /\ Cl h' b cs /\ Sm (fun k => k = b) h h' /\ h'.next = h.next := Cl.storeN c hl hz hv rfl h1
theorem Cl.s1 (c : Cl h b l) (T : TypeId) (o : Nat) (v : Value) (ho : o < l.length := by simp) (hz : szOf Tryz.prog T = some 1 := by kernel_rfl) (hv : cellsL v = [v] := by exact rfl) (h1 : v.oneCell' = true := by exact rfl) :
    ∃ h', aStore Tryz.prog T ⟨b, o, none⟩ v h = some h' /\ Cl h' b (l.set o v) /\ Sm (fun k => k = b) h h' /\ h'.next = h.next := c.store hz hv h1 ho
variable {P : Program} {n : Nat} {ops : Array Oper} {rest : List Oper} {o : Oper} {f : Fr} {Q : Post}
theorem Q1 [Kn P] (l : List Value) (mk : Mk) (hs : okO n o = true) (hk : kOp o.op = 0) (ha : evAl P n f o.op = some (.cells l, mk))
    (k : ∀ h', Cl h' h.next l -> Sm Nix h h' -> h'.next = h.next + 1 -> L P n ops Q rest (updO f o.dst (mk.val h.next)) h') : L P n ops Q (o :: rest) f h :=
  L_nw (.cells l) mk hs hk ha (k _ (Cl.new h _) (.push h _) rfl)
variable {K : Fr -> AH -> Prop} {pre r : List Nat} {i : Nat}
theorem qu8 (l : List Value) (mk : Mk) (ho : ops[i]? = some o) (hw : wantF n ops o f = true) (hd : dOk n o.dst = true) (hk : opK o.op = 3) (ha : evAl P n f o.op = some (.cells l, mk))
    (hr : Rk P n ops (updO f o.dst (mk.val h.next)) (h.push (Al.cells l).obj) (pre ++ [i])) (k : ∀ h', Cl h' h.next l -> Sm Nix h h' -> h'.next = h.next + 1 -> NS P n ops (pre ++ [i]) K r (updO f o.dst (mk.val h.next)) h') : NS P n ops pre K (i :: r) f h :=
  zj3 (.cells l) mk ho hw hd hk ha hr (k _ (Cl.new h _) (.push h _) rfl)
variable {w : AH}
variable [Kn P]
theorem W_sr {l : List Oper} {id : Nat} {y : Code} (h : L P n l.toArray (Then (fun f w => W P n y Q f w) Q) l f w) : W P n (.seq (.region id l.toArray false) y) Q f w := q7 (q6 h)
theorem Z3 (k : Nat) {id : Nat} {l : List Oper} (hs : okG P n w l.toArray (l.take k) f = true) (h : L P n l.toArray Q (l.drop k) (runG P n w l.toArray (l.take k) f) w) : W P n (.region id l.toArray false) Q f w := q6 (L_g k hs h)
theorem z1 (k : Nat) {id : Nat} {l : List Oper} {y : Code} (hs : okG P n w l.toArray (l.take k) f = true) (h : L P n l.toArray (Then (fun f w => W P n y Q f w) Q) (l.drop k) (runG P n w l.toArray (l.take k) f) w) : W P n (.seq (.region id l.toArray false) y) Q f w := q7 (q6 (L_g k hs h))
theorem j9 (n : Nat) (fn : Func) {k : FuncId} {c : Code} {args : List Value} {R : Value × AH -> Prop} (h : W P n c (Done P n fn R) (entry args) w)
    (hf : P.funcs[k]? = some fn := by kernel_rfl) (hb : fn.body = some c := by exact rfl) (hn : fn.ntmps = n := by exact rfl) (hl : args.length ≤ n := by exact Nat.le_of_ble_eq_true rfl) (ht : T.Ok n := by trivial) (hk : (Kn.f P ≠ some k ∨ args ≠ []) /\ Kn.g P k args w = none := by exact ⟨.inr (by simp), rfl⟩) : Calls P k args w R := Q5 hf hb hn hl ht hk h
theorem Q2 {c : Operand} {x y : Code} {f : Fr} {Q : Post} (hc : ev n f c = some (.bool false)) (h : W P n y Q f w) : W P n (.cond c x y) Q f w := Q0 false hc (fun e => by cases e) fun _ => h
theorem U7 {c : Operand} {x y : Code} {f : Fr} {Q : Post} (hc : ev n f c = some (.bool true)) (h : W P n x Q f w) : W P n (.cond c x y) Q f w := Q0 true hc (fun _ => h) fun e => by cases e
theorem rr {A B : Prop} (b : B) (h : B -> A := by intro b; (repeat first | with_reducible refine jk2 ?_ | with_reducible refine Qu1 ?_); exact b) : A := h b
theorem rx {A B : Prop} (b : B) (h : B -> A := by intro b; (repeat with_reducible refine jq0 ?_); exact b) : A := h b
open Go.Mt in
abbrev rqX (r : Rq) (d p s : Value) : List Value :=
  [nk r.no, nv r.peer, nv r.ctx, nv r.tag, nv r.room, .bool r.send, .bool r.sync, .bool r.pers, .bool r.act, .bool r.done, nk r.parts, nk r.size, d, p, nk r.gone, s, .bool r.clr, nv r.st.src, nv r.st.tag, nv r.st.size, nv r.st.err]
end Go.Arm
namespace Go.Arm
noncomputable section
open Go Go.X Go.Mt
variable [Tys]
section
variable {W W' : Wd} {G G' : Gh} {h h' : AH} {p no : Nat} {v : Value} {x : Pr} {q : Nat -> Rq} {cs : List Value}
theorem Rel.at (R : Rel W G h) (h1 : W'.lim = W.lim) (h2 : W'.n = W.n) (h3 : W'.way = W.way) (h4 : ∀ k, k ≠ p -> W'.pr k = W.pr k /\ W'.rq k = W.rq k)
   (hG : ∀ r, r.of ≠ some p -> G'.C r = G.C r /\ G'.S r = G.S r /\ G'.B r = G.B r) (hB : G'.B (.pr p) = G.B (.pr p)) (hr : G'.ro = G.ro) (P : p < W.n -> RelP (W'.pr p) (W'.rq p) G' h p) : Rel W' G' h := by
 have hw := hG .wd (by simp [Ro.of])
 have hq := hG .prs (by simp [Ro.of])
 have hy := hG .ways (by simp [Ro.of])
 refine ⟨by rw [hw.1, h1, hq.2.1, hy.2.2]; exact R.wd, ?_, ?_, fun a b => ?_, fun k hk => ?_⟩
 . rw [hq.1, h2, R.prs]
   congr 1
   refine List.map_congr_left fun k _ => ?_
   by_cases e : k = p
   . rw [e, hB]
   . rw [(hG (.pr k) (by simpa [Ro.of] using e)).2.2]
 . obtain ⟨m, a1, a2⟩ := R.ways
   exact ⟨m, by rw [hy.1]; exact a1, a2.1, fun a b => by rw [(hG (.way a b) (by simp [Ro.of])).2.1]; exact a2.2 a b⟩
 . rw [(hG (.way a b) (by simp [Ro.of])).1, h3, hr]; exact R.way a b
 . rw [h2] at hk
   by_cases e : k = p
   . subst e; exact P hk
   . rw [(h4 k e).1, (h4 k e).2]
     exact (R.pr k hk).congr (fun r hr => hG r (by rw [hr]; simpa using e)) hr
omit [Tys] in
theorem K6 {r r' : Ro} {p : Nat} (hr : r.of = some p) (h : r'.of ≠ some p) : r' ≠ r := fun e => h (e ▸ hr)
theorem RelP.inbX (P : RelP x q G h p) {l : List (Int × Pk)} (H : Ls (RAr h G.ro) 2 l cs) :
  RelP { x with inb := l } q ((G.putS (.inb p) v (.gr 2 l.length cs)).putC (.pr p) (.cl (prC x.next (G.putS (.inb p) v (.gr 2 l.length cs)) p))) h p :=
 ⟨j0 _ _ _, P.rqs, P.rqp, P.exs, P.exp, ⟨cs, j0 _ _ _, H⟩, P.msg, P.rcv, P.rcp, P.crd, P.rq, P.pcs, P.snt, P.nxt⟩
theorem RelP.msgX (P : RelP x q G h p) {l : List Ms} (H : Ls (RMs h G.ro) 6 l cs) :
  RelP { x with msgs := l } q ((G.putS (.msg p) v (.gr 6 l.length cs)).putC (.pr p) (.cl (prC x.next (G.putS (.msg p) v (.gr 6 l.length cs)) p))) h p :=
 ⟨j0 _ _ _, P.rqs, P.rqp, P.exs, P.exp, P.inb, ⟨cs, j0 _ _ _, H⟩, P.rcv, P.rcp, P.crd, P.rq, P.pcs, P.snt, P.nxt⟩
theorem RelP.rcvX (P : RelP x q G h p) {l : List Nat} (H : ∀ k, k ∈ l -> G.C (.rq p k) ≠ .no) :
  RelP { x with rcvs := l } q ((G.putS (.rcv p) v (.gr 1 l.length (l.map fun k => ptr (G.B (.rq p k))))).putC (.pr p) (.cl (prC x.next (G.putS (.rcv p) v (.gr 1 l.length (l.map fun k => ptr (G.B (.rq p k))))) p))) h p :=
 ⟨j0 _ _ _, P.rqs, P.rqp, P.exs, P.exp, P.inb, P.msg, j0 _ _ _, H, P.crd, P.rq, P.pcs, P.snt, P.nxt⟩
theorem RelP.crdX (P : RelP x q G h p) (l : List Int) : RelP { x with crds := l } q (G.putC (.crd p) (.ws l.length (l.map nv))) h p :=
 ⟨P.pr, P.rqs, P.rqp, P.exs, P.exp, P.inb, P.msg, P.rcv, P.rcp, j0 _ _ _, P.rq, P.pcs, P.snt, P.nxt⟩
theorem RelP.exsX (P : RelP x q G h p) {l : List ((Int × Int) × Nat)} (H : ∀ e, e ∈ l -> G.C (.rq p e.2) ≠ .no) : RelP { x with exps := l } q (G.putC (.exs p) (.mp (l.map fun e => (e.1, ptr (G.B (.rq p e.2)))))) h p :=
 ⟨P.pr, P.rqs, P.rqp, j0 _ _ _, H, P.inb, P.msg, P.rcv, P.rcp, P.crd, P.rq, P.pcs, P.snt, P.nxt⟩
theorem RelP.rqsX (P : RelP x q G h p) {l : List Nat} (H : ∀ k, k ∈ l -> G.C (.rq p k) ≠ .no) : RelP { x with reqs := l } q (G.putC (.rqs p) (.mi (l.map fun (k : Nat) => ((k : Int), ptr (G.B (.rq p k)))))) h p :=
 ⟨P.pr, j0 _ _ _, H, P.exs, P.exp, P.inb, P.msg, P.rcv, P.rcp, P.crd, P.rq, P.pcs, P.snt, P.nxt⟩
omit [Tys] in
theorem pres {r r' : Ro} {x : Th} (hx : x ≠ .no) (h0 : G.C r ≠ .no) : (G.putC r x).C r' ≠ .no ↔ G.C r' ≠ .no := by
 show ups G.C r x r' ≠ .no ↔ _
 by_cases e : r' = r
 . subst e; rw [j0]; simp [hx, h0]
 . rw [z7 _ _ e]
theorem RelP.rqX (P : RelP x q G h p) (h0 : G.C (.rq p no) ≠ .no) {dv : Value} {r : Rq} (hd : Dr h G.ro dv r.data) (hp : r.pcs = (q no).pcs) (hs : r.sent = (q no).sent) : RelP x (ups q no r) (G.putC (.rq p no) (.cl (rqC G dv p no r))) h p := by
 have hpr : ∀ k, (G.putC (.rq p no) (.cl (rqC G dv p no r))).C (.rq p k) ≠ .no ↔ G.C (.rq p k) ≠ .no := fun k => pres (by simp) h0
 have hat : (G.putC (.rq p no) (.cl (rqC G dv p no r))).C (.rq p no) = .cl (rqC G dv p no r) := j0 _ _ _
 have hne : ∀ k, k ≠ no -> (G.putC (.rq p no) (.cl (rqC G dv p no r))).C (.rq p k) = G.C (.rq p k) := fun k e => z7 _ _ (by simpa using e)
 refine ⟨P.pr, P.rqs, fun k hk => (hpr k).2 (P.rqp k hk), P.exs, fun e he => (hpr e.2).2 (P.exp e he), P.inb, P.msg, P.rcv, fun k hk => (hpr k).2 (P.rcp k hk), P.crd, fun k hk => ?_, fun k hk => ?_, fun k hk => ?_, fun k hk => P.nxt k ((hpr k).1 hk)⟩
 . by_cases e : k = no
   . subst e
     exact ⟨dv, by rw [j0]; exact hd, by rw [hat, j0]; rfl⟩
   . obtain ⟨dv', a, b⟩ := P.rq k ((hpr k).1 hk)
     exact ⟨dv', by rw [z7 _ _ e]; exact a, by rw [hne k e, z7 _ _ e]; exact b⟩
 . by_cases e : k = no
   . subst e
     rw [j0, hp]; exact P.pcs k h0
   . rw [z7 _ _ e]; exact P.pcs k ((hpr k).1 hk)
 . by_cases e : k = no
   . subst e
     rw [j0, hs]; exact P.snt k h0
   . rw [z7 _ _ e]; exact P.snt k ((hpr k).1 hk)
end
end
end Go.Arm
