/- Worlds of the program and walks of its functions. -/
import Derived.Test.YtmehemeoaplepaaZj
import Derived.Test.YtmehemeoaplepaaZg
import Derived.Test.YtmehemeoaplepaaZi
import Derived.Test.YtmehemeoaplepaaProg
import Derived.ProofKit
namespace Go.Arm
noncomputable section
open Go Go.X Go.Mt
inductive Ro
 | wd
 | prs
 | ways
 | way (a b : Int)
 | pr (p : Nat)
 | rqs (p : Nat)
 | exs (p : Nat)
 | inb (p : Nat)
 | msg (p : Nat)
 | rcv (p : Nat)
 | crd (p : Nat)
 | rq (p no : Nat)
 | pcs (p no : Nat)
 | snt (p no : Nat)
deriving DecidableEq
structure Gh where
 B : Ro → Nat
 S : Ro → Value
 C : Ro → Th
 ro : Nat → Prop
def Gh.V (G : Gh) : Ro → Value
 | .wd => ptr (G.B .wd)
 | .ways => .map (some (G.B .ways))
 | .pr p => ptr (G.B (.pr p))
 | .rqs p => .map (some (G.B (.rqs p)))
 | .exs p => .map (some (G.B (.exs p)))
 | .rq p no => ptr (G.B (.rq p no))
 | r => G.S r
def Gh.mut (G : Gh) (b : Nat) : Prop := ∃ r, G.C r ≠ .no ∧ vbx (G.V r) = some b
structure Op (G : Gh) (h : AH) : Prop where
 here : ∀ r, At h (G.V r) (G.C r)
 inj : ∀ r r' b, G.C r ≠ .no → G.C r' ≠ .no → vbx (G.V r) = some b → vbx (G.V r') = some b → r = r'
 ro : ∀ b, G.mut b → ¬ G.ro b
 rolt : ∀ b, G.ro b → b < h.next
structure Gx (G : Gh) (h : AH) (G' : Gh) (h' : AH) : Prop where
 sm : Sm G.mut h h'
 mu : ∀ b, G'.mut b → G.mut b ∨ h.next ≤ b
 ron : ∀ b, G'.ro b → G.ro b ∨ h.next ≤ b
 rok : ∀ b, G.ro b → G'.ro b
 keep : ∀ r, G.C r ≠ .no → G'.C r ≠ .no ∧ G'.B r = G.B r
 prs : G'.S .prs = G.S .prs
section
variable {G G' G'' : Gh} {h h' h'' : AH} {S : Nat → Prop} {r : Ro}
theorem Op.lt (O : Op G h) {b : Nat} (hb : G.mut b) : b < h.next := by
 obtain ⟨r, h1, h2⟩ := hb
 exact (O.here r).lt h1 h2
theorem Op.new (O : Op G h) {b : Nat} (hb : h.next ≤ b) : ¬ G.mut b := fun hm => by have := O.lt hm; omega
theorem Op.newr (O : Op G h) {b : Nat} (hb : h.next ≤ b) : ¬ G.ro b := fun hm => by have := O.rolt b hm; omega
theorem Op.sm (O : Op G h) (s : Sm S h h') (hS : ∀ b, S b → ¬ G.mut b) : Op G h' :=
 ⟨fun r => by
  by_cases e : G.C r = .no
  · rw [e]; trivial
  · exact (O.here r).sm s (fun b hb hs => hS b hs ⟨r, e, hb⟩), O.inj, O.ro, fun b hb => Nat.lt_of_lt_of_le (O.rolt b hb) s.nx⟩
theorem Op.ext (O : Op G h) (s : Sm Nix h h') : Op G h' := O.sm s (fun _ x => x.elim)
theorem Gx.refl : Gx G h G h := ⟨.refl, fun _ x => .inl x, fun _ x => .inl x, fun _ x => x, fun _ x => ⟨x, rfl⟩, rfl⟩
theorem Gx.trans (X : Gx G h G' h') (Y : Gx G' h' G'' h'') : Gx G h G'' h'' :=
 ⟨X.sm.trans Y.sm X.mu, fun b hb => (Y.mu b hb).elim (X.mu b) (fun x => .inr (Nat.le_trans X.sm.nx x)), fun b hb => (Y.ron b hb).elim (X.ron b) (fun x => .inr (Nat.le_trans X.sm.nx x)), fun b hb => Y.rok b (X.rok b hb),
  fun r hr => ⟨(Y.keep r (X.keep r hr).1).1, ((Y.keep r (X.keep r hr).1).2).trans (X.keep r hr).2⟩, Y.prs.trans X.prs⟩
theorem Gx.ext (X : Gx G h G' h') (s : Sm Nix h' h'') : Gx G h G' h'' := ⟨X.sm.ext s, X.mu, X.ron, X.rok, X.keep, X.prs⟩
theorem Gx.of (s : Sm Nix h h') : Gx G h G h' := ⟨s.of, fun _ x => .inl x, fun _ x => .inl x, fun _ x => x, fun _ x => ⟨x, rfl⟩, rfl⟩
def Gh.put (G : Gh) (r : Ro) (b : Nat) (v : Value) (x : Th) : Gh := ⟨ups G.B r b, ups G.S r v, ups G.C r x, G.ro⟩
theorem V_put {b : Nat} {v : Value} {x : Th} {r' : Ro} (hr : r' ≠ r) : (G.put r b v x).V r' = G.V r' := by
 cases r' <;> simp [Gh.V, Gh.put, ups_ne _ _ hr]
theorem C_put {b : Nat} {v : Value} {x : Th} {r' : Ro} (hr : r' ≠ r) : (G.put r b v x).C r' = G.C r' := ups_ne _ _ hr
theorem C_at {b : Nat} {v : Value} {x : Th} : (G.put r b v x).C r = x := ups_at _ _ _
theorem Op.put (O : Op G h) (r : Ro) {b : Nat} {v : Value} {x : Th} (hx : x ≠ .no) (s : Sm S h h') (hS : ∀ c, S c → (G.C r ≠ .no ∧ vbx (G.V r) = some c) ∨ h.next ≤ c)
   (A : At h' ((G.put r b v x).V r) x) (hv : ∀ c, vbx ((G.put r b v x).V r) = some c → (G.C r ≠ .no ∧ vbx (G.V r) = some c) ∨ h.next ≤ c)
   (hk : G.C r ≠ .no → b = G.B r) (hp : r = .prs → v = G.S .prs) : Op (G.put r b v x) h' ∧ Gx G h (G.put r b v x) h' := by
 have hother : ∀ r', r' ≠ r → ∀ c, G.C r' ≠ .no → vbx (G.V r') = some c → ¬ S c := fun r' hr c hc hb hs => by
   rcases hS c hs with ⟨e1, e2⟩ | e
   · exact hr (O.inj _ _ _ hc e1 hb e2)
   · exact O.new e ⟨r', hc, hb⟩
 have hmu : ∀ c, (G.put r b v x).mut c → G.mut c ∨ h.next ≤ c := by
   rintro c ⟨r', h1, h2⟩
   by_cases e : r' = r
   · subst e
     exact (hv c h2).imp (fun y => ⟨_, y.1, y.2⟩) id
   · rw [C_put e] at h1; rw [V_put e] at h2; exact .inl ⟨r', h1, h2⟩
 refine ⟨⟨fun r' => ?_, fun r' r'' c h1 h2 h3 h4 => ?_, fun c hc hr => ?_, fun c hc => ?_⟩, ⟨⟨s.nx, fun c hc hn => s.get c hc fun hs => ?_⟩, hmu, fun c hc => .inl hc, fun c hc => hc, fun r' hr => ?_, ?_⟩⟩
 · by_cases e : r' = r
   · subst e; rw [C_at]; exact A
   · rw [V_put e, C_put e]
     by_cases e2 : G.C r' = .no
     · rw [e2]; trivial
     · exact (O.here r').sm s (fun c hb => hother r' e c e2 hb)
 · by_cases e : r' = r
   · by_cases e2 : r'' = r
     · rw [e, e2]
     · subst e
       rw [C_put e2] at h2; rw [V_put e2] at h4
       rcases hv c h3 with ⟨q1, q2⟩ | q
       · exact O.inj _ _ _ q1 h2 q2 h4
       · exact (O.new q ⟨_, h2, h4⟩).elim
   · rw [C_put e] at h1; rw [V_put e] at h3
     by_cases e2 : r'' = r
     · subst e2
       rcases hv c h4 with ⟨q1, q2⟩ | q
       · exact O.inj _ _ _ h1 q1 h3 q2
       · exact (O.new q ⟨_, h1, h3⟩).elim
     · rw [C_put e2] at h2; rw [V_put e2] at h4
       exact O.inj _ _ _ h1 h2 h3 h4
 · rcases hmu c hc with q | q
   · exact O.ro c q hr
   · exact O.newr q hr
 · exact Nat.lt_of_lt_of_le (O.rolt c hc) s.nx
 · rcases hS c hs with q | q
   · exact hn ⟨r, q.1, q.2⟩
   · omega
 · by_cases e : r' = r
   · subst e
     refine ⟨by rw [C_at]; exact hx, ?_⟩
     show ups G.B r' b r' = _
     rw [ups_at]; exact hk hr
   · refine ⟨by rw [C_put e]; exact hr, ?_⟩
     show ups G.B r b r' = _
     rw [ups_ne _ _ e]
 · show ups G.S r v .prs = _
   by_cases e : Ro.prs = r
   · subst e; rw [ups_at]; exact hp rfl
   · rw [ups_ne _ _ e]
def Gh.putC (G : Gh) (r : Ro) (x : Th) : Gh := ⟨G.B, G.S, ups G.C r x, G.ro⟩
def Gh.putS (G : Gh) (r : Ro) (v : Value) (x : Th) : Gh := ⟨G.B, ups G.S r v, ups G.C r x, G.ro⟩
def Gh.putB (G : Gh) (r : Ro) (b : Nat) (x : Th) : Gh := ⟨ups G.B r b, G.S, ups G.C r x, G.ro⟩
theorem put_C (x : Th) : G.put r (G.B r) (G.S r) x = G.putC r x := by unfold Gh.put Gh.putC; rw [ups_id, ups_id]
theorem put_S (v : Value) (x : Th) : G.put r (G.B r) v x = G.putS r v x := by unfold Gh.put Gh.putS; rw [ups_id]
theorem put_B (b : Nat) (x : Th) : G.put r b (G.S r) x = G.putB r b x := by unfold Gh.put Gh.putB; rw [ups_id]
theorem V_putC {x : Th} {r' : Ro} : (G.putC r x).V r' = G.V r' := by cases r' <;> rfl
theorem Op.putC (O : Op G h) (r : Ro) {x : Th} (hx : x ≠ .no) (h0 : G.C r ≠ .no) (s : Sm S h h') (hS : ∀ c, S c → vbx (G.V r) = some c) (A : At h' (G.V r) x) : Op (G.putC r x) h' ∧ Gx G h (G.putC r x) h' := by
 have := O.put r (b := G.B r) (v := G.S r) (x := x) hx s (fun c hc => .inl ⟨h0, hS c hc⟩) (by rw [put_C, V_putC]; exact A) (fun c hc => by rw [put_C, V_putC] at hc; exact .inl ⟨h0, hc⟩) (fun _ => rfl) (fun e => by rw [e])
 rw [put_C] at this
 exact this
theorem Op.putS (O : Op G h) (r : Ro) (v : Value) {x : Th} (hx : x ≠ .no) (h0 : G.C r ≠ .no) (hV : ∀ G : Gh, G.V r = G.S r) (hr : r ≠ .prs) (s : Sm S h h') (hS : ∀ c, S c → vbx (G.S r) = some c ∨ h.next ≤ c) (A : At h' v x) (hv : ∀ c, vbx v = some c → vbx (G.S r) = some c ∨ h.next ≤ c) : Op (G.putS r v x) h' ∧ Gx G h (G.putS r v x) h' := by
 have e : (G.putS r v x).V r = v := by rw [hV]; exact ups_at _ _ _
 have := O.put r (b := G.B r) (v := v) (x := x) hx s (fun c hc => (hS c hc).imp (fun y => ⟨h0, by rw [hV]; exact y⟩) id) (by rw [put_S, e]; exact A) (fun c hc => by rw [put_S, e] at hc; exact (hv c hc).imp (fun y => ⟨h0, by rw [hV]; exact y⟩) id) (fun _ => rfl) (fun e => (hr e).elim)
 rw [put_S] at this
 exact this
def Gh.more (G : Gh) (Q : Nat → Prop) : Gh := ⟨G.B, G.S, G.C, fun b => G.ro b ∨ Q b⟩
theorem V_more {Q : Nat → Prop} (r : Ro) : (G.more Q).V r = G.V r := by cases r <;> rfl
theorem Op.more (O : Op G h) {Q : Nat → Prop} (s : Sm Nix h h') (h1 : ∀ b, Q b → h.next ≤ b) (h2 : ∀ b, Q b → b < h'.next) : Op (G.more Q) h' ∧ Gx G h (G.more Q) h' := by
 have O' := O.ext s
 refine ⟨⟨fun r => by rw [V_more]; exact O'.here r, fun r r' b a1 a2 a3 a4 => O.inj r r' b a1 a2 (by rw [V_more] at a3; exact a3) (by rw [V_more] at a4; exact a4), fun b hb hr => ?_, fun b hb => hb.elim (O'.rolt b) (h2 b)⟩,
   ⟨s.of, fun b hb => .inl ?_, fun b hb => hb.imp id (h1 b), fun b hb => .inl hb, fun r hr => ⟨hr, rfl⟩, rfl⟩⟩
 · obtain ⟨r, q1, q2⟩ := hb
   rw [V_more] at q2
   rcases hr with hr | hr
   · exact O.ro b ⟨r, q1, q2⟩ hr
   · exact O.new (h1 b hr) ⟨r, q1, q2⟩
 · obtain ⟨r, q1, q2⟩ := hb
   rw [V_more] at q2
   exact ⟨r, q1, q2⟩
end
end
end Go.Arm
namespace Go.Arm
noncomputable section
open Go Go.X
def Rb (h : AH) (v : Value) (cs : List Value) : Prop :=
 (cs = [] ∧ ∃ a c, v = .slice a 0 c ∧ (a = none → c = 0) ∧ ∀ q, a = some q → q.block < h.next) ∨
  ∃ b o c, cs ≠ [] ∧ c ≠ 0 ∧ v = .slice (some ⟨b, o, none⟩) cs.length c ∧ b < h.next ∧ ∀ j, j < cs.length → h.cell ⟨b, o + j, none⟩ = cs[j]?
def Cut (h : AH) (v : Value) (n : Nat) : Prop := n = 0 ∨ ∃ b o nn, v = .slice (some ⟨b, o, none⟩) n open_ ∧ b < h.next ∧ X.opOf h b = some (nn, 1) ∧ o + n ≤ nn
section
variable {P : Program} {h h' : AH} {S : Nat → Prop} {v : Value} {cs : List Value} {n : Nat} {T el : TypeId}
theorem cell_sm (s : Sm S h h') {b o : Nat} (hl : b < h.next) (hb : ¬ S b) : h'.cell ⟨b, o, none⟩ = h.cell ⟨b, o, none⟩ := by
 unfold AH.cell
 simp only [s.get b hl hb]
theorem Rb.sm (H : Rb h v cs) (s : Sm S h h') (hb : ∀ b, vb v = some b → ¬ S b) : Rb h' v cs := by
 rcases H with ⟨h0, a, c, e, h1, h2⟩ | ⟨b, o, c, h0, h1, rfl, h2, h3⟩
 · exact .inl ⟨h0, a, c, e, h1, fun q hq => Nat.lt_of_lt_of_le (h2 q hq) s.nx⟩
 · exact .inr ⟨b, o, c, h0, h1, rfl, Nat.lt_of_lt_of_le h2 s.nx, fun j hj => by rw [cell_sm s h2 (hb b rfl)]; exact h3 j hj⟩
theorem Rb.ext (H : Rb h v cs) (s : Sm Nix h h') : Rb h' v cs := H.sm s fun _ _ x => x
theorem Cut.sm (H : Cut h v n) (s : Sm S h h') (hb : ∀ b, vb v = some b → ¬ S b) : Cut h' v n := by
 rcases H with h0 | ⟨b, o, nn, rfl, h2, h3, h4⟩
 · exact .inl h0
 · refine .inr ⟨b, o, nn, rfl, Nat.lt_of_lt_of_le h2 s.nx, ?_, h4⟩
   unfold X.opOf at h3 ⊢
   rw [s.get b h2 (hb b rfl)]; exact h3
theorem Rb.nil : Rb h (.slice none 0 0) [] := .inl ⟨rfl, none, 0, rfl, fun _ => rfl, fun q hq => by cases hq⟩
theorem Rb.form (H : Rb h v cs) : ∃ a c, v = .slice a cs.length c := by
 rcases H with ⟨h0, a, c, e, h1, h2⟩ | ⟨b, o, c, h0, h1, rfl, h2, h3⟩
 · subst h0; exact ⟨a, c, e⟩
 · exact ⟨_, c, rfl⟩
theorem Rb.lenA (H : Rb h v cs) (hT : P.underlying T = some (.slice el)) (h' : AH) : aLen P T v h' = some (.int .i64 cs.length) := by
 obtain ⟨a, c, rfl⟩ := H.form
 unfold aLen
 simp only [hT]
theorem cells_r {b o : Nat} : ∀ (l : List Value) (i : Nat), (∀ j, j < l.length → h.cell ⟨b, o + (i + j), none⟩ = l[j]?) → h.cells ⟨b, o, none⟩ i l.length = some l
 | [], i, _ => rfl
 | x :: l, i, hl => by
  have ih := cells_r l (i + 1) (fun j hj => by
   have := hl (j + 1) (by simpa using hj)
   rw [show i + 1 + j = i + (j + 1) by omega]
   simpa using this)
  have h0 : h.cell ⟨b, o + i, none⟩ = some x := hl 0 (by simp)
  show h.cells ⟨b, o, none⟩ i (l.length + 1) = _
  unfold AH.cells
  dsimp only
  rw [h0, ih]
theorem Rb.first (H : Rb h v cs) : aFirst 1 cs.length v h = some cs := by
 rcases H with ⟨h0, a, c, rfl, h1, h2⟩ | ⟨b, o, c, h0, h1, rfl, h2, h3⟩
 · subst h0
   cases a with
   | none => rfl
   | some q => simp [aFirst]
 · unfold aFirst
   dsimp only
   have hp : 0 < cs.length := List.length_pos_iff.2 h0
   rw [if_neg (by omega), if_neg (by omega), Nat.mul_one]
   exact cells_r cs 0 (fun j hj => by rw [Nat.zero_add]; exact h3 j hj)
theorem Sd.rb (H : Sd h 1 v n cs) : Rb h v cs := by
 have hn : cs.length = n := by have := H.1; omega
 rcases H.2 with ⟨h0, a, c, rfl, h1, h2⟩ | ⟨b, o, c, cc, nn, op, ro, h0, h1, rfl, h2, h3, h4, h5⟩
 · exact .inl ⟨List.length_eq_zero_iff.1 (by omega), a, c, rfl, h1, h2⟩
 · refine .inr ⟨b, o, c, fun e => by subst e; simp at hn; omega, h1, by rw [hn], h2, fun j hj => ?_⟩
   unfold AH.cell
   simp only [h3]
   rw [if_pos (by omega)]; exact h5 j hj
theorem app_bytes {sT xT : TypeId} {by_ : Nat} {z u : Value} {a : Addr} (hT : P.underlying sT = some (.slice el)) (hx : newsK P xT = .list) (hs : szOf P el = some 1) (hb : byOf P el = some by_) (hz : zeroOf P el = some z) (hzl : (cellsL z).length = 1) (hu8 : isU8 P el = some el)
   (hu : Rb h u cs) (h1 : ∀ x, x ∈ cs → x.oneCell' = true) (hlim : cs.length * (by_ + 1) < 1099511627776) (ha : a.block < h.next) :
   ∃ v' h', aAppend P sT xT (.slice (some a) 0 0) u h = some (v', h') ∧ Rb h' v' cs ∧ Cut h' v' cs.length ∧ Sm Nix h h' ∧ (∀ b, vb v' = some b → b = a.block ∨ b = h.next) ∧ (∃ a n c, v' = .slice (some a) n c) ∧ ∀ b, vb v' = some b → b < h'.next := by
 have hf := hu.first
 obtain ⟨ua, uc, rfl⟩ := hu.form
 by_cases h0 : cs = []
 · subst h0
   refine ⟨.slice (some a) 0 0, h, ?_, .inl ⟨rfl, _, _, rfl, (fun e => by cases e), fun q hq => by cases hq; exact ha⟩, .inl rfl, .refl, fun b hb => by cases hb; exact .inl rfl, ⟨_, _, _, rfl⟩, fun b hb => by cases hb; exact ha⟩
   unfold aAppend
   simp only [hT, hs, hb, hz]
   unfold aNews
   have hlen : X.lenV (.slice ua ([] : List Value).length uc) = some 0 := rfl
   have hf : aFirst 1 0 (.slice ua ([] : List Value).length uc) h = some [] := hf
   simp only [hx, hlen, hf]
   have hl0 : X.lenV (.slice (some a) 0 0) = some 0 := rfl
   simp only [hl0]
   rw [if_pos ⟨hzl, rfl, rfl, by omega⟩]
   unfold aAppendTo
   dsimp only
   rw [if_neg (show ¬ (0 : Nat) = open_ by decide), if_pos (by omega), if_pos rfl]
 · have hp : 0 < cs.length := List.length_pos_iff.2 h0
   refine ⟨.slice (some ⟨h.next, 0, none⟩) cs.length open_, ⟨h.m.set h.next (some (.tcells el (T.fill cs 0 .e) cs.length 1)), h.next + 1⟩, ?_, .inr ⟨h.next, 0, open_, h0, open_ne, rfl, Nat.lt_succ_self _, fun j hj => ?_⟩, .inr ⟨h.next, 0, cs.length, rfl, Nat.lt_succ_self _, ?_, by omega⟩, ⟨Nat.le_succ _, fun k hk _ => ?_⟩,
     fun b hb => by cases hb; exact .inr rfl, ⟨_, _, _, rfl⟩, fun b hb => by cases hb; exact Nat.lt_succ_self _⟩
   · unfold aAppend
     simp only [hT, hs, hb, hz]
     unfold aNews
     have hlen : X.lenV (.slice ua cs.length uc) = some cs.length := rfl
     simp only [hx, hlen, hf]
     have hl0 : X.lenV (.slice (some a) 0 0) = some 0 := rfl
     simp only [hl0]
     rw [if_pos ⟨hzl, by omega, by rw [List.all_eq_true]; exact h1, by rw [Nat.zero_add]; exact hlim⟩]
     unfold aAppendTo
     dsimp only
     rw [if_neg (show ¬ (0 : Nat) = open_ by decide), if_neg (by omega), if_pos rfl]
     unfold AH.newo
     rw [hu8]
     simp [mkO]
   · unfold AH.cell
     dsimp only
     rw [X.T.get_set, if_pos rfl]
     dsimp only
     rw [if_pos (by omega), X.T.get_fill, if_pos (by omega)]; simp
   · unfold X.opOf
     dsimp only
     rw [X.T.get_set, if_pos rfl]
   · show (h.m.set h.next _).get k = _
     rw [X.T.get_set, if_neg (by omega)]
theorem Rb.cut (H : Rb h v cs) (t : Cut h v cs.length) (hT : P.underlying T = some (.slice el)) (hk : szOf P el = some 1) {m : Nat} (hm : m < cs.length) (kd : IntKind) :
   ∃ v', (∀ h' : AH, (∀ b, vb v = some b → h'.m.get b = h.m.get b) → aSl P T v none (some (.int kd (m : Nat))) none h' = some v') ∧ Rb h v' (cs.take m) ∧ Cut h v' (cs.take m).length ∧ vb v' = vb v := by
 rcases t with h0 | ⟨b, o, nn, rfl, h2, h3, h4⟩
 · omega
 · rcases H with ⟨h0, _⟩ | ⟨b', o', c, h0, h1, e, h5, h6⟩
   · subst h0; simp at hm
   · cases e
     have hlm : (cs.take m).length = m := by rw [List.length_take]; omega
     refine ⟨.slice (some ⟨b, o, none⟩) m open_, ?_, ?_, ?_, rfl⟩
     · intro h' hg
       have h3 : X.opOf h' b = some (nn, 1) := by unfold X.opOf at h3 ⊢; rw [hg b rfl]; exact h3
       have : aSlice P T (.slice (some ⟨b, o, none⟩) cs.length open_) none (some (.int kd (m : Nat))) none h' = some (.slice (some ⟨b, o, none⟩) m open_) := by
         unfold aSlice
         rw [if_pos (show mxOk (some (.int kd (m : Nat))) none = true from rfl)]
         simp only [hT, hk, if_true]
         have e1 : bnd (some (.int kd (m : Nat))) cs.length = some m := by unfold bnd; simp
         have e2 : bnd none 0 = some 0 := rfl
         simp only [e1, e2, h3]
         rw [if_pos ⟨by omega, trivial, .inl (by omega)⟩]
         simp
       unfold aSl
       rw [this]
     · by_cases hm0 : m = 0
       · subst hm0
         exact .inl ⟨by simp, _, _, rfl, (fun e => by cases e), fun q hq => by cases hq; exact h5⟩
       · refine .inr ⟨b, o, open_, fun e => ?_, open_ne, by rw [hlm], h5, fun j hj => ?_⟩
         · rw [e] at hlm; simp at hlm; omega
         · rw [hlm] at hj
           rw [h6 j (by omega), List.getElem?_take, if_pos hj]
     · rw [hlm]
       exact .inr ⟨b, o, nn, rfl, h2, h3, by omega⟩
end
end
end Go.Arm
namespace Go.Arm
noncomputable section
open Go Go.X Go.Mt
class Tys where
 e : TypeId
 a : TypeId
 c : TypeId
 l : TypeId
 b : TypeId
 p : TypeId
def bv (x : UInt8) : Value := .int .u8 x.toNat
def nilS : Value := .slice none 0 0
def Dr (h : AH) (ro : Nat → Prop) (v : Value) (d : By) : Prop := Rb h v (d.map bv) ∧ ∀ b, vb v = some b → ro b
inductive Ls {α : Type} (R : α → List Value → Prop) (k : Nat) : List α → List Value → Prop
 | nil : Ls R k [] []
 | cons {x : α} {l : List α} {c cs : List Value} (h : R x c) (hc : c.length = k) (t : Ls R k l cs) : Ls R k (x :: l) (c ++ cs)
section
variable {α : Type} {R R' : α → List Value → Prop} {k : Nat} {l m : List α} {cs ds : List Value}
theorem Ls.mono (H : Ls R k l cs) (h : ∀ x c, R x c → R' x c) : Ls R' k l cs := by
 induction H with
 | nil => exact .nil
 | cons h1 h2 _ ih => exact .cons (h _ _ h1) h2 ih
theorem Ls.app (H : Ls R k l cs) (K : Ls R k m ds) : Ls R k (l ++ m) (cs ++ ds) := by
 induction H with
 | nil => exact K
 | cons h1 h2 _ ih => rw [List.cons_append, List.append_assoc]; exact .cons h1 h2 ih
theorem Ls.one {x : α} {c : List Value} (h : R x c) (hc : c.length = k) : Ls R k [x] c := by
 have := Ls.cons h hc (Ls.nil (R := R) (k := k))
 rwa [List.append_nil] at this
theorem Ls.get (H : Ls R k l cs) : ∀ {i : Nat} {x : α}, l[i]? = some x → ∃ c, R x c ∧ c.length = k ∧ ∀ j, j < k → cs[i * k + j]? = c[j]? := by
 induction H with
 | nil => intro i x h; simp at h
 | @cons x l c cs h1 h2 _ ih =>
  intro i y h
  cases i with
  | zero =>
   simp at h; subst h
   refine ⟨c, h1, h2, fun j hj => ?_⟩
   rw [Nat.zero_mul, Nat.zero_add, List.getElem?_append_left (by omega)]
  | succ i =>
   obtain ⟨c', a1, a2, a3⟩ := ih (i := i) (x := y) (by simpa using h)
   refine ⟨c', a1, a2, fun j hj => ?_⟩
   rw [Nat.succ_mul, List.getElem?_append_right (by omega), ← a3 j hj]
   congr 1; omega
theorem Ls.tail {x : α} (H : Ls R k (x :: l) cs) : ∃ c, R x c ∧ c.length = k ∧ cs = c ++ cs.drop k ∧ Ls R k l (cs.drop k) := by
 cases H with
 | @cons _ _ c cs' h1 h2 t =>
  have : (c ++ cs').drop k = cs' := by rw [← h2]; simp
  rw [this]
  exact ⟨c, h1, h2, rfl, t⟩
theorem Ls.erase (H : Ls R k l cs) : ∀ (i : Nat), i < l.length → Ls R k (l.eraseIdx i) (cs.take (i * k) ++ cs.drop (i * k + k)) := by
 induction H with
 | nil => intro i hi; simp at hi
 | @cons x l c cs h1 h2 t ih =>
  intro i hi
  cases i with
  | zero =>
   have : (c ++ cs).drop k = cs := by rw [← h2]; simp
   rw [Nat.zero_mul, Nat.zero_add, List.take_zero, List.nil_append, this]
   exact t
  | succ i =>
   have := ih i (by simpa using hi)
   rw [List.eraseIdx_cons_succ, Nat.succ_mul, show i * k + k = c.length + i * k by omega, List.take_length_add_append, show c.length + i * k + k = c.length + (i * k + k) by omega, List.drop_length_add_append, List.append_assoc]
   exact .cons h1 h2 this
end
variable [Tys]
def PkV (h : AH) (ro : Nat → Prop) (v : Value) : Pk → Prop
 | .eager e d => ∃ dv, Dr h ro dv d ∧ v = .iface Tys.e (.agg ⟨[nv e.src, nv e.ctx, nv e.tag, nv e.size, nv e.parts, dv]⟩)
 | .ask e q => v = .iface Tys.a (.agg ⟨[nv e.src, nv e.ctx, nv e.tag, nv e.size, nv e.parts, nv q]⟩)
 | .credit => v = .iface Tys.c (.agg ⟨[]⟩)
 | .clear q => v = .iface Tys.l (.agg ⟨[nv q]⟩)
 | .body q d => ∃ dv, Dr h ro dv d ∧ v = .iface Tys.b (.agg ⟨[nv q, dv]⟩)
 | .part q i d => ∃ dv, Dr h ro dv d ∧ v = .iface Tys.p (.agg ⟨[nv q, nv i, dv]⟩)
def MsV (h : AH) (ro : Nat → Prop) (v : Value) : Ms → Prop
 | .eager e d => PkV h ro v (.eager e d)
 | .ask e q => PkV h ro v (.ask e q)
def RPk (h : AH) (ro : Nat → Prop) (x : Pk) (c : List Value) : Prop := ∃ v, PkV h ro v x ∧ c = [v]
def RAr (h : AH) (ro : Nat → Prop) (x : Int × Pk) (c : List Value) : Prop := ∃ v, PkV h ro v x.2 ∧ c = [nv x.1, v]
def RMs (h : AH) (ro : Nat → Prop) (x : Ms) (c : List Value) : Prop := ∃ v, MsV h ro v x ∧ c = [nv x.en.src, nv x.en.ctx, nv x.en.tag, nv x.en.size, nv x.en.parts, v]
def RPc (h : AH) (ro : Nat → Prop) (x : Option By) (c : List Value) : Prop := ∃ v, c = [v] ∧ match x with
 | none => v = nilS
 | some d => Dr h ro v d ∧ ∃ a n c, v = .slice (some a) n c
def prC (next : Nat) (G : Gh) (p : Nat) : List Value := [nk next, .map (some (G.B (.rqs p))), .map (some (G.B (.exs p))), G.S (.inb p), G.S (.msg p), G.S (.rcv p), G.S (.crd p)]
def rqC (G : Gh) (dv : Value) (p no : Nat) (r : Rq) : List Value :=
 [nk r.no, nv r.peer, nv r.ctx, nv r.tag, nv r.room, .bool r.send, .bool r.sync, .bool r.pers, .bool r.act, .bool r.done, nk r.parts, nk r.size, dv, G.S (.pcs p no), nk r.gone, G.S (.snt p no), .bool r.clr, nv r.st.src, nv r.st.tag, nv r.st.size, nv r.st.err]
theorem PkV.iface {h : AH} {ro : Nat → Prop} {v : Value} {x : Pk} (H : PkV h ro v x) : ∃ ty u, v = .iface ty u := by
 cases x with
 | eager e d => obtain ⟨dv, _, rfl⟩ := H; exact ⟨_, _, rfl⟩
 | ask e q => exact ⟨_, _, H⟩
 | credit => exact ⟨_, _, H⟩
 | clear q => exact ⟨_, _, H⟩
 | body q d => obtain ⟨dv, _, rfl⟩ := H; exact ⟨_, _, rfl⟩
 | part q i d => obtain ⟨dv, _, rfl⟩ := H; exact ⟨_, _, rfl⟩
theorem MsV.iface {h : AH} {ro : Nat → Prop} {v : Value} {x : Ms} (H : MsV h ro v x) : ∃ ty u, v = .iface ty u := by
 cases x with
 | eager e d => exact PkV.iface (x := .eager e d) H
 | ask e q => exact PkV.iface (h := h) (ro := ro) (x := .ask e q) H
theorem Ls.oneMs {h : AH} {ro : Nat → Prop} {l : List Ms} {cs : List Value} (H : Ls (RMs h ro) 6 l cs) : ∀ x, x ∈ cs → x.oneCell' = true := by
 induction H with
 | nil => intro x hx; cases hx
 | cons h1 h2 _ ih =>
  intro x hx
  rcases List.mem_append.1 hx with hx | hx
  · obtain ⟨v, hv, rfl⟩ := h1
    obtain ⟨ty, u, rfl⟩ := hv.iface
    exact List.all_eq_true.1 (rfl : ([nv _, nv _, nv _, nv _, nv _, Value.iface ty u] : List Value).all (·.oneCell') = true) x hx
  · exact ih x hx
structure RelP (x : Pr) (q : Nat → Rq) (G : Gh) (h : AH) (p : Nat) : Prop where
 pr : G.C (.pr p) = .cl (prC x.next G p)
 rqs : G.C (.rqs p) = .mi (x.reqs.map fun (k : Nat) => ((k : Int), ptr (G.B (.rq p k))))
 rqp : ∀ k, k ∈ x.reqs → G.C (.rq p k) ≠ .no
 exs : G.C (.exs p) = .mp (x.exps.map fun e => (e.1, ptr (G.B (.rq p e.2))))
 exp : ∀ e, e ∈ x.exps → G.C (.rq p e.2) ≠ .no
 inb : ∃ cs, G.C (.inb p) = .gr 2 x.inb.length cs ∧ Ls (RAr h G.ro) 2 x.inb cs
 msg : ∃ cs, G.C (.msg p) = .gr 6 x.msgs.length cs ∧ Ls (RMs h G.ro) 6 x.msgs cs
 rcv : G.C (.rcv p) = .gr 1 x.rcvs.length (x.rcvs.map fun k => ptr (G.B (.rq p k)))
 rcp : ∀ k, k ∈ x.rcvs → G.C (.rq p k) ≠ .no
 crd : G.C (.crd p) = .ws x.crds.length (x.crds.map nv)
 rq : ∀ no, G.C (.rq p no) ≠ .no → ∃ dv, Dr h G.ro dv (q no).data ∧ G.C (.rq p no) = .cl (rqC G dv p no (q no))
 pcs : ∀ no, G.C (.rq p no) ≠ .no → ∃ cs, G.C (.pcs p no) = .ws (q no).pcs.length cs ∧ Ls (RPc h G.ro) 1 (q no).pcs cs
 snt : ∀ no, G.C (.rq p no) ≠ .no → G.C (.snt p no) = .ws (q no).sent.length ((q no).sent.map .bool)
 nxt : ∀ no, G.C (.rq p no) ≠ .no → no < x.next
structure Rel (W : Wd) (G : Gh) (h : AH) : Prop where
 wd : G.C .wd = .cl [nv W.lim, G.S .prs, .map (some (G.B .ways))]
 prs : G.C .prs = .sd 1 W.n ((List.range W.n).map fun p => ptr (G.B (.pr p)))
 ways : ∃ m, G.C .ways = .mp m ∧ (m.map (·.1)).Nodup ∧ ∀ a b, (kget m (a, b)).getD nilS = G.S (.way a b)
 way : ∀ a b, ∃ cs, G.C (.way a b) = .gr 1 (W.way a b).length cs ∧ Ls (RPk h G.ro) 1 (W.way a b) cs
 pr : ∀ p, p < W.n → RelP (W.pr p) (W.rq p) G h p
structure Rep (W : Wd) (G : Gh) (h : AH) : Prop where
 op : Op G h
 rel : Rel W G h
section
variable {W : Wd} {G : Gh} {h h' : AH} {ro ro' : Nat → Prop} {p no : Nat} {v : Value} {d : By}
omit [Tys] in
theorem Dr.mono (H : Dr h ro v d) (s : Sm G.mut h h') (hr : ∀ b, ro b → ¬ G.mut b) (hro : ∀ b, ro b → ro' b) : Dr h' ro' v d := ⟨H.1.sm s (fun b hb hm => hr b (H.2 b hb) hm), fun b hb => hro b (H.2 b hb)⟩
theorem PkV.mono {x : Pk} (H : PkV h ro v x) (f : ∀ v d, Dr h ro v d → Dr h' ro' v d) : PkV h' ro' v x := by
 cases x with
 | eager e d => obtain ⟨dv, a, b⟩ := H; exact ⟨dv, f _ _ a, b⟩
 | ask e q => exact H
 | credit => exact H
 | clear q => exact H
 | body q d => obtain ⟨dv, a, b⟩ := H; exact ⟨dv, f _ _ a, b⟩
 | part q i d => obtain ⟨dv, a, b⟩ := H; exact ⟨dv, f _ _ a, b⟩
theorem MsV.mono {x : Ms} (H : MsV h ro v x) (f : ∀ v d, Dr h ro v d → Dr h' ro' v d) : MsV h' ro' v x := by
 cases x with
 | eager e d => exact PkV.mono (x := .eager e d) H f
 | ask e q => exact PkV.mono (x := .ask e q) H f
theorem RPk.mono {x : Pk} {c : List Value} (H : RPk h ro x c) (f : ∀ v d, Dr h ro v d → Dr h' ro' v d) : RPk h' ro' x c := by
 obtain ⟨v, a, b⟩ := H; exact ⟨v, a.mono f, b⟩
theorem RAr.mono {x : Int × Pk} {c : List Value} (H : RAr h ro x c) (f : ∀ v d, Dr h ro v d → Dr h' ro' v d) : RAr h' ro' x c := by
 obtain ⟨v, a, b⟩ := H; exact ⟨v, a.mono f, b⟩
theorem RMs.mono {x : Ms} {c : List Value} (H : RMs h ro x c) (f : ∀ v d, Dr h ro v d → Dr h' ro' v d) : RMs h' ro' x c := by
 obtain ⟨v, a, b⟩ := H; exact ⟨v, a.mono f, b⟩
omit [Tys] in
theorem RPc.mono {x : Option By} {c : List Value} (H : RPc h ro x c) (f : ∀ v d, Dr h ro v d → Dr h' ro' v d) : RPc h' ro' x c := by
 obtain ⟨v, a, b⟩ := H
 refine ⟨v, a, ?_⟩
 cases x with
 | none => exact b
 | some d => exact ⟨f _ _ b.1, b.2⟩
theorem RelP.mono {x : Pr} {q : Nat → Rq} {G' : Gh} (R : RelP x q G h p) (hB : G'.B = G.B) (hS : G'.S = G.S) (hC : G'.C = G.C) (f : ∀ v d, Dr h G.ro v d → Dr h' G'.ro v d) : RelP x q G' h' p := by
 obtain ⟨B, S, C, ro⟩ := G
 obtain ⟨B', S', C', ro'⟩ := G'
 dsimp only at hB hS hC
 subst hB hS hC
 exact ⟨R.pr, R.rqs, R.rqp, R.exs, R.exp, by obtain ⟨cs, x, y⟩ := R.inb; exact ⟨cs, x, y.mono fun _ _ z => z.mono f⟩, by obtain ⟨cs, x, y⟩ := R.msg; exact ⟨cs, x, y.mono fun _ _ z => z.mono f⟩, R.rcv, R.rcp, R.crd,
  fun no hr => by obtain ⟨dv, x, y⟩ := R.rq no hr; exact ⟨dv, f _ _ x, y⟩, fun no hr => by obtain ⟨cs, x, y⟩ := R.pcs no hr; exact ⟨cs, x, y.mono fun _ _ z => z.mono f⟩, R.snt, R.nxt⟩
theorem Rel.mono {G' : Gh} (R : Rel W G h) (hB : G'.B = G.B) (hS : G'.S = G.S) (hC : G'.C = G.C) (f : ∀ v d, Dr h G.ro v d → Dr h' G'.ro v d) : Rel W G' h' := by
 have hpr := fun p hp => (R.pr p hp).mono (G' := G') hB hS hC f
 obtain ⟨B, S, C, ro⟩ := G
 obtain ⟨B', S', C', ro'⟩ := G'
 dsimp only at hB hS hC
 subst hB hS hC
 exact ⟨R.wd, R.prs, R.ways, fun a b => by obtain ⟨cs, x, y⟩ := R.way a b; exact ⟨cs, x, y.mono fun _ _ z => z.mono f⟩, hpr⟩
theorem Rel.mono0 (R : Rel W G h) (f : ∀ v d, Dr h G.ro v d → Dr h' G.ro v d) : Rel W G h' := R.mono rfl rfl rfl f
def Ro.of : Ro → Option Nat
 | .pr p => some p
 | .rqs p => some p
 | .exs p => some p
 | .inb p => some p
 | .msg p => some p
 | .rcv p => some p
 | .crd p => some p
 | .rq p _ => some p
 | .pcs p _ => some p
 | .snt p _ => some p
 | _ => none
theorem RelP.congr {x : Pr} {q : Nat → Rq} {G' : Gh} (R : RelP x q G h p) (hA : ∀ r, r.of = some p → G'.C r = G.C r ∧ G'.S r = G.S r ∧ G'.B r = G.B r) (hr : G'.ro = G.ro) : RelP x q G' h p := by
 have hC : ∀ r, r.of = some p → G'.C r = G.C r := fun r hr => (hA r hr).1
 have hS : ∀ r, r.of = some p → G'.S r = G.S r := fun r hr => (hA r hr).2.1
 have hB : ∀ r, r.of = some p → G'.B r = G.B r := fun r hr => (hA r hr).2.2
 have hpc : ∀ n, prC n G' p = prC n G p := fun n => by
   unfold prC
   rw [hB (.rqs p) rfl, hB (.exs p) rfl, hS (.inb p) rfl, hS (.msg p) rfl, hS (.rcv p) rfl, hS (.crd p) rfl]
 have hrc : ∀ dv no r, rqC G' dv p no r = rqC G dv p no r := fun dv no r => by
   unfold rqC
   rw [hS (.pcs p no) rfl, hS (.snt p no) rfl]
 have hbq : ∀ k, G'.B (.rq p k) = G.B (.rq p k) := fun k => hB _ rfl
 have hcq : ∀ k, G'.C (.rq p k) = G.C (.rq p k) := fun k => hC _ rfl
 refine ⟨?_, ?_, fun k hk => ?_, ?_, fun k hk => ?_, ?_, ?_, ?_, fun k hk => ?_, ?_, fun no hn => ?_, fun no hn => ?_, fun no hn => ?_, fun no hn => ?_⟩
 · rw [hC (.pr p) rfl, hpc]; exact R.pr
 · rw [hC (.rqs p) rfl]; simp only [hbq]; exact R.rqs
 · rw [hcq]; exact R.rqp k hk
 · rw [hC (.exs p) rfl]; simp only [hbq]; exact R.exs
 · rw [hcq]; exact R.exp k hk
 · rw [hC (.inb p) rfl, hr]; exact R.inb
 · rw [hC (.msg p) rfl, hr]; exact R.msg
 · rw [hC (.rcv p) rfl]; simp only [hbq]; exact R.rcv
 · rw [hcq]; exact R.rcp k hk
 · rw [hC (.crd p) rfl]; exact R.crd
 · rw [hcq] at hn ⊢
   obtain ⟨dv, a, b⟩ := R.rq no hn
   exact ⟨dv, by rw [hr]; exact a, by rw [hrc]; exact b⟩
 · rw [hcq] at hn
   rw [hC (.pcs p no) rfl, hr]; exact R.pcs no hn
 · rw [hcq] at hn
   rw [hC (.snt p no) rfl]; exact R.snt no hn
 · rw [hcq] at hn
   exact R.nxt no hn
omit [Tys] in
theorem Op.dr (O : Op G h) (s : Sm G.mut h h') : ∀ v d, Dr h G.ro v d → Dr h' G.ro v d := fun _ _ H => H.mono s (fun b hb hm => O.ro b hm hb) (fun _ x => x)
theorem Rep.ext (R : Rep W G h) (s : Sm Nix h h') : Rep W G h' := ⟨R.op.ext s, R.rel.mono0 (R.op.dr s.of)⟩
theorem Rep.sm {S : Nat → Prop} (R : Rep W G h) (s : Sm S h h') (hS : ∀ b, S b → ¬ G.mut b ∧ ¬ G.ro b) : Rep W G h' :=
 ⟨R.op.sm s fun b hb => (hS b hb).1, R.rel.mono0 fun _ _ H => ⟨H.1.sm s (fun b hb hs => (hS b hs).2 (H.2 b hb)), H.2⟩⟩
theorem Rep.wdL (R : Rep W G h) : Cl h (G.B .wd) [nv W.lim, G.S .prs, .map (some (G.B .ways))] := by
 have := R.op.here .wd
 rw [R.rel.wd] at this
 obtain ⟨b, e, c⟩ := this
 cases e; exact c
theorem Rep.prL (R : Rep W G h) (hp : p < W.n) : Cl h (G.B (.pr p)) (prC (W.pr p).next G p) := by
 have := R.op.here (.pr p)
 rw [(R.rel.pr p hp).pr] at this
 obtain ⟨b, e, c⟩ := this
 cases e; exact c
theorem Rep.rqL (R : Rep W G h) (hp : p < W.n) (hr : G.C (.rq p no) ≠ .no) : ∃ dv, Dr h G.ro dv (W.rq p no).data ∧ Cl h (G.B (.rq p no)) (rqC G dv p no (W.rq p no)) := by
 have := R.op.here (.rq p no)
 obtain ⟨dv, h1, h2⟩ := (R.rel.pr p hp).rq no hr
 rw [h2] at this
 obtain ⟨b, e, c⟩ := this
 cases e; exact ⟨dv, h1, c⟩
theorem Rep.prsL (R : Rep W G h) : Sd h 1 (G.S .prs) W.n ((List.range W.n).map fun p => ptr (G.B (.pr p))) := by
 have := R.op.here .prs
 rw [R.rel.prs] at this
 exact this
theorem Rep.prsAt {P : Program} {T el : TypeId} (R : Rep W G h) (hT : P.underlying T = some (.slice el)) (hk : szOf P el = some 1) (hs : scalT P el = true) (hp : p < W.n) :
  ∃ b o, aIndex P T (G.S .prs) (.int .i64 p) = some (.pointer (some ⟨b, o, none⟩)) ∧ aLoad P el ⟨b, o, none⟩ h = some (ptr (G.B (.pr p))) := by
 obtain ⟨b, o, _, h1, h2⟩ := R.prsL.at hT hk hp .i64
 refine ⟨b, o, h1, ld_cell hs ?_⟩
 have := h2 0 (by decide)
 rw [Nat.add_zero, Nat.mul_one, Nat.add_zero, List.getElem?_map, List.getElem?_range hp] at this
 exact this
theorem Rep.prsAt2 {P : Program} {T el : TypeId} (R : Rep W G h) (hT : P.underlying T = some (.slice el)) (hk : szOf P el = some 1) (hs : scalT P el = true) (hp : p < W.n) :
  ∃ b o, aIndex P T (G.S .prs) (.int .i64 p) = some (.pointer (some ⟨b, o, none⟩)) ∧ aLoad P el ⟨b, o, none⟩ h = some (ptr (G.B (.pr p))) ∧ vb (G.S .prs) = some b := by
 obtain ⟨b, o, hv, h1, h2⟩ := R.prsL.at hT hk hp .i64
 refine ⟨b, o, h1, ld_cell hs ?_, hv⟩
 have := h2 0 (by decide)
 rw [Nat.add_zero, Nat.mul_one, Nat.add_zero, List.getElem?_map, List.getElem?_range hp] at this
 exact this
theorem Rep.way (R : Rep W G h) (a b : Int) : ∃ cs, Gr h 1 (G.S (.way a b)) (W.way a b).length cs ∧ Ls (RPk h G.ro) 1 (W.way a b) cs := by
 obtain ⟨cs, h1, h2⟩ := R.rel.way a b
 have := R.op.here (.way a b)
 rw [h1] at this
 exact ⟨cs, this, h2⟩
theorem Rep.inb (R : Rep W G h) (hp : p < W.n) : ∃ cs, Gr h 2 (G.S (.inb p)) (W.pr p).inb.length cs ∧ Ls (RAr h G.ro) 2 (W.pr p).inb cs := by
 obtain ⟨cs, h1, h2⟩ := (R.rel.pr p hp).inb
 have := R.op.here (.inb p)
 rw [h1] at this
 exact ⟨cs, this, h2⟩
theorem Rep.msg (R : Rep W G h) (hp : p < W.n) : ∃ cs, Gr h 6 (G.S (.msg p)) (W.pr p).msgs.length cs ∧ Ls (RMs h G.ro) 6 (W.pr p).msgs cs := by
 obtain ⟨cs, h1, h2⟩ := (R.rel.pr p hp).msg
 have := R.op.here (.msg p)
 rw [h1] at this
 exact ⟨cs, this, h2⟩
theorem Rep.rcv (R : Rep W G h) (hp : p < W.n) : Gr h 1 (G.S (.rcv p)) (W.pr p).rcvs.length ((W.pr p).rcvs.map fun k => ptr (G.B (.rq p k))) := by
 have := R.op.here (.rcv p)
 rw [(R.rel.pr p hp).rcv] at this
 exact this
theorem Rep.crd (R : Rep W G h) (hp : p < W.n) : Ws h 1 (G.S (.crd p)) (W.pr p).crds.length ((W.pr p).crds.map nv) := by
 have := R.op.here (.crd p)
 rw [(R.rel.pr p hp).crd] at this
 exact this
theorem Rep.rqs (R : Rep W G h) (hp : p < W.n) : Mp h (G.B (.rqs p)) nv Eq ((W.pr p).reqs.map fun (k : Nat) => ((k : Int), ptr (G.B (.rq p k)))) ∧ Mb h (G.B (.rqs p)) := by
 have := R.op.here (.rqs p)
 rw [(R.rel.pr p hp).rqs] at this
 obtain ⟨b, e, c⟩ := this
 cases e; exact c
theorem Rep.exs (R : Rep W G h) (hp : p < W.n) : Mp h (G.B (.exs p)) k2 Eq ((W.pr p).exps.map fun e => (e.1, ptr (G.B (.rq p e.2)))) ∧ Mb h (G.B (.exs p)) := by
 have := R.op.here (.exs p)
 rw [(R.rel.pr p hp).exs] at this
 obtain ⟨b, e, c⟩ := this
 cases e; exact c
theorem Rep.waysN (R : Rep W G h) : ∃ m, Mp h (G.B .ways) k2 Eq m ∧ Mb h (G.B .ways) ∧ G.C .ways = .mp m ∧ (m.map (·.1)).Nodup ∧ ∀ a b, (kget m (a, b)).getD nilS = G.S (.way a b) := by
 obtain ⟨m, h1, h2⟩ := R.rel.ways
 have := R.op.here .ways
 rw [h1] at this
 obtain ⟨b, e, c, d⟩ := this
 cases e; exact ⟨m, c, d, h1, h2⟩
theorem Rep.ways (R : Rep W G h) : ∃ m, Mp h (G.B .ways) k2 Eq m ∧ Mb h (G.B .ways) ∧ G.C .ways = .mp m ∧ ∀ a b, (kget m (a, b)).getD nilS = G.S (.way a b) := by
 obtain ⟨m, a, b, c, d, e⟩ := R.waysN; exact ⟨m, a, b, c, e⟩
end
end
end Go.Arm
namespace Go.Arm
noncomputable section
open Go Go.X Go.Mt
variable [Tys]
section
variable {W W' : Wd} {G G' : Gh} {h h' : AH} {p no : Nat} {v : Value} {x : Pr} {q : Nat → Rq} {cs : List Value}
theorem Rel.at (R : Rel W G h) (h1 : W'.lim = W.lim) (h2 : W'.n = W.n) (h3 : W'.way = W.way) (h4 : ∀ k, k ≠ p → W'.pr k = W.pr k ∧ W'.rq k = W.rq k)
   (hG : ∀ r, r.of ≠ some p → G'.C r = G.C r ∧ G'.S r = G.S r ∧ G'.B r = G.B r) (hB : G'.B (.pr p) = G.B (.pr p)) (hr : G'.ro = G.ro) (P : p < W.n → RelP (W'.pr p) (W'.rq p) G' h p) : Rel W' G' h := by
 have hw := hG .wd (by simp [Ro.of])
 have hq := hG .prs (by simp [Ro.of])
 have hy := hG .ways (by simp [Ro.of])
 refine ⟨by rw [hw.1, h1, hq.2.1, hy.2.2]; exact R.wd, ?_, ?_, fun a b => ?_, fun k hk => ?_⟩
 · rw [hq.1, h2, R.prs]
   congr 1
   refine List.map_congr_left fun k _ => ?_
   by_cases e : k = p
   · rw [e, hB]
   · rw [(hG (.pr k) (by simpa [Ro.of] using e)).2.2]
 · obtain ⟨m, a1, a2⟩ := R.ways
   exact ⟨m, by rw [hy.1]; exact a1, a2.1, fun a b => by rw [(hG (.way a b) (by simp [Ro.of])).2.1]; exact a2.2 a b⟩
 · rw [(hG (.way a b) (by simp [Ro.of])).1, h3, hr]; exact R.way a b
 · rw [h2] at hk
   by_cases e : k = p
   · subst e; exact P hk
   · rw [(h4 k e).1, (h4 k e).2]
     exact (R.pr k hk).congr (fun r hr => hG r (by rw [hr]; simpa using e)) hr
omit [Tys] in
theorem of_ne {r r' : Ro} {p : Nat} (hr : r.of = some p) (h : r'.of ≠ some p) : r' ≠ r := fun e => h (e ▸ hr)
theorem RelP.inbX (P : RelP x q G h p) {l : List (Int × Pk)} (H : Ls (RAr h G.ro) 2 l cs) :
  RelP { x with inb := l } q ((G.putS (.inb p) v (.gr 2 l.length cs)).putC (.pr p) (.cl (prC x.next (G.putS (.inb p) v (.gr 2 l.length cs)) p))) h p :=
 ⟨ups_at _ _ _, P.rqs, P.rqp, P.exs, P.exp, ⟨cs, ups_at _ _ _, H⟩, P.msg, P.rcv, P.rcp, P.crd, P.rq, P.pcs, P.snt, P.nxt⟩
theorem RelP.msgX (P : RelP x q G h p) {l : List Ms} (H : Ls (RMs h G.ro) 6 l cs) :
  RelP { x with msgs := l } q ((G.putS (.msg p) v (.gr 6 l.length cs)).putC (.pr p) (.cl (prC x.next (G.putS (.msg p) v (.gr 6 l.length cs)) p))) h p :=
 ⟨ups_at _ _ _, P.rqs, P.rqp, P.exs, P.exp, P.inb, ⟨cs, ups_at _ _ _, H⟩, P.rcv, P.rcp, P.crd, P.rq, P.pcs, P.snt, P.nxt⟩
theorem RelP.rcvX (P : RelP x q G h p) {l : List Nat} (H : ∀ k, k ∈ l → G.C (.rq p k) ≠ .no) :
  RelP { x with rcvs := l } q ((G.putS (.rcv p) v (.gr 1 l.length (l.map fun k => ptr (G.B (.rq p k))))).putC (.pr p) (.cl (prC x.next (G.putS (.rcv p) v (.gr 1 l.length (l.map fun k => ptr (G.B (.rq p k))))) p))) h p :=
 ⟨ups_at _ _ _, P.rqs, P.rqp, P.exs, P.exp, P.inb, P.msg, ups_at _ _ _, H, P.crd, P.rq, P.pcs, P.snt, P.nxt⟩
theorem RelP.crdX (P : RelP x q G h p) (l : List Int) : RelP { x with crds := l } q (G.putC (.crd p) (.ws l.length (l.map nv))) h p :=
 ⟨P.pr, P.rqs, P.rqp, P.exs, P.exp, P.inb, P.msg, P.rcv, P.rcp, ups_at _ _ _, P.rq, P.pcs, P.snt, P.nxt⟩
theorem RelP.exsX (P : RelP x q G h p) {l : List ((Int × Int) × Nat)} (H : ∀ e, e ∈ l → G.C (.rq p e.2) ≠ .no) : RelP { x with exps := l } q (G.putC (.exs p) (.mp (l.map fun e => (e.1, ptr (G.B (.rq p e.2)))))) h p :=
 ⟨P.pr, P.rqs, P.rqp, ups_at _ _ _, H, P.inb, P.msg, P.rcv, P.rcp, P.crd, P.rq, P.pcs, P.snt, P.nxt⟩
theorem RelP.rqsX (P : RelP x q G h p) {l : List Nat} (H : ∀ k, k ∈ l → G.C (.rq p k) ≠ .no) : RelP { x with reqs := l } q (G.putC (.rqs p) (.mi (l.map fun (k : Nat) => ((k : Int), ptr (G.B (.rq p k)))))) h p :=
 ⟨P.pr, ups_at _ _ _, H, P.exs, P.exp, P.inb, P.msg, P.rcv, P.rcp, P.crd, P.rq, P.pcs, P.snt, P.nxt⟩
omit [Tys] in
theorem pres {r r' : Ro} {x : Th} (hx : x ≠ .no) (h0 : G.C r ≠ .no) : (G.putC r x).C r' ≠ .no ↔ G.C r' ≠ .no := by
 show ups G.C r x r' ≠ .no ↔ _
 by_cases e : r' = r
 · subst e; rw [ups_at]; simp [hx, h0]
 · rw [ups_ne _ _ e]
theorem RelP.rqX (P : RelP x q G h p) (h0 : G.C (.rq p no) ≠ .no) {dv : Value} {r : Rq} (hd : Dr h G.ro dv r.data) (hp : r.pcs = (q no).pcs) (hs : r.sent = (q no).sent) : RelP x (ups q no r) (G.putC (.rq p no) (.cl (rqC G dv p no r))) h p := by
 have hpr : ∀ k, (G.putC (.rq p no) (.cl (rqC G dv p no r))).C (.rq p k) ≠ .no ↔ G.C (.rq p k) ≠ .no := fun k => pres (by simp) h0
 have hat : (G.putC (.rq p no) (.cl (rqC G dv p no r))).C (.rq p no) = .cl (rqC G dv p no r) := ups_at _ _ _
 have hne : ∀ k, k ≠ no → (G.putC (.rq p no) (.cl (rqC G dv p no r))).C (.rq p k) = G.C (.rq p k) := fun k e => ups_ne _ _ (by simpa using e)
 refine ⟨P.pr, P.rqs, fun k hk => (hpr k).2 (P.rqp k hk), P.exs, fun e he => (hpr e.2).2 (P.exp e he), P.inb, P.msg, P.rcv, fun k hk => (hpr k).2 (P.rcp k hk), P.crd, fun k hk => ?_, fun k hk => ?_, fun k hk => ?_, fun k hk => P.nxt k ((hpr k).1 hk)⟩
 · by_cases e : k = no
   · subst e
     exact ⟨dv, by rw [ups_at]; exact hd, by rw [hat, ups_at]; rfl⟩
   · obtain ⟨dv', a, b⟩ := P.rq k ((hpr k).1 hk)
     exact ⟨dv', by rw [ups_ne _ _ e]; exact a, by rw [hne k e, ups_ne _ _ e]; exact b⟩
 · by_cases e : k = no
   · subst e
     rw [ups_at, hp]; exact P.pcs k h0
   · rw [ups_ne _ _ e]; exact P.pcs k ((hpr k).1 hk)
 · by_cases e : k = no
   · subst e
     rw [ups_at, hs]; exact P.snt k h0
   · rw [ups_ne _ _ e]; exact P.snt k ((hpr k).1 hk)
end
end
end Go.Arm
namespace Go.Arm
noncomputable section
open Go Go.X Go.Mt
variable [Tys]
def Nxt (W' : Wd) (G : Gh) (h h' : AH) : Prop := ∃ S C ro, Rep W' ⟨G.B, S, C, ro⟩ h' ∧ Gx G h ⟨G.B, S, C, ro⟩ h'
section
variable {κ β : Type} [DecidableEq κ]
omit [Tys] in
theorem kgs_at (m : List (κ × β)) (k : κ) (v : β) : kget (kset m k v) k = some v := by
 induction m with
 | nil => simp [kset, kget]
 | cons x m ih =>
  unfold kset
  split
  · simp [kget]
  · rename_i hne; unfold kget; rw [if_neg hne]; exact ih
omit [Tys] in
theorem kgs_ne (m : List (κ × β)) {k k' : κ} {v : β} (e : k' ≠ k) : kget (kset m k v) k' = kget m k' := by
 induction m with
 | nil => simp only [kset, kget]; rw [if_neg (fun h => e h.symm)]
 | cons x m ih =>
  unfold kset
  split
  · rename_i hx
    unfold kget
    rw [if_neg (fun h => e h.symm), if_neg (fun h => e (by rw [← h, hx]))]
  · unfold kget
    split
    · rfl
    · exact ih
end
def Ow (h0 : AH) (G : Gh) (b : Nat) : Prop := h0.next ≤ b ∧ ¬ G.mut b ∧ ¬ G.ro b
section
variable {W W' : Wd} {G G' G1 : Gh} {h h' h1 h2 : AH} {p no : Nat} {v : Value} {cs : List Value} {S : Nat → Prop}
theorem Nxt.after {S : Ro → Value} {C : Ro → Th} {ro : Nat → Prop} (N : Nxt W' ⟨G.B, S, C, ro⟩ h1 h') (X : Gx G h ⟨G.B, S, C, ro⟩ h1) : Nxt W' G h h' := by
 obtain ⟨S', C', ro', R, Y⟩ := N
 exact ⟨S', C', ro', R, X.trans Y⟩
theorem Nxt.of (R : Rep W G h) (s : Sm Nix h h') : Nxt W G h h' := ⟨G.S, G.C, G.ro, R.ext s, .of s⟩
theorem Nxt.pre (s : Sm Nix h h1) (N : Nxt W' G h1 h') : Nxt W' G h h' := by
 obtain ⟨S', C', ro', R, Y⟩ := N
 exact ⟨S', C', ro', R, (Gx.of s).trans Y⟩
theorem Rep.ow {h0 : AH} (R : Rep W G h) (t : Sm (Ow h0 G) h h') : Rep W G h' := R.sm t fun _ hb => ⟨hb.2.1, hb.2.2⟩
omit [Tys] in
theorem Gx.ow {h0 : AH} (X : Gx G h0 G' h) (t : Sm (Ow h0 G') h h') : Gx G h0 G' h' := ⟨X.sm.trans t (fun _b hb => .inr hb.1), X.mu, X.ron, X.rok, X.keep, X.prs⟩
omit [Tys] in
theorem Gx.dr (X : Gx G h G' h') (O : Op G h) : ∀ v d, Dr h G.ro v d → Dr h' G'.ro v d := fun _ _ H => H.mono X.sm (fun b hb hm => O.ro b hm hb) X.rok
theorem Rep.more (R : Rep W G h) {Q : Nat → Prop} (s : Sm Nix h h') (h1 : ∀ b, Q b → h.next ≤ b) (h2 : ∀ b, Q b → b < h'.next) : Rep W (G.more Q) h' ∧ Gx G h (G.more Q) h' := by
 obtain ⟨O, X⟩ := R.op.more s h1 h2
 exact ⟨⟨O, R.rel.mono rfl rfl rfl (X.dr R.op)⟩, X⟩
theorem Rep.setRq (R : Rep W G h) (_hp : p < W.n) (hr : G.C (.rq p no) ≠ .no) {dv : Value} {r : Rq} (c : Cl h' (G.B (.rq p no)) (rqC G dv p no r)) (t : Sm S h h') (hS : ∀ k, S k → k = G.B (.rq p no) ∨ h.next ≤ k) (hd : Dr h' G.ro dv r.data) (h1 : r.pcs = (W.rq p no).pcs) (h2 : r.sent = (W.rq p no).sent) :
  Rep (W.setRq p no r) (G.putC (.rq p no) (.cl (rqC G dv p no r))) h' ∧ Gx G h (G.putC (.rq p no) (.cl (rqC G dv p no r))) h' := by
 have t2 : Sm (fun k => k = G.B (.rq p no)) h h' := ⟨t.nx, fun k hk hn => t.get k hk fun hs => (hS k hs).elim hn (by omega)⟩
 obtain ⟨O, X⟩ := R.op.putC (.rq p no) (x := .cl (rqC G dv p no r)) (by simp) hr t2 (fun k hk => by subst hk; rfl) ⟨_, rfl, c⟩
 refine ⟨⟨O, ((R.rel.mono0 (X.dr R.op)).at (p := p) rfl rfl rfl (fun k hk => ⟨rfl, ups_ne _ _ hk⟩) (fun r hr => ⟨ups_ne _ _ (of_ne (by simp [Ro.of]) hr), rfl, rfl⟩) rfl rfl fun hp => ?_)⟩, X⟩
 show RelP (W.pr p) (ups W.rq p (ups (W.rq p) no r) p) _ _ _
 rw [ups_at]
 exact ((R.rel.mono0 (X.dr R.op)).pr p hp).rqX hr hd h1 h2
theorem Rep.stRq (R : Rep W G h) (hp : p < W.n) (hr : G.C (.rq p no) ≠ .no) {dv : Value} {r : Rq} (hd : Dr h G.ro dv (W.rq p no).data) (c : Cl h' (G.B (.rq p no)) (rqC G dv p no r)) (t : Sm (fun k => k = G.B (.rq p no)) h h') (h0 : r.data = (W.rq p no).data) (h1 : r.pcs = (W.rq p no).pcs) (h2 : r.sent = (W.rq p no).sent) :
  Nxt (W.setRq p no r) G h h' := by
 have := R.setRq hp hr (dv := dv) c t (fun k hk => .inl hk) (by rw [h0]; exact R.op.dr (t.mono fun k hk => ⟨.rq p no, hr, by subst hk; rfl⟩) _ _ hd) h1 h2
 exact ⟨_, _, _, this⟩
omit [Tys] in
theorem Op.ne (O : Op G h) {r r' : Ro} (h1 : G.C r ≠ .no) (h2 : G.C r' ≠ .no) (hn : r ≠ r') {b : Nat} (hb : vbx (G.V r) = some b) : ¬ vbx (G.V r') = some b := fun e => hn (O.inj _ _ _ h1 h2 hb e)
theorem Rep.listX (R : Rep W G h) (hp : p < W.n) {r : Ro} (hr : r = .inb p ∨ r = .msg p ∨ r = .rcv p) {k n : Nat} {x : Pr} (_hx : x.next = (W.pr p).next) (g : Gr h1 k v n cs) (s : Sm S h h1) (hS : ∀ c, S c → vb (G.S r) = some c ∨ h.next ≤ c) (hv : ∀ c, vb v = some c → vb (G.S r) = some c ∨ h.next ≤ c)
   (c : Cl h2 (G.B (.pr p)) (prC (W.pr p).next (G.putS r v (.gr k n cs)) p)) (t : Sm (fun k => k = G.B (.pr p)) h1 h2)
   (hP : ∀ _f : (∀ v d, Dr h G.ro v d → Dr h2 G.ro v d), RelP (W.pr p) (W.rq p) G h2 p → RelP x (W.rq p) ((G.putS r v (.gr k n cs)).putC (.pr p) (.cl (prC (W.pr p).next (G.putS r v (.gr k n cs)) p))) h2 p) :
   Rep (W.setPr p x) ((G.putS r v (.gr k n cs)).putC (.pr p) (.cl (prC (W.pr p).next (G.putS r v (.gr k n cs)) p))) h2 ∧ Gx G h ((G.putS r v (.gr k n cs)).putC (.pr p) (.cl (prC (W.pr p).next (G.putS r v (.gr k n cs)) p))) h2 := by
 have P0 := R.rel.pr p hp
 have h0 : G.C r ≠ .no := by
   rcases hr with rfl | rfl | rfl
   · obtain ⟨cs, e, _⟩ := P0.inb; rw [e]; simp
   · obtain ⟨cs, e, _⟩ := P0.msg; rw [e]; simp
   · rw [P0.rcv]; simp
 have hV : ∀ G : Gh, G.V r = G.S r := by rcases hr with rfl | rfl | rfl <;> intro G <;> rfl
 have hof : r.of = some p := by rcases hr with rfl | rfl | rfl <;> rfl
 have hprs : r ≠ .prs := by rcases hr with rfl | rfl | rfl <;> simp
 have hpr : r ≠ .pr p := by rcases hr with rfl | rfl | rfl <;> simp
 have hB : ∃ b, G.S r = G.S r ∧ b = G.B (.pr p) := ⟨_, rfl, rfl⟩
 obtain ⟨O1, X1⟩ := R.op.putS r v (x := .gr k n cs) (by simp) h0 hV hprs s (fun c hc => (hS c hc).imp vb_vbx id) g (fun c hc => by
   have hc2 : vb v = some c := vbx_sl (by obtain ⟨a, e, f⟩ := g.sd.form; exact ⟨a, n, e, f⟩) hc
   exact (hv c hc2).imp vb_vbx id)
 obtain ⟨O2, X2⟩ := O1.putC (.pr p) (x := .cl (prC (W.pr p).next (G.putS r v (.gr k n cs)) p)) (by simp) (by show ups G.C r _ _ ≠ _; rw [ups_ne _ _ (Ne.symm hpr), P0.pr]; simp) t (fun k hk => by subst hk; rfl) ⟨_, rfl, c⟩
 have X := X1.trans X2
 refine ⟨⟨O2, (R.rel.mono0 (X.dr R.op)).at (p := p) rfl rfl rfl (fun k hk => ⟨ups_ne _ _ hk, rfl⟩) (fun r' hr' => ⟨?_, ?_, rfl⟩) rfl rfl fun hp => ?_⟩, X⟩
 · exact (ups_ne _ _ (of_ne (by simp [Ro.of]) hr')).trans (ups_ne _ _ (of_ne hof hr'))
 · exact ups_ne _ _ (of_ne hof hr')
 · show RelP (ups W.pr p x p) _ _ _ _
   rw [ups_at]
   exact hP (X.dr R.op) ((R.rel.mono0 (X.dr R.op)).pr p hp)
theorem Rep.list (R : Rep W G h) (hp : p < W.n) {r : Ro} (hr : r = .inb p ∨ r = .msg p ∨ r = .rcv p) {k n : Nat} {x : Pr} (hx : x.next = (W.pr p).next) (g : Gr h1 k v n cs) (s : Sm S h h1) (hS : ∀ c, S c → vb (G.S r) = some c ∨ h.next ≤ c) (hv : ∀ c, vb v = some c → vb (G.S r) = some c ∨ h.next ≤ c)
 (c : Cl h2 (G.B (.pr p)) (prC (W.pr p).next (G.putS r v (.gr k n cs)) p)) (t : Sm (fun k => k = G.B (.pr p)) h1 h2)
 (hP : ∀ _f : (∀ v d, Dr h G.ro v d → Dr h2 G.ro v d), RelP (W.pr p) (W.rq p) G h2 p → RelP x (W.rq p) ((G.putS r v (.gr k n cs)).putC (.pr p) (.cl (prC (W.pr p).next (G.putS r v (.gr k n cs)) p))) h2 p) : Nxt (W.setPr p x) G h h2 := ⟨_, _, _, R.listX hp hr hx g s hS hv c t hP⟩
theorem Rep.setInb (R : Rep W G h) (hp : p < W.n) {l : List (Int × Pk)} (H : Ls (RAr h G.ro) 2 l cs) (g : Gr h1 2 v l.length cs) (s : Sm S h h1) (hS : ∀ c, S c → vb (G.S (.inb p)) = some c ∨ h.next ≤ c) (hv : ∀ c, vb v = some c → vb (G.S (.inb p)) = some c ∨ h.next ≤ c)
  (c : Cl h2 (G.B (.pr p)) [nk (W.pr p).next, .map (some (G.B (.rqs p))), .map (some (G.B (.exs p))), v, G.S (.msg p), G.S (.rcv p), G.S (.crd p)]) (t : Sm (fun k => k = G.B (.pr p)) h1 h2) : Nxt (W.setPr p { W.pr p with inb := l }) G h h2 :=
 R.list hp (r := .inb p) (.inl rfl) rfl g s hS hv (by
  have : prC (W.pr p).next (G.putS (.inb p) v (.gr 2 l.length cs)) p = [nk (W.pr p).next, .map (some (G.B (.rqs p))), .map (some (G.B (.exs p))), v, G.S (.msg p), G.S (.rcv p), G.S (.crd p)] := by
   unfold prC
   rw [show (G.putS (.inb p) v (.gr 2 l.length cs)).S (.inb p) = v from ups_at _ _ _]
   rfl
  rw [this]; exact c) t fun f P => P.inbX (H.mono fun _ _ z => z.mono f)
theorem Rep.nilInb (R : Rep W G h) (hp : p < W.n) (c : Cl h2 (G.B (.pr p)) [nk (W.pr p).next, .map (some (G.B (.rqs p))), .map (some (G.B (.exs p))), .slice none 0 0, G.S (.msg p), G.S (.rcv p), G.S (.crd p)]) (t : Sm (fun k => k = G.B (.pr p)) h h2) :
   ∃ S C ro, (Rep (W.setPr p { W.pr p with inb := [] }) ⟨G.B, S, C, ro⟩ h2 ∧ Gx G h ⟨G.B, S, C, ro⟩ h2) ∧ ∀ b, vb (G.S (.inb p)) = some b → ¬ (Gh.mut ⟨G.B, S, C, ro⟩) b ∧ ¬ ro b := by
 obtain ⟨cs, ec, _⟩ := (R.rel.pr p hp).inb
 have hpr := (R.rel.pr p hp).pr
 have := R.listX hp (r := .inb p) (.inl rfl) (x := { W.pr p with inb := [] }) rfl (v := .slice none 0 0) (k := 2) (n := 0) (cs := []) Gr.nil (Sm.refl (S := Nix)) (fun c hc => hc.elim) (fun c hc => by cases hc) (by
   have : prC (W.pr p).next (G.putS (.inb p) (.slice none 0 0) (.gr 2 0 [])) p = [nk (W.pr p).next, .map (some (G.B (.rqs p))), .map (some (G.B (.exs p))), .slice none 0 0, G.S (.msg p), G.S (.rcv p), G.S (.crd p)] := by
    unfold prC
    rw [show (G.putS (.inb p) (.slice none 0 0) (.gr 2 0 [])).S (.inb p) = .slice none 0 0 from ups_at _ _ _]
    rfl
   rw [this]; exact c) t fun f P => P.inbX (l := []) (cs := []) .nil
 refine ⟨_, _, _, this, fun b hb => ⟨?_, R.op.ro b ⟨.inb p, by rw [ec]; simp, vb_vbx hb⟩⟩⟩
 rintro ⟨r, h1, h3⟩
 by_cases e : r = .inb p
 · subst e
   have : ((G.putS (.inb p) (.slice none 0 0) (.gr 2 0 [])).putC (.pr p) (.cl (prC (W.pr p).next (G.putS (.inb p) (.slice none 0 0) (.gr 2 0 [])) p))).V (.inb p) = .slice none 0 0 := ups_at _ _ _
   have h3 := (congrArg vbx this).symm.trans h3
   cases h3
 · have hv : ((G.putS (.inb p) (.slice none 0 0) (.gr 2 0 [])).putC (.pr p) (.cl (prC (W.pr p).next (G.putS (.inb p) (.slice none 0 0) (.gr 2 0 [])) p))).V r = G.V r := by
    cases r <;> first | rfl | exact ups_ne _ _ e
   have hc : G.C r ≠ .no := by
    by_cases e2 : r = .pr p
    · rw [e2, hpr]; simp
    · have : ups (ups G.C (.inb p) (.gr 2 0 [])) (.pr p) (.cl (prC (W.pr p).next (G.putS (.inb p) (.slice none 0 0) (.gr 2 0 [])) p)) r = G.C r := by rw [ups_ne _ _ e2, ups_ne _ _ e]
      exact fun h5 => h1 (by show ups (ups G.C (.inb p) _) (.pr p) _ r = _; exact this.trans h5)
   have h3 := (congrArg vbx hv).symm.trans h3
   exact e (R.op.inj _ _ _ hc (by rw [ec]; simp) h3 (vb_vbx hb))
theorem Rep.setMsg (R : Rep W G h) (hp : p < W.n) {l : List Ms} (H : Ls (RMs h G.ro) 6 l cs) (g : Gr h1 6 v l.length cs) (s : Sm S h h1) (hS : ∀ c, S c → vb (G.S (.msg p)) = some c ∨ h.next ≤ c) (hv : ∀ c, vb v = some c → vb (G.S (.msg p)) = some c ∨ h.next ≤ c)
  (c : Cl h2 (G.B (.pr p)) [nk (W.pr p).next, .map (some (G.B (.rqs p))), .map (some (G.B (.exs p))), G.S (.inb p), v, G.S (.rcv p), G.S (.crd p)]) (t : Sm (fun k => k = G.B (.pr p)) h1 h2) : Nxt (W.setPr p { W.pr p with msgs := l }) G h h2 :=
 R.list hp (r := .msg p) (.inr (.inl rfl)) rfl g s hS hv (by
  have : prC (W.pr p).next (G.putS (.msg p) v (.gr 6 l.length cs)) p = [nk (W.pr p).next, .map (some (G.B (.rqs p))), .map (some (G.B (.exs p))), G.S (.inb p), v, G.S (.rcv p), G.S (.crd p)] := by
   unfold prC
   rw [show (G.putS (.msg p) v (.gr 6 l.length cs)).S (.msg p) = v from ups_at _ _ _]
   rfl
  rw [this]; exact c) t fun f P => P.msgX (H.mono fun _ _ z => z.mono f)
theorem Rep.setRcv (R : Rep W G h) (hp : p < W.n) {l : List Nat} (H : ∀ k, k ∈ l → G.C (.rq p k) ≠ .no) (g : Gr h1 1 v l.length (l.map fun k => ptr (G.B (.rq p k)))) (s : Sm S h h1) (hS : ∀ c, S c → vb (G.S (.rcv p)) = some c ∨ h.next ≤ c) (hv : ∀ c, vb v = some c → vb (G.S (.rcv p)) = some c ∨ h.next ≤ c)
  (c : Cl h2 (G.B (.pr p)) [nk (W.pr p).next, .map (some (G.B (.rqs p))), .map (some (G.B (.exs p))), G.S (.inb p), G.S (.msg p), v, G.S (.crd p)]) (t : Sm (fun k => k = G.B (.pr p)) h1 h2) : Nxt (W.setPr p { W.pr p with rcvs := l }) G h h2 :=
 R.list hp (r := .rcv p) (.inr (.inr rfl)) rfl g s hS hv (by
  have : prC (W.pr p).next (G.putS (.rcv p) v (.gr 1 l.length (l.map fun k => ptr (G.B (.rq p k))))) p = [nk (W.pr p).next, .map (some (G.B (.rqs p))), .map (some (G.B (.exs p))), G.S (.inb p), G.S (.msg p), v, G.S (.crd p)] := by
   unfold prC
   rw [show (G.putS (.rcv p) v (.gr 1 l.length (l.map fun k => ptr (G.B (.rq p k))))).S (.rcv p) = v from ups_at _ _ _]
   rfl
  rw [this]; exact c) t fun f P => P.rcvX H
theorem Rep.one (R : Rep W G h) (_hp : p < W.n) {r : Ro} (hof : r.of = some p) (_hB : r ≠ .pr p) {y : Th} {x : Pr} (hy : y ≠ .no) (h0 : G.C r ≠ .no) (s : Sm S h h') (hS : ∀ c, S c → vbx (G.V r) = some c) (A : At h' (G.V r) y)
  (hP : RelP (W.pr p) (W.rq p) G h' p → RelP x (W.rq p) (G.putC r y) h' p) : Rep (W.setPr p x) (G.putC r y) h' ∧ Gx G h (G.putC r y) h' := by
 obtain ⟨O, X⟩ := R.op.putC r (x := y) hy h0 s hS A
 refine ⟨⟨O, (R.rel.mono0 (X.dr R.op)).at (p := p) rfl rfl rfl (fun k hk => ⟨ups_ne _ _ hk, rfl⟩) (fun r' hr' => ⟨ups_ne _ _ (of_ne hof hr'), rfl, rfl⟩) rfl rfl fun hp => ?_⟩, X⟩
 show RelP (ups W.pr p x p) _ _ _ _
 rw [ups_at]
 exact hP ((R.rel.mono0 (X.dr R.op)).pr p hp)
theorem Rep.setCrd (R : Rep W G h) (hp : p < W.n) {l : List Int} (A : Ws h' 1 (G.S (.crd p)) l.length (l.map nv)) (s : Sm (fun b => vb (G.S (.crd p)) = some b) h h') : Nxt (W.setPr p { W.pr p with crds := l }) G h h' := by
 have := R.one hp (r := .crd p) rfl (by simp) (y := .ws l.length (l.map nv)) (x := { W.pr p with crds := l }) (by simp) (by rw [(R.rel.pr p hp).crd]; simp) s (fun c hc => vb_vbx hc) A (fun P => P.crdX l)
 exact ⟨_, _, _, this⟩
theorem Rep.setExs (R : Rep W G h) (hp : p < W.n) {l : List ((Int × Int) × Nat)} (H : ∀ e, e ∈ l → G.C (.rq p e.2) ≠ .no) (A : Mp h' (G.B (.exs p)) k2 Eq (l.map fun e => (e.1, ptr (G.B (.rq p e.2))))) (B : Mb h' (G.B (.exs p))) (s : Sm (fun b => b = G.B (.exs p)) h h') : Nxt (W.setPr p { W.pr p with exps := l }) G h h' := by
 have := R.one hp (r := .exs p) rfl (by simp) (y := .mp (l.map fun e => (e.1, ptr (G.B (.rq p e.2))))) (x := { W.pr p with exps := l }) (by simp) (by rw [(R.rel.pr p hp).exs]; simp) s (fun c hc => by subst hc; rfl) ⟨_, rfl, A, B⟩ (fun P => P.exsX H)
 exact ⟨_, _, _, this⟩
theorem Rep.setRqs (R : Rep W G h) (hp : p < W.n) {l : List Nat} (H : ∀ k, k ∈ l → G.C (.rq p k) ≠ .no) (A : Mp h' (G.B (.rqs p)) nv Eq (l.map fun (k : Nat) => ((k : Int), ptr (G.B (.rq p k))))) (B : Mb h' (G.B (.rqs p))) (s : Sm (fun b => b = G.B (.rqs p)) h h') : Nxt (W.setPr p { W.pr p with reqs := l }) G h h' := by
 have := R.one hp (r := .rqs p) rfl (by simp) (y := .mi (l.map fun (k : Nat) => ((k : Int), ptr (G.B (.rq p k))))) (x := { W.pr p with reqs := l }) (by simp) (by rw [(R.rel.pr p hp).rqs]; simp) s (fun c hc => by subst hc; rfl) ⟨_, rfl, A, B⟩ (fun P => P.rqsX H)
 exact ⟨_, _, _, this⟩
omit [Tys] in
theorem kset_keys {κ β : Type} [DecidableEq κ] (m : List (κ × β)) (k : κ) (v : β) : ∀ x, x ∈ (kset m k v).map (·.1) → x = k ∨ x ∈ m.map (·.1) := by
 induction m with
 | nil => intro x hx; simp [kset] at hx; exact .inl hx
 | cons y m ih =>
  intro x hx
  unfold kset at hx
  split at hx
  · rename_i e
    rcases List.mem_cons.1 hx with hx | hx
    · exact .inl hx
    · exact .inr (List.mem_cons_of_mem _ hx)
  · rcases List.mem_cons.1 hx with hx | hx
    · exact .inr (List.mem_cons.2 (.inl hx))
    · exact (ih x hx).imp id (List.mem_cons_of_mem _)
omit [Tys] in
theorem kset_nodup {κ β : Type} [DecidableEq κ] {m : List (κ × β)} (h : (m.map (·.1)).Nodup) (k : κ) (v : β) : ((kset m k v).map (·.1)).Nodup := by
 induction m with
 | nil => simp [kset]
 | cons y m ih =>
  rw [List.map_cons, List.nodup_cons] at h
  unfold kset
  split
  · rename_i e
    rw [List.map_cons, List.nodup_cons]
    exact ⟨by rw [← e]; exact h.1, h.2⟩
  · rename_i e
    rw [List.map_cons, List.nodup_cons]
    refine ⟨fun hx => ?_, ih h.2⟩
    rcases kset_keys m k v _ hx with h5 | h5
    · exact e h5
    · exact h.1 h5
omit [Tys] in
theorem kget_nodup {κ β : Type} [DecidableEq κ] {m : List (κ × β)} (h : (m.map (·.1)).Nodup) {x : κ × β} (hx : x ∈ m) : kget m x.1 = some x.2 := by
 induction m with
 | nil => cases hx
 | cons y m ih =>
  rw [List.map_cons, List.nodup_cons] at h
  unfold kget
  rcases List.mem_cons.1 hx with rfl | hx
  · rw [if_pos rfl]
  · rw [if_neg (fun e => h.1 (by rw [e]; exact List.mem_map.2 ⟨x, hx, rfl⟩))]
    exact ih h.2 hx
omit [Tys] in
theorem hw_kset {a b : Int} {m : List ((Int × Int) × Value)} (hm : ∀ i j, (kget m (i, j)).getD nilS = G.S (.way i j)) : ∀ i j, (kget (kset m (a, b) v) (i, j)).getD nilS = ups G.S (.way a b) v (.way i j) := fun i j => by
 by_cases e : (i, j) = (a, b)
 · cases e
   rw [ups_at, kgs_at]; rfl
 · rw [ups_ne _ _ (by intro h; cases h; exact e rfl), ← hm i j, kgs_ne _ e]
theorem Rep.touch (R : Rep W G h) {m : List ((Int × Int) × Value)} (hnd : (m.map (·.1)).Nodup) (hm : ∀ i j, (kget m (i, j)).getD nilS = G.S (.way i j)) (A : Mp h' (G.B .ways) k2 Eq m) (B : Mb h' (G.B .ways)) (t : Sm (fun k => k = G.B .ways) h h') :
  Rep W (G.putC .ways (.mp m)) h' ∧ Gx G h (G.putC .ways (.mp m)) h' := by
 obtain ⟨m0, em, _⟩ := R.rel.ways
 obtain ⟨O, X⟩ := R.op.putC .ways (x := .mp m) (by simp) (by rw [em]; simp) t (fun k hk => by subst hk; rfl) ⟨_, rfl, A, B⟩
 have R1 := R.rel.mono0 (X.dr R.op)
 exact ⟨⟨O, ⟨R1.wd, R1.prs, ⟨m, ups_at G.C Ro.ways (.mp m), hnd, hm⟩, R1.way, fun p hp => (R1.pr p hp).congr (fun r hr => ⟨ups_ne _ _ (by intro h; rw [h] at hr; cases hr), rfl, rfl⟩) rfl⟩⟩, X⟩
theorem Rep.waysLt (R : Rep W G h) : G.B .ways < h.next := by
 obtain ⟨m, a, _⟩ := R.ways
 exact a.1
theorem Rep.prLt (R : Rep W G h) (hp : p < W.n) : G.B (.pr p) < h.next := (R.prL hp).lt
theorem Rep.setWay (R : Rep W G h) (a b : Int) {l : List Pk} {m : List ((Int × Int) × Value)} (hnd : (m.map (·.1)).Nodup) (hw : ∀ i j, (kget m (i, j)).getD nilS = ups G.S (.way a b) v (.way i j)) (H : Ls (RPk h G.ro) 1 l cs) (g : Gr h1 1 v l.length cs) (s : Sm S h h1) (hS : ∀ c, S c → vb (G.S (.way a b)) = some c ∨ h.next ≤ c) (hv : ∀ c, vb v = some c → vb (G.S (.way a b)) = some c ∨ h.next ≤ c)
  (A : Mp h2 (G.B .ways) k2 Eq m) (B : Mb h2 (G.B .ways)) (t : Sm (fun k => k = G.B .ways) h1 h2) : Nxt (W.setWay a b l) G h h2 := by
 obtain ⟨cs0, e0, _⟩ := R.rel.way a b
 obtain ⟨m0, em, _⟩ := R.rel.ways
 obtain ⟨O1, X1⟩ := R.op.putS (.way a b) v (x := .gr 1 l.length cs) (by simp) (by rw [e0]; simp) (fun _ => rfl) (by simp) s (fun c hc => (hS c hc).imp vb_vbx id) g (fun c hc => by
  have hc2 : vb v = some c := vbx_sl (by obtain ⟨a, e, f⟩ := g.sd.form; exact ⟨a, _, e, f⟩) hc
  exact (hv c hc2).imp vb_vbx id)
 obtain ⟨O2, X2⟩ := O1.putC .ways (x := .mp m) (by simp) (by show G.C .ways ≠ _; rw [em]; simp) t (fun k hk => by subst hk; rfl) ⟨_, rfl, A, B⟩
 have X := X1.trans X2
 have R1 := R.rel.mono0 (X.dr R.op)
 have hcg : ∀ r p, r.of = some p → (ups (ups G.C (.way a b) (.gr 1 l.length cs)) .ways (.mp m)) r = G.C r ∧ ups G.S (.way a b) v r = G.S r := fun r p hr =>
  ⟨by rw [ups_ne _ _ (by intro h; rw [h] at hr; cases hr), ups_ne _ _ (by intro h; rw [h] at hr; cases hr)], by rw [ups_ne _ _ (by intro h; rw [h] at hr; cases hr)]⟩
 have hwy : ∀ i j, ∃ cs', (ups (ups G.C (.way a b) (.gr 1 l.length cs)) .ways (.mp m)) (.way i j) = .gr 1 ((W.setWay a b l).way i j).length cs' ∧ Ls (RPk h2 G.ro) 1 ((W.setWay a b l).way i j) cs' := fun i j => by
  by_cases e : (i, j) = (a, b)
  · cases e
    have ew : (W.setWay a b l).way a b = l := by
     show ups W.way a (ups (W.way a) b l) a b = _
     rw [ups_at, ups_at]
    exact ⟨cs, by rw [ups_ne _ _ (by simp), ups_at, ew], by rw [ew]; exact H.mono fun _ _ z => z.mono (X.dr R.op)⟩
  · obtain ⟨cs', e1, e2⟩ := R1.way i j
    have ew : (W.setWay a b l).way i j = W.way i j := by
     show ups W.way a (ups (W.way a) b l) i j = _
     by_cases ei : i = a
     · subst ei
       rw [ups_at, ups_ne _ _ (fun h => e (by rw [h]))]
     · rw [ups_ne _ _ ei]
    exact ⟨cs', by rw [ups_ne _ _ (by simp), ups_ne _ _ (by intro h; cases h; exact e rfl), ew]; exact e1, by rw [ew]; exact e2⟩
 exact ⟨_, _, _, ⟨O2, ⟨R1.wd, R1.prs, ⟨m, ups_at (ups G.C (.way a b) (.gr 1 l.length cs)) Ro.ways (.mp m), hnd, hw⟩, hwy, fun p hp => (R1.pr p hp).congr (fun r hr => ⟨(hcg r p hr).1, (hcg r p hr).2, rfl⟩) rfl⟩⟩, X⟩
end
end
end Go.Arm
namespace Go.Proofs.Ytmehemeoaplepaa
noncomputable section
open Go Go.X Go.Arm
theorem noCount : NoCount Try.prog := noCount_of (by decide +kernel)
theorem mixed : Try.prog.follows .mixedOrders = true := by kernel_rfl
set_option maxRecDepth 100000 in
theorem evaluated : allYes (aRun Try.prog 1000 60 (.enter 8 []) ah0) = true := by kernel_rfl
theorem worksYes (W : World) : Calls Try.prog 8 #[] W (YesPost W) := yes_calls (W := W) noCount mixed 1000 60 .nil evaluated
instance kn : Kn Try.prog := ⟨some 8, fun g e W => by cases e; exact worksYes W, fun _ _ _ => none, fun _ _ _ _ e => by cases e⟩
theorem kr {p : Prop} (h : p := by kernel_rfl) : p := h
end
end Go.Proofs.Ytmehemeoaplepaa
namespace Go.Proofs.Ytmehemeoaplepaa
noncomputable section
open Go Go.X Go.Arm Go.Mt
theorem blk_norm {id : Nat} {Q : Post} {f : Fr} {w : AH} (h : Q .normal f w) : InBlock id Q .normal f w := h
instance tys : Tys := ⟨144, 142, 151, 155, 189, 127⟩
theorem valid_ok {W : Wd} {G : Gh} {h : AH} (R : Rep W G h) :
  Arm.Calls Try.prog 47 [ptr (G.B .wd)] h (fun r => r.1 = .bool true ∧ Sm Nix h r.2) := by
 refine Calls_of_W (n := 12) (fn := Try.f47) kr rfl rfl (Nat.le_of_ble_eq_true rfl) trivial ⟨.inr (by simp), rfl⟩ ?_
 have T0 : Sm Nix h h := .refl
 refine W_seq ?_
 refine W_region ?_
 refine L_g 1 kr ?_
 refine L_nil ?_
 refine W_seq ?_
 refine W_region ?_
 refine L_g 6 kr ?_
 refine L_want kr ?_
 refine L_ld _ rfl rfl kr ((R.ext T0).wdL.ld (o := 2) kr rfl) ?_
 refine L_g 3 kr ?_
 refine L_nil ?_
 refine W_ret ?_
 repeat first | with_reducible refine then_ret ?_ | with_reducible refine blk_ret ?_
 refine done_of (v := .bool true) (.inl rfl) kr ?_
 exact ⟨rfl, T0⟩
theorem at_ok {W : Wd} {G : Gh} {h : AH} {p : Nat} (R : Rep W G h) (hp : p < W.n) :
  Arm.Calls Try.prog 39 [ptr (G.B .wd), nv (p : Int)] h (fun r => r.1 = .tuple ⟨[ptr (G.B (.pr p)), nv 0]⟩ ∧ Sm Nix h r.2) := by
 refine Calls_of_W (n := 29) (fn := Try.f39) kr rfl rfl (Nat.le_of_ble_eq_true rfl) trivial ⟨.inr (by simp), rfl⟩ ?_
 have T0 : Sm Nix h h := .refl
 refine W_seq ?_
 refine W_region ?_
 refine L_g 2 kr ?_
 refine L_nil ?_
 refine W_seq ?_
 refine W_block ?_
 refine W_seq ?_
 refine W_region ?_
 refine L_g 1 kr ?_
 refine L_c rfl rfl kr (valid_ok (R.ext T0)) ?_
 rintro v1 h1 ⟨e1, t1⟩
 try dsimp only at e1
 try dsimp only at t1
 subst e1
 have T1 : Sm Nix h h1 := T0.ext t1
 have N1 := T1.nx
 have M1 := t1.nx
 refine L_g 2 kr ?_
 refine L_nil ?_
 refine W_cond false kr (fun e => by cases e) (fun _ => ?_)
 refine W_seq ?_
 refine W_region ?_
 refine L_g 1 kr ?_
 refine L_i ((p : Int)) (0) (.bool false) rfl rfl kr kr rfl (by first | (simp; done) | (simp; omega)) ?_
 refine L_g 5 kr ?_
 refine L_want kr ?_
 refine L_ld _ rfl rfl kr ((R.ext T1).wdL.ld (o := 1) kr rfl) ?_
 refine L_want kr ?_
 refine L_ln _ rfl rfl kr ((R.ext T1).prsL.len (T := 74) (el := 77) kr) ?_
 refine L_want kr ?_
 refine L_i ((p : Int)) ((W.n : Int)) (.bool false) rfl rfl kr kr rfl (by first | (simp; done) | (simp; omega)) ?_
 refine L_g 2 kr ?_
 refine L_nil ?_
 refine W_cond false kr (fun e => by cases e) (fun _ => ?_)
 refine W_skip ?_
 refine W_seq ?_
 refine W_region ?_
 refine L_g 3 kr ?_
 refine L_ld _ rfl rfl kr ((R.ext T1).wdL.ld (o := 1) kr rfl) ?_
 refine L_g 1 kr ?_
 obtain ⟨b1, o1, i1, l1⟩ := (R.ext T1).prsAt (P := Try.prog) (T := 74) (el := 77) kr kr kr hp
 refine L_ix _ rfl rfl kr kr (i1) ?_
 refine L_ld _ rfl rfl kr (l1) ?_
 refine L_g 2 kr ?_
 refine L_nil ?_
 refine W_ret ?_
 repeat first | with_reducible refine then_ret ?_ | with_reducible refine blk_ret ?_
 refine done_of (v := .tuple ⟨[ptr (G.B (.pr p)), nv 0]⟩) (.inl rfl) kr ?_
 exact ⟨rfl, T1⟩
theorem full_ok {W : Wd} {G : Gh} {h : AH} {p : Nat} (R : Rep W G h) (hp : p < W.n) {b : Bool} (hb : decide (256 ≤ (W.pr p).reqs.length) = b) :
  Arm.Calls Try.prog 42 [ptr (G.B .wd), nv (p : Int)] h (fun r => r.1 = nv (if b = true then 9 else 0) ∧ Sm Nix h r.2) := by
 cases b with
 | true =>
  refine Calls_of_W (n := 17) (fn := Try.f42) kr rfl rfl (Nat.le_of_ble_eq_true rfl) trivial ⟨.inr (by simp), rfl⟩ ?_
  have T0 : Sm Nix h h := .refl
  refine W_seq ?_
  refine W_region ?_
  refine L_g 1 kr ?_
  refine L_nil ?_
  refine W_seq ?_
  refine W_seq ?_
  refine W_region ?_
  refine L_g 3 kr ?_
  refine L_ld _ rfl rfl kr ((R.ext T0).wdL.ld (o := 1) kr rfl) ?_
  refine L_g 1 kr ?_
  obtain ⟨b1, o1, i1, l1⟩ := (R.ext T0).prsAt (P := Try.prog) (T := 74) (el := 77) kr kr kr hp
  refine L_ix _ rfl rfl kr kr (i1) ?_
  refine L_ld _ rfl rfl kr (l1) ?_
  refine L_g 2 kr ?_
  refine L_ld _ rfl rfl kr (((R.ext T0).prL hp).ld (o := 1) kr rfl) ?_
  refine L_ln _ rfl rfl kr ((((R.ext T0).rqs hp).1.len (P := Try.prog) (T := 78) (kt := 3) (el := 103) kr)) ?_
  refine L_i ((((W.pr p).reqs.map fun (k : Nat) => ((k : Int), ptr (G.B (.rq p k)))).length : Int)) (256) (.bool true) rfl rfl kr kr rfl (by simp at hb; simp; omega) ?_
  refine L_nil ?_
  refine W_cond true kr (fun _ => ?_) (fun e => by cases e)
  refine W_seq ?_
  refine W_region ?_
  refine L_g 1 kr ?_
  refine L_nil ?_
  refine W_ret ?_
  repeat first | with_reducible refine then_ret ?_ | with_reducible refine blk_ret ?_
  refine done_of (v := nv 9) (.inl rfl) kr ?_
  exact ⟨rfl, T0⟩
 | false =>
  refine Calls_of_W (n := 17) (fn := Try.f42) kr rfl rfl (Nat.le_of_ble_eq_true rfl) trivial ⟨.inr (by simp), rfl⟩ ?_
  have T0 : Sm Nix h h := .refl
  refine W_seq ?_
  refine W_region ?_
  refine L_g 1 kr ?_
  refine L_nil ?_
  refine W_seq ?_
  refine W_seq ?_
  refine W_region ?_
  refine L_g 3 kr ?_
  refine L_ld _ rfl rfl kr ((R.ext T0).wdL.ld (o := 1) kr rfl) ?_
  refine L_g 1 kr ?_
  obtain ⟨b1, o1, i1, l1⟩ := (R.ext T0).prsAt (P := Try.prog) (T := 74) (el := 77) kr kr kr hp
  refine L_ix _ rfl rfl kr kr (i1) ?_
  refine L_ld _ rfl rfl kr (l1) ?_
  refine L_g 2 kr ?_
  refine L_ld _ rfl rfl kr (((R.ext T0).prL hp).ld (o := 1) kr rfl) ?_
  refine L_ln _ rfl rfl kr ((((R.ext T0).rqs hp).1.len (P := Try.prog) (T := 78) (kt := 3) (el := 103) kr)) ?_
  refine L_i ((((W.pr p).reqs.map fun (k : Nat) => ((k : Int), ptr (G.B (.rq p k)))).length : Int)) (256) (.bool false) rfl rfl kr kr rfl (by simp at hb; simp; omega) ?_
  refine L_nil ?_
  refine W_cond false kr (fun e => by cases e) (fun _ => ?_)
  refine W_skip ?_
  refine W_seq ?_
  refine W_region ?_
  refine L_g 1 kr ?_
  refine L_nil ?_
  refine W_ret ?_
  repeat first | with_reducible refine then_ret ?_ | with_reducible refine blk_ret ?_
  refine done_of (v := nv 0) (.inl rfl) kr ?_
  exact ⟨rfl, T0⟩
theorem spac_ok {h : AH} {x : Int} (h0 : 0 ≤ x) (h1 : x ≤ 4096) :
  Arm.Calls Try.prog 32 [nv x] h (fun r => r.1 = nv 0 ∧ Sm Nix h r.2) := by
 refine Calls_of_W (n := 9) (fn := Try.f32) kr rfl rfl (Nat.le_of_ble_eq_true rfl) trivial ⟨.inr (by simp), rfl⟩ ?_
 have T0 : Sm Nix h h := .refl
 refine W_seq ?_
 refine W_region ?_
 refine L_g 1 kr ?_
 refine L_nil ?_
 refine W_seq ?_
 refine W_seq ?_
 refine W_region ?_
 refine L_g 1 kr ?_
 refine L_i (x) (0) (.bool false) rfl rfl kr kr rfl (by first | (simp; done) | (simp; omega)) ?_
 refine L_g 2 kr ?_
 refine L_want kr ?_
 refine L_i (x) (4096) (.bool false) rfl rfl kr kr rfl (by first | (simp; done) | (simp; omega)) ?_
 refine L_g 1 kr ?_
 refine L_nil ?_
 refine W_cond false kr (fun e => by cases e) (fun _ => ?_)
 refine W_skip ?_
 refine W_seq ?_
 refine W_region ?_
 refine L_g 1 kr ?_
 refine L_nil ?_
 refine W_ret ?_
 repeat first | with_reducible refine then_ret ?_ | with_reducible refine blk_ret ?_
 refine done_of (v := nv 0) (.inl rfl) kr ?_
 exact ⟨rfl, T0⟩
end
end Go.Proofs.Ytmehemeoaplepaa
namespace Go.Arm
noncomputable section
open Go Go.X
theorem find_step {α : Type} {l : List α} {pr : α → Bool} {k : Nat} {x : α} (hf : l.findIdx? pr = ((l.drop k).findIdx? pr).map (· + k)) (hdr : l.drop k = x :: l.drop (k + 1)) (hfb : pr x = false) : l.findIdx? pr = ((l.drop (k + 1)).findIdx? pr).map (· + (k + 1)) := by
 rw [hf, hdr, List.findIdx?_cons, hfb]
 cases (l.drop (k + 1)).findIdx? pr with
 | none => rfl
 | some i => simp; omega
section
variable {P : Program} {h h' : AH} {b : Nat} {κ : Type} [DecidableEq κ] {kv : κ → Value} {m : List (κ × Value)} {T kt el : TypeId} {z : Value}
theorem born_at : ∀ (es : List (Value × Value × Nat)) (i q : Nat) (e : Value × Value × Nat), (es.map (·.2.2)).Nodup → es[i]? = some e → bornIdx es e.2.2 q = some (i + q)
 | [], i, q, e, _, h => by simp at h
 | x :: es, i, q, e, hn, h => by
  rw [List.map_cons, List.nodup_cons] at hn
  cases i with
  | zero =>
   simp at h; subst h
   unfold bornIdx
   simp
  | succ i =>
   have h : es[i]? = some e := by simpa using h
   have hne : ¬ x.2.2 = e.2.2 := fun h5 => hn.1 (by rw [h5]; exact List.mem_map.2 ⟨e, List.mem_of_getElem? h, rfl⟩)
   have ih := born_at es i (q + 1) e hn.2 h
   unfold bornIdx
   rw [if_neg (by omega), ih]
   congr 1; omega
theorem setV_at : ∀ (es : List (Value × Value × Nat)) (i : Nat) (e : Value × Value × Nat) (k v : Value), es[i]? = some e → (setV es i k v)[i]? = some (k, v, e.2.2)
 | [], i, e, k, v, h => by simp at h
 | x :: es, 0, e, k, v, h => by simp at h; subst h; rfl
 | x :: es, i + 1, e, k, v, h => setV_at es i e k v (by simpa using h)
theorem setV_setV : ∀ (es : List (Value × Value × Nat)) (i : Nat) (k v w : Value), setV (setV es i k v) i k w = setV es i k w
 | [], i, k, v, w => by cases i <;> rfl
 | x :: es, 0, k, v, w => rfl
 | x :: es, i + 1, k, v, w => congrArg (x :: ·) (setV_setV es i k v w)
theorem Mp.entry (hT : P.underlying T = some (.map kt el)) (hK : KeyK P kt kv) (hz : zeroOf P el = some z) (hm : Mp h b kv Eq m) (hb : Mb h b) (k : κ) :
   ∃ v st h1, aEntry P T (.map (some b)) (kv k) h = some (.tuple ⟨[v, .int .i64 st]⟩, h1) ∧ v = (kget m k).getD z ∧ Sm (fun x => x = b) h h1 ∧ h1.next = h.next ∧ Mp h1 b kv Eq (kset m k v) ∧ Mb h1 b ∧
     ∀ h2 w, h2.m.get b = h1.m.get b → b < h2.next → ∃ h3, aEStore T (.map (some b)) (.int .i64 st) w h2 = some h3 ∧ Mp h3 b kv Eq (kset m k w) ∧ Mb h3 b ∧ Sm (fun x => x = b) h2 h3 ∧ h3.next = h2.next := by
 obtain ⟨hl, es, cl, h1, h2⟩ := hm
 obtain ⟨es', cl', h3, h4, h5⟩ := hb
 rw [h1] at h3
 cases h3
 unfold aEntry
 simp only [hT, h1, hK.chk, if_true, afind_eq hK h2]
 have got : ∀ (h : AH) es cl, (aSetMap h b es cl).m.get b = some (.map es cl false) := fun h es cl => by show (h.m.set b _).get b = _; rw [X.T.get_set, if_pos rfl]
 rcases h2.at k with ⟨a, c, d, _⟩ | ⟨i, e, x, a, c, d, g, j, p, _⟩
 · rw [a]
   dsimp only
   rw [hz]
   have hnd : ((es ++ [(kv k, z, cl)]).map (·.2.2)).Nodup := by
     rw [List.map_append, List.nodup_append]
     refine ⟨h4, by simp, fun x hx y hy => ?_⟩
     obtain ⟨e, he, rfl⟩ := List.mem_map.1 hx
     have := h5 e he
     simp only [List.map_cons, List.map_nil, List.mem_singleton] at hy
     omega
   refine ⟨z, cl, _, rfl, by rw [c]; rfl, aSet_sm _ _ _ _, rfl, aSet_mp hl (d z z cl rfl), ⟨_, _, got _ _ _, hnd, fun e he => by
     rcases List.mem_append.1 he with he | he
     · have := h5 e he; omega
     · cases List.mem_singleton.1 he; exact Nat.lt_succ_self _⟩, fun h6 w hg hlt => ?_⟩
   rw [got] at hg
   have hlen : (es ++ [(kv k, z, cl)])[es.length]? = some (kv k, z, cl) := by simp
   have hbi := born_at _ es.length 0 _ hnd hlen
   unfold aEStore
   simp only [hg]
   rw [show bornIdx (es ++ [(kv k, z, cl)]) (cl : Nat) 0 = some es.length from by simpa using hbi]
   dsimp only
   rw [hlen]
   dsimp only
   have hset : setV (es ++ [(kv k, z, cl)]) es.length (kv k) w = es ++ [(kv k, w, cl)] := by
     clear hbi hlen hnd got hg d h2 a h1 h4 h5
     induction es with
     | nil => rfl
     | cons e es ih => simp only [List.cons_append, List.length_cons]; unfold setV; rw [ih]
   refine ⟨_, rfl, aSet_mp hlt (by rw [hset]; exact d w w cl rfl), ⟨_, _, got _ _ _, by rw [setV_age]; exact hnd, fun e he => ?_⟩, aSet_sm _ _ _ _, rfl⟩
   rw [hset] at he
   rcases List.mem_append.1 he with he | he
   · have := h5 e he; omega
   · cases List.mem_singleton.1 he; exact Nat.lt_succ_self _
 · rw [a]
   dsimp only
   rw [c]
   dsimp only
   rw [d, if_pos (hK.stay k)]
   have hnd : ((setV es i (kv k) e.2.1).map (·.2.2)).Nodup := by rw [setV_age]; exact h4
   have hat : (setV es i (kv k) e.2.1)[i]? = some (kv k, e.2.1, e.2.2) := setV_at es i e _ _ c
   refine ⟨e.2.1, e.2.2, _, rfl, by rw [j, g]; rfl, aSet_sm _ _ _ _, rfl, aSet_mp hl (p e.2.1 e.2.1 rfl), ⟨_, _, got _ _ _, hnd, fun e' he => by
     have : e'.2.2 ∈ (setV es i (kv k) e.2.1).map (·.2.2) := List.mem_map.2 ⟨e', he, rfl⟩
     rw [setV_age] at this
     obtain ⟨e2, he2, h7⟩ := List.mem_map.1 this
     rw [← h7]; exact h5 e2 he2⟩, fun h6 w hg hlt => ?_⟩
   rw [got] at hg
   have hbi := born_at _ i 0 _ hnd hat
   unfold aEStore
   simp only [hg]
   rw [show bornIdx (setV es i (kv k) e.2.1) (e.2.2 : Nat) 0 = some i from by simpa using hbi]
   dsimp only
   rw [hat]
   dsimp only
   have hset : setV (setV es i (kv k) e.2.1) i (kv k) w = setV es i (kv k) w := setV_setV es i _ _ _
   refine ⟨_, rfl, aSet_mp hlt (by rw [hset]; exact p w w rfl), ⟨_, _, got _ _ _, by rw [hset, setV_age]; exact h4, fun e' he => ?_⟩, aSet_sm _ _ _ _, rfl⟩
   rw [hset] at he
   have : e'.2.2 ∈ (setV es i (kv k) w).map (·.2.2) := List.mem_map.2 ⟨e', he, rfl⟩
   rw [setV_age] at this
   obtain ⟨e2, he2, h7⟩ := List.mem_map.1 this
   rw [← h7]; exact h5 e2 he2
theorem Mb.delete {k : Value} (H : Mb h b) (hu : aDelete P T (.map (some b)) k h = some h') : Mb h' b := by
 obtain ⟨es, cl, h1, h2, h3⟩ := H
 have got : ∀ es cl, (aSetMap h b es cl).m.get b = some (.map es cl false) := fun es cl => by show (h.m.set b _).get b = _; rw [X.T.get_set, if_pos rfl]
 unfold aDelete at hu
 split at hu
 · rename_i hu2 _
   rename_i hb
   cases hb
   rw [h1] at hu
   dsimp only at hu
   split at hu
   · split at hu
     · cases hu
       refine ⟨_, _, got _ _, ?_, fun e he => h3 e (List.mem_of_mem_eraseIdx he)⟩
       exact (h2.sublist ((List.eraseIdx_sublist es _).map _))
     · cases hu
       exact ⟨_, _, got _ _, h2, h3⟩
     · cases hu
   · cases hu
 · cases hu
end
section
variable {P : Program} [Kn P] {n : Nat} {h h' : AH} {Q : Post} {f : Fr} {ops : Array Oper} {rest : List Oper} {o : Oper} {v : Value}
theorem L_me {T : TypeId} {m k : Operand} {a b : Value} (v : Value) (h' : AH) (ho : o.op = .mapEntry T m k) (hs : okO n o = true) (ha : ev n f m = some a) (hb : ev n f k = some b) (hv : aEntry P T a b h = some (v, h'))
  (k : L P n ops Q rest (updO f o.dst v) h') : L P n ops Q (o :: rest) f h :=
 L_dov (okO_ok hs).1 (okO_ok hs).2 (by rw [ho]; rfl) (by rw [ho]; simp only [evAct, ha, hb, hv]; rfl) k
theorem L_es {T : TypeId} {m s x : Operand} {a b c : Value} (h' : AH) (ho : o.op = .entryStore T m s x) (hs : okO n o = true) (hd : o.dst = none) (ha : ev n f m = some a) (hb : ev n f s = some b) (hc : ev n f x = some c) (hv : aEStore T a b c h = some h')
  (k : L P n ops Q rest f h') : L P n ops Q (o :: rest) f h :=
 L_do (okO_ok hs).1 hd (by rw [ho]; rfl) (by rw [ho]; simp only [evAct, ha, hb, hc, hv]; rfl) k
end
end
end Go.Arm
