/- The closed evaluator, part S: a function in pieces: between two pieces only what is still needed of the memory is kept. -/
import Derived.Test.YtdaedcoolcicoaaXR
namespace Go.X
noncomputable section
open Go Go.RowKit
variable {w0 w w' : World} {φ φ' : Phi} {h h' : AH} {P : Program} {n : Nat} {t : T Value}

/-- What is still needed of the memory. -/
def gc (keep : List Nat) (h : AH) : AH := ⟨keep.foldl (fun t b => if b < T.top then t.set b (h.m.get b) else t) .e, h.next⟩
theorem gc_get (keep : List Nat) (h : AH) (b : Nat) (o : AObj) (hb : (gc keep h).m.get b = some o) : h.m.get b = some o := by
  have key : ∀ (l : List Nat) (t : T AObj), (∀ b o, t.get b = some o → h.m.get b = some o) → ∀ b o, (l.foldl (fun t b => if b < T.top then t.set b (h.m.get b) else t) t).get b = some o → h.m.get b = some o := by
    intro l
    induction l with
    | nil => intro t ht; exact ht
    | cons k l ih =>
      intro t ht
      simp only [List.foldl_cons]
      refine ih _ ?_
      intro b o hb
      split at hb
      · rename_i hk
        rw [T.get_set hk] at hb
        split at hb
        · rename_i e; subst e; exact hb
        · exact ht b o hb
      · exact ht b o hb
  exact key keep .e (fun b o hb => by rw [T.get_e] at hb; cases hb) b o hb
theorem R.gc (r : R w0 φ h w) (keep : List Nat) : R w0 φ (gc keep h) w := by
  have g := gc_get keep h
  exact ⟨fun b i o hi ho => r.dom b i o hi (g b o ho), fun b i o hi ho => r.low b i o hi (g b o ho), fun b b' i i' o o' hi hi' ho ho' => r.inj b b' i i' o o' hi hi' (g b o ho) (g b' o' ho'), r.lt, r.nx, r.below⟩

/-- Some pieces of a body, one behind the other. -/
def aSpine (P : Program) (call : Call1) (n LF : Nat) : Nat → Code → T Value → List Nat → AH → Option (T Value × List Nat × AH)
  | 0, _, t, ds, h => some (t, ds, h)
  | k + 1, .seq x y, t, ds, h => match aCode P call n LF none x t ds h with
    | some [⟨.normal, t', ds', h'⟩] => aSpine P call n LF k y t' ds' h'
    | _ => none
  | _ + 1, _, _, _, _ => none
def back : Nat → Code → Code
  | 0, c => c
  | k + 1, .seq _ y => back k y
  | _ + 1, c => c
/-- From such a state on the code does what is asked. -/
def Good (w0 : World) (P : Program) (n : Nat) (Q : Exit → Act → World → Prop) (c : Code) (t : T Value) (ds : List Nat) (h : AH) : Prop :=
  ∀ (φ : Phi) (a : Act) (w : World), R w0 φ h w → FR φ n t a.tmps → DR φ ds a.defers → c.wpIn Fence.wide 0 P Q a w
theorem Good.gc {Q : Exit → Act → World → Prop} {c : Code} {ds : List Nat} (keep : List Nat) (g : Good w0 P n Q c t ds (gc keep h)) : Good w0 P n Q c t ds h :=
  fun φ a w r f d => g φ a w (r.gc keep) f d
theorem Good.spine (hN : NoCount P) (hM : P.follows .mixedOrders = true) {call : Call1} (hc : CallsOk w0 P call) (LF : Nat) {Q : Exit → Act → World → Prop} : ∀ (k : Nat) {c : Code} {t t' : T Value} {ds ds' : List Nat} {h h' : AH},
    aSpine P call n LF k c t ds h = some (t', ds', h') → Good w0 P n Q (back k c) t' ds' h' → Good w0 P n Q c t ds h
  | 0, c, t, t', ds, ds', h, h', hs, g => by simp only [aSpine] at hs; cases hs; exact g
  | k + 1, c, t, t', ds, ds', h, h', hs, g => by
    cases c with
    | seq x y =>
      simp only [aSpine] at hs
      split at hs
      · rename_i t1 ds1 h1 hx
        have g2 := Good.spine hN hM hc LF k hs g
        intro φ a w r f d
        refine wpIn_seq (wpIn_mono (code_ok hN hM hc none LF x (q := none) 0 hx r f d rfl) ?_)
        rintro e a1 w1 ⟨o, ho, hex, φ1, nx1, r1, f1, d1⟩
        cases List.mem_singleton.1 ho
        cases hex
        exact g2 φ1 a1 w1 r1 f1 d1
      · cases hs
    | _ => simp [aSpine] at hs
theorem Good.last (hN : NoCount P) (hM : P.follows .mixedOrders = true) {call : Call1} (hc : CallsOk w0 P call) (LF : Nat) {c : Code} {ds : List Nat} {l : List Out} (hs : aCode P call n LF none c t ds h = some l) {Q : Exit → Act → World → Prop}
    (hq : ∀ e a w, (∃ o, o ∈ l ∧ ExR o.ex e ∧ ∃ φ', R w0 φ' o.h w ∧ FR φ' n o.t a.tmps ∧ DR φ' o.ds a.defers) → Q e a w) : Good w0 P n Q c t ds h := by
  intro φ a w r f d
  refine wpIn_mono (code_ok hN hM hc none LF c (q := none) 0 hs r f d rfl) ?_
  rintro e a1 w1 ⟨o, ho, hex, φ1, nx1, r1, f1, d1⟩
  exact hq e a1 w1 ⟨o, ho, hex, φ1, r1, f1, d1⟩
end
end Go.X
