/- Worlds of the program and walks of its functions. -/
import Derived.Test.YtjealfplbigphaaGreatZo
import Derived.Test.YtjealfplbigphaaGreatZj
import Derived.Test.YtjealfplbigphaaGreatZi
import Derived.Laws.Bits64b
import Derived.Test.YtjealfplbigphaaGreatZk
namespace Go.Proofs.YtjealfplbigphaaGreat
noncomputable section
open Go Go.X Go.Arm Go.Mt
set_option maxHeartbeats 1000000 in
theorem new_ok {h : AH} {n : Nat} {e c : Int} (hn : n = 1 ∨ n = 2 ∨ n = 3 ∨ n = 4 ∨ n = 5 ∨ n = 6 ∨ n = 7 ∨ n = 8 ∨ n = 9 ∨ n = 10 ∨ n = 11 ∨ n = 12) (he0 : 0 ≤ e) (he1 : e ≤ 4096) (hc0 : 0 ≤ c) (hc1 : c ≤ 64) :
  Arm.Calls Tryz.prog 7 [nv (n : Int), nv e, nv c] h (fun r => ∃ G, r.1 = .tuple ⟨[ptr (G.B .wd), nv 0]⟩ /\ Rep (Wd.new n e c) G r.2 /\ (∀ b, G.mut b ∨ G.ro b -> h.next ≤ b) /\ Sm Nix h r.2) := by
 have hn9 : n < 13 := by omega
 have hn0 : 0 < n := by omega
 refine j9 57 Tryz.f7 ?_
 have T0 : Sm Nix h h := .refl
 refine z1 2 kr (q5 (q7 (z1 1 kr (L_i ((n : Int)) (1) (.bool false) rfl rfl kr kr rfl (by first | (simp; done) | (simp; omega)) (L_g 2 kr (u9 kr (L_i ((n : Int)) (64) (.bool false) rfl rfl kr kr rfl (by first | (simp; done) | (simp; omega)) ?_)))))))
 refine L_g 3 kr (u9 kr (L_i (e) (0) (.bool false) rfl rfl kr kr rfl (by first | (simp; done) | (simp; omega)) (L_g 3 kr (u9 kr (L_i (e) (4096) (.bool false) rfl rfl kr kr rfl (by first | (simp; done) | (simp; omega)) (L_g 3 kr (u9 kr (L_i (c) (0) (.bool false) rfl rfl kr kr rfl (by first | (simp; done) | (simp; omega)) (L_g 3 kr (u9 kr (L_i (c) (64) (.bool false) rfl rfl kr kr rfl (by first | (simp; done) | (simp; omega)) ?_)))))))))))
 refine L_g 1 kr (q5 (Q2 kr (z6 (z1 1 kr (L_nw (Al.map) .mp rfl rfl kr ?_)))))
 have q233 : Mb (h.push (Al.map).obj) h.next := Mb.new _
 have m233 : Mp (h.push (Al.map).obj) h.next k2 Eq ([] : List ((Int × Int) × Value)) := Mp.new h
 have t233 : Sm Nix h (h.push (Al.map).obj) := .push h _
 have n233 : (h.push (Al.map).obj).next = h.next + 1 := rfl
 generalize h.push (Al.map).obj = h233 at m233 q233 t233 n233 ⊢
 have T233 := T0.ext t233
 have N233 := T233.nx
 refine L_g 1 kr (Q1 [nv e, .slice none 0 0, .map (some (h.next))] .ptr rfl rfl kr fun h234 c234 t234 n234 => ?_)
 replace q233 := q233.sm t234 m233.1 (fun x => x)
 replace m233 := m233.sm t234 (fun x => x) (fun _ _ e => e)
 have T234 := T233.ext t234
 have N234 := T234.nx
 refine L_g 1 kr (q5 (q7 (z1 2 kr (q5 (u3 ?_)))))
 refine J5 (fun mm fr hh => ∃ (k : Nat) (G : Gh), mm = n - k /\ k ≤ n /\ NewI h hh G k n e c /\ Sm Nix h hh /\ G.B .wd = h233.next /\ fr 0 = nv (n : Int) /\ fr 2 = nv c /\ fr 8 = ptr (h233.next) /\ fr 35 = nv (n : Int) /\ fr 36 = nv (k : Int)) (n) ?_ ?_
 ·
  obtain ⟨G, hN, hB⟩ := NewI.start c234 m233 q233 (h0 := h) (by omega) (by omega) (by omega)
  exact ⟨0, G, rfl, Nat.zero_le _, hN, T234, hB, kr, kr, kr, kr, kr⟩
 rintro mm fr hh ⟨k, G, hm, hkn, hN, TL, hB, y0, y2, y8, y35, y36⟩
 rw [<- hB] at y8
 refine j8 (k := 0) y0 (j8 (k := 2) y2 (j8 (k := 8) y8 (j8 (k := 35) y35 (j8 (k := 36) y36 ?_))))
 have TK : Sm Nix hh hh := .refl
 have NL := TL.nx
 have cw0 : Arm.Cl hh (G.B .wd) [nv e, G.S .prs, .map (some (G.B .ways))] := by
  have := hN.op.here .wd
  rw [hN.wd] at this
  obtain ⟨b, e1, c1⟩ := this
  cases e1; exact c1
 have g0 : Gr hh 1 (G.S .prs) k ((List.range k).map fun p => ptr (G.B (.pr p))) := by
  have := hN.op.here .prs
  rw [hN.prs] at this; exact this
 refine q7 (q6 (L_i ((k : Int)) ((n : Int)) (.bool (decide ((k : Int) < (n : Int)))) rfl rfl kr kr rfl (rfl) (q5 (q7 ?_))))
 refine Q0 (decide ((k : Int) < (n : Int))) kr (fun hb => ?_) (fun hb => ?_)
 ·
  have hlt : k < n := by simp at hb; omega
  refine z6 (q7 (u3 (u4 kr (D_e (e := 10) (l := [0,1,2,3,4,5,6,7,8,9]) (s' := [0,1,2,3,4,5,6]) kr kr rfl kr z4 (z2 4 kr (q9 _ rfl rfl kr kr kr ((cw0.ext TK).ld (o := 1) kr rfl) (zj3 (Al.map) .mp rfl kr rfl rfl kr (z3 rfl rfl (z3 rfl rfl (z3 rfl rfl (z3 rfl rfl (u6 _ rfl rfl rfl kr ((cw0.ext (TK.ext (.push hh _))).ld (o := 1) kr rfl) kr (z3 rfl rfl z4)))))) ?_)))))))
  have q235 : Mb (hh.push (Al.map).obj) hh.next := Mb.new _
  have m235 : Mp (hh.push (Al.map).obj) hh.next nv Eq ([] : List (Int × Value)) := Mp.new hh
  have t235 : Sm Nix hh (hh.push (Al.map).obj) := .push hh _
  have n235 : (hh.push (Al.map).obj).next = hh.next + 1 := rfl
  generalize hh.push (Al.map).obj = h235 at m235 q235 t235 n235 ⊢
  have T235 := TK.ext t235
  have N235 := T235.nx
  refine zj3 (Al.map) .mp rfl kr rfl rfl kr (z3 rfl rfl (z3 rfl rfl (z3 rfl rfl (z3 rfl rfl (u6 _ rfl rfl rfl kr ((cw0.ext (T235.ext (.push h235 _))).ld (o := 1) kr rfl) kr (z3 rfl rfl (z3 rfl rfl z4))))))) ?_
  have q236 : Mb (h235.push (Al.map).obj) h235.next := Mb.new _
  have m236 : Mp (h235.push (Al.map).obj) h235.next k2 Eq ([] : List ((Int × Int) × Value)) := Mp.new h235
  have t236 : Sm Nix h235 (h235.push (Al.map).obj) := .push h235 _
  have n236 : (h235.push (Al.map).obj).next = h235.next + 1 := rfl
  generalize h235.push (Al.map).obj = h236 at m236 q236 t236 n236 ⊢
  replace q235 := q235.sm t236 m235.1 (fun x => x)
  replace m235 := m235.sm t236 (fun x => x) (fun _ _ e => e)
  have T236 := T235.ext t236
  have N236 := T236.nx
  refine z2 1 kr (qu8 [nv c] (.sl 1 1) rfl kr rfl rfl kr (z3 rfl rfl (z3 rfl rfl (z3 rfl rfl (z3 rfl rfl (u6 _ rfl rfl rfl kr ((cw0.ext (T236.ext (.push h236 _))).ld (o := 1) kr rfl) kr (z3 rfl rfl (z3 rfl rfl (z3 rfl rfl (z3 rfl rfl z4))))))))) fun h237 c237 t237 n237 => ?_)
  replace q235 := q235.sm t237 m235.1 (fun x => x)
  replace q236 := q236.sm t237 m236.1 (fun x => x)
  replace m235 := m235.sm t237 (fun x => x) (fun _ _ e => e)
  replace m236 := m236.sm t237 (fun x => x) (fun _ _ e => e)
  have T237 := T236.ext t237
  have N237 := T237.nx
  refine z2 1 kr (z5 (L_c rfl rfl kr (jy0 (c := c) c237 hn) ?_))
  rintro v238 h238 ⟨bb238, hbb238, cc238, e238, t238⟩
  try dsimp only at t238
  dsimp only at cc238 e238 t238
  subst e238
  replace q235 := q235.sm t238 m235.1 (fun x => x)
  replace q236 := q236.sm t238 m236.1 (fun x => x)
  replace c237 := c237.ext t238
  replace m235 := m235.sm t238 (fun x => x) (fun _ _ e => e)
  replace m236 := m236.sm t238 (fun x => x) (fun _ _ e => e)
  have T238 := T237.ext t238
  have N238 := T238.nx
  have M238 := t238.nx
  refine q5 ⟨rfl, ?_⟩
  refine D_e (e := 14) (l := [11,12,13]) (s' := [0]) kr kr rfl kr (z3 rfl rfl (z3 rfl rfl (z3 rfl rfl (z3 rfl rfl (u6 _ rfl rfl rfl kr ((cw0.ext T238).ld (o := 1) kr rfl) kr (z3 rfl rfl (z3 rfl rfl z4))))))) (z2 1 kr (qu8 [nv 1, .map (some (hh.next)), .map (some (h235.next)), .slice none 0 0, .slice none 0 0, .slice none 0 0, .slice (some ⟨bb238, 0, none⟩) n n] .ptr rfl kr rfl rfl kr (z3 rfl rfl (z3 rfl rfl (z3 rfl rfl (z3 rfl rfl (u6 _ rfl rfl rfl kr ((cw0.ext (T238.ext (.push h238 _))).ld (o := 1) kr rfl) kr (z3 rfl rfl (z3 rfl rfl (z3 rfl rfl (z3 rfl rfl z4))))))))) fun h239 c239 t239 n239 => ?_))
  replace q235 := q235.sm t239 m235.1 (fun x => x)
  replace q236 := q236.sm t239 m236.1 (fun x => x)
  replace c237 := c237.ext t239
  replace m235 := m235.sm t239 (fun x => x) (fun _ _ e => e)
  replace m236 := m236.sm t239 (fun x => x) (fun _ _ e => e)
  have T239 := T238.ext t239
  have N239 := T239.nx
  have ccx := cc238.ext t239
  have lbb := cc238.lt
  have ltx := t239
  refine qu8 [ptr (h238.next)] (.sl 1 1) rfl kr rfl rfl kr (z3 rfl rfl (z3 rfl rfl (z3 rfl rfl (z3 rfl rfl (u6 _ rfl rfl rfl kr ((cw0.ext (T239.ext (.push h239 _))).ld (o := 1) kr rfl) kr (z3 rfl rfl (z3 rfl rfl (z3 rfl rfl (z3 rfl rfl (z3 rfl rfl z4)))))))))) fun h240 c240 t240 n240 => ?_
  replace q235 := q235.sm t240 m235.1 (fun x => x)
  replace q236 := q236.sm t240 m236.1 (fun x => x)
  replace c237 := c237.ext t240
  replace c239 := c239.ext t240
  replace m235 := m235.sm t240 (fun x => x) (fun _ _ e => e)
  replace m236 := m236.sm t240 (fun x => x) (fun _ _ e => e)
  have T240 := T239.ext t240
  have N240 := T240.nx
  have ccy := ccx.ext t240
  refine z5 ?_
  have l43 := m235.1
  have l44 := m236.1
  obtain ⟨v241, h241, e241, g241, t241, f241⟩ := (g0.ext T240).append (P := Tryz.prog) (sT := 61) (xT := 61) (el := 64) (by_ := 8) (z := .pointer none) (m := 1) (ds := [ptr (h238.next)]) kr kr kr kr kr rfl (by decide) (c240.sd rfl) (List.all_eq_true.1 rfl) (by omega)
  obtain ⟨va, vc, rfl⟩ := g241.sd.form
  have hnw : ¬ vb (G.S .prs) = some (G.B .wd) := fun e9 => hN.op.ne (r := .prs) (r' := .wd) (by rw [hN.prs]; simp) (by rw [hN.wd]; simp) (by simp) (J4 e9) rfl
  have mRx := m235
  have qRx := q235
  have mEx := m236
  have qEx := q236
  have cPx := c239
  refine V9 (.slice va (k + 1) vc) h241 rfl rfl kr (vs := [G.S .prs, .slice (some ⟨h239.next, 0, none⟩) 1 1]) kr (J7 e241) ?_
  replace c237 := c237.lt
  replace c239 := c239.lt
  replace c240 := c240.lt
  have T241 : Sm (fun q => vb (G.S .prs) = some q) h240 h241 := t241
  have N241 := T241.nx
  refine q5 ⟨rfl, ?_⟩
  refine D_e (e := 17) (l := [15,16]) (s' := []) kr kr rfl kr (E0 kr) (z2 2 kr (z5 ?_))
  obtain ⟨h242, e242, d242, t242, n242⟩ := ((cw0.ext T240).sm T241 hnw).store (P := Tryz.prog) (T := 61) (o := 1) (v := .slice va (k + 1) vc) kr rfl rfl (by simp)
  have NB := T240.nx
  obtain ⟨G2, hN2, hB2⟩ := hN.step T240 (bR := hh.next) (bE := h235.next) (bC := bb238) (bP := h238.next) (by omega) (by omega) (by omega) (by omega) (by omega) mRx qRx mEx qEx (by rw [List.map_replicate]; exact ccy) cPx g241 T241 (fun q hq => .inl hq) (fun q hq => f241 q hq) d242 t242
  have T2 : Sm Nix h h242 := ((TL.ext T240).trans T241 (fun q hq => .inr (hN.mu q ⟨.prs, by rw [hN.prs]; simp, J4 hq⟩))).trans t242 (fun q hq => .inr (hN.mu q ⟨.wd, by rw [hN.wd]; simp, by subst hq; rfl⟩))
  refine Q3 _ rfl rfl rfl kr kr (e242) ?_
  have T242 : Sm Nix h242 h242 := .refl
  refine q5 ⟨rfl, ?_⟩
  refine D_l (l := []) kr kr z4 (z5 (q6 (L_i ((k : Int)) (1) (nv ((k + 1 : Nat) : Int)) rfl rfl kr kr rfl (Z4 (by omega)) (L_g 1 kr (q5 ?_)))))
  exact ⟨n - (k + 1), by omega, k + 1, G2, rfl, by omega, hN2, T2, hB2.trans hB, kr, kr, (by rw [<- hB]; kernel_rfl), kr, kr⟩
 ·
  have hge : k = n := by simp at hb; omega
  subst hge
  refine J8 ?_
  refine rx ?_
  refine Q7 (z1 3 kr (q5 (j7 ?_)))
  refine rr ?_
  obtain ⟨G3, R3, hB3, hm3⟩ := hN.rep
  refine z0 (v := .tuple ⟨[ptr (G.B .wd), nv 0]⟩) (.inl rfl) kr ?_
  exact ⟨G3, by rw [hB3], R3, hm3, TL⟩
end
end Go.Proofs.YtjealfplbigphaaGreat
namespace Go.Mt
open Go.Arm
namespace Wd
theorem xy0 (w : Wd) (p : Nat) : w.setPr p (w.pr p) = w := by
 unfold setPr; rw [zq3]
end Wd
end Go.Mt
namespace Go.Mt
open Go.Arm
namespace Wd
def dl1 (w : Wd) (a b : Nat) : Option Wd := match w.way a b with
 | [] => some w
 | x :: l => if (w.pr b).inb.length < big then some ((w.setWay a b l).setPr b { w.pr b with inb := (w.pr b).inb ++ [((a : Int), x)] }) else none
def rowS (a : Nat) : Nat -> Nat -> Wd -> Option Wd
 | _, 0, w => some w
 | b, m + 1, w => (w.dl1 a b).bind (rowS a (b + 1) m)
def stpS (n p : Nat) (w : Wd) : Option Wd := (rowS p 0 n w).bind (·.call p)
def allS (n : Nat) : Nat -> Nat -> Wd -> Option Wd
 | _, 0, w => some w
 | p, m + 1, w => (stpS n p w).bind (allS n (p + 1) m)
def rndS (w : Wd) : Option Wd := allS w.n 0 w.n w
inductive SettS : Nat -> Wd -> Wd -> Prop
 | last {w w1 : Wd} (h : w.rndS = some w1) (q : w1.quiet) : SettS 0 w w1
 | more {k : Nat} {w w1 w2 : Wd} (h : w.rndS = some w1) (q : ¬ w1.quiet) (t : SettS k w1 w2) : SettS (k + 1) w w2
theorem SettS.step {k : Nat} {w w' : Wd} (h : SettS k w w') : ∃ w1, w.rndS = some w1 /\ ((w1.quiet /\ w1 = w') ∨ (¬ w1.quiet /\ ∃ k', k = k' + 1 /\ SettS k' w1 w')) := by
 cases h with
 | last h q => exact ⟨_, h, .inl ⟨q, rfl⟩⟩
 | more h q t => exact ⟨_, h, .inr ⟨q, _, rfl, t⟩⟩
theorem dl1_n {w w' : Wd} {a b : Nat} (h : w.dl1 a b = some w') : w'.n = w.n := by
 unfold dl1 at h
 split at h
 . cases h; rfl
 . split at h
   . cases h; rfl
   . cases h
theorem rowS_n {a : Nat} : ∀ {m b : Nat} {w w' : Wd}, rowS a b m w = some w' -> w'.n = w.n
 | 0, b, w, w', h => by cases h; rfl
 | m + 1, b, w, w', h => by
  obtain ⟨w1, h1, h2⟩ := Option.bind_eq_some_iff.1 h
  rw [rowS_n h2, dl1_n h1]
theorem stpS_n {n p : Nat} {w w' : Wd} (h : stpS n p w = some w') : w'.n = w.n := by
 obtain ⟨w1, h1, h2⟩ := Option.bind_eq_some_iff.1 h
 rw [call_n h2, rowS_n h1]
theorem uv7 {n : Nat} : ∀ {m a : Nat} {w w' : Wd}, allS n a m w = some w' -> w'.n = w.n
 | 0, a, w, w', h => by cases h; rfl
 | m + 1, a, w, w', h => by
  obtain ⟨w1, h1, h2⟩ := Option.bind_eq_some_iff.1 h
  rw [uv7 h2, stpS_n h1]
theorem rndS_n {w w' : Wd} (h : w.rndS = some w') : w'.n = w.n := uv7 h
theorem xw5 {w : Wd} {a b : Nat} (h : w.way a b = []) : w.dl1 a b = some w := by
 unfold dl1; rw [h]
theorem rowS_nil {w : Wd} {a : Nat} : ∀ {m b : Nat}, (∀ c : Nat, w.way a c = []) -> rowS a b m w = some w
 | 0, b, h => rfl
 | m + 1, b, h => by
  unfold rowS
  rw [xw5 (h b)]
  exact rowS_nil h
theorem call_nil {w : Wd} {p : Nat} (h : (w.pr p).inb = []) : w.call p = some w := by
 unfold call
 rw [h, if_pos (by decide)]
 show some (w.setPr p { w.pr p with inb := [] }) = _
 rw [show ({ w.pr p with inb := [] } : Pr) = w.pr p by rw [<- h], xy0]
theorem stpS_nil {w : Wd} {n p : Nat} (h : ∀ c : Nat, w.way p c = []) (hi : (w.pr p).inb = []) : stpS n p w = some w := by
 unfold stpS
 rw [rowS_nil h]
 exact call_nil hi
theorem qu5 {n : Nat} : ∀ {m k s : Nat} {w : Wd}, allS n s (m + k) w = (allS n s m w).bind (allS n (s + m) k)
 | 0, k, s, w => by rw [Nat.zero_add]; rfl
 | m + 1, k, s, w => by
  rw [show m + 1 + k = (m + k) + 1 by omega]
  unfold allS
  cases hs : stpS n s w with
  | none => rfl
  | some w1 =>
   show allS n (s + 1) (m + k) w1 = (allS n (s + 1) m w1).bind (allS n (s + (m + 1)) k)
   rw [qu5, show s + (m + 1) = s + 1 + m by omega]
theorem zx7 {n : Nat} : ∀ {m s : Nat} {w : Wd}, (∀ r, s ≤ r -> r < s + m -> stpS n r w = some w) -> allS n s m w = some w
 | 0, s, w, h => rfl
 | m + 1, s, w, h => by
  unfold allS
  rw [h s (Nat.le_refl _) (by omega)]
  exact zx7 fun r h1 h2 => h r (by omega) (by omega)
theorem rndS_two {n q p : Nat} {X Y Z : Wd} (hn : X.n = n) (hqp : q < p) (hpn : p < n) (e1 : stpS n q X = some Y) (e2 : stpS n p Y = some Z) (h1 : ∀ r, r < q -> stpS n r X = some X) (h2 : ∀ r, q < r -> r < p -> stpS n r Y = some Y) (h3 : ∀ r, p < r -> r < n -> stpS n r Z = some Z) :
  X.rndS = some Z := by
 unfold rndS
 rw [hn, show allS n 0 n X = allS n 0 (q + (1 + ((p - q - 1) + (1 + (n - p - 1))))) X by congr 1; omega]
 rw [qu5, zx7 (fun r _ h => h1 r (by omega))]
 show allS n (0 + q) (1 + _) X = _
 rw [qu5]
 have a1 : allS n (0 + q) 1 X = some Y := by
  show (stpS n (0 + q) X).bind (allS n (0 + q + 1) 0) = _
  rw [Nat.zero_add, e1]; rfl
 rw [a1]
 show allS n (0 + q + 1) _ Y = _
 rw [qu5, zx7 (fun r h4 h5 => h2 r (by omega) (by omega))]
 show allS n (0 + q + 1 + (p - q - 1)) _ Y = _
 rw [show 0 + q + 1 + (p - q - 1) = p by omega, qu5]
 have a2 : allS n p 1 Y = some Z := by
  show (stpS n p Y).bind (allS n (p + 1) 0) = _
  rw [e2]; rfl
 rw [a2]
 exact zx7 (fun r h4 h5 => h3 r (by omega) (by omega))
theorem rowS_one {a c : Nat} {w : Wd} {x : Pk} (hx : w.way a c = [x]) (ho : ∀ b : Nat, b ≠ c -> w.way a b = []) (hi : (w.pr c).inb.length < big) : ∀ {m b : Nat}, b ≤ c -> c < b + m ->
  rowS a b m w = some ((w.setWay a c []).setPr c { w.pr c with inb := (w.pr c).inb ++ [((a : Int), x)] })
 | 0, b, h1, h2 => by omega
 | m + 1, b, h1, h2 => by
  unfold rowS
  by_cases e : b = c
  . subst e
    have e1 : w.dl1 a b = some ((w.setWay a b []).setPr b { w.pr b with inb := (w.pr b).inb ++ [((a : Int), x)] }) := by
      unfold dl1
      rw [hx]
      dsimp only
      rw [if_pos hi]
    rw [e1]
    refine rowS_nil fun c => ?_
    show ups w.way a (ups (w.way a) b []) a c = []
    rw [j0]
    by_cases e : (c : Int) = b
    . rw [e, j0]
    . rw [z7 _ _ e]; exact ho c (fun h => e (by rw [h]))
  . rw [xw5 (ho b e)]
    exact rowS_one hx ho hi (by omega) (by omega)
end Wd
end Go.Mt
namespace Go.Mt
open Go.Arm
def TP (K : Wd) (p q : Nat) (a b : Pr) (f g : Nat -> Rq) (u v : List Pk) : Wd := ⟨K.lim, K.n, fun r => if r = p then a else if r = q then b else K.pr r, fun r => if r = p then f else if r = q then g else K.rq r,
 fun i j => if i = (p : Int) /\ j = (q : Int) then u else if i = (q : Int) /\ j = (p : Int) then v else []⟩
theorem ups2 {α : Type} (f : Nat -> α) (k : Nat) (x y : α) : ups (ups f k x) k y = ups f k y := by
 funext j; simp only [ups]; split <;> rfl
namespace TP
variable {K : Wd} {p q : Nat} {a b : Pr} {f g : Nat -> Rq} {u v : List Pk}
theorem prp : (TP K p q a b f g u v).pr p = a := if_pos rfl
theorem prq (h : q ≠ p) : (TP K p q a b f g u v).pr q = b := by show (if q = p then a else if q = q then b else K.pr q) = b; rw [if_neg h, if_pos rfl]
theorem rqp : (TP K p q a b f g u v).rq p = f := if_pos rfl
theorem rqq (h : q ≠ p) : (TP K p q a b f g u v).rq q = g := by show (if q = p then f else if q = q then g else K.rq q) = g; rw [if_neg h, if_pos rfl]
theorem wpq : (TP K p q a b f g u v).way p q = u := if_pos ⟨rfl, rfl⟩
theorem wqp (h : q ≠ p) : (TP K p q a b f g u v).way q p = v := by
 show (if (q : Int) = p /\ (p : Int) = q then u else if (q : Int) = q /\ (p : Int) = p then v else []) = v
 rw [if_neg (by omega), if_pos ⟨rfl, rfl⟩]
theorem wo {i j : Int} (h1 : ¬ (i = p /\ j = q)) (h2 : ¬ (i = q /\ j = p)) : (TP K p q a b f g u v).way i j = [] := by
 show (if i = (p : Int) /\ j = (q : Int) then u else if i = (q : Int) /\ j = (p : Int) then v else []) = []
 rw [if_neg h1, if_neg h2]
theorem setp (x : Pr) : (TP K p q a b f g u v).setPr p x = TP K p q x b f g u v := by
 unfold Wd.setPr TP; congr 1; funext r; simp only [ups]; split <;> simp_all
theorem setq (h : q ≠ p) (x : Pr) : (TP K p q a b f g u v).setPr q x = TP K p q a x f g u v := by
 unfold Wd.setPr TP; congr 1; funext r; simp only [ups]; split <;> simp_all
theorem setRp (no : Nat) (x : Rq) : (TP K p q a b f g u v).setRq p no x = TP K p q a b (ups f no x) g u v := by
 unfold Wd.setRq TP; congr 1; funext r; simp only [ups]; split <;> simp_all
theorem setRq (h : q ≠ p) (no : Nat) (x : Rq) : (TP K p q a b f g u v).setRq q no x = TP K p q a b f (ups g no x) u v := by
 unfold Wd.setRq TP; congr 1; funext r; simp only [ups]; split <;> simp_all
theorem setWp (x : List Pk) : (TP K p q a b f g u v).setWay p q x = TP K p q a b f g x v := by
 unfold Wd.setWay TP; congr 1; funext i j; simp only [ups]
 by_cases e : i = (p : Int)
 . subst e; by_cases e2 : j = (q : Int)
   . subst e2; simp [ups]
   . simp [ups, e2]
 . simp [e]
theorem setWq (h : q ≠ p) (x : List Pk) : (TP K p q a b f g u v).setWay q p x = TP K p q a b f g u x := by
 unfold Wd.setWay TP; congr 1; funext i j; simp only [ups]
 by_cases e : i = (q : Int)
 . subst e; by_cases e2 : j = (p : Int)
   . subst e2
     have : ¬ (q : Int) = p := by omega
     simp [ups, this]
   . simp [ups, e2]
 . simp [e]
theorem putp {x : Pk} (h : u.length < big) : (TP K p q a b f g u v).put p q x = some (TP K p q a b f g (u ++ [x]) v) := by
 unfold Wd.put; rw [wpq, if_pos h, setWp]
theorem putq (h : q ≠ p) {x : Pk} (h1 : v.length < big) : (TP K p q a b f g u v).put q p x = some (TP K p q a b f g u (v ++ [x])) := by
 unfold Wd.put; rw [wqp h, if_pos h1, setWq h]
theorem callp {l : List (Int × Pk)} (ha : a.inb = l) (h : l.length < big) : (TP K p q a b f g u v).call p = Wd.handles p (TP K p q { a with inb := [] } b f g u v) l := by
 unfold Wd.call; rw [prp, ha, if_pos h, setp]
theorem callq (h : q ≠ p) {l : List (Int × Pk)} (hb : b.inb = l) (h1 : l.length < big) : (TP K p q a b f g u v).call q = Wd.handles q (TP K p q a { b with inb := [] } f g u v) l := by
 unfold Wd.call; rw [prq h, hb, if_pos h1, setq h]
theorem restp (ha : a.inb = []) : (TP K p q a b f g u v).call p = some (TP K p q a b f g u v) := Wd.call_nil (by rw [prp]; exact ha)
theorem restq (h : q ≠ p) (hb : b.inb = []) : (TP K p q a b f g u v).call q = some (TP K p q a b f g u v) := Wd.call_nil (by rw [prq h]; exact hb)
theorem handles1 {r : Nat} {w w' : Wd} {x : Int × Pk} (h : w.handle r x.1 x.2 = some w') : Wd.handles r w [x] = some w' := by
 show (match w.handle r x.1 x.2 with
  | some w' => Wd.handles r w' []
  | none => none) = _
 rw [h]; rfl
theorem idle {n r : Nat} (h1 : r ≠ p) (h2 : r ≠ q) (hi : (K.pr r).inb = []) : Wd.stpS n r (TP K p q a b f g u v) = some (TP K p q a b f g u v) :=
 Wd.stpS_nil (fun c => wo (by omega) (by omega)) (by show (if r = p then a else if r = q then b else K.pr r).inb = []; rw [if_neg h1, if_neg h2]; exact hi)
theorem sq0 (h : q ≠ p) {n : Nat} (hv : v = []) : Wd.stpS n q (TP K p q a b f g u v) = (TP K p q a b f g u v).call q := by
 unfold Wd.stpS
 rw [Wd.rowS_nil (fun c => by
  by_cases e : (c : Int) = p
  . rw [e, wqp h, hv]
  . exact wo (by omega) (by omega))]
 rfl
theorem sp0 (_h : q ≠ p) {n : Nat} (hu : u = []) : Wd.stpS n p (TP K p q a b f g u v) = (TP K p q a b f g u v).call p := by
 unfold Wd.stpS
 rw [Wd.rowS_nil (fun c => by
  by_cases e : (c : Int) = q
  . rw [e, wpq, hu]
  . exact wo (by omega) (by omega))]
 rfl
theorem sq1 (h : q ≠ p) {n : Nat} {x : Pk} (hv : v = [x]) (hi : a.inb.length < big) (hp : p < n) : Wd.stpS n q (TP K p q a b f g u v) = (TP K p q { a with inb := a.inb ++ [((q : Int), x)] } b f g u []).call q := by
 unfold Wd.stpS
 rw [Wd.rowS_one (c := p) (x := x) (by rw [wqp h, hv]) (fun c hc => wo (by omega) (by omega)) (by rw [prp]; exact hi) (Nat.zero_le _) (by omega), setWq h, prp, setp]
 rfl
theorem sp1 (h : q ≠ p) {n : Nat} {x : Pk} (hu : u = [x]) (hi : b.inb.length < big) (hq : q < n) : Wd.stpS n p (TP K p q a b f g u v) = (TP K p q a { b with inb := b.inb ++ [((p : Int), x)] } f g [] v).call p := by
 unfold Wd.stpS
 rw [Wd.rowS_one (c := q) (x := x) (by rw [wpq, hu]) (fun c hc => wo (by omega) (by omega)) (by rw [prq h]; exact hi) (Nat.zero_le _) (by omega), setWp, prq h, setq h]
 rfl
theorem rnd (hqp : q < p) (hpn : p < K.n) (hK : ∀ r, r < K.n -> r ≠ p -> r ≠ q -> (K.pr r).inb = []) {a1 b1 a2 b2 : Pr} {f1 g1 f2 g2 : Nat -> Rq} {u1 v1 u2 v2 : List Pk}
  (e1 : Wd.stpS K.n q (TP K p q a b f g u v) = some (TP K p q a1 b1 f1 g1 u1 v1)) (e2 : Wd.stpS K.n p (TP K p q a1 b1 f1 g1 u1 v1) = some (TP K p q a2 b2 f2 g2 u2 v2)) :
  (TP K p q a b f g u v).rndS = some (TP K p q a2 b2 f2 g2 u2 v2) :=
 Wd.rndS_two (n := K.n) rfl hqp hpn e1 e2 (fun r h => idle (by omega) (by omega) (hK r (by omega) (by omega) (by omega))) (fun r h1 h2 => idle (by omega) (by omega) (hK r (by omega) (by omega) (by omega))) (fun r h1 h2 => idle (by omega) (by omega) (hK r h2 (by omega) (by omega)))
theorem quiet (hK : ∀ r, r < K.n -> r ≠ p -> r ≠ q -> (K.pr r).inb = []) (ha : a.inb = []) (hb : b.inb = []) : (TP K p q a b f g [] []).quiet := by
 refine ⟨fun i j => ?_, fun r hr => ?_⟩
 . show (if i = (p : Int) /\ j = (q : Int) then [] else if i = (q : Int) /\ j = (p : Int) then [] else []) = ([] : List Pk)
   split
   . rfl
   . split <;> rfl
 . show (if r = p then a else if r = q then b else K.pr r).inb = []
   split
   . exact ha
   . split
     . exact hb
     . exact hK r hr (by assumption) (by assumption)
theorem loudu {x : Pk} : ¬ (TP K p q a b f g (x :: u) v).quiet := fun h => by have := h.1 p q; rw [wpq] at this; cases this
theorem loudv (h : q ≠ p) {x : Pk} : ¬ (TP K p q a b f g u (x :: v)).quiet := fun h1 => by have := h1.1 q p; rw [wqp h] at this; cases this
theorem loudb (h : q ≠ p) (hq : q < K.n) {x : Int × Pk} {l : List (Int × Pk)} (hb : b.inb = x :: l) : ¬ (TP K p q a b f g u v).quiet := fun h1 => by have := h1.2 q hq; rw [prq h, hb] at this; cases this
theorem self (hw : ∀ i j, K.way i j = []) : TP K p q (K.pr p) (K.pr q) (K.rq p) (K.rq q) [] [] = K := by
 obtain ⟨lim, n, pr, rq, way⟩ := K
 unfold TP
 congr 1
 . funext r
   dsimp only
   split
   . rename_i e; rw [e]
   . split
     . rename_i e; rw [e]
     . rfl
 . funext r
   dsimp only
   split
   . rename_i e; rw [e]
   . split
     . rename_i e; rw [e]
     . rfl
 . funext i j
   have := hw i j
   dsimp only at this ⊢
   rw [this]
   split
   . rfl
   . split <;> rfl
end TP
end Go.Mt
namespace Go.Mt
open Go.Arm
def P0 (s : Nat) (rs : List Nat) (c : List Int) : Pr := ⟨s, rs, [], [], [], [], c⟩
def sR (q : Nat) : Rq := { no := 0, peer := (q : Int), ctx := 0, tag := 1, room := 0, send := true, sync := false, pers := false, act := false, done := false, parts := 0, size := 0, data := [], pcs := [], gone := 0, sent := [], clr := false, st := St.z }
def rR : Rq := { no := 0, peer := -1, ctx := 0, tag := 1, room := 300, send := false, sync := false, pers := false, act := false, done := false, parts := 0, size := 0, data := [], pcs := [], gone := 0, sent := [], clr := false, st := St.z }
def EN (p : Nat) (d : By) : En := ⟨(p : Int), 0, 1, ((d.length + 0 * 0 : Nat) : Int), 0⟩
def SD (q s : Nat) (d : By) (dn : Bool) : Rq := { sR q with no := s, act := true, done := dn, data := d, st := ⟨(q : Int), 1, ((d.length + 0 * 0 : Nat) : Int), 0⟩ }
def RD (r : Nat) (d : By) (dn : Bool) (st : St) : Rq := { rR with no := r, act := true, done := dn, data := d, st := st }
section
variable {K : Wd} {p q s r n : Nat} {a b : Pr} {f g : Nat -> Rq} {u v : List Pk} {rs : List Nat} {c : List Int} {d : By}
theorem TP.addp {x : Rq} (h1 : s < big) (h2 : s ∉ rs) : (TP K p q (P0 s rs c) b f g u v).add p x = some (TP K p q (P0 (s + 1) (rs ++ [s]) c) b (ups f s { x with no := s }) g u v) := by
 unfold Wd.add
 rw [TP.prp]
 rw [if_pos (show (P0 s rs c).next < big /\ (P0 s rs c).next ∉ (P0 s rs c).reqs from ⟨h1, h2⟩), TP.setp, TP.setRp, TP.setp]
 rfl
theorem TP.addq (h : q ≠ p) {x : Rq} (h1 : r < big) (h2 : r ∉ rs) : (TP K p q a (P0 r rs c) f g u v).add q x = some (TP K p q a (P0 (r + 1) (rs ++ [r]) c) f (ups g r { x with no := r }) u v) := by
 unfold Wd.add
 rw [TP.prq h]
 rw [if_pos (show (P0 r rs c).next < big /\ (P0 r rs c).next ∉ (P0 r rs c).reqs from ⟨h1, h2⟩), TP.setq h, TP.setRq h, TP.setq h]
 rfl
theorem Qq7 (hq : q < n) : (List.replicate n (1 : Int)).getD q 0 = 1 := by
 rw [List.getD_eq_getElem?_getD, List.getElem?_replicate, if_pos hq]; rfl
theorem TP.start_e (hq : q < n) (hd : d.length < 4096) (hE : (d.length : Int) ≤ K.lim) :
  (TP K p q (P0 (s + 1) (rs ++ [s]) (List.replicate n 1)) b (ups f s { sR q with no := s }) g [] v).start p s d = some (TP K p q (P0 (s + 1) (rs ++ [s]) ((List.replicate n 1).set q 0)) b (ups f s (SD q s d true)) g [.eager (EN p d) d] v) := by
 have hb : 4096 < big := by decide
 unfold Wd.start
 dsimp only
 rw [TP.rqp, j0, TP.prp]
 rw [if_neg (fun x => x ⟨show (0 : Nat) * 0 < big by decide, by omega, show (0 : Nat) < big by decide, Int.le_refl _⟩), if_pos (show ({ sR q with no := s } : Rq).send = true from rfl), TP.setRp, ups2]
 unfold Wd.send
 dsimp only
 rw [TP.rqp, j0, TP.prp]
 refine (if_neg (show ¬ ((q : Int) = -2) by omega)).trans ?_
 refine (if_neg (show ¬ (false = true ∨ (0 : Nat) > 0 ∨ ((d.length + 0 * 0 : Nat) : Int) > K.lim) by simp; omega)).trans ?_
 refine (if_pos (show 0 ≤ (q : Int) /\ (q : Int) < ((List.replicate n (1 : Int)).length : Int) by rw [List.length_replicate]; omega)).trans ?_
 have e1 : (P0 (s + 1) (rs ++ [s]) (List.replicate n 1)).crds.getD (q : Int).toNat 0 = 1 := by rw [Int.toNat_natCast]; exact Qq7 hq
 show (if (P0 (s + 1) (rs ++ [s]) (List.replicate n 1)).crds.getD (q : Int).toNat 0 = 0 then _ else if 0 < (P0 (s + 1) (rs ++ [s]) (List.replicate n 1)).crds.getD (q : Int).toNat 0 /\ (P0 (s + 1) (rs ++ [s]) (List.replicate n 1)).crds.getD (q : Int).toNat 0 < (big : Int) then _ else none) = _
 rw [e1, if_neg (by decide), if_pos (by decide), TP.setp]
 show Option.map _ ((TP K p q _ b _ g [] v).put p q _) = _
 rw [TP.putp (by decide)]
 show some ((TP K p q _ b _ g _ v).setRq p s _) = _
 rw [TP.setRp, ups2]
 show some (TP K p q (P0 (s + 1) (rs ++ [s]) ((List.replicate n 1).set (q : Int).toNat ((P0 (s + 1) (rs ++ [s]) (List.replicate n 1)).crds.getD (q : Int).toNat 0 - 1))) b (ups f s (SD q s d true)) g [.eager (EN p d) d] v) = _
 rw [e1, Int.toNat_natCast]
 rfl
theorem TP.start_a (hd : d.length < 4096) (hE : ¬ (d.length : Int) ≤ K.lim) :
  (TP K p q (P0 (s + 1) (rs ++ [s]) c) b (ups f s { sR q with no := s }) g [] v).start p s d = some (TP K p q (P0 (s + 1) (rs ++ [s]) c) b (ups f s (SD q s d false)) g [.ask (EN p d) s] v) := by
 have hb : 4096 < big := by decide
 unfold Wd.start
 dsimp only
 rw [TP.rqp, j0, TP.prp]
 rw [if_neg (fun x => x ⟨show (0 : Nat) * 0 < big by decide, by omega, show (0 : Nat) < big by decide, Int.le_refl _⟩), if_pos (show ({ sR q with no := s } : Rq).send = true from rfl), TP.setRp, ups2]
 unfold Wd.send
 dsimp only
 rw [TP.rqp, j0]
 refine (if_neg (show ¬ ((q : Int) = -2) by omega)).trans ?_
 refine (if_pos (show false = true ∨ (0 : Nat) > 0 ∨ ((d.length + 0 * 0 : Nat) : Int) > K.lim by simp; omega)).trans ?_
 show (TP K p q _ b _ g [] v).put p q _ = _
 rw [TP.putp (by decide)]
 rfl
theorem TP.start_r (h : q ≠ p) : (TP K p q a (P0 (r + 1) (rs ++ [r]) c) f (ups g r { rR with no := r }) u v).start q r [] = some (TP K p q a { P0 (r + 1) (rs ++ [r]) c with rcvs := [r] } f (ups g r (RD r [] false St.z)) u v) := by
 unfold Wd.start
 dsimp only
 rw [TP.rqq h, j0, TP.prq h]
 rw [if_neg (fun x => x ⟨show (0 : Nat) * 0 < big by decide, by show 0 < big; decide, show (0 : Nat) < big by decide, by show (0 : Int) ≤ 300; decide⟩)]
 refine (if_neg (show ¬ (false = true) by decide)).trans ?_
 refine (if_neg (show ¬ ((-1 : Int) = -2) by decide)).trans ?_
 refine (if_pos (show (0 : Nat) < big by decide)).trans ?_
 rw [TP.setRq h, ups2, TP.setq h]
 rfl
theorem ux8 {e : En} (h1 : e.ctx = 0) (h2 : e.tag = 1) (h3 : e.parts = 0) : (RD r [] false St.z).fits e = true := by
 unfold Rq.fits RD rR
 simp [h1, h2, h3]
theorem TP.came_e (h : q ≠ p) (hd : d.length ≤ 300) : (TP K p q a { P0 (r + 1) rs c with rcvs := [r] } f (ups g r (RD r [] false St.z)) u []).handle q (p : Int) (.eager (EN p d) d) =
  some (TP K p q a (P0 (r + 1) rs c) f (ups g r (RD r d true ⟨(p : Int), 1, ((d.length + 0 * 0 : Nat) : Int), 0⟩)) u [.credit]) := by
 have hb : 300 < big := by decide
 show Wd.came _ q (.eager (EN p d) d) = _
 unfold Wd.came
 rw [TP.prq h, TP.rqq h]
 rw [if_neg (show ¬ ¬ ((∀ no, no ∈ [r] -> (ups g r (RD r [] false St.z) no).small) /\ [r].length < big) from fun x => x ⟨fun no hn => by rw [List.mem_singleton.1 hn, j0]; show (0 : Nat) * 0 < big; decide, show 1 < big by decide⟩)]
 have e1 : ([r].findIdx? fun no => (ups g r (RD r [] false St.z) no).fits (EN p d)) = some 0 := by
  rw [List.findIdx?_cons, j0, ux8 rfl rfl rfl]; rfl
 show (match ([r].findIdx? fun no => (ups g r (RD r [] false St.z) no).fits (EN p d)) with
  | some i => _
  | none => _) = _
 rw [e1]
 show ((TP K p q a _ f _ u []).setPr q _).mtch q r (.eager (EN p d) d) = _
 rw [TP.setq h]
 unfold Wd.mtch
 dsimp only
 rw [TP.rqq h, j0]
 refine (if_pos (show d.length < big /\ (0 : Int) ≤ 300 from ⟨by omega, by decide⟩)).trans ?_
 rw [TP.setRq h, ups2]
 show (TP K p q a _ f _ u []).put q p .credit = _
 rw [TP.putq h (by decide)]
 have e2 : Rq.gets { RD r [] false St.z with st := ⟨(p : Int), 1, ((d.length + 0 * 0 : Nat) : Int), 0⟩ } d = RD r d true ⟨(p : Int), 1, ((d.length + 0 * 0 : Nat) : Int), 0⟩ := by
  unfold Rq.gets
  rw [if_neg (fun x => by have : (300 : Int) < d.length := x.2; omega)]
  rfl
 show some (TP K p q a _ f (ups g r (Rq.gets { RD r [] false St.z with st := ⟨(p : Int), 1, ((d.length + 0 * 0 : Nat) : Int), 0⟩ } d)) u [.credit]) = _
 rw [e2]
 rfl
theorem TP.came_a (h : q ≠ p) : (TP K p q a { P0 (r + 1) rs c with rcvs := [r] } f (ups g r (RD r [] false St.z)) u []).handle q (p : Int) (.ask (EN p d) s) =
  some (TP K p q a { P0 (r + 1) rs c with exps := [(((p : Int), (s : Int)), r)] } f (ups g r (RD r [] false ⟨(p : Int), 1, ((d.length + 0 * 0 : Nat) : Int), 0⟩)) u [.clear s]) := by
 show Wd.came _ q (.ask (EN p d) s) = _
 unfold Wd.came
 rw [TP.prq h, TP.rqq h]
 rw [if_neg (show ¬ ¬ ((∀ no, no ∈ [r] -> (ups g r (RD r [] false St.z) no).small) /\ [r].length < big) from fun x => x ⟨fun no hn => by rw [List.mem_singleton.1 hn, j0]; show (0 : Nat) * 0 < big; decide, show 1 < big by decide⟩)]
 have e1 : ([r].findIdx? fun no => (ups g r (RD r [] false St.z) no).fits (EN p d)) = some 0 := by
  rw [List.findIdx?_cons, j0, ux8 rfl rfl rfl]; rfl
 show (match ([r].findIdx? fun no => (ups g r (RD r [] false St.z) no).fits (EN p d)) with
  | some i => _
  | none => _) = _
 rw [e1]
 show ((TP K p q a _ f _ u []).setPr q _).mtch q r (.ask (EN p d) s) = _
 rw [TP.setq h]
 unfold Wd.mtch
 dsimp only
 rw [TP.rqq h, j0, TP.setRq h, ups2, TP.prq h, TP.setq h]
 show (TP K p q a _ f _ u []).put q p (.clear s) = _
 rw [TP.putq h (by decide)]
 rfl
theorem Qq6 (hq : q < n) : ((List.replicate n (1 : Int)).set q 0).set q 1 = List.replicate n 1 := by
 rw [List.set_set]
 apply List.ext_getElem?
 intro i
 rw [List.getElem?_set, List.length_replicate]
 by_cases e : q = i
 . subst e; rw [if_pos rfl, if_pos hq, List.getElem?_replicate, if_pos hq]
 . rw [if_neg e]
theorem TP.credit (hq : q < n) : (TP K p q (P0 s rs ((List.replicate n 1).set q 0)) b f g u v).handle p (q : Int) .credit = some (TP K p q (P0 s rs (List.replicate n 1)) b f g u v) := by
 show (if 0 ≤ (q : Int) /\ (q : Int) < (((TP K p q (P0 s rs ((List.replicate n 1).set q 0)) b f g u v).pr p).crds.length : Int) /\ _ /\ _ then _ else none) = _
 rw [TP.prp]
 have e1 : (P0 s rs ((List.replicate n (1 : Int)).set q 0)).crds.getD (q : Int).toNat 0 = 0 := by
  rw [Int.toNat_natCast]
  show ((List.replicate n (1 : Int)).set q 0).getD q 0 = 0
  rw [List.getD_eq_getElem?_getD, List.getElem?_set, if_pos rfl, List.length_replicate, if_pos hq]; rfl
 rw [e1]
 refine (if_pos (show 0 ≤ (q : Int) /\ (q : Int) < (((List.replicate n (1 : Int)).set q 0).length : Int) /\ (0 : Int) < (big : Int) /\ (0 : Int) ≤ 0 from ⟨by omega, by rw [List.length_set, List.length_replicate]; omega, by decide, Int.le_refl _⟩)).trans ?_
 rw [TP.setp]
 show some (TP K p q (P0 s rs (((List.replicate n (1 : Int)).set q 0).set (q : Int).toNat (0 + 1))) b f g u v) = _
 rw [Int.toNat_natCast, show (0 : Int) + 1 = 1 from rfl, Qq6 hq]
theorem TP.clear (hm : s ∈ rs) : (TP K p q (P0 (s + 1) rs c) b (ups f s (SD q s d false)) g [] v).handle p (q : Int) (.clear s) = some (TP K p q (P0 (s + 1) rs c) b (ups f s (SD q s d true)) g [.body s d] v) := by
 show (if 0 ≤ (s : Int) /\ (s : Int).toNat ∈ ((TP K p q (P0 (s + 1) rs c) b (ups f s (SD q s d false)) g [] v).pr p).reqs then (if ((TP K p q (P0 (s + 1) rs c) b (ups f s (SD q s d false)) g [] v).rq p (s : Int).toNat).parts = 0 then _ else _) else none) = _
 rw [TP.prp, TP.rqp, Int.toNat_natCast, j0]
 rw [if_pos (show 0 ≤ (s : Int) /\ s ∈ (P0 (s + 1) rs c).reqs from ⟨by omega, hm⟩), if_pos (show (SD q s d false).parts = 0 from rfl)]
 show Option.map _ ((TP K p q (P0 (s + 1) rs c) b (ups f s (SD q s d false)) g [] v).put p q (.body s (SD q s d false).data)) = _
 rw [TP.putp (by decide)]
 show some ((TP K p q _ b _ g _ v).setRq p s { ((TP K p q _ b (ups f s (SD q s d false)) g _ v).rq p s) with done := true }) = _
 rw [TP.rqp, j0, TP.setRp, ups2]
 rfl
theorem TP.body {st : St} (h : q ≠ p) (hd : d.length ≤ 300) : (TP K p q a { P0 (r + 1) rs c with exps := [(((p : Int), (s : Int)), r)] } f (ups g r (RD r [] false st)) u v).handle q (p : Int) (.body s d) = some (TP K p q a (P0 (r + 1) rs c) f (ups g r (RD r d true st)) u v) := by
 have hb : 300 < big := by decide
 show (match kget ((TP K p q a { P0 (r + 1) rs c with exps := [(((p : Int), (s : Int)), r)] } f (ups g r (RD r [] false st)) u v).pr q).exps ((p : Int), (s : Int)) with
  | some no => _
  | none => none) = _
 rw [TP.prq h]
 have e1 : kget [(((p : Int), (s : Int)), r)] ((p : Int), (s : Int)) = some r := by simp [kget]
 show (match kget [(((p : Int), (s : Int)), r)] ((p : Int), (s : Int)) with
  | some no => _
  | none => none) = _
 rw [e1]
 dsimp only
 rw [TP.rqq h, j0]
 refine (if_pos (show d.length < big /\ (0 : Int) ≤ 300 from ⟨by omega, by decide⟩)).trans ?_
 rw [TP.setRq h, ups2, TP.setq h]
 have e2 : (RD r [] false st).gets d = RD r d true st := by
  unfold Rq.gets
  rw [if_neg (fun x => by have : (300 : Int) < d.length := x.2; omega)]
  rfl
 have e3 : kdel [(((p : Int), (s : Int)), r)] ((p : Int), (s : Int)) = [] := by simp [kdel]
 rw [e2]
 show some (TP K p q a { P0 (r + 1) rs c with exps := kdel [(((p : Int), (s : Int)), r)] ((p : Int), (s : Int)) } f _ u v) = _
 rw [e3]
 rfl
end
end Go.Mt
namespace Go.Mt
open Go.Arm
structure Rst (E : Int) (n k : Nat) (W : Wd) : Prop where
 n_ : W.n = n
 lim : W.lim = E
 way : ∀ a b, W.way a b = []
 pr : ∀ p, p < n -> ∃ s rs, W.pr p = P0 s rs (List.replicate n 1) /\ s ≤ k /\ (∀ r, r ∈ rs -> r < s) /\ rs.length ≤ k
theorem Rst.born {E : Int} {n : Nat} : Rst E n 1 (Wd.new n E 1) :=
 ⟨rfl, rfl, fun _ _ => rfl, fun _ _ => ⟨_, [], rfl, (by decide), (fun r hr => by cases hr), Nat.zero_le _⟩⟩
section
variable {K : Wd} {p q s r n : Nat} {f g : Nat -> Rq} {rp rq : List Nat} {d : By}
theorem TP.eager (hqp : q < p) (hpn : p < n) (hKn : K.n = n) (hK : ∀ r, r < K.n -> r ≠ p -> r ≠ q -> (K.pr r).inb = []) (hd : d.length ≤ 300) :
  Wd.SettS 2 (TP K p q (P0 (s + 1) rp ((List.replicate n 1).set q 0)) { P0 (r + 1) rq (List.replicate n 1) with rcvs := [r] } f (ups g r (RD r [] false St.z)) [.eager (EN p d) d] [])
   (TP K p q (P0 (s + 1) rp (List.replicate n 1)) (P0 (r + 1) rq (List.replicate n 1)) f (ups g r (RD r d true ⟨(p : Int), 1, ((d.length + 0 * 0 : Nat) : Int), 0⟩)) [] []) := by
 have hne : q ≠ p := by omega
 subst hKn
 have hq : q < K.n := by omega
 have b0 : 0 < big := by decide
 have b1 : 1 < big := by decide
 refine .more (TP.rnd hqp hpn hK ((TP.sq0 hne rfl).trans (TP.restq hne rfl)) ((TP.sp1 hne rfl (by exact b0) hq).trans (TP.restp rfl))) (TP.loudb hne hq rfl) ?_
 refine .more (TP.rnd hqp hpn hK ((TP.sq0 hne rfl).trans ((TP.callq hne rfl (by exact b1)).trans (TP.handles1 (TP.came_e hne hd)))) ((TP.sp0 hne rfl).trans (TP.restp rfl))) (TP.loudv hne) ?_
 exact .last (TP.rnd hqp hpn hK ((TP.sq1 hne rfl (by exact b0) hpn).trans (TP.restq hne rfl)) ((TP.sp0 hne rfl).trans ((TP.callp rfl (by exact b1)).trans (TP.handles1 (TP.credit hq))))) (TP.quiet hK rfl rfl)
theorem TP.asked (hqp : q < p) (hpn : p < n) (hKn : K.n = n) (hK : ∀ r, r < K.n -> r ≠ p -> r ≠ q -> (K.pr r).inb = []) (hd : d.length ≤ 300) (hm : s ∈ rp) :
  Wd.SettS 4 (TP K p q (P0 (s + 1) rp (List.replicate n 1)) { P0 (r + 1) rq (List.replicate n 1) with rcvs := [r] } (ups f s (SD q s d false)) (ups g r (RD r [] false St.z)) [.ask (EN p d) s] [])
   (TP K p q (P0 (s + 1) rp (List.replicate n 1)) (P0 (r + 1) rq (List.replicate n 1)) (ups f s (SD q s d true)) (ups g r (RD r d true ⟨(p : Int), 1, ((d.length + 0 * 0 : Nat) : Int), 0⟩)) [] []) := by
 have hne : q ≠ p := by omega
 subst hKn
 have hq : q < K.n := by omega
 have b0 : 0 < big := by decide
 have b1 : 1 < big := by decide
 refine .more (TP.rnd hqp hpn hK ((TP.sq0 hne rfl).trans (TP.restq hne rfl)) ((TP.sp1 hne rfl (by exact b0) hq).trans (TP.restp rfl))) (TP.loudb hne hq rfl) ?_
 refine .more (TP.rnd hqp hpn hK ((TP.sq0 hne rfl).trans ((TP.callq hne rfl (by exact b1)).trans (TP.handles1 (TP.came_a hne)))) ((TP.sp0 hne rfl).trans (TP.restp rfl))) (TP.loudv hne) ?_
 refine .more (TP.rnd hqp hpn hK ((TP.sq1 hne rfl (by exact b0) hpn).trans (TP.restq hne rfl)) ((TP.sp0 hne rfl).trans ((TP.callp rfl (by exact b1)).trans (TP.handles1 (TP.clear hm))))) TP.loudu ?_
 refine .more (TP.rnd hqp hpn hK ((TP.sq0 hne rfl).trans (TP.restq hne rfl)) ((TP.sp1 hne rfl (by exact b0) hq).trans (TP.restp rfl))) (TP.loudb hne hq rfl) ?_
 exact .last (TP.rnd hqp hpn hK ((TP.sq0 hne rfl).trans ((TP.callq hne rfl (by exact b1)).trans (TP.handles1 (TP.body hne hd)))) ((TP.sp0 hne rfl).trans (TP.restp rfl))) (TP.quiet hK rfl rfl)
theorem TP.over {a : Pr} {c : List Int} {st : St} {k : Nat} (h : q ≠ p) (hr : r ∉ rq) : (TP K p q a (P0 k (rq ++ [r]) c) f (ups g r (RD r d true st)) [] []).over q r = TP K p q a (P0 k rq c) f (ups g r { RD r d true st with act := false }) [] [] := by
 unfold Wd.over
 dsimp only
 rw [TP.rqq h, j0]
 refine (if_neg (show ¬ (false = true) by decide)).trans ?_
 rw [TP.setRq h, ups2, TP.prq h, TP.setq h]
 have e : (rq ++ [r]).erase r = rq := by
  rw [List.erase_append_right _ hr]
  simp
 show TP K p q a { P0 k (rq ++ [r]) c with reqs := (rq ++ [r]).erase r } f _ [] [] = _
 rw [e]
 rfl
end
theorem Rst.pair {E : Int} {K : Wd} {n k p q s r : Nat} {f g : Nat -> Rq} {rp rq : List Nat} (R : Rst E n k K) (hs : s ≤ k) (hr : r ≤ k) (h1 : ∀ x, x ∈ rp -> x < s + 1) (h2 : rp.length ≤ k + 1) (h3 : ∀ x, x ∈ rq -> x < r + 1) (h4 : rq.length ≤ k + 1) :
   Rst E n (k + 1) (TP K p q (P0 (s + 1) rp (List.replicate n 1)) (P0 (r + 1) rq (List.replicate n 1)) f g [] []) := by
 refine ⟨R.n_, R.lim, fun a b => ?_, fun x hx => ?_⟩
 . show (if a = (p : Int) /\ b = (q : Int) then [] else if a = (q : Int) /\ b = (p : Int) then [] else []) = ([] : List Pk)
   split
   . rfl
   . split <;> rfl
 . show ∃ s' rs, (if x = p then P0 (s + 1) rp (List.replicate n 1) else if x = q then P0 (r + 1) rq (List.replicate n 1) else K.pr x) = _ /\ _
   split
   . exact ⟨_, _, rfl, by omega, h1, h2⟩
   . split
     . exact ⟨_, _, rfl, by omega, h3, h4⟩
     . obtain ⟨s', rs, e, h5, h6, h7⟩ := R.pr x hx
       exact ⟨s', rs, e, by omega, h6, by omega⟩
theorem Rst.exch {E : Int} {W : Wd} {n k p q : Nat} {d : By} (R : Rst E n k W) (hqp : q < p) (hpn : p < n) (hk : k ≤ 100) (hd : d.length ≤ 300) :
   ∃ W2 W3 V2 V3 W5 m, W.call p = some W /\ W.add p (sR q) = some W2 /\ W2.start p (W.pr p).next d = some W3 /\ (W.pr p).reqs.length < 256 /\ W3.n = n /\
     W3.call q = some W3 /\ W3.add q rR = some V2 /\ V2.start q (W3.pr q).next [] = some V3 /\ (W3.pr q).reqs.length < 256 /\ V3.n = n /\ (V3.rq q (W3.pr q).next).no = (W3.pr q).next /\
     Wd.SettS m V3 W5 /\ m < 10 /\ W5.n = n /\ (W3.pr q).next ∈ (W5.pr q).reqs /\ (W5.rq q (W3.pr q).next).act = true /\ W5.call q = some W5 /\ (W5.rq q (W3.pr q).next).done = true /\
     (W5.rq q (W3.pr q).next).send = false /\ (W5.rq q (W3.pr q).next).data = d /\ Rst E n (k + 1) (W5.over q (W3.pr q).next) := by
 have hne : q ≠ p := by omega
 have hn : W.n = n := R.n_
 obtain ⟨s, rp, ep, p1, p2, p3⟩ := R.pr p hpn
 obtain ⟨r, rq, eq, q1, q2, q3⟩ := R.pr q (by omega)
 have hK : ∀ x, x < W.n -> x ≠ p -> x ≠ q -> (W.pr x).inb = [] := fun x hx _ _ => by
   obtain ⟨_, _, e, _⟩ := R.pr x (by omega)
   rw [e]; rfl
 have self : TP W p q (P0 s rp (List.replicate n 1)) (P0 r rq (List.replicate n 1)) (W.rq p) (W.rq q) [] [] = W := by
   have e := TP.self (p := p) (q := q) R.way
   rw [ep, eq] at e; exact e
 have hs : s ∉ rp := fun h => by have := p2 s h; omega
 have hr : r ∉ rq := fun h => by have := q2 r h; omega
 have hbig : 200 < big := by decide
 have hnp : (W.pr p).next = s := by rw [ep]; rfl
 have hlp : (W.pr p).reqs.length < 256 := by rw [ep]; show rp.length < 256; omega
 have a1 : W.add p (sR q) = some (TP W p q (P0 (s + 1) (rp ++ [s]) (List.replicate n 1)) (P0 r rq (List.replicate n 1)) (ups (W.rq p) s { sR q with no := s }) (W.rq q) [] []) := by
   rw [<- TP.addp (by omega) hs, self]
 have c0 : W.call p = some W := Wd.call_nil (by rw [ep]; rfl)
 have fin : ∀ (cp : List Int) (f3 f5 : Nat -> Rq) (u : List Pk) (m : Nat), m < 10 -> (TP W p q (P0 (s + 1) (rp ++ [s]) (List.replicate n 1)) (P0 r rq (List.replicate n 1)) (ups (W.rq p) s { sR q with no := s }) (W.rq q) [] []).start p s d = some (TP W p q (P0 (s + 1) (rp ++ [s]) cp) (P0 r rq (List.replicate n 1)) f3 (W.rq q) u []) ->
     Wd.SettS m (TP W p q (P0 (s + 1) (rp ++ [s]) cp) { P0 (r + 1) (rq ++ [r]) (List.replicate n 1) with rcvs := [r] } f3 (ups (W.rq q) r (RD r [] false St.z)) u []) (TP W p q (P0 (s + 1) (rp ++ [s]) (List.replicate n 1)) (P0 (r + 1) (rq ++ [r]) (List.replicate n 1)) f5 (ups (W.rq q) r (RD r d true ⟨(p : Int), 1, ((d.length + 0 * 0 : Nat) : Int), 0⟩)) [] []) ->
     ∃ W2 W3 V2 V3 W5 m, W.call p = some W /\ W.add p (sR q) = some W2 /\ W2.start p (W.pr p).next d = some W3 /\ (W.pr p).reqs.length < 256 /\ W3.n = n /\
     W3.call q = some W3 /\ W3.add q rR = some V2 /\ V2.start q (W3.pr q).next [] = some V3 /\ (W3.pr q).reqs.length < 256 /\ V3.n = n /\ (V3.rq q (W3.pr q).next).no = (W3.pr q).next /\
     Wd.SettS m V3 W5 /\ m < 10 /\ W5.n = n /\ (W3.pr q).next ∈ (W5.pr q).reqs /\ (W5.rq q (W3.pr q).next).act = true /\ W5.call q = some W5 /\ (W5.rq q (W3.pr q).next).done = true /\
     (W5.rq q (W3.pr q).next).send = false /\ (W5.rq q (W3.pr q).next).data = d /\ Rst E n (k + 1) (W5.over q (W3.pr q).next) := by
   intro cp f3 f5 u m hm e1 e2
   refine ⟨_, TP W p q (P0 (s + 1) (rp ++ [s]) cp) (P0 r rq (List.replicate n 1)) f3 (W.rq q) u [], _, TP W p q (P0 (s + 1) (rp ++ [s]) cp) { P0 (r + 1) (rq ++ [r]) (List.replicate n 1) with rcvs := [r] } f3 (ups (W.rq q) r (RD r [] false St.z)) u [],
     TP W p q (P0 (s + 1) (rp ++ [s]) (List.replicate n 1)) (P0 (r + 1) (rq ++ [r]) (List.replicate n 1)) f5 (ups (W.rq q) r (RD r d true ⟨(p : Int), 1, ((d.length + 0 * 0 : Nat) : Int), 0⟩)) [] [], m, c0, a1, by rw [hnp]; exact e1, hlp, hn, TP.restq hne rfl, TP.addq hne (by omega) hr, ?_, ?_, ?_⟩
   . rw [TP.prq hne]; exact TP.start_r hne
   . rw [TP.prq hne]; show rq.length < 256; omega
   . rw [TP.prq hne]
     refine ⟨hn, by rw [TP.rqq hne]; show (ups (W.rq q) r _ r).no = r; rw [j0]; rfl, e2, hm, hn, ?_, ?_, TP.restq hne rfl, ?_, ?_, ?_, ?_⟩
     . rw [TP.prq hne]; show r ∈ rq ++ [r]; simp
     . rw [TP.rqq hne]; show (ups (W.rq q) r _ r).act = true; rw [j0]; rfl
     . rw [TP.rqq hne]; show (ups (W.rq q) r _ r).done = true; rw [j0]; rfl
     . rw [TP.rqq hne]; show (ups (W.rq q) r _ r).send = false; rw [j0]; rfl
     . rw [TP.rqq hne]; show (ups (W.rq q) r _ r).data = d; rw [j0]; rfl
     . show Rst E n (k + 1) (Wd.over _ q r)
       rw [TP.over hne hr]
       refine R.pair p1 q1 (fun x hx => ?_) (by rw [List.length_append]; show rp.length + 1 ≤ _; omega) (fun x hx => by have := q2 x hx; omega) (by omega)
       rcases List.mem_append.1 hx with h | h
       . have := p2 x h; omega
       . rw [List.mem_singleton.1 h]; omega
 by_cases hE : (d.length : Int) ≤ W.lim
 . exact fin _ _ _ _ 2 (by decide) (TP.start_e (by omega) (by omega) hE) (TP.eager hqp hpn hn hK hd)
 . exact fin _ _ _ _ 4 (by decide) (TP.start_a (by omega) hE) (TP.asked hqp hpn hn hK hd (by simp))
end Go.Mt
namespace Go.Nu
abbrev BB : Nat := 18446744073709551616
theorem bb : BB = 2 ^ 64 := by decide
def word (x i : Nat) : Nat := x / 2 ^ (64 * i) % BB
theorem qz1 (x i : Nat) : word x i < BB := Nat.mod_lt _ (by decide)
theorem p0 (n : Nat) : 0 < 2 ^ n := Nat.pow_pos (by decide)
theorem psucc (i : Nat) : 2 ^ (64 * (i + 1)) = 2 ^ (64 * i) * BB := by rw [bb, <- Nat.pow_add]; congr 1
def cy (x y i : Nat) : Nat := (x % 2 ^ (64 * i) + y % 2 ^ (64 * i)) / 2 ^ (64 * i)
theorem cy_le (x y i : Nat) : cy x y i ≤ 1 := by
 unfold cy
 have h1 := Nat.mod_lt x (p0 (64 * i))
 have h2 := Nat.mod_lt y (p0 (64 * i))
 exact Nat.le_of_lt_succ ((Nat.div_lt_iff_lt_mul (p0 _)).2 (by omega))
theorem cy_0 (x y : Nat) : cy x y 0 = 0 := by
 unfold cy
 rw [Nat.mul_zero, Nat.pow_zero, Nat.mod_one, Nat.mod_one]
theorem uv9 (x y i : Nat) : word (x + y) i = (word x i + word y i + cy x y i) % BB := by
 unfold word cy
 have h : (x + y) / 2 ^ (64 * i) = x / 2 ^ (64 * i) + y / 2 ^ (64 * i) + (x % 2 ^ (64 * i) + y % 2 ^ (64 * i)) / 2 ^ (64 * i) := by
  generalize 2 ^ (64 * i) = b at *
  rcases Nat.eq_zero_or_pos b with rfl | hb
  . simp
  . have e1 := Nat.div_add_mod x b
    have e2 := Nat.div_add_mod y b
    have e3 : x + y = (x % b + y % b) + b * (x / b + y / b) := by rw [Nat.mul_add]; omega
    conv => lhs; rw [e3]
    rw [Nat.add_mul_div_left _ _ hb]; omega
 rw [h, Nat.add_mod _ ((x % 2 ^ (64 * i) + y % 2 ^ (64 * i)) / 2 ^ (64 * i)), Nat.add_mod (x / 2 ^ (64 * i))]
 conv => rhs; rw [Nat.add_mod]
theorem Qj7 (x y i : Nat) : cy x y (i + 1) = (word x i + word y i + cy x y i) / BB := by
 unfold word cy
 rw [psucc]
 have hb := p0 (64 * i)
 generalize 2 ^ (64 * i) = b at *
 rw [Nat.mod_mul, Nat.mod_mul, <- Nat.div_div_eq_div_mul]
 congr 1
 have e3 : x % b + b * (x / b % BB) + (y % b + b * (y / b % BB)) = (x % b + y % b) + b * (x / b % BB + y / b % BB) := by rw [Nat.mul_add]; omega
 rw [e3, Nat.add_mul_div_left _ _ hb]; omega
def MM : Nat := 2 ^ 2304
theorem zu8 : 0 < MM := by unfold MM; exact p0 2304
theorem div1 (x k : Nat) (hk : 0 < k) (h2 : x / k < 2) : x / k = 1 ↔ k ≤ x := by
  constructor
  all_goals intro h
  · have := (Nat.le_div_iff_mul_le hk (x := 1) (y := x)).1 (by omega)
    rw [Nat.one_mul] at this; exact this
  · have := (Nat.le_div_iff_mul_le hk (x := 1) (y := x)).2 (by rw [Nat.one_mul]; exact h)
    omega
theorem div2 (x k m : Nat) (e : k * 2 = m) (h : x < m) : x / k < 2 := Nat.div_lt_of_lt_mul (by rw [e]; exact h)
theorem pwle (a b : Nat) (h : a ≤ b) : 2 ^ a ≤ 2 ^ b := Nat.pow_le_pow_right (by decide) h
theorem pwlt (a b : Nat) (h : a < b) : 2 ^ a < 2 ^ b := Nat.pow_lt_pow_right (by decide) h
theorem pwadd (a b n : Nat) (h : n = a + b) : 2 ^ n = 2 ^ a * 2 ^ b := by subst h; exact Nat.pow_add 2 a b
theorem pwdbl (a n : Nat) (h : n = a + 1) : 2 ^ n = 2 ^ a + 2 ^ a := by subst h; rw [Nat.pow_succ]; omega
theorem pweq (a b : Nat) (h : a = b) : 2 ^ a = 2 ^ b := by rw [h]
theorem powB (a b n : Nat) {B : Nat} (hB : B = 2 ^ b) (h : n = a + b) : 2 ^ a * B = 2 ^ n := by subst hB h; exact (Nat.pow_add 2 a b).symm
theorem mm_at {i : Nat} (h : i < 36) : MM = 2 ^ (64 * i) * (BB * 2 ^ (2240 - 64 * i)) := by
 unfold MM
 rw [bb, <- Nat.pow_add, <- Nat.pow_add]; congr 1; omega
theorem jv3 {i : Nat} (x : Nat) (h : i < 36) : word (x % MM) i = word x i := by
 unfold word
 rw [mm_at h, Nat.mod_mul_right_div_self]
 exact Nat.mod_mod_of_dvd _ (Nat.dvd_mul_right _ _)
theorem xu8 {x b k : Nat} (hb : 0 < b) (h : x < b * k) : (b * k - 1 - x) / b = k - 1 - x / b /\ (b * k - 1 - x) % b = b - 1 - x % b := by
 have e1 := Nat.div_add_mod x b
 have h1 := Nat.mod_lt x hb
 have h2 : x / b < k := Nat.div_lt_of_lt_mul h
 have e3 : b * k - 1 - x = (b - 1 - x % b) + b * (k - 1 - x / b) := by
   obtain ⟨d, rfl⟩ : ∃ d, k = x / b + 1 + d := ⟨k - (x / b + 1), by omega⟩
   have : x / b + 1 + d - 1 - x / b = d := by omega
   rw [this, Nat.mul_add, Nat.mul_add, Nat.mul_one]
   omega
 rw [e3]
 refine ⟨?_, ?_⟩
 . rw [Nat.add_mul_div_left _ _ hb, Nat.div_eq_of_lt (by omega), Nat.zero_add]
 . rw [Nat.add_mul_mod_self_left]; exact Nat.mod_eq_of_lt (by omega)
theorem uq4 {x i : Nat} (hx : x < MM) (h : i < 36) : word (MM - 1 - x) i = BB - 1 - word x i := by
 unfold word
 have hm := mm_at h
 rw [hm] at hx ⊢
 rw [(xu8 (p0 _) hx).1]
 have h2 : x / 2 ^ (64 * i) < BB * 2 ^ (2240 - 64 * i) := Nat.div_lt_of_lt_mul hx
 exact (xu8 (by decide) h2).2
theorem xk7 {x : Nat} (hx : x < MM) : word x 35 / 2 ^ 63 = 1 ↔ 2 ^ 2303 ≤ x := by
 have e4 : (2 : Nat) ^ (64 * 35) * BB = MM := by have h := powB (B := BB) (64 * 35) 64 2304 bb rfl; unfold MM; exact h
 have e0 : word x 35 = x / 2 ^ (64 * 35) := by
   unfold word
   refine Nat.mod_eq_of_lt (Nat.div_lt_of_lt_mul ?_)
   rw [e4]; exact hx
 have e : word x 35 = x / 2 ^ 2240 := e0.trans (by rw [show (64 * 35 : Nat) = 2240 from rfl])
 rw [e, Nat.div_div_eq_div_mul, <- pwadd 2240 63 2303 rfl]
 have h8 : (2 : Nat) ^ 2303 * 2 = MM := by have h9 := powB (B := 2) 2303 1 2304 rfl rfl; unfold MM; exact h9
 have h2 := div2 x (2 ^ 2303) MM h8 hx
 exact div1 x _ (p0 2303) h2
theorem qu9 {x i : Nat} (h : x < 2 ^ (64 * i)) : word x i = 0 := by
 unfold word
 rw [Nat.div_eq_of_lt h, Nat.zero_mod]
theorem qw4 {x i j : Nat} (h : x < 2 ^ (64 * i)) (hj : i ≤ j) : word x j = 0 :=
 qu9 (Nat.lt_of_lt_of_le h (Nat.pow_le_pow_right (by decide) (by omega)))
theorem yu3 {m k : Nat} (i : Nat) (hm : m < BB) : word (m * 2 ^ k) i = if i = k / 64 then m * 2 ^ (k % 64) % BB else if i = k / 64 + 1 then m / 2 ^ (64 - k % 64) else 0 := by
 have hk := Nat.div_add_mod k 64
 have hr : k % 64 < 64 := Nat.mod_lt _ (by decide)
 generalize k / 64 = q at *
 generalize k % 64 = r at *
 subst hk
 by_cases h1 : i = q
 . rw [if_pos h1]; subst h1
   unfold word
   rw [Nat.pow_add, <- Nat.mul_assoc, Nat.mul_right_comm, Nat.mul_div_cancel _ (p0 _)]
 . rw [if_neg h1]
   by_cases h2 : i = q + 1
   . rw [if_pos h2]; subst h2
     unfold word
     have e1 : m * 2 ^ (64 * q + r) / 2 ^ (64 * (q + 1)) = m / 2 ^ (64 - r) := by
       have : 64 * (q + 1) = (64 * q + r) + (64 - r) := by omega
       rw [this, Nat.pow_add 2 (64 * q + r), Nat.mul_comm m, Nat.mul_div_mul_left _ _ (p0 _)]
     rw [e1]
     exact Nat.mod_eq_of_lt (Nat.lt_of_le_of_lt (Nat.div_le_self _ _) hm)
   . rw [if_neg h2]
     rcases Nat.lt_or_ge i q with h3 | h3
     . unfold word
       obtain ⟨d, hd⟩ : ∃ d, 64 * q + r = 64 * i + (64 + d) := ⟨64 * q + r - 64 * i - 64, by omega⟩
       rw [hd, Nat.pow_add, Nat.mul_left_comm, Nat.mul_div_cancel_left _ (p0 _), Nat.pow_add, <- bb, Nat.mul_left_comm]
       exact Nat.mul_mod_right _ _
     . refine qu9 (Nat.lt_of_lt_of_le (Nat.mul_lt_mul_of_pos_right hm (p0 _)) ?_)
       rw [bb, <- Nat.pow_add]
       exact Nat.pow_le_pow_right (by decide) (by omega)
def byt (x k : Nat) : Nat := x / 2 ^ (8 * k) % 256
theorem zv9 (x k : Nat) : byt x k < 256 := Nat.mod_lt _ (by decide)
theorem xg9 (x k : Nat) : word x (k / 8) / 2 ^ (8 * (k % 8)) % 256 = byt x k := by
 have hk := Nat.div_add_mod k 8
 have hr : k % 8 < 8 := Nat.mod_lt _ (by decide)
 generalize k / 8 = q at *
 generalize k % 8 = r at *
 subst hk
 unfold word byt
 have e : BB = 2 ^ (8 * r) * 2 ^ (64 - 8 * r) := by rw [bb, <- Nat.pow_add]; congr 1; omega
 rw [e, Nat.mod_mul_right_div_self, Nat.div_div_eq_div_mul, <- Nat.pow_add]
 have e2 : (256 : Nat) ∣ 2 ^ (64 - 8 * r) := ⟨2 ^ (56 - 8 * r), by rw [show (256 : Nat) = 2 ^ 8 from rfl, <- Nat.pow_add]; congr 1; omega⟩
 rw [Nat.mod_mod_of_dvd _ e2]
 congr 2
 congr 1
 omega
theorem uz2 (x k : Nat) : x % 2 ^ (8 * (k + 1)) = x % 2 ^ (8 * k) + byt x k * 2 ^ (8 * k) := by
 unfold byt
 have e : (2 : Nat) ^ (8 * (k + 1)) = 2 ^ (8 * k) * 256 := by rw [show (256 : Nat) = 2 ^ 8 from rfl, <- Nat.pow_add]; congr 1
 rw [e, Nat.mod_mul, Nat.mul_comm (2 ^ (8 * k))]
theorem ju1 (x k j : Nat) : word (x % 2 ^ (8 * (k + 1))) j = if j = k / 8 then word (x % 2 ^ (8 * k)) j ||| byt x k * 2 ^ (8 * (k % 8)) else word (x % 2 ^ (8 * k)) j := by
 rw [uz2]
 have hp : x % 2 ^ (8 * k) < 2 ^ (8 * k) := Nat.mod_lt _ (p0 _)
 have hb := zv9 x k
 generalize byt x k = c at *
 generalize x % 2 ^ (8 * k) = p at *
 have hk := Nat.div_add_mod k 8
 have hr : k % 8 < 8 := Nat.mod_lt _ (by decide)
 generalize k / 8 = q at *
 generalize k % 8 = r at *
 subst hk
 have e8 : 8 * (8 * q + r) = 64 * q + 8 * r := by omega
 rw [e8] at hp ⊢
 by_cases h1 : j = q
 . rw [if_pos h1]; subst h1
   unfold word
   have hd : p / 2 ^ (64 * j) < 2 ^ (8 * r) := Nat.div_lt_of_lt_mul (by rw [<- Nat.pow_add]; exact hp)
   have e1 : (p + c * 2 ^ (64 * j + 8 * r)) / 2 ^ (64 * j) = p / 2 ^ (64 * j) + c * 2 ^ (8 * r) := by
     rw [Nat.pow_add, Nat.mul_left_comm, Nat.add_mul_div_left _ _ (p0 _)]
   have hc : c * 2 ^ (8 * r) + 2 ^ (8 * r) ≤ BB := by
     rw [<- Nat.succ_mul, bb]
     refine Nat.le_trans (Nat.mul_le_mul_right _ (show c.succ ≤ 2 ^ 8 by omega)) ?_
     rw [<- Nat.pow_add]
     exact Nat.pow_le_pow_right (by decide) (by omega)
   rw [e1, Nat.mod_eq_of_lt (by omega), Nat.mod_eq_of_lt (by omega), Nat.or_comm, Nat.mul_comm c, <- Nat.two_pow_add_eq_or_of_lt hd]
   omega
 . rw [if_neg h1]
   rcases Nat.lt_or_ge j q with h3 | h3
   . unfold word
     obtain ⟨d, hd⟩ : ∃ d, 64 * q + 8 * r = 64 * j + (64 + d) := ⟨64 * q + 8 * r - 64 * j - 64, by omega⟩
     rw [hd, Nat.pow_add, Nat.mul_left_comm, Nat.add_mul_div_left _ _ (p0 _), Nat.pow_add, <- bb, Nat.mul_left_comm, Nat.add_mul_mod_self_left]
   . have h4 : (2 : Nat) ^ (64 * q + 8 * r) * 256 ≤ 2 ^ (64 * (q + 1)) := by
      rw [show (256 : Nat) = 2 ^ 8 from rfl, <- Nat.pow_add]
      exact Nat.pow_le_pow_right (by decide) (by omega)
     have h5 : c * 2 ^ (64 * q + 8 * r) + 2 ^ (64 * q + 8 * r) ≤ 2 ^ (64 * q + 8 * r) * 256 := by
      rw [<- Nat.succ_mul, Nat.mul_comm]
      exact Nat.mul_le_mul_left _ hb
     rw [qw4 (i := q + 1) (by omega) (by omega), qw4 (i := q + 1) (by omega) (by omega)]
end Go.Nu
namespace Go.Arm
noncomputable section
open Go Go.X Go.Nu
abbrev uv (n : Nat) : Value := .int .u64 (n : Int)
section
variable {P : Program} {n : Nat} {f : Fr} {h : AH} {o : Oper}
theorem ev_bin {op : BinOp} {T T' : TypeId} {x y : Operand} {a b v : Value} (hop : o.op = .binOp op T x y T') (hx : ev n f x = some a) (hy : ev n f y = some b) (hv : aBin P op T x y a b h = some v) : evVal P n f h o.op = some v := by
 rw [hop]
 simp only [evVal, hx, hy]
 exact hv
theorem ev_conv {s d : TypeId} {x : Operand} {a v : Value} (hop : o.op = .convert s d x) (hx : ev n f x = some a) (hv : aConv P s d a h = some v) : evVal P n f h o.op = some v := by
 rw [hop]
 simp only [evVal, hx]
 exact hv
theorem ev_un {op : UnOp} {T : TypeId} {x : Operand} {a v : Value} (hop : o.op = .unOp op T x) (hx : ev n f x = some a) (hv : aUn P op a = some v) : evVal P n f h o.op = some v := by
 rw [hop]
 simp only [evVal, hx]
 exact hv
end
section
variable {P : Program} {h : AH} {T : TypeId} {xo yo : Operand} {a b : Nat}
theorem wrapU (x : Nat) : IntKind.u64.wrap (x : Int) = ((x % BB : Nat) : Int) := by
 rw [IntKind.wrap_u64]; rfl
theorem uv5 (ha : a < BB) (hb : b < BB) : aBin P .and T xo yo (uv a) (uv b) h = some (uv (a &&& b)) := by
 show some (Value.int .u64 (bits .and .u64 (a : Int) (b : Int))) = _
 rw [bits_and_u64_nat a b ha hb]
theorem or_u (ha : a < BB) (hb : b < BB) : aBin P .or T xo yo (uv a) (uv b) h = some (uv (a ||| b)) := by
 show some (Value.int .u64 (bits .or .u64 (a : Int) (b : Int))) = _
 rw [bits_or_u64_nat a b ha hb]
theorem zy1 {s : Nat} {k : IntKind} (hs : s ≤ 64) : aBin P .shl T xo yo (uv a) (.int k (s : Int)) h = some (uv (a * 2 ^ s % BB)) := by
 have e : aBin P .shl T xo yo (uv a) (.int k (s : Int)) h = aPure P (Op.shift .shl .u64 (a : Int) k (s : Int)) := rfl
 rw [e]
 have e2 : Op.shift .shl .u64 (a : Int) k (s : Int) = pure (.int .u64 (IntKind.u64.wrap ((a : Int) * 2 ^ s))) := by
  unfold Op.shift
  rw [if_neg (by omega)]
  have : min ((s : Int).toNat) IntKind.u64.bits = s := by rw [Int.toNat_natCast]; exact Nat.min_eq_left hs
  rw [this]
 rw [e2]
 have e3 : ((a : Int) * 2 ^ s) = ((a * 2 ^ s : Nat) : Int) := by rw [Int.natCast_mul, Int.natCast_pow]; rfl
 rw [e3, wrapU]; rfl
theorem qj3 {s : Nat} {k : IntKind} (hs : s ≤ 64) : aBin P .shr T xo yo (uv a) (.int k (s : Int)) h = some (uv (a / 2 ^ s)) := by
 have e : aBin P .shr T xo yo (uv a) (.int k (s : Int)) h = aPure P (Op.shift .shr .u64 (a : Int) k (s : Int)) := rfl
 rw [e]
 have e2 : Op.shift .shr .u64 (a : Int) k (s : Int) = pure (.int .u64 ((a : Int).fdiv (2 ^ s))) := by
  unfold Op.shift
  rw [if_neg (by omega)]
  have : min ((s : Int).toNat) IntKind.u64.bits = s := by rw [Int.toNat_natCast]; exact Nat.min_eq_left hs
  rw [this]
 rw [e2]
 have e3 : (a : Int).fdiv (2 ^ s) = ((a / 2 ^ s : Nat) : Int) := by
  have : (2 : Int) ^ s = ((2 ^ s : Nat) : Int) := by rw [Int.natCast_pow]; rfl
  rw [this, Int.fdiv_eq_ediv_of_nonneg _ (Int.natCast_nonneg _), Int.natCast_ediv]
 rw [e3]; rfl
theorem xv1 {s : Nat} {k : IntKind} (hs : s ≤ 8) : aBin P .shr T xo yo (.int .u8 (a : Int)) (.int k (s : Int)) h = some (.int .u8 ((a / 2 ^ s : Nat) : Int)) := by
 have e : aBin P .shr T xo yo (.int .u8 (a : Int)) (.int k (s : Int)) h = aPure P (Op.shift .shr .u8 (a : Int) k (s : Int)) := rfl
 rw [e]
 have e2 : Op.shift .shr .u8 (a : Int) k (s : Int) = pure (.int .u8 ((a : Int).fdiv (2 ^ s))) := by
  unfold Op.shift
  rw [if_neg (by omega)]
  have : min ((s : Int).toNat) IntKind.u8.bits = s := by rw [Int.toNat_natCast]; exact Nat.min_eq_left hs
  rw [this]
 rw [e2]
 have e3 : (a : Int).fdiv (2 ^ s) = ((a / 2 ^ s : Nat) : Int) := by
  have : (2 : Int) ^ s = ((2 ^ s : Nat) : Int) := by rw [Int.natCast_pow]; rfl
  rw [this, Int.fdiv_eq_ediv_of_nonneg _ (Int.natCast_nonneg _), Int.natCast_ediv]
 rw [e3]; rfl
theorem yg5 (ha : a < BB) : aBin P .andNot T xo yo (uv a) (uv 9223372036854775808) h = some (uv (a % 9223372036854775808)) := by
 show some (Value.int .u64 (IntKind.u64.wrap ((BitVec.ofInt 64 (a : Int) &&& ~~~ (BitVec.ofInt 64 ((9223372036854775808 : Nat) : Int))).toNat : Int))) = _
 have h1 : (BitVec.ofInt 64 (a : Int)).toNat = a := by
  rw [BitVec.ofInt_natCast, BitVec.toNat_ofNat]; exact Nat.mod_eq_of_lt ha
 have h2 : (~~~ (BitVec.ofInt 64 ((9223372036854775808 : Nat) : Int))).toNat = 2 ^ 63 - 1 := by decide
 rw [BitVec.toNat_and, h1, h2, Nat.and_two_pow_sub_one_eq_mod, wrapU, Nat.mod_eq_of_lt (a := a % 2 ^ 63) (by omega)]
theorem zg9 : aBin P .add T xo yo (uv a) (uv b) h = some (uv ((a + b) % BB)) := by
 have e : aBin P .add T xo yo (uv a) (uv b) h = some (.int .u64 (IntKind.u64.wrap ((a : Int) + (b : Int)))) := rfl
 rw [e, <- Int.natCast_add, wrapU]
theorem sub_u (hb : b ≤ a) (ha : a < BB) : aBin P .sub T xo yo (uv a) (uv b) h = some (uv (a - b)) := by
 have e : aBin P .sub T xo yo (uv a) (uv b) h = some (.int .u64 (IntKind.u64.wrap ((a : Int) - (b : Int)))) := rfl
 rw [e, <- Int.natCast_sub hb, wrapU, Nat.mod_eq_of_lt (by omega)]
theorem not_u (ha : a < BB) : aUn P .xor (uv a) = some (uv (BB - 1 - a)) := by
 have e : aUn P .xor (uv a) = some (.int .u64 (bits .xor .u64 ((18446744073709551615 : Nat) : Int) (a : Int))) := rfl
 rw [e, bits_xor_u64_nat _ _ (by decide) ha]
 have h1 : (18446744073709551615 ^^^ a : Nat) = BB - 1 - a := by
  have h3 := BitVec.toNat_not (x := BitVec.ofNat 64 a)
  have h4 : (BitVec.ofNat 64 a).toNat = a := by rw [BitVec.toNat_ofNat]; exact Nat.mod_eq_of_lt ha
  have h5 := BitVec.toNat_xor (BitVec.allOnes 64) (BitVec.ofNat 64 a)
  rw [BitVec.allOnes_xor, h3, h4, BitVec.toNat_allOnes] at h5
  exact h5.symm
 rw [h1]
theorem yk8 {c : Bool} (hc : decide (a = b) = c) : aBin P .eql T xo yo (uv a) (uv b) h = some (.bool c) := by
 have e : aBin P .eql T xo yo (uv a) (uv b) h = some (.bool ((a : Int) == (b : Int))) := rfl
 rw [e, <- hc]
 congr 2
 by_cases hx : a = b
 . subst hx; simp
 . rw [decide_eq_false hx]; exact beq_eq_false_iff_ne.2 (fun e => hx (Int.ofNat.inj e))
theorem ne_u {c : Bool} (hc : (!decide (a = b)) = c) : aBin P .neq T xo yo (uv a) (uv b) h = some (.bool c) := by
 have e : aBin P .neq T xo yo (uv a) (uv b) h = some (.bool ((a : Int) != (b : Int))) := rfl
 rw [e, <- hc]
 congr 2
 by_cases hx : a = b
 . subst hx; simp
 . rw [decide_eq_false hx]; exact bne_iff_ne.2 (fun e => hx (Int.ofNat.inj e))
theorem lt_u {c : Bool} (hc : decide (a < b) = c) : aBin P .lss T xo yo (uv a) (uv b) h = some (.bool c) := by
 have e : aBin P .lss T xo yo (uv a) (uv b) h = some (.bool (decide ((a : Int) < (b : Int)))) := rfl
 rw [e, <- hc]
 simp only [Int.ofNat_lt]
theorem gt_u {c : Bool} (hc : decide (b < a) = c) : aBin P .gtr T xo yo (uv a) (uv b) h = some (.bool c) := by
 have e : aBin P .gtr T xo yo (uv a) (uv b) h = some (.bool (decide ((b : Int) < (a : Int)))) := rfl
 rw [e, <- hc]
 simp only [Int.ofNat_lt]
theorem xx6 {c : Bool} (hc : decide (b ≤ a) = c) : aBin P .geq T xo yo (uv a) (uv b) h = some (.bool c) := by
 have e : aBin P .geq T xo yo (uv a) (uv b) h = some (.bool (decide ((b : Int) ≤ (a : Int)))) := rfl
 rw [e, <- hc]
 simp only [Int.ofNat_le]
theorem rem_u : aBin P .rem T xo yo (uv a) (uv (b + 1)) h = some (uv (a % (b + 1))) := by
 have e : aBin P .rem T xo yo (uv a) (uv (b + 1)) h = some (.int .u64 (Int.tmod (a : Int) ((b + 1 : Nat) : Int))) := rfl
 rw [e, Int.tmod_eq_emod_of_nonneg (by omega), <- Int.natCast_emod]
theorem wrapI {x : Nat} (hx : x < 1000000000) : IntKind.i64.wrap (x : Int) = (x : Int) := by
 rw [IntKind.wrap_i64]; omega
theorem qk0 (ha : a < 1000000000) : aBin P .quo T xo yo (nv (a : Int)) (nv ((b + 1 : Nat) : Int)) h = some (nv ((a / (b + 1) : Nat) : Int)) := by
 have e : aBin P .quo T xo yo (nv (a : Int)) (nv ((b + 1 : Nat) : Int)) h = some (.int .i64 (IntKind.i64.wrap (Int.tdiv (a : Int) ((b + 1 : Nat) : Int)))) := rfl
 rw [e, Int.tdiv_eq_ediv_of_nonneg (by omega), <- Int.natCast_ediv, wrapI (Nat.lt_of_le_of_lt (Nat.div_le_self _ _) ha)]; rfl
theorem qj9 : aBin P .rem T xo yo (nv (a : Int)) (nv ((b + 1 : Nat) : Int)) h = some (nv ((a % (b + 1) : Nat) : Int)) := by
 have e : aBin P .rem T xo yo (nv (a : Int)) (nv ((b + 1 : Nat) : Int)) h = some (nv (Int.tmod (a : Int) ((b + 1 : Nat) : Int))) := rfl
 rw [e, Int.tmod_eq_emod_of_nonneg (by omega), <- Int.natCast_emod]
theorem uq9 (hx : a * b < 1000000000) : aBin P .mul T xo yo (nv (a : Int)) (nv (b : Int)) h = some (nv ((a * b : Nat) : Int)) := by
 have e : aBin P .mul T xo yo (nv (a : Int)) (nv (b : Int)) h = some (.int .i64 (IntKind.i64.wrap ((a : Int) * (b : Int)))) := rfl
 rw [e, <- Int.natCast_mul, wrapI hx]; rfl
theorem qk3 (hx : a + b < 1000000000) : aBin P .add T xo yo (nv (a : Int)) (nv (b : Int)) h = some (nv ((a + b : Nat) : Int)) := by
 have e : aBin P .add T xo yo (nv (a : Int)) (nv (b : Int)) h = some (.int .i64 (IntKind.i64.wrap ((a : Int) + (b : Int)))) := rfl
 rw [e, <- Int.natCast_add, wrapI hx]; rfl
theorem qj2 (hb : b ≤ a) (hx : a < 1000000000) : aBin P .sub T xo yo (nv (a : Int)) (nv (b : Int)) h = some (nv ((a - b : Nat) : Int)) := by
 have e : aBin P .sub T xo yo (nv (a : Int)) (nv (b : Int)) h = some (.int .i64 (IntKind.i64.wrap ((a : Int) - (b : Int)))) := rfl
 rw [e, <- Int.natCast_sub hb, wrapI (by omega)]; rfl
end
end
end Go.Arm
namespace Go.Nu
def bl (v : Nat) : Nat := if v = 0 then 0 else Nat.log2 v + 1
def lenW (w : Nat -> Nat) : Nat -> Nat
 | 0 => 0
 | i + 1 => if w i ≠ 0 then 64 * i + bl (w i) else lenW w i
def lenN (x : Nat) : Nat := lenW (word x) 36
def negN (x : Nat) : Nat := (MM - x) % MM
def neg? (x : Nat) : Bool := decide (2 ^ 2303 ≤ x)
def absN (x : Nat) : Nat := match neg? x with | true => negN x | false => x
structure Sa where
 s : Nat
 na : Bool
 pl : Bool
 mi : Bool
 ze : Nat
def Sa.z : Sa := ⟨0, false, false, false, 0⟩
def Sa.add (a b : Sa) : Sa := ⟨(a.s + b.s) % MM, a.na || b.na, a.pl || b.pl, a.mi || b.mi, max a.ze b.ze⟩
def inf : Nat := 9218868437227405312
def sgn : Nat := 9223372036854775808
def nanB (b : Nat) : Bool := decide (inf < b % sgn)
def oneX (b : Nat) : Nat := if b / 2 ^ 52 % 2048 = 0 then b % 2 ^ 52 * 2 ^ 0 else (b % 2 ^ 52 + 2 ^ 52) * 2 ^ (b / 2 ^ 52 % 2048 - 1)
def oneB (b : Nat) : Sa :=
 if nanB b = true then ⟨0, true, false, false, 2⟩
 else if b % sgn = inf then ⟨0, false, decide (b < sgn), decide (sgn ≤ b), 2⟩
 else if b = sgn then ⟨0, false, false, false, 1⟩
 else ⟨if sgn ≤ b then negN (oneX b) else oneX b, false, false, false, 2⟩
def hiM (w : Nat -> Nat) (k : Nat) : Nat := if k = 0 then w 0 else if 0 < k % 64 /\ k / 64 + 1 < 36 then w (k / 64) / 2 ^ (k % 64) ||| (w (k / 64 + 1) * 2 ^ (64 - k % 64) % BB) else w (k / 64) / 2 ^ (k % 64)
def leftW (w : Nat -> Nat) (k i : Nat) : Nat := if i = k / 64 then w i &&& (2 ^ (k % 64) - 1) else if k / 64 < i then 0 else w i
def cmpW (x y : Nat -> Nat) : Nat -> Int
 | 0 => 0
 | i + 1 => if x i < y i then -1 else if y i < x i then 1 else cmpW x y i
def hiC (w : Nat -> Nat) (k : Nat) : Int := if k = 0 then -1 else cmpW (leftW w k) (word (1 * 2 ^ (k - 1))) 36
def upB (m : Nat) (c : Int) : Bool := decide (0 < c) || (decide (c = 0) && decide (m % 2 = 1))
def rndN (x : Nat) : Nat :=
 let k := lenN x - 53
 if 2045 < k then inf else
  let m := hiM (word x) k
  min inf ((k * 2 ^ 52 % BB + (match upB m (hiC (word x) k) with | true => (m + 1) % BB | false => m)) % BB)
def valF (s ze : Nat) : Nat := if ze = 1 then sgn else match neg? s with
 | true => sgn ||| rndN (absN s)
 | false => rndN s
theorem uw5 {s ze : Nat} (h : decide (ze = 1) = true) : valF s ze = sgn := if_pos (of_decide_eq_true h)
theorem jv9 {s ze : Nat} (h : decide (ze = 1) = false) (h2 : neg? s = true) : valF s ze = sgn ||| rndN (absN s) := by
 unfold valF
 rw [if_neg (of_decide_eq_false h), h2]
theorem jv8 {s ze : Nat} (h : decide (ze = 1) = false) (h2 : neg? s = false) : valF s ze = rndN s := by
 unfold valF
 rw [if_neg (of_decide_eq_false h), h2]
def Sa.val (a : Sa) : Nat :=
 match a.na || (a.pl && a.mi) with
 | true => 9221120237041090560
 | false => match a.pl with
  | true => inf
  | false => match a.mi with
   | true => 18442240474082181120
   | false => valF a.s a.ze
theorem jv7 {s ze : Nat} : Sa.val ⟨s, false, false, false, ze⟩ = valF s ze := rfl
def b2n (b : Bool) (n : Nat) : Nat := match b with | true => n | false => 0
def Sa.fl (a : Sa) : Nat := b2n a.na 1 + b2n a.pl 2 + b2n a.mi 4 + 8 * a.ze
def encB (x n : Nat) : List UInt8 := (List.range n).reverse.map fun k => UInt8.ofNat (byt x k)
def Sa.nb (a : Sa) : Nat := (lenN (absN a.s) + 7) / 8
def Sa.enc (a : Sa) : List UInt8 := UInt8.ofNat a.fl :: UInt8.ofNat (b2n (neg? a.s) 1) :: encB (absN a.s) a.nb
end Go.Nu
namespace Go.Arm
noncomputable section
open Go Go.X Go.Nu
def wl (w : Nat -> Nat) : List Value := (List.range 36).map fun i => uv (w i)
theorem u5 (w : Nat -> Nat) : (wl w).length = 36 := by unfold wl; rw [List.length_map, List.length_range]
theorem E2 {w : Nat -> Nat} {i : Nat} (hi : i < 36) : (wl w)[i]? = some (uv (w i)) := by
 unfold wl
 rw [List.getElem?_map, List.getElem?_range hi]; rfl
theorem E1 {w w' : Nat -> Nat} (h : ∀ i, i < 36 -> w i = w' i) : wl w = wl w' := by
 unfold wl
 exact List.map_congr_left fun i hi => by rw [h i (List.mem_range.1 hi)]
theorem qk4 {w : Nat -> Nat} {i v : Nat} (hi : i < 36) : (wl w).set i (uv v) = wl (fun j => if j = i then v else w j) := by
 apply List.ext_getElem?
 intro j
 rw [List.getElem?_set, u5]
 by_cases e : i = j
 . subst e
   rw [if_pos rfl, if_pos hi, E2 hi, if_pos rfl]
 . rw [if_neg e]
   by_cases hj : j < 36
   . rw [E2 hj, E2 hj, if_neg (fun x => e x.symm)]
   . rw [List.getElem?_eq_none (by rw [u5]; omega), List.getElem?_eq_none (by rw [u5]; omega)]
theorem K7 {w : Nat -> Nat} : ∀ v, v ∈ wl w -> v.oneCell' = true := fun v hv => by
 unfold wl at hv
 obtain ⟨i, _, rfl⟩ := List.mem_map.1 hv
 rfl
def _root_.Go.Nu.Sa.cells (a : Sa) : List Value := wl (word a.s) ++ [.bool a.na, .bool a.pl, .bool a.mi, nv (a.ze : Int)]
def accL (a : Sa) : List Value := .bool true :: a.cells
variable {a : Sa}
theorem j6 : a.cells.length = 40 := by unfold Sa.cells; rw [List.length_append, u5]; rfl
theorem Z1 : (accL a).length = 41 := by unfold accL; rw [List.length_cons, j6]
theorem J2 : ∀ v, v ∈ a.cells -> v.oneCell' = true := fun v hv => by
 unfold Sa.cells at hv
 rcases List.mem_append.1 hv with h | h
 . exact K7 v h
 . simp only [List.mem_cons, List.not_mem_nil, or_false] at h
   rcases h with rfl | rfl | rfl | rfl <;> rfl
theorem Q6 {k : Nat} : a.cells[36 + k]? = [.bool a.na, .bool a.pl, .bool a.mi, nv (a.ze : Int)][k]? := by
 unfold Sa.cells
 rw [List.getElem?_append_right (by rw [u5]; omega), u5]
 congr 1; omega
theorem U3 : (accL a)[37]? = some (.bool a.na) := Q6 (k := 0)
theorem U2 : (accL a)[38]? = some (.bool a.pl) := Q6 (k := 1)
theorem U6 : (accL a)[39]? = some (.bool a.mi) := Q6 (k := 2)
theorem J9 : (accL a)[40]? = some (nv (a.ze : Int)) := Q6 (k := 3)
theorem qy5 : (a.cells.drop 0).take 36 = wl (word a.s) := by
 unfold Sa.cells
 rw [List.drop_zero, List.take_append_of_le_length (by rw [u5]; decide), List.take_of_length_le (by rw [u5]; decide)]
theorem E6 : ((accL a).drop 1).take 36 = wl (word a.s) := by
 show (a.cells).take 36 = _
 exact qy5
theorem xj3 : ((accL a).drop 1).take 40 = a.cells := by
 show (a.cells).take 40 = _
 exact List.take_of_length_le (by rw [j6]; decide)
theorem qz7 {a' : Sa} : (accL a).take 1 ++ a'.cells ++ (accL a).drop (1 + a'.cells.length) = accL a' := by
 rw [j6, List.drop_of_length_le (by rw [Z1]; decide), List.append_nil]
 rfl
end
end Go.Arm
namespace Go.Arm
noncomputable section
open Go Go.X Go.Nu
def arrT (P : Program) (T : TypeId) : Bool := match P.underlying T with
 | some (.array l el) => Nat.beq l 36 && (szOf P el == some 1)
 | _ => false
section
variable {P : Program} {T : TypeId} {b o i : Nat}
theorem ixA (hT : arrT P T = true) (hi : i < 36) : aIndex P T (.pointer (some ⟨b, o, none⟩)) (nv (i : Int)) = some (.pointer (some ⟨b, o + i, none⟩)) := by
 unfold arrT at hT
 split at hT
 . rename_i l el hu
   rw [Bool.and_eq_true] at hT
   have hl := Nat.eq_of_beq_eq_true hT.1
   subst hl
   have hz : szOf P el = some 1 := eq_of_beq hT.2
   unfold aIndex nv
   simp only [hu, hz]
   rw [if_pos ⟨by omega, by omega⟩, Int.toNat_natCast, Nat.mul_one]
 . cases hT
theorem ixA0 (hT : arrT P T = true) (hi : i < 36) : aIndex P T (.pointer (some ⟨b, 0, none⟩)) (nv (i : Int)) = some (.pointer (some ⟨b, i, none⟩)) := by
 rw [ixA hT hi, Nat.zero_add]
end
section
variable {X Y i : Nat}
theorem uk1 : wl (word X) = wl (fun j => if j < 0 then word (X + Y) j else word X j) := E1 fun j _ => by rw [if_neg (Nat.not_lt_zero j)]
theorem uk0 : wl (fun j => if j = i then (word X i + word Y i + cy X Y i) % BB else if j < i then word (X + Y) j else word X j) = wl (fun j => if j < i + 1 then word (X + Y) j else word X j) := E1 fun j _ => by
 by_cases e : j = i
 . subst e; rw [if_pos rfl, if_pos (Nat.lt_succ_self _), uv9]
 . rw [if_neg e]
   by_cases h : j < i
   . rw [if_pos h, if_pos (by omega)]
   . rw [if_neg h, if_neg (by omega)]
theorem Qu5 : wl (fun j => if j < 36 then word (X + Y) j else word X j) = wl (word ((X + Y) % MM)) := E1 fun j hj => by rw [if_pos hj, jv3 _ hj]
theorem uq6 : wl (word X) = wl (fun j => if j < 0 then word (MM - 1 - X) j else word X j) := E1 fun j _ => by rw [if_neg (Nat.not_lt_zero j)]
theorem uq5 (hX : X < MM) (hi : i < 36) : wl (fun j => if j = i then BB - 1 - word X i else if j < i then word (MM - 1 - X) j else word X j) = wl (fun j => if j < i + 1 then word (MM - 1 - X) j else word X j) := E1 fun j _ => by
 by_cases e : j = i
 . subst e; rw [if_pos rfl, if_pos (Nat.lt_succ_self _), uq4 hX hi]
 . rw [if_neg e]
   by_cases h : j < i
   . rw [if_pos h, if_pos (by omega)]
   . rw [if_neg h, if_neg (by omega)]
theorem Qy1 : wl (fun j => if j < 36 then word (MM - 1 - X) j else word X j) = wl (word (MM - 1 - X)) := E1 fun j hj => by rw [if_pos hj]
theorem neg_is (hX : X < MM) : (MM - 1 - X + 1) % MM = negN X := by
 unfold negN
 congr 1; omega
theorem one_wl : wl (word 1) = .int .u64 1 :: List.replicate 35 (.int .u64 0) := by
 have e : wl (word 1) = wl (fun i => match i with | 0 => 1 | _ + 1 => 0) := E1 fun i _ => by
  cases i with
  | zero => rfl
  | succ i => exact qu9 (Nat.one_lt_pow (by omega) (by decide))
 rw [e]; rfl
end
section
theorem uv0 {X : Nat} (hX : X < MM) : decide (word X 35 / 2 ^ 63 = 1) = neg? X := by
 unfold neg?
 by_cases h : word X 35 / 2 ^ 63 = 1
 . rw [decide_eq_true h, decide_eq_true ((xk7 hX).1 h)]
 . rw [decide_eq_false h, decide_eq_false (fun x => h ((xk7 hX).2 x))]
theorem absN_t {X : Nat} (h : neg? X = true) : absN X = negN X := by unfold absN; rw [h]
theorem uk4 {X : Nat} (h : neg? X = false) : absN X = X := by unfold absN; rw [h]
theorem E5 {v k : Nat} (h : v < 2 ^ k) : bl v ≤ k := by
 unfold bl
 split
 . exact Nat.zero_le _
 . rename_i h0
   exact (Nat.log2_lt h0).2 h
theorem lt_bl (v : Nat) : v < 2 ^ bl v := by
 unfold bl
 split
 . rename_i h0; subst h0; decide
 . exact Nat.lt_log2_self
theorem uu8 {v s : Nat} (h : 2 ^ s ≤ v) : bl v = s + bl (v / 2 ^ s) := by
 have h1 : 0 < v / 2 ^ s := Nat.div_pos h (p0 _)
 have h2 : 0 < v := Nat.lt_of_lt_of_le (p0 s) h
 unfold bl
 rw [if_neg (by omega), if_neg (by omega)]
 have h3 : Nat.log2 v = s + Nat.log2 (v / 2 ^ s) := by
  refine (Nat.log2_eq_iff (by omega)).2 ⟨?_, ?_⟩
  . have := (Nat.log2_eq_iff (show v / 2 ^ s ≠ 0 by omega)).1 rfl
    rw [Nat.pow_add, Nat.mul_comm]
    exact (Nat.le_div_iff_mul_le (p0 s)).1 this.1
  . have := (Nat.log2_eq_iff (show v / 2 ^ s ≠ 0 by omega)).1 rfl
    rw [Nat.add_assoc, Nat.pow_add, Nat.mul_comm]
    exact (Nat.div_lt_iff_lt_mul (p0 s)).1 this.2
 omega
theorem yy7 {v : Nat} (h : 4294967296 ≤ v) : bl v = 32 + bl (v / 4294967296) := uu8 (s := 32) h
theorem yy8 {v : Nat} (h : 65536 ≤ v) : bl v = 16 + bl (v / 65536) := uu8 (s := 16) h
theorem xg1 {v : Nat} (h : 256 ≤ v) : bl v = 8 + bl (v / 256) := uu8 (s := 8) h
def tab8 : List UInt8 := (List.range 256).map fun v => UInt8.ofNat (bl v)
theorem qu1 {P : Program} {n : Nat} {f : Fr} {h : AH} {o : Oper} {T : TypeId} {x i : Operand} {a b v : Value} (hop : o.op = .index T x i) (hx : ev n f x = some a) (hy : ev n f i = some b) (hv : aIndexV P T a b = some v) : evVal P n f h o.op = some v := by
 rw [hop]
 simp only [evVal, hx, hy]
 exact hv
theorem qz2 {P : Program} {T : TypeId} {v : Nat} (hT : P.underlying T = some .string) (hv : v < 256) : aIndexV P T (.string ⟨⟨tab8⟩⟩) (.int .u8 (v : Int)) = some (.int .u8 (bl v : Int)) := by
 unfold aIndexV
 simp only [hT]
 rw [if_pos (by omega), Int.toNat_natCast]
 have e : tab8[v]? = some (UInt8.ofNat (bl v)) := by
  unfold tab8
  rw [List.getElem?_map, List.getElem?_range hv]; rfl
 have hb : bl v ≤ 8 := E5 hv
 rw [e]
 have e2 : (UInt8.ofNat (bl v)).toNat = bl v := UInt8.toNat_ofNat_of_lt (by show _ < 256; omega)
 show some (Value.int .u8 ((UInt8.ofNat (bl v)).toNat : Int)) = _
 rw [e2]
theorem gtI (n : Nat) : Value.bool (decide ((n : Int) > (0 : Int))) = Value.bool (decide (0 < n)) := by
 congr 1; rw [decide_eq_decide]; omega
theorem decI {j : Nat} (hj : j < 1000000000) : Value.int .i64 (IntKind.i64.wrap ((j : Int) - 1)) = .int .i64 ((j : Int) - 1) := by
 rw [IntKind.wrap_i64]; congr 1; omega
theorem lenW_t {w : Nat -> Nat} {j : Nat} (h : (!decide (w j = 0)) = true) : lenW w (j + 1) = 64 * j + bl (w j) := by
 unfold lenW
 rw [if_pos (by simpa using h)]
theorem lenW_f {w : Nat -> Nat} {j : Nat} (h : (!decide (w j = 0)) = false) : lenW w (j + 1) = lenW w j := by
 rw [lenW, if_neg (by simpa using h)]
theorem shl_c1 {m k : Nat} (hm : m < BB) : wl (fun j => if j = k / 64 + 1 then m / 2 ^ (64 - k % 64) else if j = k / 64 then m * 2 ^ (k % 64) % BB else 0) = wl (word (m * 2 ^ k)) := E1 fun j _ => by
 rw [yu3 j hm]
 by_cases h1 : j = k / 64
 . rw [if_neg (by omega), if_pos h1, if_pos h1]
 . by_cases h2 : j = k / 64 + 1
   . rw [if_pos h2, if_neg h1, if_pos h2]
   . rw [if_neg h2, if_neg h1, if_neg h1, if_neg h2]
theorem shl_c2 {m k : Nat} (hm : m < BB) (h0 : k % 64 = 0) : wl (fun j => if j = k / 64 then m * 2 ^ (k % 64) % BB else 0) = wl (word (m * 2 ^ k)) := E1 fun j _ => by
 rw [yu3 j hm]
 by_cases h1 : j = k / 64
 . rw [if_pos h1, if_pos h1]
 . rw [if_neg h1, if_neg h1]
   by_cases h2 : j = k / 64 + 1
   . rw [if_pos h2, h0, Nat.sub_zero, <- bb, Nat.div_eq_of_lt hm]
   . rw [if_neg h2]
end
theorem qj5 {P : Program} {h : AH} {n : Nat} {ops : Array Oper} {f : Fr} {i : Nat} {r : List Nat} {o : Oper} (ho : ops[i]? = some o) (hw : wantF n ops o f = false) (k : Rk P n ops f h r) : Rk P n ops f h (i :: r) :=
 Rk_no ho (fun t ht => by rw [E3, ht]; exact hw) k
section
variable {P : Program} [Kn P] {n : Nat} {h : AH} {Q : Post} {f : Fr} {ops : Array Oper} {rest : List Oper} {o : Oper}
omit [Kn P] in
theorem inv_x {g : FuncId} {args : List Value} {v : Value} (hv : aCallF P g args h = none /\ aExt P g args h = some [(.val v, h)]) : aInvoke P (.func g) [] ([] ++ args) h = some [(.val v, h)] := by
 show aCallX P g (([] ++ args) ++ []) h = _
 rw [List.append_nil, List.nil_append]
 unfold aCallX
 rw [hv.1]
 dsimp only
 rw [hv.2]
theorem L_cx {g : FuncId} {xs : List Operand} {Ts : Array TypeId} {args : List Value} (v : Value) (ho : o.op = .call ⟨.value (.func g), ⟨xs⟩, Ts⟩) (hs : okO n o = true) (ha : evs n f xs = some args) (hv : aCallF P g args h = none /\ aExt P g args h = some [(.val v, h)])
  (k : L P n ops Q rest (updO f o.dst v) h) : L P n ops Q (o :: rest) f h := by
 refine yq1 (Z6 hs).1 (Z6 hs).2 (fun t ht => ?_) k
 unfold aOp
 rw [ho]
 show aCallO P n t h _ = _
 rw [qv9, ht]
 show (match some (Value.func (.func g) #[] #[]), evs n f xs with
  | some (.func fn ⟨first⟩ ⟨cap⟩), some vs => aInvoke P fn cap (first ++ vs) h
  | _, _ => none) = _
 rw [ha]
 exact inv_x hv
omit [Kn P] in
theorem add64 {fn : Func} {g : FuncId} {a b c : Nat} (hf : P.funcs[g]? = some fn) (hb : fn.body.isNone = true) (hn : (fn.name == "math/bits.Add64" && fn.origin == "") = true) (hc : c ≤ 1) :
   aCallF P g [uv a, uv b, uv c] h = none /\ aExt P g [uv a, uv b, uv c] h = some [(.val (.tuple #[uv ((a + b + c) % BB), uv ((a + b + c) / BB)]), h)] := by
 rw [Option.isNone_iff_eq_none] at hb
 rw [Bool.and_eq_true] at hn
 refine ⟨?_, ?_⟩
 . unfold aCallF
   simp only [hf, hb]
 . unfold aExt
   simp only [hf, hb]
   show (match Nat.ble c 1 && fn.origin == "" with
    | true => _
    | false => none) = _
   rw [hn.2, Bool.and_true, Nat.ble_eq_true_of_le hc]
   dsimp only
   rw [hn.1]
   rfl
end
end
end Go.Arm
namespace Go.Proofs.YtjealfplbigphaaGreat
noncomputable section
open Go Go.X Go.Arm Go.Mt Go.Nu
theorem xv9 {h : AH} {X Y : Nat} : Arm.Calls Tryz.prog 45 [.agg ⟨wl (word X)⟩, .agg ⟨wl (word Y)⟩] h (fun r => r.1 = .agg ⟨wl (word ((X + Y) % MM))⟩ /\ Sm Nix h r.2) := by
 refine Q5 (n := 25) (fn := Tryz.f45) kr rfl rfl (Nat.le_of_ble_eq_true rfl) trivial ⟨.inl (fun e => by cases e), rfl⟩ ?_
 have T0 : Sm Nix h h := .refl
 refine q7 (q6 (Q1 (wl (word X)) .ptr rfl rfl kr fun h1 c1 t1 n1 => ?_))
 have T1 := T0.ext t1
 have N1 := T1.nx
 refine Q1 (wl (word Y)) .ptr rfl rfl kr fun h2 c2 t2 n2 => ?_
 replace c1 := c1.ext t2
 have T2 := T1.ext t2
 have N2 := T2.nx
 refine Q1 (wl (fun _ => 0)) .ptr rfl rfl kr fun h3 c3 t3 n3 => ?_
 replace c1 := c1.ext t3
 replace c2 := c2.ext t3
 have T3 := T2.ext t3
 have N3 := T3.nx
 refine q5 (z1 1 kr (q5 (q7 (z1 1 kr (q5 (u3 ?_))))))
 refine J5 (fun mm fr hh => ∃ (i : Nat), (i ≤ 36) /\ mm = 36 - i /\ fr 2 = ptr (h.next) /\ fr 3 = ptr (h1.next) /\ fr 4 = ptr (h2.next) /\ fr 5 = uv (cy X Y i) /\ fr 7 = nv (i : Int) /\ Sm Nix h hh /\ Cl hh (h.next) (wl fun j => if j < i then word (X + Y) j else word X j) /\ Cl hh (h1.next) (wl (word Y)) /\ Cl hh (h2.next) (wl (fun _ => 0))) (36) ?_ ?_
 ·
  rw [uk1 (Y := Y)] at c1
  exact ⟨0, (by decide), rfl, kr, kr, kr, by rw [cy_0]; kernel_rfl, kr, T3, c1, c2, c3⟩
 rintro mm4 fr4 h4 ⟨i, hi, hm4, y4_2, y4_3, y4_4, y4_5, y4_7, T4, c1, c2, c3⟩
 have N4 := T4.nx
 have B4_t2 := c1.lt
 have B4_t3 := c2.lt
 have B4_t4 := c3.lt
 refine j8 (k := 2) y4_2 (j8 (k := 3) y4_3 (j8 (k := 4) y4_4 (j8 (k := 5) y4_5 (j8 (k := 7) y4_7 (q7 (q6 (L_i ((i : Int)) (36) (.bool (decide ((i : Int) < 36))) rfl rfl kr kr rfl (rfl) (q5 (q7 ?_)))))))))
 refine Q0 (decide ((i : Int) < (36 : Int))) kr (fun hb => ?_) (fun hb => ?_)
 ·
  have hlt : i < 36 := by simp at hb; omega
  refine z6 (q7 (u3 (z1 2 kr (q5 (u4 kr (D_e (e := 8) (l := [0,1,2,3,4,5,6,7]) (s' := [0]) kr kr rfl kr z4 (z2 2 kr (U0 _ rfl rfl kr kr kr kr (ixA0 (b := h.next) (i := i) kr (hlt)) (q9 _ rfl rfl kr kr kr (c1.ld (o := i) kr ((E2 hlt).trans (by rw [if_neg (Nat.lt_irrefl i)]))) ?_)))))))))
  refine z2 1 kr (U0 _ rfl rfl kr kr kr kr (ixA0 (b := h1.next) (i := i) kr (hlt)) (q9 _ rfl rfl kr kr kr (c2.ld (o := i) kr (E2 hlt)) (z2 1 kr (z5 (L_cx (.tuple #[uv ((word X i + word Y i + cy X Y i) % BB), uv ((word X i + word Y i + cy X Y i) / BB)]) rfl kr kr (add64 (fn := Tryz.f78) kr kr kr (cy_le X Y i)) ?_)))))
  refine q5 ⟨rfl, ?_⟩
  refine D_e (e := 13) (l := [9,10,11,12]) (s' := [11]) kr kr rfl kr (E0 kr) (z2 3 kr (U0 _ rfl rfl kr kr kr kr (ixA0 (b := h.next) (i := i) kr (hlt)) (z5 ?_)))
  obtain ⟨h5, e5, d5, t5, n5⟩ := c1.store (P := Tryz.prog) (T := 24) (o := i) (v := uv ((word X i + word Y i + cy X Y i) % BB)) kr rfl rfl (by rw [u5]; exact hlt)
  rw [qk4 hlt, uk0] at d5
  replace c2 := c2.sn t5
  replace c3 := c3.sn t5
  replace c1 := d5
  have T5 := T4.tr t5
  have N5 := T5.nx
  refine Q3 _ rfl rfl rfl kr kr (e5) ?_
  refine q5 ⟨rfl, ?_⟩
  refine D_l (l := [14]) kr kr (E0 kr) (z2 1 kr (z5 (q6 (L_i ((i : Int)) (1) (nv ((i + 1 : Nat) : Int)) rfl rfl kr kr rfl (Z4 (by omega)) (L_g 1 kr (q5 ?_))))))
  exact ⟨36 - (i + 1), by omega, i + 1, (by omega), rfl, kr, kr, kr, by rw [Qj7]; kernel_rfl, kr, T5, c1, c2, c3⟩
 ·
  have hge : i = 36 := by simp at hb; omega
  subst hge
  rw [Qu5] at c1
  refine J8 ?_
  refine rx ?_
  refine Q7 (q7 (q6 (z9 _ rfl rfl kr (Cl.allN (n := 36) c1 (u5 _) kr) ?_)))
  obtain ⟨h6, e6, d6, t6, n6⟩ := Cl.storeN (P := Tryz.prog) (T := 79) (n := 36) (v := .agg ⟨(wl (word ((X + Y) % MM)))⟩) (cs := (wl (word ((X + Y) % MM)))) c3 (u5 _) kr rfl (u5 _) K7
  replace c3 := d6
  have T6 := T4.tr t6
  have N6 := T6.nx
  refine Q3 _ rfl rfl rfl kr kr (e6) (q5 (j7 ?_))
  refine rr ?_
  refine z0 (.inl rfl) (E4 kr kr (Cl.allN (n := 36) c3 (u5 _) kr)) ?_
  exact ⟨rfl, T6⟩
theorem yz2 {h : AH} {X : Nat} (hX : X < MM) : Arm.Calls Tryz.prog 40 [.agg ⟨wl (word X)⟩] h (fun r => r.1 = .agg ⟨wl (word (negN X))⟩ /\ Sm Nix h r.2) := by
 refine Q5 (n := 17) (fn := Tryz.f40) kr rfl rfl (Nat.le_of_ble_eq_true rfl) trivial ⟨.inl (fun e => by cases e), rfl⟩ ?_
 have T0 : Sm Nix h h := .refl
 refine q7 (q6 (Q1 (wl (word X)) .ptr rfl rfl kr fun h7 c7 t7 n7 => ?_))
 have T7 := T0.ext t7
 have N7 := T7.nx
 refine Q1 (wl (fun _ => 0)) .ptr rfl rfl kr fun h8 c8 t8 n8 => ?_
 replace c7 := c7.ext t8
 have T8 := T7.ext t8
 have N8 := T8.nx
 refine q5 (q7 (z1 1 kr (q5 (u3 ?_))))
 refine J5 (fun mm fr hh => ∃ (i : Nat), (i ≤ 36) /\ mm = 36 - i /\ fr 1 = ptr (h.next) /\ fr 2 = ptr (h7.next) /\ fr 4 = nv (i : Int) /\ Sm Nix h hh /\ Cl hh (h.next) (wl fun j => if j < i then word (MM - 1 - X) j else word X j) /\ Cl hh (h7.next) (wl (fun _ => 0))) (36) ?_ ?_
 ·
  rw [uq6] at c7
  exact ⟨0, (by decide), rfl, kr, kr, kr, T8, c7, c8⟩
 rintro mm9 fr9 h9 ⟨i, hi, hm9, y9_1, y9_2, y9_4, T9, c7, c8⟩
 have N9 := T9.nx
 have B9_t1 := c7.lt
 have B9_t2 := c8.lt
 refine j8 (k := 1) y9_1 (j8 (k := 2) y9_2 (j8 (k := 4) y9_4 (q7 (q6 (L_i ((i : Int)) (36) (.bool (decide ((i : Int) < 36))) rfl rfl kr kr rfl (rfl) (q5 (q7 ?_)))))))
 refine Q0 (decide ((i : Int) < (36 : Int))) kr (fun hb => ?_) (fun hb => ?_)
 ·
  have hlt : i < 36 := by simp at hb; omega
  refine z6 (q7 (u3 (z1 2 kr (q5 (Z3 2 kr (Z8 _ rfl rfl kr kr (ixA0 (b := h.next) (i := i) kr (hlt)) (z9 _ rfl rfl kr (c7.ld (o := i) kr ((E2 hlt).trans (by rw [if_neg (Nat.lt_irrefl i)]))) (L_p (uv (BB - 1 - word X i)) rfl (ev_un (o := _) rfl kr (not_u (qz1 X i))) ?_))))))))
  refine Z8 _ rfl rfl kr kr (ixA0 (b := h.next) (i := i) kr (hlt)) ?_
  obtain ⟨h10, e10, d10, t10, n10⟩ := c7.store (P := Tryz.prog) (T := 24) (o := i) (v := uv (BB - 1 - word X i)) kr rfl rfl (by rw [u5]; exact hlt)
  rw [qk4 hlt, uq5 hX hlt] at d10
  replace c8 := c8.sn t10
  replace c7 := d10
  have T10 := T9.tr t10
  have N10 := T10.nx
  refine Q3 _ rfl rfl rfl kr kr (e10) (q5 (q6 (L_i ((i : Int)) (1) (nv ((i + 1 : Nat) : Int)) rfl rfl kr kr rfl (Z4 (by omega)) (L_g 1 kr (q5 ?_)))))
  exact ⟨36 - (i + 1), by omega, i + 1, (by omega), rfl, kr, kr, kr, T10, c7, c8⟩
 ·
  have hge : i = 36 := by simp at hb; omega
  subst hge
  rw [Qy1] at c7
  refine J8 ?_
  refine rx ?_
  refine Q7 (q7 (q6 (z9 _ rfl rfl kr (Cl.allN (n := 36) c7 (u5 _) kr) (L_p (.agg ⟨wl (word 1)⟩) rfl (by rw [one_wl]; kernel_rfl) (L_c rfl rfl kr (xv9 (X := MM - 1 - X) (Y := 1)) ?_)))))
  rintro v11 h11 ⟨e11, t11⟩
  try dsimp only at e11 t11
  subst e11
  rw [neg_is hX]
  replace c8 := c8.ext t11
  have T11 := T9.ext t11
  have N11 := T11.nx
  have M11 := t11.nx
  obtain ⟨h12, e12, d12, t12, n12⟩ := Cl.storeN (P := Tryz.prog) (T := 79) (n := 36) (v := .agg ⟨(wl (word (negN X)))⟩) (cs := (wl (word (negN X)))) c8 (u5 _) kr rfl (u5 _) K7
  replace c8 := d12
  have T12 := T11.tr t12
  have N12 := T12.nx
  refine Q3 _ rfl rfl rfl kr kr (e12) (q5 (j7 ?_))
  refine rr ?_
  refine z0 (.inl rfl) (E4 kr kr (Cl.allN (n := 36) c8 (u5 _) kr)) ?_
  exact ⟨rfl, T12⟩
end
end Go.Proofs.YtjealfplbigphaaGreat
