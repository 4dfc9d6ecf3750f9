/- What the functions on flows do. -/
import Derived.Test.YtdaedcoolcicoaaGreatZk
import Derived.Test.YtdaedcoolcicoaaGreatZi
import Derived.Test.YtdaedcoolcicoaaGreatZj
namespace Go.Proofs.YtdaedcoolcicoaaGreat
noncomputable section
open Go Go.X Go.Arm
def wk (w : Int × Int) : Value := .agg ⟨[.int .i64 w.1, .int .i64 w.2]⟩
theorem pr_un {t : TypeId} {d : TypeDesc} {P : Program} (h : P.underlying t = some d) : pureRun P (underlying t) = some d := by
  simp only [underlying]; exact pureRun_and (e := Sem.program .pure) (a := P) rfl (by simp only [h]; rfl)
theorem eqIn_int {P : Program} (d : Nat) (t : TypeId) (k k' : IntKind) (a b : Int) (h : P.underlying t = some (.int k')) : pureRun P (Op.equalIn (d + 1) t (.int k a) (.int k b)) = some (a == b) := by
  rw [Op.equalIn]
  refine pureRun_and (pr_un h) ?_
  simp only [if_true]; rfl
noncomputable def fld (T i : Nat) : Field := match Tryz.prog.underlying T with | some (.struct fs) => (fs.toList[i]?).getD default | _ => default
theorem eq_way (a c : Int × Int) : pureRun Tryz.prog (Op.equal 163 (wk a) (wk c)) = some (decide (a = c)) := by
  have hu : ∃ f1 f2 : Field, Tryz.prog.underlying 163 = some (.struct ⟨[f1, f2]⟩) ∧ f1.name ≠ "_" ∧ f2.name ≠ "_" ∧ f1.type = 3 ∧ f2.type = 3 ∧ f1.offset = 0 ∧ f2.offset = 1 := ⟨fld 163 0, fld 163 1, by kernel_rfl, by decide +kernel, by decide +kernel, by kernel_rfl, by kernel_rfl, by kernel_rfl, by kernel_rfl⟩
  obtain ⟨f1, f2, hu, n1, n2, t1, t2, o1, o2⟩ := hu
  have hi : Tryz.prog.underlying 3 = some (.int .i64) := by kernel_rfl
  unfold Op.equal
  show pureRun _ (Op.equalIn (9999 + 1) _ _ _) = _
  unfold wk
  rw [Op.equalIn]
  refine pureRun_and (pr_un hu) ?_
  dsimp only
  refine pureRun_and (e := program) (a := Tryz.prog) rfl ?_
  rw [if_neg (by decide +kernel)]
  rw [← Array.forIn_toList]
  simp only [List.forIn_cons, List.forIn_nil, n1, n2, t1, t2, o1, o2, if_true, ne_eq, not_false_eq_true]
  have p0 : ∀ v w : Value, pureRun Tryz.prog (part 3 ⟨[v, w]⟩ 0) = some v := fun v w => by kernel_rfl
  have p1 : ∀ v w : Value, pureRun Tryz.prog (part 3 ⟨[v, w]⟩ 1) = some w := fun v w => by kernel_rfl
  have q1 := eqIn_int (P := Tryz.prog) 9998 3 .i64 .i64 a.1 c.1 hi
  have q2 := eqIn_int (P := Tryz.prog) 9998 3 .i64 .i64 a.2 c.2 hi
  by_cases h1 : a.1 = c.1
  · have b1 : (a.1 == c.1) = true := by simpa using h1
    rw [b1] at q1
    by_cases h2 : a.2 = c.2
    · have b2 : (a.2 == c.2) = true := by simpa using h2
      rw [b2] at q2
      have hd : decide (a = c) = true := by simp [Prod.ext_iff, h1, h2]
      rw [hd]
      exact pureRun_and (a := (none, ())) (pureRun_and (a := ForInStep.yield (none, ())) (pureRun_and (p0 _ _) (pureRun_and (p0 _ _) (pureRun_and q1 rfl))) (pureRun_and (a := ForInStep.yield (none, ())) (pureRun_and (p1 _ _) (pureRun_and (p1 _ _) (pureRun_and q2 rfl))) rfl)) rfl
    · have b2 : (a.2 == c.2) = false := by simpa using h2
      rw [b2] at q2
      have hd : decide (a = c) = false := by simp [Prod.ext_iff, h2]
      rw [hd]
      exact pureRun_and (a := (some false, ())) (pureRun_and (a := ForInStep.yield (none, ())) (pureRun_and (p0 _ _) (pureRun_and (p0 _ _) (pureRun_and q1 rfl))) (pureRun_and (a := ForInStep.done (some false, ())) (pureRun_and (p1 _ _) (pureRun_and (p1 _ _) (pureRun_and q2 rfl))) rfl)) rfl
  · have b1 : (a.1 == c.1) = false := by simpa using h1
    rw [b1] at q1
    have hd : decide (a = c) = false := by simp [Prod.ext_iff, h1]
    rw [hd]
    exact pureRun_and (a := (some false, ())) (pureRun_and (a := ForInStep.done (some false, ())) (pureRun_and (p0 _ _) (pureRun_and (p0 _ _) (pureRun_and q1 rfl))) rfl) rfl
theorem kWay : KeyK Tryz.prog 163 wk := by
  refine KeyK.ask (fs := ⟨[fld 163 0, fld 163 1]⟩) (by kernel_rfl) (fun k => rfl) (fun e k => by kernel_rfl) eq_way (fun k => ?_)
  unfold stays
  unfold wk
  rw [Instr.sameBits]
  simp [Instr.sameBits]
theorem kNum : KeyK Tryz.prog 3 (fun k : Int => Value.int .i64 k) := KeyK.int (by kernel_rfl) (fun e k => by kernel_rfl)
def iv (x : Int) : Value := .int .i64 x
def th : Th → Value
  | .num n => .iface 180 (.int .i64 n)
  | .mark => .iface 221 (.agg ⟨[]⟩)
theorem th_one {l : List Th} : ∀ x, x ∈ l.map th → x.oneCell' = true := by
  intro x hx
  obtain ⟨y, _, rfl⟩ := List.mem_map.1 hx
  cases y <;> rfl
theorem iv_one {l : List Int} : ∀ x, x ∈ l.map iv → x.oneCell' = true := by
  intro x hx
  obtain ⟨y, _, rfl⟩ := List.mem_map.1 hx
  rfl
/-- A queue. -/
def Rq (h : AH) (fp : List Nat) (v : Value) (l : List Th) : Prop := ∃ s, v = .agg ⟨[s]⟩ ∧ Gr h 1 s l.length (l.map th) ∧ ∀ b, vb s = some b → b ∉ fp
def Ri (h : AH) (fp : List Nat) (v : Value) (l : List Int) : Prop := ∃ s, v = .agg ⟨[s]⟩ ∧ Gr h 1 s l.length (l.map iv) ∧ ∀ b, vb s = some b → b ∉ fp
def Rn (v : Value) (x : Int) : Prop := v = iv x
def Rb (v : Value) (x : Bool) : Prop := v = .bool x
theorem Rq.sm {h h' : AH} {S : Nat → Prop} {fp : List Nat} {v : Value} {l : List Th} (H : Rq h fp v l) (s : Sm S h h') (hS : ∀ x, S x → x ∈ fp) : Rq h' fp v l := by
  obtain ⟨u, e, h1, h2⟩ := H
  exact ⟨u, e, h1.sm s (fun b hb hx => h2 b hb (hS b hx)), h2⟩
theorem Ri.sm {h h' : AH} {S : Nat → Prop} {fp : List Nat} {v : Value} {l : List Int} (H : Ri h fp v l) (s : Sm S h h') (hS : ∀ x, S x → x ∈ fp) : Ri h' fp v l := by
  obtain ⟨u, e, h1, h2⟩ := H
  exact ⟨u, e, h1.sm s (fun b hb hx => h2 b hb (hS b hx)), h2⟩
structure F0 (h : AH) (f sb wb : Nat) (st sv : Value) (fp : List Nat) (l : List Int) (ws : List ((Int × Int) × List Th)) : Prop where
  cl : Cl h f [st, .map (some wb), sv]
  gr : Gr h 1 st l.length (l.map iv)
  vb : vb st = some sb
  mp : Mp h wb wk (Rq h fp) ws
  f1 : f ∈ fp
  s1 : sb ∈ fp
  w1 : wb ∈ fp
  nd : [f, sb, wb].Nodup
  lt : ∀ x, x ∈ fp → x < h.next
structure S0 (h : AH) (g a c o : Nat) (fp : List Nat) (s : Sh) : Prop where
  cl : Cl h g [.map (some a), .map (some c), .map (some o)]
  ma : Mp h a iv Rn s.st
  mc : Mp h c wk (Ri h fp) s.ct
  mo : Mp h o wk Rb s.op
  g1 : g ∈ fp
  a1 : a ∈ fp
  c1 : c ∈ fp
  o1 : o ∈ fp
/-- How a flow lies in memory. -/
inductive FR (h : AH) (f : Nat) : List Nat → Fl → Prop
  | off {sb wb : Nat} {st : Value} {m : Fl} (hs : m.sh = none) (H : F0 h f sb wb st (.pointer none) [f, sb, wb] m.st m.ws) : FR h f [f, sb, wb] m
  | on {sb wb g a c o : Nat} {st : Value} {m : Fl} {s : Sh} (hs : m.sh = some s) (H : F0 h f sb wb st (.pointer (some ⟨g, 0, none⟩)) [f, sb, wb, g, a, c, o] m.st m.ws) (G : S0 h g a c o [f, sb, wb, g, a, c, o] s) (nd : [f, sb, wb, g, a, c, o].Nodup) : FR h f [f, sb, wb, g, a, c, o] m
section
variable {h h' : AH} {S : Nat → Prop} {f sb wb g a c o : Nat} {st sv : Value} {fp : List Nat} {l : List Int} {ws : List ((Int × Int) × List Th)} {s : Sh}
theorem F0.sm (H : F0 h f sb wb st sv fp l ws) (t : Sm S h h') (h1 : ¬ S f) (h2 : ¬ S sb) (h3 : ¬ S wb) (hS : ∀ x, S x → x ∈ fp) : F0 h' f sb wb st sv fp l ws :=
  ⟨H.cl.sm t h1, H.gr.sm t (fun b hb => by rw [H.vb] at hb; cases hb; exact h2), H.vb, H.mp.sm t h3 (fun _ _ r => r.sm t hS), H.f1, H.s1, H.w1, H.nd, fun x hx => Nat.lt_of_lt_of_le (H.lt x hx) t.nx⟩
theorem F0.ext (H : F0 h f sb wb st sv fp l ws) (t : Sm Nix h h') : F0 h' f sb wb st sv fp l ws := H.sm t (fun x => x) (fun x => x) (fun x => x) (fun _ x => x.elim)
theorem S0.sm (G : S0 h g a c o fp s) (t : Sm S h h') (h1 : ¬ S g) (h2 : ¬ S a) (h3 : ¬ S c) (h4 : ¬ S o) (hS : ∀ x, S x → x ∈ fp) : S0 h' g a c o fp s :=
  ⟨G.cl.sm t h1, G.ma.sm t h2 (fun _ _ r => r), G.mc.sm t h3 (fun _ _ r => r.sm t hS), G.mo.sm t h4 (fun _ _ r => r), G.g1, G.a1, G.c1, G.o1⟩
theorem S0.ext (G : S0 h g a c o fp s) (t : Sm Nix h h') : S0 h' g a c o fp s := G.sm t (fun x => x) (fun x => x) (fun x => x) (fun x => x) (fun _ x => x.elim)
end
theorem u119 : Tryz.prog.underlying 92 = some (.map 163 166) := by kernel_rfl
theorem u134 : Tryz.prog.underlying 167 = some (.map 3 2) := by kernel_rfl
theorem u135 : Tryz.prog.underlying 169 = some (.map 163 175) := by kernel_rfl
theorem u136 : Tryz.prog.underlying 170 = some (.map 163 4) := by kernel_rfl
theorem u64 : Tryz.prog.underlying 64 = some (.slice 2) := by kernel_rfl
theorem u40 : Tryz.prog.underlying 38 = some (.slice 3) := by kernel_rfl
theorem u128 : Tryz.prog.underlying 164 = some (.slice 186) := by kernel_rfl
theorem z130 : zeroOf Tryz.prog 166 = some (.agg ⟨[.slice none 0 0]⟩) := by kernel_rfl
theorem z141 : zeroOf Tryz.prog 175 = some (.agg ⟨[.slice none 0 0]⟩) := by kernel_rfl
theorem z2 : zeroOf Tryz.prog 2 = some (.int .i64 0) := by kernel_rfl
theorem z4 : zeroOf Tryz.prog 4 = some (.bool false) := by kernel_rfl
theorem s2 : szOf Tryz.prog 2 = some 1 := by kernel_rfl
theorem s3 : szOf Tryz.prog 3 = some 1 := by kernel_rfl
theorem s132 : szOf Tryz.prog 186 = some 1 := by kernel_rfl
theorem lookQ {h : AH} {wb : Nat} {fp : List Nat} {ws : List ((Int × Int) × List Th)} (H : Mp h wb wk (Rq h fp) ws) (w : Int × Int) :
    ∃ s, aLookup Tryz.prog 92 (.map (some wb)) (wk w) false h = some (.agg ⟨[s]⟩) ∧ Gr h 1 s ((kget ws w).getD []).length (((kget ws w).getD []).map th) ∧ ∀ b, vb s = some b → b ∉ fp := by
  rcases H.lookup u119 kWay z130 w false with ⟨e, hl⟩ | ⟨v, x, e, ⟨s, hv, g, hb⟩, hl⟩
  · rw [e]; exact ⟨_, hl, Gr.nil, fun b hb => by cases hb⟩
  · rw [e]; subst hv; exact ⟨s, hl, g, hb⟩
theorem lookC {h : AH} {wb : Nat} {fp : List Nat} {ws : List ((Int × Int) × List Int)} (H : Mp h wb wk (Ri h fp) ws) (w : Int × Int) :
    ∃ s, aLookup Tryz.prog 169 (.map (some wb)) (wk w) false h = some (.agg ⟨[s]⟩) ∧ Gr h 1 s ((kget ws w).getD []).length (((kget ws w).getD []).map iv) ∧ ∀ b, vb s = some b → b ∉ fp := by
  rcases H.lookup u135 kWay z141 w false with ⟨e, hl⟩ | ⟨v, x, e, ⟨s, hv, g, hb⟩, hl⟩
  · rw [e]; exact ⟨_, hl, Gr.nil, fun b hb => by cases hb⟩
  · rw [e]; subst hv; exact ⟨s, hl, g, hb⟩
theorem lookO {h : AH} {b : Nat} {m : List ((Int × Int) × Bool)} (H : Mp h b wk Rb m) (w : Int × Int) : aLookup Tryz.prog 170 (.map (some b)) (wk w) false h = some (.bool ((kget m w).getD false)) := by
  rcases H.lookup u136 kWay z4 w false with ⟨e, hl⟩ | ⟨v, x, e, hv, hl⟩
  · rw [e]; exact hl
  · rw [e]; rw [show v = .bool x from hv] at hl; exact hl
theorem lookS {h : AH} {b : Nat} {m : List (Int × Int)} (H : Mp h b iv Rn m) (k : Int) : aLookup Tryz.prog 167 (.map (some b)) (iv k) false h = some (iv ((kget m k).getD 0)) := by
  rcases H.lookup u134 kNum z2 k false with ⟨e, hl⟩ | ⟨v, x, e, hv, hl⟩
  · rw [e]; exact hl
  · rw [e]; rw [show v = iv x from hv] at hl; exact hl
theorem lookS2 {h : AH} {b : Nat} {m : List (Int × Int)} (H : Mp h b iv Rn m) (k : Int) : aLookup Tryz.prog 167 (.map (some b)) (iv k) true h = some (.tuple #[iv ((kget m k).getD 0), .bool (kget m k).isSome]) := by
  rcases H.lookup u134 kNum z2 k true with ⟨e, hl⟩ | ⟨v, x, e, hv, hl⟩
  · rw [e]; exact hl
  · rw [e]; rw [show v = iv x from hv] at hl; exact hl
/-- A process's state in memory. -/
theorem stAt {h : AH} {st : Value} {l : List Int} {p : Nat} (H : Gr h 1 st l.length (l.map iv)) (hp : p < l.length) :
    ∃ pa, aIndex Tryz.prog 64 st (.int .i64 p) = some (.pointer (some pa)) ∧ aLoad Tryz.prog 2 pa h = some (iv ((l[p]?).getD 0)) ∧ vb st = some pa.block ∧
      ∀ y, ∃ h', aStore Tryz.prog 2 pa (iv y) h = some h' ∧ Gr h' 1 st (l.set p y).length ((l.set p y).map iv) ∧ Sm (fun b => vb st = some b) h h' ∧ h'.next = h.next := by
  obtain ⟨pa, x, e1, e2, e3, e4, e5⟩ := H.elem u64 s2 (by kernel_rfl) hp .i64
  have ex : x = iv ((l[p]?).getD 0) := by
    rw [List.getElem?_map, List.getElem?_eq_getElem hp] at e2
    rw [List.getElem?_eq_getElem hp]
    exact (Option.some.inj e2).symm
  subst ex
  refine ⟨pa, e1, e3, e4, fun y => ?_⟩
  obtain ⟨h', a1, a2, a3, a4⟩ := e5 (iv y) rfl rfl
  refine ⟨h', a1, ?_, a3, a4⟩
  rw [List.length_set, List.map_set]; exact a2
theorem F0.setSt {h h' : AH} {f sb wb : Nat} {st sv : Value} {fp : List Nat} {l l' : List Int} {ws : List ((Int × Int) × List Th)} (H : F0 h f sb wb st sv fp l ws) (g : Gr h' 1 st l'.length (l'.map iv)) (t : Sm (fun b => Arm.vb st = some b) h h') : F0 h' f sb wb st sv fp l' ws := by
  have nd := H.nd
  simp only [List.nodup_cons, List.mem_cons, List.not_mem_nil, or_false, not_or, List.nodup_nil, not_false_eq_true, and_true] at nd
  have t : Sm (fun b => b = sb) h h' := t.mono (fun x hx => by rw [H.vb] at hx; cases hx; rfl)
  exact ⟨H.cl.sm t (by omega), g, H.vb, H.mp.sm t (by omega) (fun _ _ r => r.sm t (fun x hx => by subst hx; exact H.s1)), H.f1, H.s1, H.w1, H.nd, fun x hx => Nat.lt_of_lt_of_le (H.lt x hx) t.nx⟩
theorem F0.setWs {h h' : AH} {f sb wb : Nat} {st sv : Value} {fp : List Nat} {l : List Int} {ws ws' : List ((Int × Int) × List Th)} (H : F0 h f sb wb st sv fp l ws) (g : Mp h' wb wk (Rq h fp) ws') (t : Sm (fun b => b = wb) h h') : F0 h' f sb wb st sv fp l ws' := by
  have nd := H.nd
  simp only [List.nodup_cons, List.mem_cons, List.not_mem_nil, or_false, not_or, List.nodup_nil, not_false_eq_true, and_true] at nd
  exact ⟨H.cl.sm t (by omega), H.gr.sm t (fun b hb => by rw [H.vb] at hb; cases hb; omega), H.vb, g.mono (fun _ _ r => r.sm t (fun x hx => by subst hx; exact H.w1)), H.f1, H.s1, H.w1, H.nd, fun x hx => Nat.lt_of_lt_of_le (H.lt x hx) t.nx⟩
theorem vbS {h h' : AH} {st : Value} {sb : Nat} (t : Sm (fun b => vb st = some b) h h') (hv : vb st = some sb) : Sm (fun b => b = sb) h h' := t.mono (fun x hx => by rw [hv] at hx; cases hx; rfl)
theorem lookS2r {h : AH} {b : Nat} {m : List (Int × Int)} (H : Mp h b iv Rn m) (k : Int) {r : Bool} (hr : (kget m k).isSome = r) : aLookup Tryz.prog 167 (.map (some b)) (iv k) true h = some (.tuple #[iv ((kget m k).getD 0), .bool r]) := hr ▸ lookS2 H k
theorem lenO {h : AH} {b : Nat} {m : List ((Int × Int) × Bool)} (H : Mp h b wk Rb m) (h0 : m = []) : aLen Tryz.prog 170 (.map (some b)) h = some (.int .i64 0) := by
  have := H.len (P := Tryz.prog) u136
  rw [h0] at this; exact this
theorem u69 : Tryz.prog.underlying 78 = some (.slice 107) := by kernel_rfl
theorem u74 : Tryz.prog.underlying 107 = some (.slice 64) := by kernel_rfl
theorem s64 : szOf Tryz.prog 64 = some 1 := by kernel_rfl
theorem s74 : szOf Tryz.prog 107 = some 1 := by kernel_rfl
/-- A row of lists of numbers. -/
def Row (h : AH) (lo R n : Nat) (c : Nat → List Int) : Prop := lo ≤ R ∧ ∃ cs, Cl h R cs ∧ cs.length = n ∧ ∀ j, j < n → ∃ u, cs[j]? = some u ∧ Gr h 1 u (c j).length ((c j).map iv) ∧ ∀ b, vb u = some b → R < b
theorem Row.sm {h h' : AH} {S : Nat → Prop} {lo R n : Nat} {c : Nat → List Int} (H : Row h lo R n c) (t : Sm S h h') (hS : ∀ x, S x → x < lo ∨ h.next ≤ x) : Row h' lo R n c := by
  obtain ⟨h1, cs, h2, h3, h4⟩ := H
  refine ⟨h1, cs, h2.sm t (fun hR => ?_), h3, fun j hj => ?_⟩
  · have := h2.lt; rcases hS _ hR with e | e <;> omega
  · obtain ⟨u, a1, a2, a3⟩ := h4 j hj
    refine ⟨u, a1, a2.sm t (fun b hb hSb => ?_), a3⟩
    have := a2.lt hb; have := a3 b hb
    rcases hS _ hSb with e | e <;> omega
theorem Row.low {h : AH} {lo lo' R n : Nat} {c : Nat → List Int} (H : Row h lo R n c) (hl : lo' ≤ lo) : Row h lo' R n c := ⟨Nat.le_trans hl H.1, H.2⟩
/-- The first k rows of a snapshot's channels. -/
def Rws (h : AH) (lo B n k : Nat) (s : Sh) : Prop := ∃ cb, Cl h B cb ∧ cb.length = n ∧ ∀ i, i < k → ∃ R, cb[i]? = some (.slice (some ⟨R, 0, none⟩) n n) ∧ Row h lo R n (fun j => Fl.ctOf s ((i : Int), (j : Int)))
/-- The first k states of a snapshot. -/
def Sts (h : AH) (A n k : Nat) (s : Sh) : Prop := ∃ ca, Cl h A ca ∧ ca.length = n ∧ ∀ i, i < k → ca[i]? = some (iv ((kget s.st ((i : Nat) : Int)).getD 0))
theorem zrep_length (n : Nat) (v : Value) : (zrep n [v]).length = n := by rw [zrep_len]; simp
/-- Nothing is given back. -/
def unit_ : Value := .tuple ⟨[]⟩
def ptr (b : Nat) : Value := .pointer (some ⟨b, 0, none⟩)
end
end Go.Proofs.YtdaedcoolcicoaaGreat
namespace Go.Proofs.YtdaedcoolcicoaaGreat
noncomputable section
open Go Go.X Go.Arm
theorem clone_th {h : AH} {s : Value} {n : Nat} {cs : List Value} (H : Sd h 1 s n cs) (h1 : ∀ x, x ∈ cs → x.oneCell' = true) (hl : n < 4294967296) :
    Arm.Calls Tryz.prog 146 [s] h (fun p => Gr p.2 1 p.1 n cs ∧ Sm Nix h p.2 ∧ ∀ b, vb p.1 = some b → h.next ≤ b) := by
  refine Calls_of_W (n := 8) (fn := Tryz.f146) (by kernel_rfl) rfl rfl (Nat.le_of_ble_eq_true rfl) trivial ⟨.inr (by simp), rfl⟩ ?_
  have H' := H
  obtain ⟨a, c, rfl⟩ := H.form
  cases a with
  | none =>
    have hn : n = 0 ∧ cs = [] := by
      rcases H.2 with ⟨h0, _⟩ | ⟨b, o, c, cc, nn, op, ro, h0, h1, e, _⟩
      · exact ⟨h0, List.length_eq_zero_iff.1 (by rw [H.1, h0])⟩
      · cases e
    obtain ⟨rfl, rfl⟩ := hn
    refine W_seq ?_
    refine W_region ?_
    refine L_g 1 (by kernel_rfl) ?_
    refine L_nil ?_
    refine W_seq ?_
    refine W_seq ?_
    refine W_region ?_
    refine L_g 2 (by kernel_rfl) ?_
    refine L_nil ?_
    refine W_cond true (by kernel_rfl) (fun _ => ?_) (fun e => by cases e)
    refine W_seq ?_
    refine W_region ?_
    refine L_g 1 (by kernel_rfl) ?_
    refine L_nil ?_
    refine W_ret ?_
    repeat first | with_reducible refine then_ret ?_ | with_reducible refine blk_ret ?_
    refine done_of (v := .slice none 0 0) (.inl rfl) (by kernel_rfl) ?_
    exact ⟨Gr.nil, .refl, fun b hb => by cases hb⟩
  | some q =>
    refine W_seq ?_
    refine W_region ?_
    refine L_g 1 (by kernel_rfl) ?_
    refine L_nil ?_
    refine W_seq ?_
    refine W_seq ?_
    refine W_region ?_
    refine L_g 2 (by kernel_rfl) ?_
    refine L_nil ?_
    refine W_cond false (by kernel_rfl) (fun e => by cases e) (fun _ => ?_)
    refine W_skip ?_
    refine W_seq ?_
    refine W_region ?_
    refine L_nw (.cells []) (.sl 0 0) rfl rfl (by kernel_rfl) ?_
    have c1 : Cl (h.push (Al.cells []).obj) h.next [] := Cl.new h []
    have t1 : Sm Nix h (h.push (Al.cells []).obj) := .push h _
    generalize h.push (Al.cells []).obj = h2 at c1 t1 ⊢
    have g1 : Gr h2 1 (Value.slice (some ⟨h.next, 0, none⟩) 0 0) 0 [] := ⟨rfl, .inl ⟨rfl, .inr ⟨_, rfl, c1.lt⟩⟩⟩
    refine L_g 1 (by kernel_rfl) ?_
    obtain ⟨v', h3, e3, g3, t2, nb⟩ := g1.append (P := Tryz.prog) (sT := 164) (xT := 164) (el := 186) (by_ := 16) (z := .nilIface) (m := n) (ds := cs) (by kernel_rfl) (by kernel_rfl) (by kernel_rfl) (by kernel_rfl) (by kernel_rfl) (by kernel_rfl) (by decide) (H'.ext t1) h1 (by omega)
    refine L_bi v' h3 rfl rfl (by kernel_rfl) (vs := [Value.slice (some ⟨h.next, 0, none⟩) 0 0, Value.slice (some q) n c]) (by kernel_rfl) (bi_append e3) ?_
    refine L_g 1 (by kernel_rfl) ?_
    refine L_nil ?_
    refine W_ret ?_
    repeat first | with_reducible refine then_ret ?_ | with_reducible refine blk_ret ?_
    refine done_of (v := v') (.inl rfl) (by kernel_rfl) ?_
    refine ⟨by rw [Nat.zero_add] at g3; exact g3, t1.trans t2 (fun x hx => .inr ?_), fun b hb => ?_⟩
    · have : x = h.next := by have hx : vb (Value.slice (some ⟨h.next, 0, none⟩) 0 0) = some x := hx; cases hx; rfl
      omega
    · rcases nb b hb with hb | hb
      · cases hb; exact Nat.le_refl _
      · exact Nat.le_trans t1.nx hb
theorem clone_iv {h : AH} {s : Value} {n : Nat} {cs : List Value} (H : Sd h 1 s n cs) (h1 : ∀ x, x ∈ cs → x.oneCell' = true) (hl : n < 4294967296) :
    Arm.Calls Tryz.prog 84 [s] h (fun p => Gr p.2 1 p.1 n cs ∧ Sm Nix h p.2 ∧ ∀ b, vb p.1 = some b → h.next ≤ b) := by
  refine Calls_of_W (n := 8) (fn := Tryz.f84) (by kernel_rfl) rfl rfl (Nat.le_of_ble_eq_true rfl) trivial ⟨.inr (by simp), rfl⟩ ?_
  have H' := H
  obtain ⟨a, c, rfl⟩ := H.form
  cases a with
  | none =>
    have hn : n = 0 ∧ cs = [] := by
      rcases H.2 with ⟨h0, _⟩ | ⟨b, o, c, cc, nn, op, ro, h0, h1, e, _⟩
      · exact ⟨h0, List.length_eq_zero_iff.1 (by rw [H.1, h0])⟩
      · cases e
    obtain ⟨rfl, rfl⟩ := hn
    refine W_seq ?_
    refine W_region ?_
    refine L_g 1 (by kernel_rfl) ?_
    refine L_nil ?_
    refine W_seq ?_
    refine W_seq ?_
    refine W_region ?_
    refine L_g 2 (by kernel_rfl) ?_
    refine L_nil ?_
    refine W_cond true (by kernel_rfl) (fun _ => ?_) (fun e => by cases e)
    refine W_seq ?_
    refine W_region ?_
    refine L_g 1 (by kernel_rfl) ?_
    refine L_nil ?_
    refine W_ret ?_
    repeat first | with_reducible refine then_ret ?_ | with_reducible refine blk_ret ?_
    refine done_of (v := .slice none 0 0) (.inl rfl) (by kernel_rfl) ?_
    exact ⟨Gr.nil, .refl, fun b hb => by cases hb⟩
  | some q =>
    refine W_seq ?_
    refine W_region ?_
    refine L_g 1 (by kernel_rfl) ?_
    refine L_nil ?_
    refine W_seq ?_
    refine W_seq ?_
    refine W_region ?_
    refine L_g 2 (by kernel_rfl) ?_
    refine L_nil ?_
    refine W_cond false (by kernel_rfl) (fun e => by cases e) (fun _ => ?_)
    refine W_skip ?_
    refine W_seq ?_
    refine W_region ?_
    refine L_nw (.cells []) (.sl 0 0) rfl rfl (by kernel_rfl) ?_
    have c1 : Cl (h.push (Al.cells []).obj) h.next [] := Cl.new h []
    have t1 : Sm Nix h (h.push (Al.cells []).obj) := .push h _
    generalize h.push (Al.cells []).obj = h2 at c1 t1 ⊢
    have g1 : Gr h2 1 (Value.slice (some ⟨h.next, 0, none⟩) 0 0) 0 [] := ⟨rfl, .inl ⟨rfl, .inr ⟨_, rfl, c1.lt⟩⟩⟩
    refine L_g 1 (by kernel_rfl) ?_
    obtain ⟨v', h3, e3, g3, t2, nb⟩ := g1.append (P := Tryz.prog) (sT := 64) (xT := 64) (el := 2) (by_ := 8) (z := .int .i64 0) (m := n) (ds := cs) (by kernel_rfl) (by kernel_rfl) (by kernel_rfl) (by kernel_rfl) (by kernel_rfl) (by kernel_rfl) (by decide) (H'.ext t1) h1 (by omega)
    refine L_bi v' h3 rfl rfl (by kernel_rfl) (vs := [Value.slice (some ⟨h.next, 0, none⟩) 0 0, Value.slice (some q) n c]) (by kernel_rfl) (bi_append e3) ?_
    refine L_g 1 (by kernel_rfl) ?_
    refine L_nil ?_
    refine W_ret ?_
    repeat first | with_reducible refine then_ret ?_ | with_reducible refine blk_ret ?_
    refine done_of (v := v') (.inl rfl) (by kernel_rfl) ?_
    refine ⟨by rw [Nat.zero_add] at g3; exact g3, t1.trans t2 (fun x hx => .inr ?_), fun b hb => ?_⟩
    · have : x = h.next := by have hx : vb (Value.slice (some ⟨h.next, 0, none⟩) 0 0) = some x := hx; cases hx; rfl
      omega
    · rcases nb b hb with hb | hb
      · cases hb; exact Nat.le_refl _
      · exact Nat.le_trans t1.nx hb
end
end Go.Proofs.YtdaedcoolcicoaaGreat
namespace Go.Proofs.YtdaedcoolcicoaaGreat
noncomputable section
open Go Go.X Go.Arm
theorem with_th {h : AH} {s : Value} {n : Nat} {cs : List Value} {ty : TypeId} {u : Value} (H : Gr h 1 s n cs) (ho : ∀ x, x ∈ cs → x.oneCell' = true) (hl : n < 4294967290) :
    Arm.Calls Tryz.prog 129 [.agg ⟨[s]⟩, (.iface ty u)] h (fun p => ∃ s', p.1 = .agg ⟨[s']⟩ ∧ Gr p.2 1 s' (n + 1) (cs ++ [(.iface ty u)]) ∧ Sm Nix h p.2 ∧ ∀ b, vb s' = some b → h.next ≤ b) := by
  refine Calls_of_W (n := 12) (fn := Tryz.f129) (by kernel_rfl) rfl rfl (Nat.le_of_ble_eq_true rfl) trivial ⟨.inr (by simp), rfl⟩ ?_
  have H' := H
  obtain ⟨a, c, rfl⟩ := H.sd.form
  refine W_seq ?_
  refine W_region ?_
  refine L_nw (Al.cells [Value.slice a n c]) (.ptr) rfl rfl (by kernel_rfl) ?_
  have c1 : Cl (h.push (Al.cells [Value.slice a n c]).obj) h.next [Value.slice a n c] := Cl.new h _
  have t1 : Sm Nix h (h.push (Al.cells [Value.slice a n c]).obj) := .push h _
  have n1 : (h.push (Al.cells [Value.slice a n c]).obj).next = h.next + 1 := rfl
  generalize h.push (Al.cells [Value.slice a n c]).obj = h1 at c1 t1 n1 ⊢
  refine L_nw (Al.cells [Value.slice none 0 0]) (.ptr) rfl rfl (by kernel_rfl) ?_
  have c2 : Cl (h1.push (Al.cells [Value.slice none 0 0]).obj) h1.next [Value.slice none 0 0] := Cl.new h1 _
  have t2 : Sm Nix h1 (h1.push (Al.cells [Value.slice none 0 0]).obj) := .push h1 _
  have n2 : (h1.push (Al.cells [Value.slice none 0 0]).obj).next = h1.next + 1 := rfl
  generalize h1.push (Al.cells [Value.slice none 0 0]).obj = h2 at c2 t2 n2 ⊢
  refine L_nil ?_
  refine W_seq ?_
  refine W_region ?_
  refine L_g 1 (by kernel_rfl) ?_
  refine L_ld _ rfl rfl (by kernel_rfl) (c1.ext t2 |>.ld (o := 0) (by kernel_rfl) rfl) ?_
  refine L_c rfl rfl (by kernel_rfl) (clone_th ((H'.ext t1).ext t2).sd ho (by omega)) ?_
  rintro s1 h3 ⟨g3, t3, nb⟩
  dsimp only at g3 t3 nb
  refine L_g 1 (by kernel_rfl) ?_
  refine L_nw (.cells [(.iface ty u)]) (.sl 1 1) rfl rfl (by kernel_rfl) ?_
  have t4 : Sm Nix h3 (h3.push (Al.cells [(.iface ty u)]).obj) := .push h3 _
  have n4 : (h3.push (Al.cells [(.iface ty u)]).obj).next = h3.next + 1 := rfl
  have d4 : Sd (h3.push (Al.cells [(.iface ty u)]).obj) 1 (.slice (some ⟨h3.next, 0, none⟩) 1 1) 1 [(.iface ty u)] := ⟨rfl, .inr ⟨h3.next, 0, 1, _, 1, 0, false, by decide, by decide, rfl, Nat.lt_succ_self _, push_get _ _, by decide, fun j hj => by
    have : j = 0 := by simpa using hj
    subst this; rfl⟩⟩
  generalize h3.push (Al.cells [(.iface ty u)]).obj = h4 at t4 n4 d4 ⊢
  obtain ⟨v', h5, e5, g5, t5, nb5⟩ := (g3.ext t4).append (P := Tryz.prog) (sT := 164) (xT := 164) (el := 186) (by_ := 16) (z := .nilIface) (m := 1) (ds := [(.iface ty u)]) (by kernel_rfl) (by kernel_rfl) (by kernel_rfl) (by kernel_rfl) (by kernel_rfl) (by kernel_rfl) (by decide) d4 (fun x hx => by cases List.mem_singleton.1 hx; rfl) (by omega)
  obtain ⟨av, cv, ev'⟩ := g5.sd.form
  subst ev'
  refine L_bi (.slice av (n + 1) cv) h5 rfl rfl (by kernel_rfl) (vs := [s1, .slice (some ⟨h3.next, 0, none⟩) 1 1]) (by kernel_rfl) (bi_append e5) ?_
  refine L_g 1 (by kernel_rfl) ?_
  have hne : ¬ vb s1 = some h1.next := fun e => by have := nb _ e; omega
  have hlt : ∀ b, vb (.slice av (n + 1) cv) = some b → h.next + 1 < b := fun b hb => by
    have a1 := t1.nx; have a2 := t2.nx; have a3 := t3.nx
    rcases nb5 b hb with hb | hb
    · have := nb b hb; omega
    · omega
  obtain ⟨h6, e6, c6, t6, n6⟩ := (((c2.ext t3).ext t4).sm t5 hne).storeS (P := Tryz.prog) (T := 166) (v := .agg ⟨[.slice av (n + 1) cv]⟩) (cs := [.slice av (n + 1) cv]) (by kernel_rfl) rfl rfl (fun x hx => by cases List.mem_singleton.1 hx; rfl)
  refine L_st _ rfl rfl rfl (by kernel_rfl) (by kernel_rfl) (e6) ?_
  refine L_nil ?_
  refine W_ret ?_
  repeat first | with_reducible refine then_ret ?_ | with_reducible refine blk_ret ?_
  refine done_of (.inl rfl) (evR_c1 (by kernel_rfl) (a := ⟨h1.next, 0, none⟩) (by kernel_rfl) (c6.ldS (k := 1) (by kernel_rfl) (Nat.le_refl _))) ?_
  refine ⟨_, rfl, g5.sm t6 (fun b hb e => ?_), ?_, fun b hb => ?_⟩
  · have := hlt b hb; omega
  · refine (((t1.ext t2).ext t3).ext t4 |>.trans t5 (fun x hx => .inr ?_)).trans t6 (fun x hx => .inr ?_)
    · have := nb x hx; omega
    · omega
  · have := hlt b hb; omega
theorem with_iv {h : AH} {s : Value} {n : Nat} {cs : List Value} {x : Int} (H : Gr h 1 s n cs) (ho : ∀ x, x ∈ cs → x.oneCell' = true) (hl : n < 4294967290) :
    Arm.Calls Tryz.prog 169 [.agg ⟨[s]⟩, (.int .i64 x)] h (fun p => ∃ s', p.1 = .agg ⟨[s']⟩ ∧ Gr p.2 1 s' (n + 1) (cs ++ [(.int .i64 x)]) ∧ Sm Nix h p.2 ∧ ∀ b, vb s' = some b → h.next ≤ b) := by
  refine Calls_of_W (n := 12) (fn := Tryz.f169) (by kernel_rfl) rfl rfl (Nat.le_of_ble_eq_true rfl) trivial ⟨.inr (by simp), rfl⟩ ?_
  have H' := H
  obtain ⟨a, c, rfl⟩ := H.sd.form
  refine W_seq ?_
  refine W_region ?_
  refine L_nw (Al.cells [Value.slice a n c]) (.ptr) rfl rfl (by kernel_rfl) ?_
  have c1 : Cl (h.push (Al.cells [Value.slice a n c]).obj) h.next [Value.slice a n c] := Cl.new h _
  have t1 : Sm Nix h (h.push (Al.cells [Value.slice a n c]).obj) := .push h _
  have n1 : (h.push (Al.cells [Value.slice a n c]).obj).next = h.next + 1 := rfl
  generalize h.push (Al.cells [Value.slice a n c]).obj = h1 at c1 t1 n1 ⊢
  refine L_nw (Al.cells [Value.slice none 0 0]) (.ptr) rfl rfl (by kernel_rfl) ?_
  have c2 : Cl (h1.push (Al.cells [Value.slice none 0 0]).obj) h1.next [Value.slice none 0 0] := Cl.new h1 _
  have t2 : Sm Nix h1 (h1.push (Al.cells [Value.slice none 0 0]).obj) := .push h1 _
  have n2 : (h1.push (Al.cells [Value.slice none 0 0]).obj).next = h1.next + 1 := rfl
  generalize h1.push (Al.cells [Value.slice none 0 0]).obj = h2 at c2 t2 n2 ⊢
  refine L_nil ?_
  refine W_seq ?_
  refine W_region ?_
  refine L_g 1 (by kernel_rfl) ?_
  refine L_ld _ rfl rfl (by kernel_rfl) (c1.ext t2 |>.ld (o := 0) (by kernel_rfl) rfl) ?_
  refine L_c rfl rfl (by kernel_rfl) (clone_iv ((H'.ext t1).ext t2).sd ho (by omega)) ?_
  rintro s1 h3 ⟨g3, t3, nb⟩
  dsimp only at g3 t3 nb
  refine L_g 1 (by kernel_rfl) ?_
  refine L_nw (.cells [(.int .i64 x)]) (.sl 1 1) rfl rfl (by kernel_rfl) ?_
  have t4 : Sm Nix h3 (h3.push (Al.cells [(.int .i64 x)]).obj) := .push h3 _
  have n4 : (h3.push (Al.cells [(.int .i64 x)]).obj).next = h3.next + 1 := rfl
  have d4 : Sd (h3.push (Al.cells [(.int .i64 x)]).obj) 1 (.slice (some ⟨h3.next, 0, none⟩) 1 1) 1 [(.int .i64 x)] := ⟨rfl, .inr ⟨h3.next, 0, 1, _, 1, 0, false, by decide, by decide, rfl, Nat.lt_succ_self _, push_get _ _, by decide, fun j hj => by
    have : j = 0 := by simpa using hj
    subst this; rfl⟩⟩
  generalize h3.push (Al.cells [(.int .i64 x)]).obj = h4 at t4 n4 d4 ⊢
  obtain ⟨v', h5, e5, g5, t5, nb5⟩ := (g3.ext t4).append (P := Tryz.prog) (sT := 64) (xT := 64) (el := 2) (by_ := 8) (z := .int .i64 0) (m := 1) (ds := [(.int .i64 x)]) (by kernel_rfl) (by kernel_rfl) (by kernel_rfl) (by kernel_rfl) (by kernel_rfl) (by kernel_rfl) (by decide) d4 (fun x hx => by cases List.mem_singleton.1 hx; rfl) (by omega)
  obtain ⟨av, cv, ev'⟩ := g5.sd.form
  subst ev'
  refine L_bi (.slice av (n + 1) cv) h5 rfl rfl (by kernel_rfl) (vs := [s1, .slice (some ⟨h3.next, 0, none⟩) 1 1]) (by kernel_rfl) (bi_append e5) ?_
  refine L_g 1 (by kernel_rfl) ?_
  have hne : ¬ vb s1 = some h1.next := fun e => by have := nb _ e; omega
  have hlt : ∀ b, vb (.slice av (n + 1) cv) = some b → h.next + 1 < b := fun b hb => by
    have a1 := t1.nx; have a2 := t2.nx; have a3 := t3.nx
    rcases nb5 b hb with hb | hb
    · have := nb b hb; omega
    · omega
  obtain ⟨h6, e6, c6, t6, n6⟩ := (((c2.ext t3).ext t4).sm t5 hne).storeS (P := Tryz.prog) (T := 175) (v := .agg ⟨[.slice av (n + 1) cv]⟩) (cs := [.slice av (n + 1) cv]) (by kernel_rfl) rfl rfl (fun x hx => by cases List.mem_singleton.1 hx; rfl)
  refine L_st _ rfl rfl rfl (by kernel_rfl) (by kernel_rfl) (e6) ?_
  refine L_nil ?_
  refine W_ret ?_
  repeat first | with_reducible refine then_ret ?_ | with_reducible refine blk_ret ?_
  refine done_of (.inl rfl) (evR_c1 (by kernel_rfl) (a := ⟨h1.next, 0, none⟩) (by kernel_rfl) (c6.ldS (k := 1) (by kernel_rfl) (Nat.le_refl _))) ?_
  refine ⟨_, rfl, g5.sm t6 (fun b hb e => ?_), ?_, fun b hb => ?_⟩
  · have := hlt b hb; omega
  · refine (((t1.ext t2).ext t3).ext t4 |>.trans t5 (fun x hx => .inr ?_)).trans t6 (fun x hx => .inr ?_)
    · have := nb x hx; omega
    · omega
  · have := hlt b hb; omega
end
end Go.Proofs.YtdaedcoolcicoaaGreat
namespace Go.Proofs.YtdaedcoolcicoaaGreat
noncomputable section
open Go Go.X Go.Arm
theorem send_ok {h : AH} {f sb wb : Nat} {st sv : Value} {fp : List Nat} {l : List Int} {ws : List ((Int × Int) × List Th)} {w : Int × Int} {x : Th} {ty : TypeId} {u : Value} (hx : th x = .iface ty u)
    (H : F0 h f sb wb st sv fp l ws) (hk : ((kget ws w).getD []).length < 4294967280) :
    Arm.Calls Tryz.prog 91 [ptr f, wk w, .iface ty u] h (fun p => p.1 = unit_ ∧ F0 p.2 f sb wb st sv fp l (kset ws w ((kget ws w).getD [] ++ [x])) ∧ Sm (fun k => k = wb) h p.2) := by
  refine Calls_of_W (n := 19) (fn := Tryz.f91) (by kernel_rfl) rfl rfl (Nat.le_of_ble_eq_true rfl) trivial ⟨.inr (by simp), rfl⟩ ?_
  refine W_seq ?_
  refine W_region ?_
  refine L_nw (Al.cells [Value.int .i64 w.1, Value.int .i64 w.2]) (.ptr) rfl rfl (by kernel_rfl) ?_
  have c1 : Cl (h.push (Al.cells [Value.int .i64 w.1, Value.int .i64 w.2]).obj) h.next [Value.int .i64 w.1, Value.int .i64 w.2] := Cl.new h _
  have t1 : Sm Nix h (h.push (Al.cells [Value.int .i64 w.1, Value.int .i64 w.2]).obj) := .push h _
  have n1 : (h.push (Al.cells [Value.int .i64 w.1, Value.int .i64 w.2]).obj).next = h.next + 1 := rfl
  generalize h.push (Al.cells [Value.int .i64 w.1, Value.int .i64 w.2]).obj = h1 at c1 t1 n1 ⊢
  have H1 := H.ext t1
  obtain ⟨s, es, gs, bs⟩ := lookQ H1.mp w
  refine L_nil ?_
  refine W_drawn (by kernel_rfl) ?_
  refine D_e (e := 12) (l := [0, 1, 2, 3, 4, 5, 6, 7, 8, 9, 10, 11]) (s' := [0, 1, 2, 3, 4]) (by kernel_rfl) (by kernel_rfl) rfl (by kernel_rfl) Rk_nil ?_
  refine NS_b 3 (by kernel_rfl) ?_
  refine NS_ld _ rfl rfl (by kernel_rfl) (by kernel_rfl) (by kernel_rfl) (H1.cl.ld (o := 1) (by kernel_rfl) rfl) ?_
  refine NS_ld _ rfl rfl (by kernel_rfl) (by kernel_rfl) (by kernel_rfl) (c1.ldS (k := 2) (by kernel_rfl) (Nat.le_refl _)) ?_
  refine NS_b 3 (by kernel_rfl) ?_
  refine NS_ld _ rfl rfl (by kernel_rfl) (by kernel_rfl) (by kernel_rfl) (H1.cl.ld (o := 1) (by kernel_rfl) rfl) ?_
  refine NS_ld _ rfl rfl (by kernel_rfl) (by kernel_rfl) (by kernel_rfl) (c1.ldS (k := 2) (by kernel_rfl) (Nat.le_refl _)) ?_
  refine NS_lk _ rfl rfl (by kernel_rfl) (by kernel_rfl) (by kernel_rfl) (by kernel_rfl) (es) ?_
  refine NS_b 1 (by kernel_rfl) ?_
  refine NS_nil ?_
  refine L_c rfl rfl (by kernel_rfl) (with_th (ty := ty) (u := u) gs th_one (by omega)) ?_
  rintro v2 h2 ⟨s2, ev, g2, t2, nb⟩
  dsimp only at ev g2 t2 nb
  subst ev
  have H2 := H1.ext t2
  have hq : Rq h2 fp (.agg ⟨[s2]⟩) ((kget ws w).getD [] ++ [x]) := ⟨s2, rfl, by simpa [hx] using g2, fun b hb hm => by have := nb b hb; have := H1.lt b hm; omega⟩
  obtain ⟨h3, e3, m3, t3, n3⟩ := H2.mp.update u119 kWay w hq
  refine L_nil ⟨rfl, ?_⟩
  refine D_e (e := 13) (l := []) (s' := []) (by kernel_rfl) (by kernel_rfl) rfl (by kernel_rfl) (Rk_1 rfl rfl (Rk_1 rfl rfl (Rk_1 rfl rfl (Rk_ld _ rfl rfl rfl (by kernel_rfl) (H2.cl.ld (o := 1) (by kernel_rfl) rfl) (by kernel_rfl) (Rk_ld _ rfl rfl rfl (by kernel_rfl) ((c1.ext t2).ldS (k := 2) (by kernel_rfl) (Nat.le_refl _)) (by kernel_rfl) Rk_nil))))) ?_
  refine NS_nil ?_
  refine L_mu _ rfl rfl rfl (by kernel_rfl) (by kernel_rfl) (by kernel_rfl) (e3) ?_
  refine L_nil ⟨rfl, ?_⟩
  refine D_l (l := []) (by kernel_rfl) (by kernel_rfl) Rk_nil ?_
  refine NS_nil ?_
  refine done_of (v := unit_) (.inr rfl) (by kernel_rfl) ?_
  have nd := H.nd
  simp only [List.nodup_cons, List.mem_cons, List.not_mem_nil, or_false, not_or] at nd
  refine ⟨rfl, ⟨H2.cl.sm t3 nd.1.2, H2.gr.sm t3 (fun b hb => by rw [H2.vb] at hb; cases hb; exact nd.2.1), H2.vb, m3.mono (fun _ _ r => r.sm t3 (fun x hx => by subst hx; exact H2.w1)), H2.f1, H2.s1, H2.w1, H2.nd, fun x hx => by rw [n3]; exact H2.lt x hx⟩, ?_⟩
  exact (t1.ext t2).of.then t3
end
end Go.Proofs.YtdaedcoolcicoaaGreat
namespace Go.Proofs.YtdaedcoolcicoaaGreat
noncomputable section
open Go Go.X Go.Arm
theorem valid_ok {h : AH} {f wb : Nat} {st sv : Value} (H : Cl h f [st, .map (some wb), sv]) : Arm.Calls Tryz.prog 85 [ptr f] h (fun p => p = (.bool true, h)) := by
  refine Calls_of_W (n := 12) (fn := Tryz.f85) (by kernel_rfl) rfl rfl (Nat.le_of_ble_eq_true rfl) trivial ⟨.inr (by simp), rfl⟩ ?_
  refine W_seq ?_
  refine W_region ?_
  refine L_g 1 (by kernel_rfl) ?_
  refine L_nil ?_
  refine W_seq ?_
  refine W_region ?_
  refine L_g 6 (by kernel_rfl) ?_
  refine L_want (by kernel_rfl) ?_
  refine L_ld _ rfl rfl (by kernel_rfl) (H.ld (o := 1) (by kernel_rfl) rfl) ?_
  refine L_g 3 (by kernel_rfl) ?_
  refine L_nil ?_
  refine W_ret ?_
  repeat first | with_reducible refine then_ret ?_ | with_reducible refine blk_ret ?_
  refine done_of (v := .bool true) (.inl rfl) (by kernel_rfl) ?_
  rfl
/-- What check says of 1 number(s). -/
noncomputable def chk1 (n : Nat) (p : Int) : Int := if p < 0 ∨ (n : Int) ≤ p then 11 else 0
theorem check1 {h : AH} {f sb wb b : Nat} {st sv : Value} {fp : List Nat} {l : List Int} {ws : List ((Int × Int) × List Th)} {p : Int} (H : F0 h f sb wb st sv fp l ws) (hB : Cl h b [.int .i64 p]) :
    Arm.Calls Tryz.prog 90 [ptr f, .slice (some ⟨b, 0, none⟩) 1 1] h (fun r => r = (.int .i64 (chk1 l.length p), h)) := by
  refine Calls_of_W (n := 40) (fn := Tryz.f90) (by kernel_rfl) rfl rfl (Nat.le_of_ble_eq_true rfl) trivial ⟨.inr (by simp), rfl⟩ ?_
  refine W_seq ?_
  refine W_region ?_
  refine L_g 1 (by kernel_rfl) ?_
  refine L_nil ?_
  refine W_seq ?_
  refine W_seq ?_
  refine W_region ?_
  refine L_g 1 (by kernel_rfl) ?_
  refine L_c rfl rfl (by kernel_rfl) (valid_ok H.cl) ?_
  rintro v2 h2 e2
  cases e2
  refine L_g 1 (by kernel_rfl) ?_
  refine L_nil ?_
  refine W_cond false (by kernel_rfl) (fun e => by cases e) (fun _ => ?_)
  refine W_skip ?_
  refine W_seq ?_
  refine W_seq ?_
  refine W_region ?_
  refine L_g 3 (by kernel_rfl) ?_
  refine L_nil ?_
  refine W_block ?_
  refine W_unroll ?_
  refine W_seq ?_
  refine W_region ?_
  refine L_g 1 (by kernel_rfl) ?_
  refine L_nil ?_
  refine W_seq ?_
  refine W_cond true (by kernel_rfl) (fun _ => ?_) (fun e => by cases e)
  refine W_skip ?_
  refine W_seq ?_
  refine W_block ?_
  refine W_seq ?_
  refine W_region ?_
  refine L_g 1 (by kernel_rfl) ?_
  refine L_ld _ rfl rfl (by kernel_rfl) (hB.ld (o := 0) (by kernel_rfl) rfl) ?_
  refine L_g 1 (by kernel_rfl) ?_
  refine L_nil ?_
  refine W_seq ?_
  by_cases h0p : p < 0
  ·
    refine W_region ?_
    refine L_g 1 (by kernel_rfl) ?_
    refine L_i (p) (0) (.bool true) rfl rfl (by kernel_rfl) (by kernel_rfl) rfl (by simp [h0p]) ?_
    refine L_g 9 (by kernel_rfl) ?_
    refine L_nil ?_
    refine W_cond true (by kernel_rfl) (fun _ => ?_) (fun e => by cases e)
    refine W_seq ?_
    refine W_region ?_
    refine L_g 1 (by kernel_rfl) ?_
    refine L_nil ?_
    refine W_ret ?_
    repeat first | with_reducible refine then_ret ?_ | with_reducible refine blk_ret ?_
    refine done_of (v := .int .i64 11) (.inl rfl) (by kernel_rfl) ?_
    unfold chk1; rw [if_pos (.inl h0p)]
  ·
    refine W_region ?_
    refine L_g 1 (by kernel_rfl) ?_
    refine L_i (p) (0) (.bool false) rfl rfl (by kernel_rfl) (by kernel_rfl) rfl (by simp [h0p]) ?_
    refine L_g 5 (by kernel_rfl) ?_
    refine L_want (by kernel_rfl) ?_
    refine L_ld _ rfl rfl (by kernel_rfl) (H.cl.ld (o := 0) (by kernel_rfl) rfl) ?_
    refine L_want (by kernel_rfl) ?_
    refine L_ln _ rfl rfl (by kernel_rfl) (H.gr.lenV u64) ?_
    refine L_g 2 (by kernel_rfl) ?_
    refine L_nil ?_
    refine W_cond (decide (p ≥ (l.length : Int))) (by kernel_rfl) (fun hb => ?_) (fun hb => ?_)
    ·
      have hb := of_decide_eq_true hb
      refine W_seq ?_
      refine W_region ?_
      refine L_g 1 (by kernel_rfl) ?_
      refine L_nil ?_
      refine W_ret ?_
      repeat first | with_reducible refine then_ret ?_ | with_reducible refine blk_ret ?_
      refine done_of (v := .int .i64 11) (.inl rfl) (by kernel_rfl) ?_
      unfold chk1; rw [if_pos (.inr hb)]
    ·
      have h1p := of_decide_eq_false hb
      refine W_skip ?_
      refine W_region ?_
      refine L_g 2 (by kernel_rfl) ?_
      refine L_nil ?_
      refine W_unroll ?_
      refine W_seq ?_
      refine W_region ?_
      refine L_g 1 (by kernel_rfl) ?_
      refine L_nil ?_
      refine W_seq ?_
      refine W_cond false (by kernel_rfl) (fun e => by cases e) (fun _ => ?_)
      refine W_exit ?_
      repeat with_reducible refine then_exit ?_
      refine exit_here ?_
      refine W_seq ?_
      refine W_seq ?_
      refine W_drawn (by kernel_rfl) ?_
      refine D_l (l := [0, 1, 2, 3, 4, 5, 6, 7, 8, 9, 10, 11]) (by kernel_rfl) (by kernel_rfl) Rk_nil ?_
      refine NS_b 12 (by kernel_rfl) ?_
      refine NS_nil ?_
      refine W_cond false (by kernel_rfl) (fun e => by cases e) (fun _ => ?_)
      refine W_skip ?_
      refine W_seq ?_
      refine W_region ?_
      refine L_g 1 (by kernel_rfl) ?_
      refine L_nil ?_
      refine W_ret ?_
      repeat first | with_reducible refine then_ret ?_ | with_reducible refine blk_ret ?_
      refine done_of (v := .int .i64 0) (.inl rfl) (by kernel_rfl) ?_
      unfold chk1; rw [if_neg (show ¬ (p < 0 ∨ (l.length : Int) ≤ p) by omega)]
/-- What check says of 2 number(s). -/
noncomputable def chk2 (n : Nat) (p q : Int) : Int := if p < 0 ∨ (n : Int) ≤ p then 11 else if q < 0 ∨ (n : Int) ≤ q then 11 else if p = q then 2 else 0
theorem check2 {h : AH} {f sb wb b : Nat} {st sv : Value} {fp : List Nat} {l : List Int} {ws : List ((Int × Int) × List Th)} {p q : Int} (H : F0 h f sb wb st sv fp l ws) (hB : Cl h b [.int .i64 p, .int .i64 q]) :
    Arm.Calls Tryz.prog 90 [ptr f, .slice (some ⟨b, 0, none⟩) 2 2] h (fun r => r = (.int .i64 (chk2 l.length p q), h)) := by
  refine Calls_of_W (n := 40) (fn := Tryz.f90) (by kernel_rfl) rfl rfl (Nat.le_of_ble_eq_true rfl) trivial ⟨.inr (by simp), rfl⟩ ?_
  refine W_seq ?_
  refine W_region ?_
  refine L_g 1 (by kernel_rfl) ?_
  refine L_nil ?_
  refine W_seq ?_
  refine W_seq ?_
  refine W_region ?_
  refine L_g 1 (by kernel_rfl) ?_
  refine L_c rfl rfl (by kernel_rfl) (valid_ok H.cl) ?_
  rintro v2 h2 e2
  cases e2
  refine L_g 1 (by kernel_rfl) ?_
  refine L_nil ?_
  refine W_cond false (by kernel_rfl) (fun e => by cases e) (fun _ => ?_)
  refine W_skip ?_
  refine W_seq ?_
  refine W_seq ?_
  refine W_region ?_
  refine L_g 3 (by kernel_rfl) ?_
  refine L_nil ?_
  refine W_block ?_
  refine W_unroll ?_
  refine W_seq ?_
  refine W_region ?_
  refine L_g 1 (by kernel_rfl) ?_
  refine L_nil ?_
  refine W_seq ?_
  refine W_cond true (by kernel_rfl) (fun _ => ?_) (fun e => by cases e)
  refine W_skip ?_
  refine W_seq ?_
  refine W_block ?_
  refine W_seq ?_
  refine W_region ?_
  refine L_g 1 (by kernel_rfl) ?_
  refine L_ld _ rfl rfl (by kernel_rfl) (hB.ld (o := 0) (by kernel_rfl) rfl) ?_
  refine L_g 1 (by kernel_rfl) ?_
  refine L_nil ?_
  refine W_seq ?_
  by_cases h0p : p < 0
  ·
    refine W_region ?_
    refine L_g 1 (by kernel_rfl) ?_
    refine L_i (p) (0) (.bool true) rfl rfl (by kernel_rfl) (by kernel_rfl) rfl (by simp [h0p]) ?_
    refine L_g 9 (by kernel_rfl) ?_
    refine L_nil ?_
    refine W_cond true (by kernel_rfl) (fun _ => ?_) (fun e => by cases e)
    refine W_seq ?_
    refine W_region ?_
    refine L_g 1 (by kernel_rfl) ?_
    refine L_nil ?_
    refine W_ret ?_
    repeat first | with_reducible refine then_ret ?_ | with_reducible refine blk_ret ?_
    refine done_of (v := .int .i64 11) (.inl rfl) (by kernel_rfl) ?_
    unfold chk2; rw [if_pos (.inl h0p)]
  ·
    refine W_region ?_
    refine L_g 1 (by kernel_rfl) ?_
    refine L_i (p) (0) (.bool false) rfl rfl (by kernel_rfl) (by kernel_rfl) rfl (by simp [h0p]) ?_
    refine L_g 5 (by kernel_rfl) ?_
    refine L_want (by kernel_rfl) ?_
    refine L_ld _ rfl rfl (by kernel_rfl) (H.cl.ld (o := 0) (by kernel_rfl) rfl) ?_
    refine L_want (by kernel_rfl) ?_
    refine L_ln _ rfl rfl (by kernel_rfl) (H.gr.lenV u64) ?_
    refine L_g 2 (by kernel_rfl) ?_
    refine L_nil ?_
    refine W_cond (decide (p ≥ (l.length : Int))) (by kernel_rfl) (fun hb => ?_) (fun hb => ?_)
    ·
      have hb := of_decide_eq_true hb
      refine W_seq ?_
      refine W_region ?_
      refine L_g 1 (by kernel_rfl) ?_
      refine L_nil ?_
      refine W_ret ?_
      repeat first | with_reducible refine then_ret ?_ | with_reducible refine blk_ret ?_
      refine done_of (v := .int .i64 11) (.inl rfl) (by kernel_rfl) ?_
      unfold chk2; rw [if_pos (.inr hb)]
    ·
      have h1p := of_decide_eq_false hb
      refine W_skip ?_
      refine W_region ?_
      refine L_g 2 (by kernel_rfl) ?_
      refine L_nil ?_
      refine W_unroll ?_
      refine W_seq ?_
      refine W_region ?_
      refine L_g 1 (by kernel_rfl) ?_
      refine L_nil ?_
      refine W_seq ?_
      refine W_cond true (by kernel_rfl) (fun _ => ?_) (fun e => by cases e)
      refine W_skip ?_
      refine W_seq ?_
      refine W_block ?_
      refine W_seq ?_
      refine W_region ?_
      refine L_g 1 (by kernel_rfl) ?_
      refine L_ld _ rfl rfl (by kernel_rfl) (hB.ld (o := 1) (by kernel_rfl) rfl) ?_
      refine L_g 1 (by kernel_rfl) ?_
      refine L_nil ?_
      refine W_seq ?_
      by_cases h0q : q < 0
      ·
        refine W_region ?_
        refine L_g 1 (by kernel_rfl) ?_
        refine L_i (q) (0) (.bool true) rfl rfl (by kernel_rfl) (by kernel_rfl) rfl (by simp [h0q]) ?_
        refine L_g 9 (by kernel_rfl) ?_
        refine L_nil ?_
        refine W_cond true (by kernel_rfl) (fun _ => ?_) (fun e => by cases e)
        refine W_seq ?_
        refine W_region ?_
        refine L_g 1 (by kernel_rfl) ?_
        refine L_nil ?_
        refine W_ret ?_
        repeat first | with_reducible refine then_ret ?_ | with_reducible refine blk_ret ?_
        refine done_of (v := .int .i64 11) (.inl rfl) (by kernel_rfl) ?_
        unfold chk2; rw [if_neg (show ¬ (p < 0 ∨ (l.length : Int) ≤ p) by omega)]; rw [if_pos (.inl h0q)]
      ·
        refine W_region ?_
        refine L_g 1 (by kernel_rfl) ?_
        refine L_i (q) (0) (.bool false) rfl rfl (by kernel_rfl) (by kernel_rfl) rfl (by simp [h0q]) ?_
        refine L_g 5 (by kernel_rfl) ?_
        refine L_want (by kernel_rfl) ?_
        refine L_ld _ rfl rfl (by kernel_rfl) (H.cl.ld (o := 0) (by kernel_rfl) rfl) ?_
        refine L_want (by kernel_rfl) ?_
        refine L_ln _ rfl rfl (by kernel_rfl) (H.gr.lenV u64) ?_
        refine L_g 2 (by kernel_rfl) ?_
        refine L_nil ?_
        refine W_cond (decide (q ≥ (l.length : Int))) (by kernel_rfl) (fun hb => ?_) (fun hb => ?_)
        ·
          have hb := of_decide_eq_true hb
          refine W_seq ?_
          refine W_region ?_
          refine L_g 1 (by kernel_rfl) ?_
          refine L_nil ?_
          refine W_ret ?_
          repeat first | with_reducible refine then_ret ?_ | with_reducible refine blk_ret ?_
          refine done_of (v := .int .i64 11) (.inl rfl) (by kernel_rfl) ?_
          unfold chk2; rw [if_neg (show ¬ (p < 0 ∨ (l.length : Int) ≤ p) by omega)]; rw [if_pos (.inr hb)]
        ·
          have h1q := of_decide_eq_false hb
          refine W_skip ?_
          refine W_region ?_
          refine L_g 2 (by kernel_rfl) ?_
          refine L_nil ?_
          refine W_unroll ?_
          refine W_seq ?_
          refine W_region ?_
          refine L_g 1 (by kernel_rfl) ?_
          refine L_nil ?_
          refine W_seq ?_
          refine W_cond false (by kernel_rfl) (fun e => by cases e) (fun _ => ?_)
          refine W_exit ?_
          repeat with_reducible refine then_exit ?_
          refine exit_here ?_
          refine W_seq ?_
          refine W_seq ?_
          refine W_drawn (by kernel_rfl) ?_
          refine D_l (l := [0, 1, 2, 3, 4, 5, 6, 7, 8, 9, 10, 11]) (by kernel_rfl) (by kernel_rfl) Rk_nil ?_
          refine NS_b 6 (by kernel_rfl) ?_
          refine NS_ld _ rfl rfl (by kernel_rfl) (by kernel_rfl) (by kernel_rfl) (hB.ld (o := 0) (by kernel_rfl) rfl) ?_
          refine NS_b 2 (by kernel_rfl) ?_
          refine NS_ld _ rfl rfl (by kernel_rfl) (by kernel_rfl) (by kernel_rfl) (hB.ld (o := 1) (by kernel_rfl) rfl) ?_
          refine NS_b 2 (by kernel_rfl) ?_
          refine NS_nil ?_
          refine W_cond (p == q) (by kernel_rfl) (fun hb => ?_) (fun hb => ?_)
          ·
            refine W_seq ?_
            refine W_region ?_
            refine L_g 1 (by kernel_rfl) ?_
            refine L_nil ?_
            refine W_ret ?_
            repeat first | with_reducible refine then_ret ?_ | with_reducible refine blk_ret ?_
            refine done_of (v := .int .i64 2) (.inl rfl) (by kernel_rfl) ?_
            unfold chk2; rw [if_neg (show ¬ (p < 0 ∨ (l.length : Int) ≤ p) by omega)]; rw [if_neg (show ¬ (q < 0 ∨ (l.length : Int) ≤ q) by omega)]; rw [if_pos (by simpa using hb)]
          ·
            refine W_skip ?_
            refine W_seq ?_
            refine W_region ?_
            refine L_g 1 (by kernel_rfl) ?_
            refine L_nil ?_
            refine W_ret ?_
            repeat first | with_reducible refine then_ret ?_ | with_reducible refine blk_ret ?_
            refine done_of (v := .int .i64 0) (.inl rfl) (by kernel_rfl) ?_
            unfold chk2; rw [if_neg (show ¬ (p < 0 ∨ (l.length : Int) ≤ p) by omega)]; rw [if_neg (show ¬ (q < 0 ∨ (l.length : Int) ≤ q) by omega)]; rw [if_neg (by simpa using hb)]
end
end Go.Proofs.YtdaedcoolcicoaaGreat
namespace Go.Proofs.YtdaedcoolcicoaaGreat
noncomputable section
open Go Go.X Go.Arm
theorem record_ok {h : AH} {f sb wb g a c o : Nat} {st : Value} {fp : List Nat} {m : Fl} {s : Sh} {p K : Nat} (H : F0 h f sb wb st (ptr g) fp m.st m.ws) (G : S0 h g a c o fp s) (nd : [f, sb, wb, g, a, c, o].Nodup) (hp : p < m.st.length) (hn : m.st.length < 1000000) (hle : m.le K) (hK : K < 4000000000) :
    Arm.Calls Tryz.prog 93 [ptr f, .int .i64 p] h (fun r => r.1 = unit_ ∧ F0 r.2 f sb wb st (ptr g) fp m.st (m.recd s p).ws ∧ S0 r.2 g a c o fp { s with st := kset s.st p (m.at_ p) } ∧ Sm (fun k => k = wb ∨ k = a) h r.2) := by
  simp only [List.nodup_cons, List.mem_cons, List.not_mem_nil, or_false, not_or, List.nodup_nil, not_false_eq_true, and_true] at nd
  refine Calls_of_W (n := 39) (fn := Tryz.f93) (by kernel_rfl) rfl rfl (Nat.le_of_ble_eq_true rfl) trivial ⟨.inr (by simp), rfl⟩ ?_
  obtain ⟨pa, ei, el, _, _⟩ := stAt H.gr hp
  obtain ⟨h1, e1, m1, t1, n1⟩ := G.ma.update u134 kNum (p : Int) (v := iv (m.at_ p)) (y := m.at_ p) rfl
  have H1 : F0 h1 f sb wb st (ptr g) fp m.st m.ws := H.sm t1 (by omega) (by omega) (by omega) (fun x hx => by subst hx; exact G.a1)
  have G1 : S0 h1 g a c o fp { s with st := kset s.st p (m.at_ p) } :=
    ⟨G.cl.sm t1 (by omega), m1, G.mc.sm t1 (by omega) (fun _ _ r => r.sm t1 (fun x hx => by subst hx; exact G.a1)), G.mo.sm t1 (by omega) (fun _ _ r => r), G.g1, G.a1, G.c1, G.o1⟩
  refine W_seq ?_
  refine W_drawn (by kernel_rfl) ?_
  refine D_e (e := 15) (l := [0, 1, 2, 3, 4, 5, 6, 7, 8, 9, 10, 11, 12, 13, 14]) (s' := []) (by kernel_rfl) (by kernel_rfl) rfl (by kernel_rfl) Rk_nil ?_
  refine NS_b 3 (by kernel_rfl) ?_
  refine NS_ld _ rfl rfl (by kernel_rfl) (by kernel_rfl) (by kernel_rfl) (H.cl.ld (o := 2) (by kernel_rfl) rfl) ?_
  refine NS_b 2 (by kernel_rfl) ?_
  refine NS_ld _ rfl rfl (by kernel_rfl) (by kernel_rfl) (by kernel_rfl) (G.cl.ld (o := 0) (by kernel_rfl) rfl) ?_
  refine NS_b 4 (by kernel_rfl) ?_
  refine NS_ld _ rfl rfl (by kernel_rfl) (by kernel_rfl) (by kernel_rfl) (H.cl.ld (o := 0) (by kernel_rfl) rfl) ?_
  refine NS_b 1 (by kernel_rfl) ?_
  refine NS_ix _ rfl rfl (by kernel_rfl) (by kernel_rfl) (by kernel_rfl) (by kernel_rfl) (ei) ?_
  refine NS_ld _ rfl rfl (by kernel_rfl) (by kernel_rfl) (by kernel_rfl) (el) ?_
  refine NS_nil ?_
  refine L_mu _ rfl rfl rfl (by kernel_rfl) (by kernel_rfl) (by kernel_rfl) (e1) ?_
  refine L_nil ⟨rfl, ?_⟩
  refine D_l (l := []) (by kernel_rfl) (by kernel_rfl) Rk_nil ?_
  refine NS_nil ?_
  refine W_seq ?_
  refine W_region ?_
  refine L_g 3 (by kernel_rfl) ?_
  refine L_ld _ rfl rfl (by kernel_rfl) (H1.cl.ld (o := 0) (by kernel_rfl) rfl) ?_
  refine L_ln _ rfl rfl (by kernel_rfl) (H1.gr.lenV u64) ?_
  refine L_g 1 (by kernel_rfl) ?_
  refine L_nil ?_
  refine W_block ?_
  refine W_loop (fun i fr hh => ∃ k, k ≤ m.st.length ∧ i = m.st.length - k ∧ fr 0 = ptr f ∧ fr 1 = .int .i64 p ∧ fr 24 = .int .i64 m.st.length ∧ fr 25 = .int .i64 k ∧
        F0 hh f sb wb st (ptr g) fp m.st ((m.rec1 s p).tell p k).ws ∧ Sm (fun x => x = wb) h1 hh) (m.st.length) ?_ ?_
  ·
    exact ⟨0, Nat.zero_le _, rfl, by kernel_rfl, by kernel_rfl, by kernel_rfl, by kernel_rfl, H1, .refl⟩
  rintro i fr h2 ⟨k, hk, hi, s0, s1, s24, s25, H2, t2⟩
  refine W_set s0 (W_set (k := 1) s1 (W_set (k := 24) s24 (W_set (k := 25) s25 ?_)))
  refine W_seq ?_
  refine W_region ?_
  refine L_g 1 (by kernel_rfl) ?_
  refine L_nil ?_
  refine W_seq ?_
  refine W_cond (decide ((k : Int) < m.st.length)) (by kernel_rfl) (fun hb => ?_) (fun hb => ?_)
  ·
    have hlt : k < m.st.length := by simpa using hb
    refine W_skip ?_
    refine W_seq ?_
    refine W_block ?_
    refine W_seq ?_
    refine W_region ?_
    refine L_g 2 (by kernel_rfl) ?_
    refine L_nil ?_
    refine W_seq ?_
    refine W_region ?_
    refine L_g 3 (by kernel_rfl) ?_
    refine L_nil ?_
    refine W_cond ((k : Int) != p) (by kernel_rfl) (fun hb => ?_) (fun hb => ?_)
    ·
      have hkp : ¬ k = p := by simp at hb; omega
      have hl := Fl.le_tell (m := m.rec1 s p) hle p k ((p : Int), (k : Int))
      refine W_region ?_
      refine L_g 6 (by kernel_rfl) ?_
      refine L_c rfl rfl (by kernel_rfl) (send_ok (w := ((p : Int), (k : Int))) (x := .mark) rfl H2 (show (((m.rec1 s p).tell p k).q ((p : Int), (k : Int))).length < 4294967280 by omega)) ?_
      rintro v3 h3 ⟨e3, H3, t3⟩
      dsimp only at e3 H3 t3
      refine L_nil ?_
      refine W_region ?_
      refine L_i ((k : Int)) (1) (.int .i64 ((k + 1 : Nat) : Int)) rfl rfl (by kernel_rfl) (by kernel_rfl) rfl (inc_ok (by omega)) ?_
      refine L_g 1 (by kernel_rfl) ?_
      refine L_nil ?_
      refine ⟨m.st.length - (k + 1), by omega, k + 1, by omega, rfl, by kernel_rfl, by kernel_rfl, by kernel_rfl, by kernel_rfl, ?_, t2.then t3⟩
      show F0 _ _ _ _ _ _ _ _ (Fl.tell _ p (k + 1)).ws
      rw [show (m.rec1 s p).tell p (k + 1) = if k = p then (m.rec1 s p).tell p k else ((m.rec1 s p).tell p k).put (p, k) .mark from rfl, if_neg hkp]
      exact H3
    ·
      have hkp : k = p := by simp at hb; omega
      refine W_skip ?_
      refine W_region ?_
      refine L_i ((k : Int)) (1) (.int .i64 ((k + 1 : Nat) : Int)) rfl rfl (by kernel_rfl) (by kernel_rfl) rfl (inc_ok (by omega)) ?_
      refine L_g 1 (by kernel_rfl) ?_
      refine L_nil ?_
      refine ⟨m.st.length - (k + 1), by omega, k + 1, by omega, rfl, by kernel_rfl, by kernel_rfl, by kernel_rfl, by kernel_rfl, ?_, t2⟩
      show F0 _ _ _ _ _ _ _ _ (Fl.tell _ p (k + 1)).ws
      rw [show (m.rec1 s p).tell p (k + 1) = if k = p then (m.rec1 s p).tell p k else ((m.rec1 s p).tell p k).put (p, k) .mark from rfl, if_pos hkp]
      exact H2
  ·
    have hge : ¬ k < m.st.length := by simpa using hb
    refine W_exit ?_
    repeat with_reducible refine then_exit ?_
    refine exit_here ?_
    have hkn : k = m.st.length := by omega
    subst hkn
    refine done_of (v := unit_) (.inr rfl) (by kernel_rfl) ?_
    refine ⟨rfl, H2, G1.sm t2 (by omega) (by omega) (by omega) (by omega) (fun x hx => by subst hx; exact H.w1), (t1.mono (fun x hx => .inr hx)).then (t2.mono (fun x hx => .inl hx))⟩
end
end Go.Proofs.YtdaedcoolcicoaaGreat
namespace Go.Proofs.YtdaedcoolcicoaaGreat
noncomputable section
open Go Go.X Go.Arm
theorem chk1_ok {n p : Nat} (hp : p < n) : chk1 n p = 0 := by unfold chk1; rw [if_neg (by omega)]
theorem chk2_ok {n p q : Nat} (hp : p < n) (hq : q < n) (hne : p ≠ q) : chk2 n p q = 0 := by unfold chk2; rw [if_neg (by omega), if_neg (by omega), if_neg (by omega)]
theorem pass_ok {h : AH} {f sb wb : Nat} {st sv : Value} {fp : List Nat} {m : Fl} {p q K : Nat} {v : Int} (H : F0 h f sb wb st sv fp m.st m.ws) (hp : p < m.st.length) (hq : q < m.st.length) (hne : p ≠ q) (hle : m.le K) (hK : K < 4000000000) :
    Arm.Calls Tryz.prog 36 [ptr f, .int .i64 p, .int .i64 q, .int .i64 v] h (fun r => r.1 = .int .i64 0 ∧ F0 r.2 f sb wb st sv fp (m.pass p q v).st (m.pass p q v).ws ∧ Sm (fun k => k = sb ∨ k = wb) h r.2) := by
  refine Calls_of_W (n := 35) (fn := Tryz.f36) (by kernel_rfl) rfl rfl (Nat.le_of_ble_eq_true rfl) trivial ⟨.inr (by simp), rfl⟩ ?_
  refine W_seq ?_
  refine W_region ?_
  refine L_g 1 (by kernel_rfl) ?_
  refine L_nil ?_
  refine W_seq ?_
  refine W_seq ?_
  refine W_region ?_
  refine L_g 3 (by kernel_rfl) ?_
  refine L_nw (Al.cells [Value.int .i64 (p : Int), Value.int .i64 (q : Int)]) (.sl 2 2) rfl rfl (by kernel_rfl) ?_
  have c1 : Cl (h.push (Al.cells [Value.int .i64 (p : Int), Value.int .i64 (q : Int)]).obj) h.next [Value.int .i64 (p : Int), Value.int .i64 (q : Int)] := Cl.new h _
  have t1 : Sm Nix h (h.push (Al.cells [Value.int .i64 (p : Int), Value.int .i64 (q : Int)]).obj) := .push h _
  have n1 : (h.push (Al.cells [Value.int .i64 (p : Int), Value.int .i64 (q : Int)]).obj).next = h.next + 1 := rfl
  generalize h.push (Al.cells [Value.int .i64 (p : Int), Value.int .i64 (q : Int)]).obj = h1 at c1 t1 n1 ⊢
  have H1 := H.ext t1
  refine L_c rfl rfl (by kernel_rfl) (check2 (p := (p : Int)) (q := (q : Int)) H1 c1) ?_
  rintro v9 h9 e9
  cases e9
  rw [chk2_ok hp hq hne]
  refine L_g 1 (by kernel_rfl) ?_
  refine L_nil ?_
  refine W_seq ?_
  refine W_region ?_
  refine L_g 2 (by kernel_rfl) ?_
  refine L_nil ?_
  refine W_cond false (by kernel_rfl) (fun e => by cases e) (fun _ => ?_)
  refine W_skip ?_
  refine W_seq ?_
  refine W_region ?_
  refine L_g 3 (by kernel_rfl) ?_
  refine L_ld _ rfl rfl (by kernel_rfl) (H1.cl.ld (o := 0) (by kernel_rfl) rfl) ?_
  refine L_g 1 (by kernel_rfl) ?_
  obtain ⟨pa, ei, el, _, eu⟩ := stAt H1.gr hp
  obtain ⟨h2, e2, g2, t2, n2⟩ := eu (Fl.wr (m.at_ p - v))
  have H2 := H1.setSt g2 t2
  refine L_ix _ rfl rfl (by kernel_rfl) (by kernel_rfl) (ei) ?_
  refine L_ld _ rfl rfl (by kernel_rfl) (el) ?_
  refine L_g 1 (by kernel_rfl) ?_
  refine L_i (m.at_ p) (v) (.int .i64 (Fl.wr (m.at_ p - v))) rfl rfl (by kernel_rfl) (by kernel_rfl) rfl (rfl) ?_
  refine L_ix _ rfl rfl (by kernel_rfl) (by kernel_rfl) (ei) ?_
  refine L_st _ rfl rfl rfl (by kernel_rfl) (by kernel_rfl) (e2) ?_
  refine L_nil ?_
  refine W_seq ?_
  refine W_region ?_
  refine L_g 6 (by kernel_rfl) ?_
  refine L_c rfl rfl (by kernel_rfl) (send_ok (w := ((p : Int), (q : Int))) (x := .num v) rfl H2 (show (m.q ((p : Int), (q : Int))).length < 4294967280 by have := hle ((p : Int), (q : Int)); omega)) ?_
  rintro v3 h3 ⟨e3, H3, t3⟩
  dsimp only at e3 H3 t3
  refine L_nil ?_
  refine W_seq ?_
  refine W_region ?_
  refine L_g 1 (by kernel_rfl) ?_
  refine L_nil ?_
  refine W_ret ?_
  repeat first | with_reducible refine then_ret ?_ | with_reducible refine blk_ret ?_
  refine done_of (v := .int .i64 0) (.inl rfl) (by kernel_rfl) ?_
  exact ⟨rfl, H3, (t1.of.then ((vbS t2 H.vb).mono (fun x hx => .inl hx))).then (t3.mono (fun x hx => .inr hx))⟩
theorem state_ok {h : AH} {f sb wb : Nat} {st sv : Value} {fp : List Nat} {m : Fl} {p : Nat} (H : F0 h f sb wb st sv fp m.st m.ws) (hp : p < m.st.length) :
    Arm.Calls Tryz.prog 47 [ptr f, .int .i64 p] h (fun r => r.1 = .tuple ⟨[.int .i64 (m.at_ p), .int .i64 0]⟩ ∧ Sm Nix h r.2) := by
  refine Calls_of_W (n := 21) (fn := Tryz.f47) (by kernel_rfl) rfl rfl (Nat.le_of_ble_eq_true rfl) trivial ⟨.inr (by simp), rfl⟩ ?_
  refine W_seq ?_
  refine W_region ?_
  refine L_g 2 (by kernel_rfl) ?_
  refine L_nil ?_
  refine W_seq ?_
  refine W_seq ?_
  refine W_region ?_
  refine L_g 2 (by kernel_rfl) ?_
  refine L_nw (Al.cells [Value.int .i64 (p : Int)]) (.sl 1 1) rfl rfl (by kernel_rfl) ?_
  have c1 : Cl (h.push (Al.cells [Value.int .i64 (p : Int)]).obj) h.next [Value.int .i64 (p : Int)] := Cl.new h _
  have t1 : Sm Nix h (h.push (Al.cells [Value.int .i64 (p : Int)]).obj) := .push h _
  have n1 : (h.push (Al.cells [Value.int .i64 (p : Int)]).obj).next = h.next + 1 := rfl
  generalize h.push (Al.cells [Value.int .i64 (p : Int)]).obj = h1 at c1 t1 n1 ⊢
  have H1 := H.ext t1
  refine L_c rfl rfl (by kernel_rfl) (check1 (p := (p : Int)) H1 c1) ?_
  rintro v9 h9 e9
  cases e9
  rw [chk1_ok hp]
  refine L_g 1 (by kernel_rfl) ?_
  refine L_nil ?_
  refine W_seq ?_
  refine W_region ?_
  refine L_g 2 (by kernel_rfl) ?_
  refine L_nil ?_
  refine W_cond false (by kernel_rfl) (fun e => by cases e) (fun _ => ?_)
  refine W_skip ?_
  refine W_seq ?_
  refine W_region ?_
  refine L_g 3 (by kernel_rfl) ?_
  refine L_ld _ rfl rfl (by kernel_rfl) (H1.cl.ld (o := 0) (by kernel_rfl) rfl) ?_
  refine L_g 1 (by kernel_rfl) ?_
  obtain ⟨pa, ei, el, _, _⟩ := stAt H1.gr hp
  refine L_ix _ rfl rfl (by kernel_rfl) (by kernel_rfl) (ei) ?_
  refine L_ld _ rfl rfl (by kernel_rfl) (el) ?_
  refine L_g 2 (by kernel_rfl) ?_
  refine L_nil ?_
  refine W_ret ?_
  repeat first | with_reducible refine then_ret ?_ | with_reducible refine blk_ret ?_
  refine done_of (v := .tuple ⟨[.int .i64 (m.at_ p), .int .i64 0]⟩) (.inl rfl) (by kernel_rfl) ?_
  exact ⟨rfl, t1⟩
end
end Go.Proofs.YtdaedcoolcicoaaGreat
namespace Go.Proofs.YtdaedcoolcicoaaGreat
noncomputable section
open Go Go.X Go.Arm
theorem new_ok {h : AH} {s : Value} {l : List Int} {X : List Nat} (hX : ∀ x, x ∈ X → x < h.next) (H : Sd h 1 s l.length (l.map iv)) (h0 : 0 < l.length) (h64 : l.length ≤ 64) :
    Arm.Calls Tryz.prog 32 [s] h (fun r => ∃ f sb wb st, r.1 = .tuple ⟨[ptr f, .int .i64 0]⟩ ∧ F0 r.2 f sb wb st (.pointer none) (X ++ [f, sb, wb]) l [] ∧ Sm Nix h r.2 ∧ h.next ≤ f ∧ h.next ≤ sb ∧ h.next ≤ wb) := by
  refine Calls_of_W (n := 17) (fn := Tryz.f32) (by kernel_rfl) rfl rfl (Nat.le_of_ble_eq_true rfl) trivial ⟨.inr (by simp), rfl⟩ ?_
  refine W_seq ?_
  refine W_region ?_
  refine L_g 2 (by kernel_rfl) ?_
  refine L_nil ?_
  refine W_seq ?_
  refine W_seq ?_
  refine W_region ?_
  refine L_g 1 (by kernel_rfl) ?_
  refine L_ln _ rfl rfl (by kernel_rfl) (H.len u64) ?_
  refine L_i ((l.length : Int)) (1) (.bool false) rfl rfl (by kernel_rfl) (by kernel_rfl) rfl (by simp; omega) ?_
  refine L_g 2 (by kernel_rfl) ?_
  refine L_want (by kernel_rfl) ?_
  refine L_ln _ rfl rfl (by kernel_rfl) (H.len u64) ?_
  refine L_want (by kernel_rfl) ?_
  refine L_want (by kernel_rfl) ?_
  refine L_i ((l.length : Int)) (64) (.bool false) rfl rfl (by kernel_rfl) (by kernel_rfl) rfl (by simp; omega) ?_
  refine L_g 1 (by kernel_rfl) ?_
  refine L_nil ?_
  refine W_cond false (by kernel_rfl) (fun e => by cases e) (fun _ => ?_)
  refine W_skip ?_
  refine W_seq ?_
  refine W_region ?_
  refine L_g 1 (by kernel_rfl) ?_
  refine L_c rfl rfl (by kernel_rfl) (clone_iv H iv_one (by omega)) ?_
  rintro s1 h1 ⟨g1, t1, nb⟩
  dsimp only at g1 t1 nb
  obtain ⟨av, cv, ev⟩ := g1.sd.form
  subst ev
  obtain ⟨sb, hsb⟩ : ∃ sb, vb (.slice av l.length cv) = some sb := by
    rcases g1.2 with ⟨e, _⟩ | ⟨b, o, cc, nn, e, _⟩
    · omega
    · rw [e]; exact ⟨b, rfl⟩
  have hs0 := nb sb hsb
  have hs1 := g1.lt hsb
  refine L_nw Al.map .mp rfl rfl (by kernel_rfl) ?_
  have m2 : Mp (h1.push (Al.map).obj) h1.next wk (fun (_ : Value) (_ : List Th) => False) [] := Mp.new h1
  have t2 : Sm Nix h1 (h1.push (Al.map).obj) := .push h1 _
  have n2 : (h1.push (Al.map).obj).next = h1.next + 1 := rfl
  generalize h1.push (Al.map).obj = h2 at m2 t2 n2 ⊢
  refine L_g 1 (by kernel_rfl) ?_
  refine L_nw (Al.cells [Value.slice av l.length cv, Value.map (some h1.next), Value.pointer none]) (.ptr) rfl rfl (by kernel_rfl) ?_
  have c3 : Cl (h2.push (Al.cells [Value.slice av l.length cv, Value.map (some h1.next), Value.pointer none]).obj) h2.next [Value.slice av l.length cv, Value.map (some h1.next), Value.pointer none] := Cl.new h2 _
  have t3 : Sm Nix h2 (h2.push (Al.cells [Value.slice av l.length cv, Value.map (some h1.next), Value.pointer none]).obj) := .push h2 _
  have n3 : (h2.push (Al.cells [Value.slice av l.length cv, Value.map (some h1.next), Value.pointer none]).obj).next = h2.next + 1 := rfl
  generalize h2.push (Al.cells [Value.slice av l.length cv, Value.map (some h1.next), Value.pointer none]).obj = h3 at c3 t3 n3 ⊢
  refine L_g 2 (by kernel_rfl) ?_
  refine L_nil ?_
  refine W_ret ?_
  repeat first | with_reducible refine then_ret ?_ | with_reducible refine blk_ret ?_
  refine done_of (v := .tuple ⟨[ptr h2.next, .int .i64 0]⟩) (.inl rfl) (by kernel_rfl) ?_
  have t13 := t1.nx
  refine ⟨h2.next, sb, h1.next, _, rfl, ⟨c3, (g1.ext t2).ext t3, hsb, ?_, by simp, by simp, by simp, ?_, ?_⟩, (t1.ext t2).ext t3, by omega, by omega, by omega⟩
  · exact m2.sm t3 (fun x => x) (fun _ _ r => r.elim)
  · simp only [List.nodup_cons, List.mem_cons, List.not_mem_nil, or_false, not_or, List.nodup_nil, not_false_eq_true, and_true]; omega
  · intro x hx; simp only [List.mem_append, List.mem_cons, List.not_mem_nil, or_false] at hx
    show x < h3.next
    rcases hx with hx | hx
    · have := hX x hx; omega
    · omega
end
end Go.Proofs.YtdaedcoolcicoaaGreat
namespace Go.Proofs.YtdaedcoolcicoaaGreat
noncomputable section
open Go Go.X Go.Arm
theorem new_err {h : AH} {s : Value} {l : List Int} (H : Sd h 1 s l.length (l.map iv)) (h0 : l.length < 1 ∨ 64 < l.length) :
    Arm.Calls Tryz.prog 32 [s] h (fun r => r = (.tuple ⟨[.pointer none, .int .i64 3]⟩, h)) := by
  refine Calls_of_W (n := 17) (fn := Tryz.f32) (by kernel_rfl) rfl rfl (Nat.le_of_ble_eq_true rfl) trivial ⟨.inr (by simp), rfl⟩ ?_
  by_cases hc : l.length < 1
  ·
    refine W_seq ?_
    refine W_region ?_
    refine L_g 2 (by kernel_rfl) ?_
    refine L_nil ?_
    refine W_seq ?_
    refine W_seq ?_
    refine W_region ?_
    refine L_g 1 (by kernel_rfl) ?_
    refine L_ln _ rfl rfl (by kernel_rfl) (H.len u64) ?_
    refine L_i ((l.length : Int)) (1) (.bool true) rfl rfl (by kernel_rfl) (by kernel_rfl) rfl (by simp; omega) ?_
    refine L_g 5 (by kernel_rfl) ?_
    refine L_nil ?_
    refine W_cond true (by kernel_rfl) (fun _ => ?_) (fun e => by cases e)
    refine W_seq ?_
    refine W_region ?_
    refine L_g 2 (by kernel_rfl) ?_
    refine L_nil ?_
    refine W_ret ?_
    repeat first | with_reducible refine then_ret ?_ | with_reducible refine blk_ret ?_
    refine done_of (v := .tuple ⟨[.pointer none, .int .i64 3]⟩) (.inl rfl) (by kernel_rfl) ?_
    rfl
  ·
    refine W_seq ?_
    refine W_region ?_
    refine L_g 2 (by kernel_rfl) ?_
    refine L_nil ?_
    refine W_seq ?_
    refine W_seq ?_
    refine W_region ?_
    refine L_g 1 (by kernel_rfl) ?_
    refine L_ln _ rfl rfl (by kernel_rfl) (H.len u64) ?_
    refine L_i ((l.length : Int)) (1) (.bool false) rfl rfl (by kernel_rfl) (by kernel_rfl) rfl (by simp; omega) ?_
    refine L_g 2 (by kernel_rfl) ?_
    refine L_want (by kernel_rfl) ?_
    refine L_ln _ rfl rfl (by kernel_rfl) (H.len u64) ?_
    refine L_want (by kernel_rfl) ?_
    refine L_want (by kernel_rfl) ?_
    refine L_i ((l.length : Int)) (64) (.bool true) rfl rfl (by kernel_rfl) (by kernel_rfl) rfl (by simp; omega) ?_
    refine L_g 1 (by kernel_rfl) ?_
    refine L_nil ?_
    refine W_cond true (by kernel_rfl) (fun _ => ?_) (fun e => by cases e)
    refine W_seq ?_
    refine W_region ?_
    refine L_g 2 (by kernel_rfl) ?_
    refine L_nil ?_
    refine W_ret ?_
    repeat first | with_reducible refine then_ret ?_ | with_reducible refine blk_ret ?_
    refine done_of (v := .tuple ⟨[.pointer none, .int .i64 3]⟩) (.inl rfl) (by kernel_rfl) ?_
    rfl
end
end Go.Proofs.YtdaedcoolcicoaaGreat
namespace Go.Proofs.YtdaedcoolcicoaaGreat
noncomputable section
open Go Go.X Go.Arm
theorem num_off {h : AH} {f sb wb : Nat} {st : Value} {fp : List Nat} {m : Fl} {p q : Nat} {v : Int} (H : F0 h f sb wb st (.pointer none) fp m.st m.ws) (hq : q < m.st.length) :
    Arm.Calls Tryz.prog 170 [.int .i64 v, ptr f, wk ((p : Int), (q : Int))] h (fun r => r.1 = unit_ ∧ F0 r.2 f sb wb st (.pointer none) fp (m.arrN p q v).st (m.arrN p q v).ws ∧ Sm (fun k => k = sb) h r.2) := by
  refine Calls_of_W (n := 68) (fn := Tryz.f170) (by kernel_rfl) rfl rfl (Nat.le_of_ble_eq_true rfl) trivial ⟨.inr (by simp), rfl⟩ ?_
  refine W_seq ?_
  refine W_region ?_
  refine L_nw (Al.cells [Value.int .i64 (p : Int), Value.int .i64 (q : Int)]) (.ptr) rfl rfl (by kernel_rfl) ?_
  have c1 : Cl (h.push (Al.cells [Value.int .i64 (p : Int), Value.int .i64 (q : Int)]).obj) h.next [Value.int .i64 (p : Int), Value.int .i64 (q : Int)] := Cl.new h _
  have t1 : Sm Nix h (h.push (Al.cells [Value.int .i64 (p : Int), Value.int .i64 (q : Int)]).obj) := .push h _
  have n1 : (h.push (Al.cells [Value.int .i64 (p : Int), Value.int .i64 (q : Int)]).obj).next = h.next + 1 := rfl
  generalize h.push (Al.cells [Value.int .i64 (p : Int), Value.int .i64 (q : Int)]).obj = h1 at c1 t1 n1 ⊢
  have H1 := H.ext t1
  refine L_nil ?_
  refine W_seq ?_
  refine W_drawn (by kernel_rfl) ?_
  refine D_e (e := 11) (l := [0, 1, 2, 3, 4, 5, 6, 7, 8, 9, 10]) (s' := []) (by kernel_rfl) (by kernel_rfl) rfl (by kernel_rfl) Rk_nil ?_
  refine NS_b 3 (by kernel_rfl) ?_
  refine NS_ld _ rfl rfl (by kernel_rfl) (by kernel_rfl) (by kernel_rfl) (H1.cl.ld (o := 0) (by kernel_rfl) rfl) ?_
  refine NS_b 1 (by kernel_rfl) ?_
  refine NS_ld _ rfl rfl (by kernel_rfl) (by kernel_rfl) (by kernel_rfl) (c1.ld (o := 1) (by kernel_rfl) rfl) ?_
  obtain ⟨pa, ei, el, _, eu⟩ := stAt H1.gr hq
  obtain ⟨h2, e2, g2, t2, n2⟩ := eu (Fl.wr (m.at_ q + v))
  have H2 := H1.setSt g2 t2
  have t2 := vbS t2 H.vb
  have hsb := H1.lt _ H1.s1
  have c2 := c1.sm t2 (by have := H.lt _ H.s1; omega)
  refine NS_ix _ rfl rfl (by kernel_rfl) (by kernel_rfl) (by kernel_rfl) (by kernel_rfl) (ei) ?_
  refine NS_ld _ rfl rfl (by kernel_rfl) (by kernel_rfl) (by kernel_rfl) (el) ?_
  refine NS_b 2 (by kernel_rfl) ?_
  refine NS_ix _ rfl rfl (by kernel_rfl) (by kernel_rfl) (by kernel_rfl) (by kernel_rfl) (ei) ?_
  refine NS_nil ?_
  refine L_st _ rfl rfl rfl (by kernel_rfl) (by kernel_rfl) (e2) ?_
  refine L_nil ⟨rfl, ?_⟩
  refine D_l (l := []) (by kernel_rfl) (by kernel_rfl) Rk_nil ?_
  refine NS_nil ?_
  refine W_seq ?_
  refine W_seq ?_
  refine W_region ?_
  refine L_g 3 (by kernel_rfl) ?_
  refine L_ld _ rfl rfl (by kernel_rfl) (H2.cl.ld (o := 2) (by kernel_rfl) rfl) ?_
  refine L_g 1 (by kernel_rfl) ?_
  refine L_nil ?_
  refine W_cond true (by kernel_rfl) (fun _ => ?_) (fun e => by cases e)
  refine W_ret ?_
  repeat first | with_reducible refine then_ret ?_ | with_reducible refine blk_ret ?_
  refine done_of (v := unit_) (.inl rfl) (by kernel_rfl) ?_
  exact ⟨rfl, H2, t1.of.then t2⟩
theorem num_on {h : AH} {f sb wb g a c o : Nat} {st : Value} {fp : List Nat} {m : Fl} {s : Sh} {p q : Nat} {v : Int} (H : F0 h f sb wb st (ptr g) fp m.st m.ws) (G : S0 h g a c o fp s) (nd : [f, sb, wb, g, a, c, o].Nodup) (hq : q < m.st.length) (hc : (Fl.ctOf s ((p : Int), (q : Int))).length < 4000000000) :
    Arm.Calls Tryz.prog 170 [.int .i64 v, ptr f, wk ((p : Int), (q : Int))] h (fun r => r.1 = unit_ ∧ F0 r.2 f sb wb st (ptr g) fp (m.arrN p q v).st (m.arrN p q v).ws ∧
      S0 r.2 g a c o fp (if Fl.isRec s q && Fl.isOpen s ((p : Int), (q : Int)) then { s with ct := kset s.ct ((p : Int), (q : Int)) (Fl.ctOf s ((p : Int), (q : Int)) ++ [v]) } else s) ∧ Sm (fun k => k = sb ∨ k = c) h r.2) := by
  simp only [List.nodup_cons, List.mem_cons, List.not_mem_nil, or_false, not_or, List.nodup_nil, not_false_eq_true, and_true] at nd
  refine Calls_of_W (n := 68) (fn := Tryz.f170) (by kernel_rfl) rfl rfl (Nat.le_of_ble_eq_true rfl) trivial ⟨.inr (by simp), rfl⟩ ?_
  refine W_seq ?_
  refine W_region ?_
  refine L_nw (Al.cells [Value.int .i64 (p : Int), Value.int .i64 (q : Int)]) (.ptr) rfl rfl (by kernel_rfl) ?_
  have c1 : Cl (h.push (Al.cells [Value.int .i64 (p : Int), Value.int .i64 (q : Int)]).obj) h.next [Value.int .i64 (p : Int), Value.int .i64 (q : Int)] := Cl.new h _
  have t1 : Sm Nix h (h.push (Al.cells [Value.int .i64 (p : Int), Value.int .i64 (q : Int)]).obj) := .push h _
  have n1 : (h.push (Al.cells [Value.int .i64 (p : Int), Value.int .i64 (q : Int)]).obj).next = h.next + 1 := rfl
  generalize h.push (Al.cells [Value.int .i64 (p : Int), Value.int .i64 (q : Int)]).obj = h1 at c1 t1 n1 ⊢
  have H1 := H.ext t1
  have G1 := G.ext t1
  refine L_nil ?_
  refine W_seq ?_
  refine W_drawn (by kernel_rfl) ?_
  refine D_e (e := 11) (l := [0, 1, 2, 3, 4, 5, 6, 7, 8, 9, 10]) (s' := []) (by kernel_rfl) (by kernel_rfl) rfl (by kernel_rfl) Rk_nil ?_
  refine NS_b 3 (by kernel_rfl) ?_
  refine NS_ld _ rfl rfl (by kernel_rfl) (by kernel_rfl) (by kernel_rfl) (H1.cl.ld (o := 0) (by kernel_rfl) rfl) ?_
  refine NS_b 1 (by kernel_rfl) ?_
  refine NS_ld _ rfl rfl (by kernel_rfl) (by kernel_rfl) (by kernel_rfl) (c1.ld (o := 1) (by kernel_rfl) rfl) ?_
  obtain ⟨pa, ei, el, _, eu⟩ := stAt H1.gr hq
  obtain ⟨h2, e2, g2, t2, n2⟩ := eu (Fl.wr (m.at_ q + v))
  have H2 := H1.setSt g2 t2
  have t2 := vbS t2 H.vb
  have hsb := H1.lt _ H1.s1
  have c2 := c1.sm t2 (by have := H.lt _ H.s1; omega)
  have G2 := G1.sm t2 (by omega) (by omega) (by omega) (by omega) (fun x hx => by subst hx; exact H.s1)
  refine NS_ix _ rfl rfl (by kernel_rfl) (by kernel_rfl) (by kernel_rfl) (by kernel_rfl) (ei) ?_
  refine NS_ld _ rfl rfl (by kernel_rfl) (by kernel_rfl) (by kernel_rfl) (el) ?_
  refine NS_b 2 (by kernel_rfl) ?_
  refine NS_ix _ rfl rfl (by kernel_rfl) (by kernel_rfl) (by kernel_rfl) (by kernel_rfl) (ei) ?_
  refine NS_nil ?_
  refine L_st _ rfl rfl rfl (by kernel_rfl) (by kernel_rfl) (e2) ?_
  refine L_nil ⟨rfl, ?_⟩
  refine D_l (l := []) (by kernel_rfl) (by kernel_rfl) Rk_nil ?_
  refine NS_nil ?_
  refine W_seq ?_
  refine W_seq ?_
  refine W_region ?_
  refine L_g 3 (by kernel_rfl) ?_
  refine L_ld _ rfl rfl (by kernel_rfl) (H2.cl.ld (o := 2) (by kernel_rfl) rfl) ?_
  refine L_g 1 (by kernel_rfl) ?_
  refine L_nil ?_
  refine W_cond false (by kernel_rfl) (fun e => by cases e) (fun _ => ?_)
  refine W_skip ?_
  refine W_seq ?_
  cases hr : Fl.isRec s (q : Int)
  ·
    refine W_drawn (by kernel_rfl) ?_
    refine D_l (l := [0, 1, 2, 3, 4, 5, 6, 7, 8, 9, 10, 11, 12, 13, 14]) (by kernel_rfl) (by kernel_rfl) Rk_nil ?_
    refine NS_b 3 (by kernel_rfl) ?_
    refine NS_ld _ rfl rfl (by kernel_rfl) (by kernel_rfl) (by kernel_rfl) (H2.cl.ld (o := 2) (by kernel_rfl) rfl) ?_
    refine NS_b 2 (by kernel_rfl) ?_
    refine NS_ld _ rfl rfl (by kernel_rfl) (by kernel_rfl) (by kernel_rfl) (G2.cl.ld (o := 0) (by kernel_rfl) rfl) ?_
    refine NS_b 1 (by kernel_rfl) ?_
    refine NS_ld _ rfl rfl (by kernel_rfl) (by kernel_rfl) (by kernel_rfl) (c2.ld (o := 1) (by kernel_rfl) rfl) ?_
    refine NS_lk _ rfl rfl (by kernel_rfl) (by kernel_rfl) (by kernel_rfl) (by kernel_rfl) (lookS2r G2.ma (q : Int) hr) ?_
    refine NS_b 5 (by kernel_rfl) ?_
    refine NS_nil ?_
    refine W_seq ?_
    refine W_drawn (by kernel_rfl) ?_
    refine D_l (l := [0, 1, 2, 3, 4, 5, 6, 7, 8, 9, 10, 11]) (by kernel_rfl) (by kernel_rfl) Rk_nil ?_
    refine NS_b 12 (by kernel_rfl) ?_
    refine NS_nil ?_
    refine W_cond false (by kernel_rfl) (fun e => by cases e) (fun _ => ?_)
    refine W_skip ?_
    refine done_of (v := unit_) (.inr rfl) (by kernel_rfl) ?_
    exact ⟨rfl, H2, G2, (t1.of.then t2).mono (fun x hx => .inl hx)⟩
  ·
    refine W_drawn (by kernel_rfl) ?_
    refine D_l (l := [0, 1, 2, 3, 4, 5, 6, 7, 8, 9, 10, 11, 12, 13, 14]) (by kernel_rfl) (by kernel_rfl) Rk_nil ?_
    refine NS_b 3 (by kernel_rfl) ?_
    refine NS_ld _ rfl rfl (by kernel_rfl) (by kernel_rfl) (by kernel_rfl) (H2.cl.ld (o := 2) (by kernel_rfl) rfl) ?_
    refine NS_b 2 (by kernel_rfl) ?_
    refine NS_ld _ rfl rfl (by kernel_rfl) (by kernel_rfl) (by kernel_rfl) (G2.cl.ld (o := 0) (by kernel_rfl) rfl) ?_
    refine NS_b 1 (by kernel_rfl) ?_
    refine NS_ld _ rfl rfl (by kernel_rfl) (by kernel_rfl) (by kernel_rfl) (c2.ld (o := 1) (by kernel_rfl) rfl) ?_
    refine NS_lk _ rfl rfl (by kernel_rfl) (by kernel_rfl) (by kernel_rfl) (by kernel_rfl) (lookS2r G2.ma (q : Int) hr) ?_
    refine NS_b 5 (by kernel_rfl) ?_
    refine NS_nil ?_
    refine W_seq ?_
    refine W_drawn (by kernel_rfl) ?_
    refine D_l (l := [0, 1, 2, 3, 4, 5, 6, 7, 8, 9, 10, 11]) (by kernel_rfl) (by kernel_rfl) Rk_nil ?_
    refine NS_b 5 (by kernel_rfl) ?_
    refine NS_ld _ rfl rfl (by kernel_rfl) (by kernel_rfl) (by kernel_rfl) (H2.cl.ld (o := 2) (by kernel_rfl) rfl) ?_
    refine NS_b 2 (by kernel_rfl) ?_
    refine NS_ld _ rfl rfl (by kernel_rfl) (by kernel_rfl) (by kernel_rfl) (G2.cl.ld (o := 2) (by kernel_rfl) rfl) ?_
    refine NS_ld _ rfl rfl (by kernel_rfl) (by kernel_rfl) (by kernel_rfl) (c2.ldS (k := 2) (by kernel_rfl) (Nat.le_refl _)) ?_
    refine NS_lk _ rfl rfl (by kernel_rfl) (by kernel_rfl) (by kernel_rfl) (by kernel_rfl) (lookO G2.mo ((p : Int), (q : Int))) ?_
    refine NS_b 1 (by kernel_rfl) ?_
    refine NS_nil ?_
    refine W_cond (Fl.isOpen s ((p : Int), (q : Int))) (by kernel_rfl) (fun hb => ?_) (fun hb => ?_)
    ·
      refine W_drawn (by kernel_rfl) ?_
      refine D_e (e := 18) (l := [0, 1, 2, 3, 4, 5, 6, 7, 8, 9, 10, 11, 12, 13, 14, 15, 16, 17]) (s' := [0, 1, 2, 3, 4, 5, 6, 7]) (by kernel_rfl) (by kernel_rfl) rfl (by kernel_rfl) Rk_nil ?_
      refine NS_b 3 (by kernel_rfl) ?_
      refine NS_ld _ rfl rfl (by kernel_rfl) (by kernel_rfl) (by kernel_rfl) (H2.cl.ld (o := 2) (by kernel_rfl) rfl) ?_
      refine NS_b 2 (by kernel_rfl) ?_
      refine NS_ld _ rfl rfl (by kernel_rfl) (by kernel_rfl) (by kernel_rfl) (G2.cl.ld (o := 1) (by kernel_rfl) rfl) ?_
      refine NS_ld _ rfl rfl (by kernel_rfl) (by kernel_rfl) (by kernel_rfl) (c2.ldS (k := 2) (by kernel_rfl) (Nat.le_refl _)) ?_
      refine NS_b 3 (by kernel_rfl) ?_
      refine NS_ld _ rfl rfl (by kernel_rfl) (by kernel_rfl) (by kernel_rfl) (H2.cl.ld (o := 2) (by kernel_rfl) rfl) ?_
      refine NS_b 2 (by kernel_rfl) ?_
      refine NS_ld _ rfl rfl (by kernel_rfl) (by kernel_rfl) (by kernel_rfl) (G2.cl.ld (o := 1) (by kernel_rfl) rfl) ?_
      refine NS_ld _ rfl rfl (by kernel_rfl) (by kernel_rfl) (by kernel_rfl) (c2.ldS (k := 2) (by kernel_rfl) (Nat.le_refl _)) ?_
      obtain ⟨s1, es, gs, bs⟩ := lookC G2.mc ((p : Int), (q : Int))
      refine NS_lk _ rfl rfl (by kernel_rfl) (by kernel_rfl) (by kernel_rfl) (by kernel_rfl) (es) ?_
      refine NS_b 1 (by kernel_rfl) ?_
      refine NS_nil ?_
      refine L_c rfl rfl (by kernel_rfl) (with_iv (x := v) gs iv_one (by show (Fl.ctOf s _).length < _; omega)) ?_
      rintro v3 h3 ⟨s3, ev, g3, t3, nb⟩
      dsimp only at ev g3 t3 nb
      subst ev
      have H3 := H2.ext t3
      have G3 := G2.ext t3
      have hq3 : Ri h3 fp (.agg ⟨[s3]⟩) (Fl.ctOf s ((p : Int), (q : Int)) ++ [v]) := ⟨s3, rfl, by simpa [iv, Fl.ctOf] using g3, fun b hb hm => by have := nb b hb; have := H2.lt b hm; omega⟩
      obtain ⟨h4, e4, m4, t4, n4⟩ := G3.mc.update u135 kWay ((p : Int), (q : Int)) hq3
      refine L_nil ⟨rfl, ?_⟩
      refine D_e (e := 19) (l := []) (s' := []) (by kernel_rfl) (by kernel_rfl) rfl (by kernel_rfl) (Rk_1 rfl rfl (Rk_1 rfl rfl (Rk_1 rfl rfl (Rk_ld _ rfl rfl rfl (by kernel_rfl) (H3.cl.ld (o := 2) (by kernel_rfl) rfl) (by kernel_rfl) (Rk_1 rfl rfl (Rk_1 rfl rfl (Rk_ld _ rfl rfl rfl (by kernel_rfl) (G3.cl.ld (o := 1) (by kernel_rfl) rfl) (by kernel_rfl) (Rk_ld _ rfl rfl rfl (by kernel_rfl) ((c2.ext t3).ldS (k := 2) (by kernel_rfl) (Nat.le_refl _)) (by kernel_rfl) Rk_nil)))))))) ?_
      refine NS_nil ?_
      refine L_mu _ rfl rfl rfl (by kernel_rfl) (by kernel_rfl) (by kernel_rfl) (e4) ?_
      refine L_nil ⟨rfl, ?_⟩
      refine D_l (l := []) (by kernel_rfl) (by kernel_rfl) Rk_nil ?_
      refine NS_nil ?_
      refine done_of (v := unit_) (.inr rfl) (by kernel_rfl) ?_
      refine ⟨rfl, H3.sm t4 (by omega) (by omega) (by omega) (fun x hx => by subst hx; exact G.c1), ?_, ((t1.of.then t2).ext t3 |>.mono (fun x hx => .inl hx)).then (t4.mono (fun x hx => .inr hx))⟩
      show S0 h4 _ _ _ _ _ (if (true && Fl.isOpen s ((p : Int), (q : Int))) = true then _ else _)
      rw [hb, Bool.and_true, if_pos rfl]
      exact ⟨G3.cl.sm t4 (by omega), G3.ma.sm t4 (by omega) (fun _ _ r => r), m4.mono (fun _ _ r => r.sm t4 (fun x hx => by subst hx; exact G.c1)), G3.mo.sm t4 (by omega) (fun _ _ r => r), G.g1, G.a1, G.c1, G.o1⟩
    ·
      refine W_skip ?_
      refine done_of (v := unit_) (.inr rfl) (by kernel_rfl) ?_
      refine ⟨rfl, H2, ?_, (t1.of.then t2).mono (fun x hx => .inl hx)⟩
      show S0 h2 _ _ _ _ _ (if (true && Fl.isOpen s ((p : Int), (q : Int))) = true then _ else _)
      rw [hb, Bool.and_false, if_neg (by decide)]
      exact G2
end
end Go.Proofs.YtdaedcoolcicoaaGreat
namespace Go.Proofs.YtdaedcoolcicoaaGreat
noncomputable section
open Go Go.X Go.Arm
theorem mark_on {h : AH} {f sb wb g a c o : Nat} {st : Value} {fp : List Nat} {m : Fl} {s : Sh} {p q K : Nat} (H : F0 h f sb wb st (ptr g) fp m.st m.ws) (G : S0 h g a c o fp s) (nd : [f, sb, wb, g, a, c, o].Nodup) (hs : m.sh = some s) (hq : q < m.st.length) (hn : m.st.length < 1000000) (hle : m.le K) (hK : K < 4000000000) :
    Arm.Calls Tryz.prog 171 [.agg ⟨[]⟩, ptr f, wk ((p : Int), (q : Int))] h (fun r => r.1 = unit_ ∧ F0 r.2 f sb wb st (ptr g) fp (m.arrM s p q).st (m.arrM s p q).ws ∧
      (∃ s', (m.arrM s p q).sh = some s' ∧ S0 r.2 g a c o fp s') ∧ Sm (fun k => k = wb ∨ k = a ∨ k = o) h r.2) := by
  have nd0 := nd
  simp only [List.nodup_cons, List.mem_cons, List.not_mem_nil, or_false, not_or, List.nodup_nil, not_false_eq_true, and_true] at nd
  refine Calls_of_W (n := 35) (fn := Tryz.f171) (by kernel_rfl) rfl rfl (Nat.le_of_ble_eq_true rfl) trivial ⟨.inr (by simp), rfl⟩ ?_
  refine W_seq ?_
  refine W_region ?_
  refine L_nw (Al.cells []) (.ptr) rfl rfl (by kernel_rfl) ?_
  have c1 : Cl (h.push (Al.cells []).obj) h.next [] := Cl.new h _
  have t1 : Sm Nix h (h.push (Al.cells []).obj) := .push h _
  have n1 : (h.push (Al.cells []).obj).next = h.next + 1 := rfl
  generalize h.push (Al.cells []).obj = h1 at c1 t1 n1 ⊢
  refine L_nw (Al.cells [Value.int .i64 (p : Int), Value.int .i64 (q : Int)]) (.ptr) rfl rfl (by kernel_rfl) ?_
  have c2 : Cl (h1.push (Al.cells [Value.int .i64 (p : Int), Value.int .i64 (q : Int)]).obj) h1.next [Value.int .i64 (p : Int), Value.int .i64 (q : Int)] := Cl.new h1 _
  have t2 : Sm Nix h1 (h1.push (Al.cells [Value.int .i64 (p : Int), Value.int .i64 (q : Int)]).obj) := .push h1 _
  have n2 : (h1.push (Al.cells [Value.int .i64 (p : Int), Value.int .i64 (q : Int)]).obj).next = h1.next + 1 := rfl
  generalize h1.push (Al.cells [Value.int .i64 (p : Int), Value.int .i64 (q : Int)]).obj = h2 at c2 t2 n2 ⊢
  have H2 := (H.ext t1).ext t2
  have G2 := (G.ext t1).ext t2
  refine L_nil ?_
  refine W_seq ?_
  refine W_seq ?_
  cases hr : Fl.isRec s (q : Int)
  ·
    refine W_drawn (by kernel_rfl) ?_
    refine D_l (l := [0, 1, 2, 3, 4, 5, 6, 7, 8, 9, 10, 11, 12, 13, 14]) (by kernel_rfl) (by kernel_rfl) Rk_nil ?_
    refine NS_b 3 (by kernel_rfl) ?_
    refine NS_ld _ rfl rfl (by kernel_rfl) (by kernel_rfl) (by kernel_rfl) (H2.cl.ld (o := 2) (by kernel_rfl) rfl) ?_
    refine NS_b 2 (by kernel_rfl) ?_
    refine NS_ld _ rfl rfl (by kernel_rfl) (by kernel_rfl) (by kernel_rfl) (G2.cl.ld (o := 0) (by kernel_rfl) rfl) ?_
    refine NS_b 1 (by kernel_rfl) ?_
    refine NS_ld _ rfl rfl (by kernel_rfl) (by kernel_rfl) (by kernel_rfl) (c2.ld (o := 1) (by kernel_rfl) rfl) ?_
    refine NS_lk _ rfl rfl (by kernel_rfl) (by kernel_rfl) (by kernel_rfl) (by kernel_rfl) (lookS2r G2.ma (q : Int) hr) ?_
    refine NS_b 5 (by kernel_rfl) ?_
    refine NS_nil ?_
    refine W_seq ?_
    refine W_region ?_
    refine L_g 2 (by kernel_rfl) ?_
    refine L_nil ?_
    refine W_cond true (by kernel_rfl) (fun _ => ?_) (fun e => by cases e)
    refine W_region ?_
    refine L_g 2 (by kernel_rfl) ?_
    refine L_ld _ rfl rfl (by kernel_rfl) (c2.ld (o := 1) (by kernel_rfl) rfl) ?_
    refine L_c rfl rfl (by kernel_rfl) (record_ok H2 G2 nd0 hq hn hle hK) ?_
    rintro v3 h3 ⟨e3, H3, G3, t3⟩
    dsimp only at e3 H3 G3 t3
    have c3 := c2.sm t3 (by have := H.lt _ H.w1; have := H.lt _ G.a1; omega)
    refine L_nil ?_
    refine W_drawn (by kernel_rfl) ?_
    refine D_e (e := 8) (l := [0, 1, 2, 3, 4, 5, 6, 7]) (s' := []) (by kernel_rfl) (by kernel_rfl) rfl (by kernel_rfl) Rk_nil ?_
    refine NS_b 3 (by kernel_rfl) ?_
    refine NS_ld _ rfl rfl (by kernel_rfl) (by kernel_rfl) (by kernel_rfl) (H3.cl.ld (o := 2) (by kernel_rfl) rfl) ?_
    refine NS_b 2 (by kernel_rfl) ?_
    refine NS_ld _ rfl rfl (by kernel_rfl) (by kernel_rfl) (by kernel_rfl) (G3.cl.ld (o := 2) (by kernel_rfl) rfl) ?_
    refine NS_ld _ rfl rfl (by kernel_rfl) (by kernel_rfl) (by kernel_rfl) (c3.ldS (k := 2) (by kernel_rfl) (Nat.le_refl _)) ?_
    refine NS_nil ?_
    obtain ⟨h4, e4, m4, t4, n4⟩ := G3.mo.delete (P := Tryz.prog) u136 kWay ((p : Int), (q : Int))
    refine L_bi _ h4 rfl rfl (by kernel_rfl) (vs := [.map (some o), wk ((p : Int), (q : Int))]) (by kernel_rfl) (bi_delete e4) ?_
    refine L_nil ⟨rfl, ?_⟩
    refine D_l (l := []) (by kernel_rfl) (by kernel_rfl) Rk_nil ?_
    refine NS_nil ?_
    refine done_of (v := unit_) (.inr rfl) (by kernel_rfl) ?_
    have em : m.arrM s p q = (m.recd s q).shut ((p : Int), (q : Int)) := by unfold Fl.arrM; rw [if_neg (by rw [hr]; decide)]
    rw [em]
    refine ⟨rfl, ?_, ⟨{ s with st := kset s.st (q : Int) (m.at_ q), op := kdel s.op ((p : Int), (q : Int)) }, by rw [Fl.sh_shut, Fl.sh_recd]; rfl, ?_⟩, ?_⟩
    · have : ((m.recd s q).shut ((p : Int), (q : Int))).st = m.st := by rw [Fl.st_shut, Fl.st_recd]
      rw [this]
      exact H3.sm t4 (by omega) (by omega) (by omega) (fun x hx => by subst hx; exact G.o1)
    · exact ⟨G3.cl.sm t4 (by omega), G3.ma.sm t4 (by omega) (fun _ _ r => r), G3.mc.sm t4 (by omega) (fun _ _ r => r.sm t4 (fun x hx => by subst hx; exact G.o1)), m4, G.g1, G.a1, G.c1, G.o1⟩
    · exact ((t1.ext t2).of.then (t3.mono (fun x hx => by show x = wb ∨ x = a ∨ x = o; omega))).then (t4.mono (fun x hx => .inr (.inr hx)))
  ·
    refine W_drawn (by kernel_rfl) ?_
    refine D_l (l := [0, 1, 2, 3, 4, 5, 6, 7, 8, 9, 10, 11, 12, 13, 14]) (by kernel_rfl) (by kernel_rfl) Rk_nil ?_
    refine NS_b 3 (by kernel_rfl) ?_
    refine NS_ld _ rfl rfl (by kernel_rfl) (by kernel_rfl) (by kernel_rfl) (H2.cl.ld (o := 2) (by kernel_rfl) rfl) ?_
    refine NS_b 2 (by kernel_rfl) ?_
    refine NS_ld _ rfl rfl (by kernel_rfl) (by kernel_rfl) (by kernel_rfl) (G2.cl.ld (o := 0) (by kernel_rfl) rfl) ?_
    refine NS_b 1 (by kernel_rfl) ?_
    refine NS_ld _ rfl rfl (by kernel_rfl) (by kernel_rfl) (by kernel_rfl) (c2.ld (o := 1) (by kernel_rfl) rfl) ?_
    refine NS_lk _ rfl rfl (by kernel_rfl) (by kernel_rfl) (by kernel_rfl) (by kernel_rfl) (lookS2r G2.ma (q : Int) hr) ?_
    refine NS_b 5 (by kernel_rfl) ?_
    refine NS_nil ?_
    refine W_seq ?_
    refine W_region ?_
    refine L_g 2 (by kernel_rfl) ?_
    refine L_nil ?_
    refine W_cond false (by kernel_rfl) (fun e => by cases e) (fun _ => ?_)
    refine W_skip ?_
    refine W_drawn (by kernel_rfl) ?_
    refine D_e (e := 8) (l := [0, 1, 2, 3, 4, 5, 6, 7]) (s' := []) (by kernel_rfl) (by kernel_rfl) rfl (by kernel_rfl) Rk_nil ?_
    refine NS_b 3 (by kernel_rfl) ?_
    refine NS_ld _ rfl rfl (by kernel_rfl) (by kernel_rfl) (by kernel_rfl) (H2.cl.ld (o := 2) (by kernel_rfl) rfl) ?_
    refine NS_b 2 (by kernel_rfl) ?_
    refine NS_ld _ rfl rfl (by kernel_rfl) (by kernel_rfl) (by kernel_rfl) (G2.cl.ld (o := 2) (by kernel_rfl) rfl) ?_
    refine NS_ld _ rfl rfl (by kernel_rfl) (by kernel_rfl) (by kernel_rfl) (c2.ldS (k := 2) (by kernel_rfl) (Nat.le_refl _)) ?_
    refine NS_nil ?_
    obtain ⟨h4, e4, m4, t4, n4⟩ := G2.mo.delete (P := Tryz.prog) u136 kWay ((p : Int), (q : Int))
    refine L_bi _ h4 rfl rfl (by kernel_rfl) (vs := [.map (some o), wk ((p : Int), (q : Int))]) (by kernel_rfl) (bi_delete e4) ?_
    refine L_nil ⟨rfl, ?_⟩
    refine D_l (l := []) (by kernel_rfl) (by kernel_rfl) Rk_nil ?_
    refine NS_nil ?_
    refine done_of (v := unit_) (.inr rfl) (by kernel_rfl) ?_
    have em : m.arrM s p q = m.shut ((p : Int), (q : Int)) := by unfold Fl.arrM; rw [if_pos (by rw [hr])]
    rw [em]
    refine ⟨rfl, H2.sm t4 (by omega) (by omega) (by omega) (fun x hx => by subst hx; exact G.o1), ⟨{ s with op := kdel s.op ((p : Int), (q : Int)) }, by rw [Fl.sh_shut, hs]; rfl, ?_⟩, ?_⟩
    · exact ⟨G2.cl.sm t4 (by omega), G2.ma.sm t4 (by omega) (fun _ _ r => r), G2.mc.sm t4 (by omega) (fun _ _ r => r.sm t4 (fun x hx => by subst hx; exact G.o1)), m4, G.g1, G.a1, G.c1, G.o1⟩
    · exact (t1.ext t2).of.then (t4.mono (fun x hx => .inr (.inr hx)))
end
end Go.Proofs.YtdaedcoolcicoaaGreat
namespace Go.Proofs.YtdaedcoolcicoaaGreat
noncomputable section
open Go Go.X Go.Arm
theorem dlv_nil {h : AH} {f sb wb : Nat} {st sv : Value} {fp : List Nat} {m : Fl} {p q : Nat} (H : F0 h f sb wb st sv fp m.st m.ws) (hp : p < m.st.length) (hq : q < m.st.length) (hne : p ≠ q) (hm : m.q ((p : Int), (q : Int)) = []) :
    Arm.Calls Tryz.prog 44 [ptr f, .int .i64 p, .int .i64 q] h (fun x => x.1 = .tuple ⟨[.bool false, .int .i64 0]⟩ ∧ Sm Nix h x.2) := by
  refine Calls_of_W (n := 46) (fn := Tryz.f44) (by kernel_rfl) rfl rfl (Nat.le_of_ble_eq_true rfl) trivial ⟨.inr (by simp), rfl⟩ ?_
  refine W_seq ?_
  refine W_region ?_
  refine L_g 2 (by kernel_rfl) ?_
  refine L_nil ?_
  refine W_seq ?_
  refine W_seq ?_
  refine W_region ?_
  refine L_g 3 (by kernel_rfl) ?_
  refine L_nw (Al.cells [Value.int .i64 (p : Int), Value.int .i64 (q : Int)]) (.sl 2 2) rfl rfl (by kernel_rfl) ?_
  have c1 : Cl (h.push (Al.cells [Value.int .i64 (p : Int), Value.int .i64 (q : Int)]).obj) h.next [Value.int .i64 (p : Int), Value.int .i64 (q : Int)] := Cl.new h _
  have t1 : Sm Nix h (h.push (Al.cells [Value.int .i64 (p : Int), Value.int .i64 (q : Int)]).obj) := .push h _
  have n1 : (h.push (Al.cells [Value.int .i64 (p : Int), Value.int .i64 (q : Int)]).obj).next = h.next + 1 := rfl
  generalize h.push (Al.cells [Value.int .i64 (p : Int), Value.int .i64 (q : Int)]).obj = h1 at c1 t1 n1 ⊢
  have H1 := H.ext t1
  refine L_c rfl rfl (by kernel_rfl) (check2 (p := (p : Int)) (q := (q : Int)) H1 c1) ?_
  rintro v9 h9 e9
  cases e9
  rw [chk2_ok hp hq hne]
  refine L_g 1 (by kernel_rfl) ?_
  refine L_nil ?_
  refine W_seq ?_
  refine W_region ?_
  refine L_g 2 (by kernel_rfl) ?_
  refine L_nil ?_
  refine W_cond false (by kernel_rfl) (fun e => by cases e) (fun _ => ?_)
  refine W_skip ?_
  refine W_seq ?_
  refine W_region ?_
  refine L_g 3 (by kernel_rfl) ?_
  refine L_nw (Al.cells [Value.int .i64 0, Value.int .i64 0]) (.ptr) rfl rfl (by kernel_rfl) ?_
  have c3 : Cl (h1.push (Al.cells [Value.int .i64 0, Value.int .i64 0]).obj) h1.next [Value.int .i64 0, Value.int .i64 0] := Cl.new h1 _
  have t3 : Sm Nix h1 (h1.push (Al.cells [Value.int .i64 0, Value.int .i64 0]).obj) := .push h1 _
  have n3 : (h1.push (Al.cells [Value.int .i64 0, Value.int .i64 0]).obj).next = h1.next + 1 := rfl
  generalize h1.push (Al.cells [Value.int .i64 0, Value.int .i64 0]).obj = h3 at c3 t3 n3 ⊢
  obtain ⟨h4, e4, c4, t4, n4⟩ := c3.storeS (P := Tryz.prog) (T := 163) (v := wk ((p : Int), (q : Int))) (cs := [Value.int .i64 (p : Int), Value.int .i64 (q : Int)]) (by kernel_rfl) rfl rfl (fun x hx => by simp only [List.mem_cons, List.not_mem_nil, or_false] at hx; rcases hx with rfl | rfl <;> rfl)
  have T4 : Sm Nix h1 h4 := t3.trans t4 (fun x hx => .inr (by omega))
  have H4 := H1.ext T4
  obtain ⟨s1, es, gs, bs⟩ := lookQ H4.mp ((p : Int), (q : Int))
  rw [show (kget m.ws ((p : Int), (q : Int))).getD [] = m.q ((p : Int), (q : Int)) from rfl, hm] at gs
  refine L_st _ rfl rfl rfl (by kernel_rfl) (by kernel_rfl) (e4) ?_
  refine L_nil ?_
  refine W_seq ?_
  refine W_drawn (by kernel_rfl) ?_
  refine D_l (l := [0, 1, 2, 3, 4, 5, 6, 7]) (by kernel_rfl) (by kernel_rfl) Rk_nil ?_
  refine NS_b 3 (by kernel_rfl) ?_
  refine NS_ld _ rfl rfl (by kernel_rfl) (by kernel_rfl) (by kernel_rfl) (H4.cl.ld (o := 1) (by kernel_rfl) rfl) ?_
  refine NS_ld _ rfl rfl (by kernel_rfl) (by kernel_rfl) (by kernel_rfl) (c4.ldS (k := 2) (by kernel_rfl) (Nat.le_refl _)) ?_
  refine NS_lk _ rfl rfl (by kernel_rfl) (by kernel_rfl) (by kernel_rfl) (by kernel_rfl) (es) ?_
  refine NS_b 2 (by kernel_rfl) ?_
  refine NS_nil ?_
  refine W_seq ?_
  refine W_seq ?_
  refine W_region ?_
  refine L_g 1 (by kernel_rfl) ?_
  refine L_ln _ rfl rfl (by kernel_rfl) (gs.lenV u128) ?_
  refine L_i (0) (0) (.bool true) rfl rfl (by kernel_rfl) (by kernel_rfl) rfl (by simp) ?_
  refine L_nil ?_
  refine W_cond true (by kernel_rfl) (fun _ => ?_) (fun e => by cases e)
  refine W_seq ?_
  refine W_region ?_
  refine L_g 2 (by kernel_rfl) ?_
  refine L_nil ?_
  refine W_ret ?_
  repeat first | with_reducible refine then_ret ?_ | with_reducible refine blk_ret ?_
  refine done_of (v := .tuple ⟨[.bool false, .int .i64 0]⟩) (.inl rfl) (by kernel_rfl) ?_
  exact ⟨rfl, t1.ext T4⟩
theorem dlv_num {h : AH} {f sb wb : Nat} {st sv : Value} {fp : List Nat} {m : Fl} {p q : Nat} {v : Int} {r : List Th} {R : Value × AH → Prop} (H : F0 h f sb wb st sv fp m.st m.ws) (hp : p < m.st.length) (hq : q < m.st.length) (hne : p ≠ q) (hm : m.q ((p : Int), (q : Int)) = .num v :: r) (hA : ∀ h', F0 h' f sb wb st sv fp m.st (kset m.ws ((p : Int), (q : Int)) r) → Sm (fun k => k = wb) h h' → Arm.Calls Tryz.prog 170 [.int .i64 v, ptr f, wk ((p : Int), (q : Int))] h' R) :
    Arm.Calls Tryz.prog 44 [ptr f, .int .i64 p, .int .i64 q] h (fun x => x.1 = .tuple ⟨[.bool true, .int .i64 0]⟩ ∧ ∃ u, R (u, x.2)) := by
  refine Calls_of_W (n := 46) (fn := Tryz.f44) (by kernel_rfl) rfl rfl (Nat.le_of_ble_eq_true rfl) trivial ⟨.inr (by simp), rfl⟩ ?_
  refine W_seq ?_
  refine W_region ?_
  refine L_g 2 (by kernel_rfl) ?_
  refine L_nil ?_
  refine W_seq ?_
  refine W_seq ?_
  refine W_region ?_
  refine L_g 3 (by kernel_rfl) ?_
  refine L_nw (Al.cells [Value.int .i64 (p : Int), Value.int .i64 (q : Int)]) (.sl 2 2) rfl rfl (by kernel_rfl) ?_
  have c1 : Cl (h.push (Al.cells [Value.int .i64 (p : Int), Value.int .i64 (q : Int)]).obj) h.next [Value.int .i64 (p : Int), Value.int .i64 (q : Int)] := Cl.new h _
  have t1 : Sm Nix h (h.push (Al.cells [Value.int .i64 (p : Int), Value.int .i64 (q : Int)]).obj) := .push h _
  have n1 : (h.push (Al.cells [Value.int .i64 (p : Int), Value.int .i64 (q : Int)]).obj).next = h.next + 1 := rfl
  generalize h.push (Al.cells [Value.int .i64 (p : Int), Value.int .i64 (q : Int)]).obj = h1 at c1 t1 n1 ⊢
  have H1 := H.ext t1
  refine L_c rfl rfl (by kernel_rfl) (check2 (p := (p : Int)) (q := (q : Int)) H1 c1) ?_
  rintro v9 h9 e9
  cases e9
  rw [chk2_ok hp hq hne]
  refine L_g 1 (by kernel_rfl) ?_
  refine L_nil ?_
  refine W_seq ?_
  refine W_region ?_
  refine L_g 2 (by kernel_rfl) ?_
  refine L_nil ?_
  refine W_cond false (by kernel_rfl) (fun e => by cases e) (fun _ => ?_)
  refine W_skip ?_
  refine W_seq ?_
  refine W_region ?_
  refine L_g 3 (by kernel_rfl) ?_
  refine L_nw (Al.cells [Value.int .i64 0, Value.int .i64 0]) (.ptr) rfl rfl (by kernel_rfl) ?_
  have c3 : Cl (h1.push (Al.cells [Value.int .i64 0, Value.int .i64 0]).obj) h1.next [Value.int .i64 0, Value.int .i64 0] := Cl.new h1 _
  have t3 : Sm Nix h1 (h1.push (Al.cells [Value.int .i64 0, Value.int .i64 0]).obj) := .push h1 _
  have n3 : (h1.push (Al.cells [Value.int .i64 0, Value.int .i64 0]).obj).next = h1.next + 1 := rfl
  generalize h1.push (Al.cells [Value.int .i64 0, Value.int .i64 0]).obj = h3 at c3 t3 n3 ⊢
  obtain ⟨h4, e4, c4, t4, n4⟩ := c3.storeS (P := Tryz.prog) (T := 163) (v := wk ((p : Int), (q : Int))) (cs := [Value.int .i64 (p : Int), Value.int .i64 (q : Int)]) (by kernel_rfl) rfl rfl (fun x hx => by simp only [List.mem_cons, List.not_mem_nil, or_false] at hx; rcases hx with rfl | rfl <;> rfl)
  have T4 : Sm Nix h1 h4 := t3.trans t4 (fun x hx => .inr (by omega))
  have H4 := H1.ext T4
  obtain ⟨s1, es, gs, bs⟩ := lookQ H4.mp ((p : Int), (q : Int))
  rw [show (kget m.ws ((p : Int), (q : Int))).getD [] = m.q ((p : Int), (q : Int)) from rfl, hm] at gs
  refine L_st _ rfl rfl rfl (by kernel_rfl) (by kernel_rfl) (e4) ?_
  refine L_nil ?_
  refine W_seq ?_
  refine W_drawn (by kernel_rfl) ?_
  refine D_l (l := [0, 1, 2, 3, 4, 5, 6, 7]) (by kernel_rfl) (by kernel_rfl) Rk_nil ?_
  refine NS_b 3 (by kernel_rfl) ?_
  refine NS_ld _ rfl rfl (by kernel_rfl) (by kernel_rfl) (by kernel_rfl) (H4.cl.ld (o := 1) (by kernel_rfl) rfl) ?_
  refine NS_ld _ rfl rfl (by kernel_rfl) (by kernel_rfl) (by kernel_rfl) (c4.ldS (k := 2) (by kernel_rfl) (Nat.le_refl _)) ?_
  refine NS_lk _ rfl rfl (by kernel_rfl) (by kernel_rfl) (by kernel_rfl) (by kernel_rfl) (es) ?_
  refine NS_b 2 (by kernel_rfl) ?_
  refine NS_nil ?_
  refine W_seq ?_
  refine W_seq ?_
  refine W_region ?_
  refine L_g 1 (by kernel_rfl) ?_
  refine L_ln _ rfl rfl (by kernel_rfl) (gs.lenV u128) ?_
  refine L_i (((r.length + 1 : Nat) : Int)) (0) (.bool false) rfl rfl (by kernel_rfl) (by kernel_rfl) rfl (by simp; omega) ?_
  refine L_nil ?_
  refine W_cond false (by kernel_rfl) (fun e => by cases e) (fun _ => ?_)
  refine W_skip ?_
  refine W_seq ?_
  refine W_drawn (by kernel_rfl) ?_
  refine D_e (e := 8) (l := [0, 1, 2, 3, 4, 5, 6, 7]) (s' := []) (by kernel_rfl) (by kernel_rfl) rfl (by kernel_rfl) Rk_nil ?_
  refine NS_b 3 (by kernel_rfl) ?_
  refine NS_ld _ rfl rfl (by kernel_rfl) (by kernel_rfl) (by kernel_rfl) (H4.cl.ld (o := 1) (by kernel_rfl) rfl) ?_
  refine NS_ld _ rfl rfl (by kernel_rfl) (by kernel_rfl) (by kernel_rfl) (c4.ldS (k := 2) (by kernel_rfl) (Nat.le_refl _)) ?_
  refine NS_b 1 (by kernel_rfl) ?_
  obtain ⟨s2, es2, g2, b2⟩ := Gr.tail (P := Tryz.prog) u128 s132 gs
  obtain ⟨a2, k2, f2⟩ := g2.sd.form
  subst f2
  have hq2 : Rq h4 fp (.agg ⟨[.slice a2 r.length k2]⟩) r := ⟨_, rfl, g2, fun b hb => bs b (by rw [← b2]; exact hb)⟩
  obtain ⟨h5, e5, m5, t5, n5⟩ := H4.mp.update u119 kWay ((p : Int), (q : Int)) hq2
  have H5 := H4.setWs m5 t5
  have gs5 := gs.sm t5 (fun b hb e => bs b hb (by subst e; exact H4.w1))
  obtain ⟨pb, xb, ei, ex, el, _, _⟩ := gs5.elem (P := Tryz.prog) u128 s132 (by kernel_rfl) (Nat.succ_pos _) .i64
  cases ex
  refine NS_sl _ rfl rfl (by kernel_rfl) (by kernel_rfl) (by kernel_rfl) (by kernel_rfl) (by kernel_rfl) (by kernel_rfl) (es2) ?_
  refine NS_b 1 (by kernel_rfl) ?_
  refine NS_nil ?_
  refine L_mu _ rfl rfl rfl (by kernel_rfl) (by kernel_rfl) (by kernel_rfl) (e5) ?_
  refine L_nil ⟨rfl, ?_⟩
  refine D_l (l := []) (by kernel_rfl) (by kernel_rfl) Rk_nil ?_
  refine NS_nil ?_
  refine W_seq ?_
  refine W_drawn (by kernel_rfl) ?_
  refine D_e (e := 5) (l := [0, 1, 2, 3, 4]) (s' := []) (by kernel_rfl) (by kernel_rfl) rfl (by kernel_rfl) Rk_nil ?_
  refine NS_b 1 (by kernel_rfl) ?_
  refine NS_ix _ rfl rfl (by kernel_rfl) (by kernel_rfl) (by kernel_rfl) (by kernel_rfl) (ei) ?_
  refine NS_ld _ rfl rfl (by kernel_rfl) (by kernel_rfl) (by kernel_rfl) (el) ?_
  refine NS_b 1 (by kernel_rfl) ?_
  refine NS_ld _ rfl rfl (by kernel_rfl) (by kernel_rfl) (by kernel_rfl) ((c4.sm t5 (by have := H.lt _ H.w1; omega)).ldS (k := 2) (by kernel_rfl) (Nat.le_refl _)) ?_
  refine NS_nil ?_
  refine L_c rfl rfl (by kernel_rfl) (hA h5 H5 ((t1.ext T4).of.then t5)) ?_
  rintro u6 h6 hR6
  refine L_nil ⟨rfl, ?_⟩
  refine D_l (l := []) (by kernel_rfl) (by kernel_rfl) Rk_nil ?_
  refine NS_nil ?_
  refine W_seq ?_
  refine W_region ?_
  refine L_g 2 (by kernel_rfl) ?_
  refine L_nil ?_
  refine W_ret ?_
  repeat first | with_reducible refine then_ret ?_ | with_reducible refine blk_ret ?_
  refine done_of (v := .tuple ⟨[.bool true, .int .i64 0]⟩) (.inl rfl) (by kernel_rfl) ?_
  exact ⟨rfl, u6, hR6⟩
theorem dlv_mark {h : AH} {f sb wb : Nat} {st sv : Value} {fp : List Nat} {m : Fl} {p q : Nat} {r : List Th} {R : Value × AH → Prop} (H : F0 h f sb wb st sv fp m.st m.ws) (hp : p < m.st.length) (hq : q < m.st.length) (hne : p ≠ q) (hm : m.q ((p : Int), (q : Int)) = .mark :: r) (hA : ∀ h', F0 h' f sb wb st sv fp m.st (kset m.ws ((p : Int), (q : Int)) r) → Sm (fun k => k = wb) h h' → Arm.Calls Tryz.prog 171 [.agg ⟨[]⟩, ptr f, wk ((p : Int), (q : Int))] h' R) :
    Arm.Calls Tryz.prog 44 [ptr f, .int .i64 p, .int .i64 q] h (fun x => x.1 = .tuple ⟨[.bool true, .int .i64 0]⟩ ∧ ∃ u, R (u, x.2)) := by
  refine Calls_of_W (n := 46) (fn := Tryz.f44) (by kernel_rfl) rfl rfl (Nat.le_of_ble_eq_true rfl) trivial ⟨.inr (by simp), rfl⟩ ?_
  refine W_seq ?_
  refine W_region ?_
  refine L_g 2 (by kernel_rfl) ?_
  refine L_nil ?_
  refine W_seq ?_
  refine W_seq ?_
  refine W_region ?_
  refine L_g 3 (by kernel_rfl) ?_
  refine L_nw (Al.cells [Value.int .i64 (p : Int), Value.int .i64 (q : Int)]) (.sl 2 2) rfl rfl (by kernel_rfl) ?_
  have c1 : Cl (h.push (Al.cells [Value.int .i64 (p : Int), Value.int .i64 (q : Int)]).obj) h.next [Value.int .i64 (p : Int), Value.int .i64 (q : Int)] := Cl.new h _
  have t1 : Sm Nix h (h.push (Al.cells [Value.int .i64 (p : Int), Value.int .i64 (q : Int)]).obj) := .push h _
  have n1 : (h.push (Al.cells [Value.int .i64 (p : Int), Value.int .i64 (q : Int)]).obj).next = h.next + 1 := rfl
  generalize h.push (Al.cells [Value.int .i64 (p : Int), Value.int .i64 (q : Int)]).obj = h1 at c1 t1 n1 ⊢
  have H1 := H.ext t1
  refine L_c rfl rfl (by kernel_rfl) (check2 (p := (p : Int)) (q := (q : Int)) H1 c1) ?_
  rintro v9 h9 e9
  cases e9
  rw [chk2_ok hp hq hne]
  refine L_g 1 (by kernel_rfl) ?_
  refine L_nil ?_
  refine W_seq ?_
  refine W_region ?_
  refine L_g 2 (by kernel_rfl) ?_
  refine L_nil ?_
  refine W_cond false (by kernel_rfl) (fun e => by cases e) (fun _ => ?_)
  refine W_skip ?_
  refine W_seq ?_
  refine W_region ?_
  refine L_g 3 (by kernel_rfl) ?_
  refine L_nw (Al.cells [Value.int .i64 0, Value.int .i64 0]) (.ptr) rfl rfl (by kernel_rfl) ?_
  have c3 : Cl (h1.push (Al.cells [Value.int .i64 0, Value.int .i64 0]).obj) h1.next [Value.int .i64 0, Value.int .i64 0] := Cl.new h1 _
  have t3 : Sm Nix h1 (h1.push (Al.cells [Value.int .i64 0, Value.int .i64 0]).obj) := .push h1 _
  have n3 : (h1.push (Al.cells [Value.int .i64 0, Value.int .i64 0]).obj).next = h1.next + 1 := rfl
  generalize h1.push (Al.cells [Value.int .i64 0, Value.int .i64 0]).obj = h3 at c3 t3 n3 ⊢
  obtain ⟨h4, e4, c4, t4, n4⟩ := c3.storeS (P := Tryz.prog) (T := 163) (v := wk ((p : Int), (q : Int))) (cs := [Value.int .i64 (p : Int), Value.int .i64 (q : Int)]) (by kernel_rfl) rfl rfl (fun x hx => by simp only [List.mem_cons, List.not_mem_nil, or_false] at hx; rcases hx with rfl | rfl <;> rfl)
  have T4 : Sm Nix h1 h4 := t3.trans t4 (fun x hx => .inr (by omega))
  have H4 := H1.ext T4
  obtain ⟨s1, es, gs, bs⟩ := lookQ H4.mp ((p : Int), (q : Int))
  rw [show (kget m.ws ((p : Int), (q : Int))).getD [] = m.q ((p : Int), (q : Int)) from rfl, hm] at gs
  refine L_st _ rfl rfl rfl (by kernel_rfl) (by kernel_rfl) (e4) ?_
  refine L_nil ?_
  refine W_seq ?_
  refine W_drawn (by kernel_rfl) ?_
  refine D_l (l := [0, 1, 2, 3, 4, 5, 6, 7]) (by kernel_rfl) (by kernel_rfl) Rk_nil ?_
  refine NS_b 3 (by kernel_rfl) ?_
  refine NS_ld _ rfl rfl (by kernel_rfl) (by kernel_rfl) (by kernel_rfl) (H4.cl.ld (o := 1) (by kernel_rfl) rfl) ?_
  refine NS_ld _ rfl rfl (by kernel_rfl) (by kernel_rfl) (by kernel_rfl) (c4.ldS (k := 2) (by kernel_rfl) (Nat.le_refl _)) ?_
  refine NS_lk _ rfl rfl (by kernel_rfl) (by kernel_rfl) (by kernel_rfl) (by kernel_rfl) (es) ?_
  refine NS_b 2 (by kernel_rfl) ?_
  refine NS_nil ?_
  refine W_seq ?_
  refine W_seq ?_
  refine W_region ?_
  refine L_g 1 (by kernel_rfl) ?_
  refine L_ln _ rfl rfl (by kernel_rfl) (gs.lenV u128) ?_
  refine L_i (((r.length + 1 : Nat) : Int)) (0) (.bool false) rfl rfl (by kernel_rfl) (by kernel_rfl) rfl (by simp; omega) ?_
  refine L_nil ?_
  refine W_cond false (by kernel_rfl) (fun e => by cases e) (fun _ => ?_)
  refine W_skip ?_
  refine W_seq ?_
  refine W_drawn (by kernel_rfl) ?_
  refine D_e (e := 8) (l := [0, 1, 2, 3, 4, 5, 6, 7]) (s' := []) (by kernel_rfl) (by kernel_rfl) rfl (by kernel_rfl) Rk_nil ?_
  refine NS_b 3 (by kernel_rfl) ?_
  refine NS_ld _ rfl rfl (by kernel_rfl) (by kernel_rfl) (by kernel_rfl) (H4.cl.ld (o := 1) (by kernel_rfl) rfl) ?_
  refine NS_ld _ rfl rfl (by kernel_rfl) (by kernel_rfl) (by kernel_rfl) (c4.ldS (k := 2) (by kernel_rfl) (Nat.le_refl _)) ?_
  refine NS_b 1 (by kernel_rfl) ?_
  obtain ⟨s2, es2, g2, b2⟩ := Gr.tail (P := Tryz.prog) u128 s132 gs
  obtain ⟨a2, k2, f2⟩ := g2.sd.form
  subst f2
  have hq2 : Rq h4 fp (.agg ⟨[.slice a2 r.length k2]⟩) r := ⟨_, rfl, g2, fun b hb => bs b (by rw [← b2]; exact hb)⟩
  obtain ⟨h5, e5, m5, t5, n5⟩ := H4.mp.update u119 kWay ((p : Int), (q : Int)) hq2
  have H5 := H4.setWs m5 t5
  have gs5 := gs.sm t5 (fun b hb e => bs b hb (by subst e; exact H4.w1))
  obtain ⟨pb, xb, ei, ex, el, _, _⟩ := gs5.elem (P := Tryz.prog) u128 s132 (by kernel_rfl) (Nat.succ_pos _) .i64
  cases ex
  refine NS_sl _ rfl rfl (by kernel_rfl) (by kernel_rfl) (by kernel_rfl) (by kernel_rfl) (by kernel_rfl) (by kernel_rfl) (es2) ?_
  refine NS_b 1 (by kernel_rfl) ?_
  refine NS_nil ?_
  refine L_mu _ rfl rfl rfl (by kernel_rfl) (by kernel_rfl) (by kernel_rfl) (e5) ?_
  refine L_nil ⟨rfl, ?_⟩
  refine D_l (l := []) (by kernel_rfl) (by kernel_rfl) Rk_nil ?_
  refine NS_nil ?_
  refine W_seq ?_
  refine W_drawn (by kernel_rfl) ?_
  refine D_e (e := 5) (l := [0, 1, 2, 3, 4]) (s' := []) (by kernel_rfl) (by kernel_rfl) rfl (by kernel_rfl) Rk_nil ?_
  refine NS_b 1 (by kernel_rfl) ?_
  refine NS_ix _ rfl rfl (by kernel_rfl) (by kernel_rfl) (by kernel_rfl) (by kernel_rfl) (ei) ?_
  refine NS_ld _ rfl rfl (by kernel_rfl) (by kernel_rfl) (by kernel_rfl) (el) ?_
  refine NS_b 1 (by kernel_rfl) ?_
  refine NS_ld _ rfl rfl (by kernel_rfl) (by kernel_rfl) (by kernel_rfl) ((c4.sm t5 (by have := H.lt _ H.w1; omega)).ldS (k := 2) (by kernel_rfl) (Nat.le_refl _)) ?_
  refine NS_nil ?_
  refine L_c rfl rfl (by kernel_rfl) (hA h5 H5 ((t1.ext T4).of.then t5)) ?_
  rintro u6 h6 hR6
  refine L_nil ⟨rfl, ?_⟩
  refine D_l (l := []) (by kernel_rfl) (by kernel_rfl) Rk_nil ?_
  refine NS_nil ?_
  refine W_seq ?_
  refine W_region ?_
  refine L_g 2 (by kernel_rfl) ?_
  refine L_nil ?_
  refine W_ret ?_
  repeat first | with_reducible refine then_ret ?_ | with_reducible refine blk_ret ?_
  refine done_of (v := .tuple ⟨[.bool true, .int .i64 0]⟩) (.inl rfl) (by kernel_rfl) ?_
  exact ⟨rfl, u6, hR6⟩
end
end Go.Proofs.YtdaedcoolcicoaaGreat
namespace Go.Proofs.YtdaedcoolcicoaaGreat
noncomputable section
open Go Go.X Go.Arm
theorem begin_ok {h : AH} {f sb wb : Nat} {st : Value} {X : List Nat} {m : Fl} {p K : Nat} (H : F0 h f sb wb st (.pointer none) X m.st m.ws) (hp : p < m.st.length) (hn : m.st.length < 1000000) (hle : m.le K) (hK : K < 4000000000) :
    Arm.Calls Tryz.prog 38 [ptr f, .int .i64 p] h (fun r => r.1 = .int .i64 0 ∧ ∃ g a c o, F0 r.2 f sb wb st (ptr g) (X ++ [g, a, c, o]) (m.begin_ p).st (m.begin_ p).ws ∧ (∃ s', (m.begin_ p).sh = some s' ∧ S0 r.2 g a c o (X ++ [g, a, c, o]) s') ∧
      [f, sb, wb, g, a, c, o].Nodup ∧ Sm (fun k => k = f ∨ k = wb) h r.2 ∧ h.next ≤ g ∧ h.next ≤ a ∧ h.next ≤ c ∧ h.next ≤ o) := by
  have nd := H.nd
  simp only [List.nodup_cons, List.mem_cons, List.not_mem_nil, or_false, not_or, List.nodup_nil, not_false_eq_true, and_true] at nd
  refine Calls_of_W (n := 62) (fn := Tryz.f38) (by kernel_rfl) rfl rfl (Nat.le_of_ble_eq_true rfl) trivial ⟨.inr (by simp), rfl⟩ ?_
  refine W_seq ?_
  refine W_region ?_
  refine L_g 1 (by kernel_rfl) ?_
  refine L_nil ?_
  refine W_seq ?_
  refine W_seq ?_
  refine W_region ?_
  refine L_g 2 (by kernel_rfl) ?_
  refine L_nw (Al.cells [Value.int .i64 (p : Int)]) (.sl 1 1) rfl rfl (by kernel_rfl) ?_
  have c1 : Cl (h.push (Al.cells [Value.int .i64 (p : Int)]).obj) h.next [Value.int .i64 (p : Int)] := Cl.new h _
  have t1 : Sm Nix h (h.push (Al.cells [Value.int .i64 (p : Int)]).obj) := .push h _
  have n1 : (h.push (Al.cells [Value.int .i64 (p : Int)]).obj).next = h.next + 1 := rfl
  generalize h.push (Al.cells [Value.int .i64 (p : Int)]).obj = h1 at c1 t1 n1 ⊢
  have H1 := H.ext t1
  refine L_c rfl rfl (by kernel_rfl) (check1 (p := (p : Int)) H1 c1) ?_
  rintro v9 h9 e9
  cases e9
  rw [chk1_ok hp]
  refine L_g 1 (by kernel_rfl) ?_
  refine L_nil ?_
  refine W_seq ?_
  refine W_region ?_
  refine L_g 2 (by kernel_rfl) ?_
  refine L_nil ?_
  refine W_cond false (by kernel_rfl) (fun e => by cases e) (fun _ => ?_)
  refine W_skip ?_
  refine W_seq ?_
  refine W_seq ?_
  refine W_region ?_
  refine L_g 3 (by kernel_rfl) ?_
  refine L_ld _ rfl rfl (by kernel_rfl) (H1.cl.ld (o := 2) (by kernel_rfl) rfl) ?_
  refine L_g 1 (by kernel_rfl) ?_
  refine L_nil ?_
  refine W_cond false (by kernel_rfl) (fun e => by cases e) (fun _ => ?_)
  refine W_skip ?_
  refine W_seq ?_
  refine W_region ?_
  refine L_g 1 (by kernel_rfl) ?_
  refine L_nw Al.map .mp rfl rfl (by kernel_rfl) ?_
  have m2 : Mp (h1.push (Al.map).obj) h1.next iv (fun (_ : Value) (_ : Int) => False) [] := Mp.new h1
  have t2 : Sm Nix h1 (h1.push (Al.map).obj) := .push h1 _
  have n2 : (h1.push (Al.map).obj).next = h1.next + 1 := rfl
  generalize h1.push (Al.map).obj = h2 at m2 t2 n2 ⊢
  refine L_nw Al.map .mp rfl rfl (by kernel_rfl) ?_
  have m3 : Mp (h2.push (Al.map).obj) h2.next wk (fun (_ : Value) (_ : List Int) => False) [] := Mp.new h2
  have t3 : Sm Nix h2 (h2.push (Al.map).obj) := .push h2 _
  have n3 : (h2.push (Al.map).obj).next = h2.next + 1 := rfl
  generalize h2.push (Al.map).obj = h3 at m3 t3 n3 ⊢
  refine L_nw Al.map .mp rfl rfl (by kernel_rfl) ?_
  have m4 : Mp (h3.push (Al.map).obj) h3.next wk (fun (_ : Value) (_ : Bool) => False) [] := Mp.new h3
  have t4 : Sm Nix h3 (h3.push (Al.map).obj) := .push h3 _
  have n4 : (h3.push (Al.map).obj).next = h3.next + 1 := rfl
  generalize h3.push (Al.map).obj = h4 at m4 t4 n4 ⊢
  refine L_g 1 (by kernel_rfl) ?_
  refine L_nw (Al.cells [Value.map (some h1.next), Value.map (some h2.next), Value.map (some h3.next)]) (.ptr) rfl rfl (by kernel_rfl) ?_
  have c5 : Cl (h4.push (Al.cells [Value.map (some h1.next), Value.map (some h2.next), Value.map (some h3.next)]).obj) h4.next [Value.map (some h1.next), Value.map (some h2.next), Value.map (some h3.next)] := Cl.new h4 _
  have t5 : Sm Nix h4 (h4.push (Al.cells [Value.map (some h1.next), Value.map (some h2.next), Value.map (some h3.next)]).obj) := .push h4 _
  have n5 : (h4.push (Al.cells [Value.map (some h1.next), Value.map (some h2.next), Value.map (some h3.next)]).obj).next = h4.next + 1 := rfl
  generalize h4.push (Al.cells [Value.map (some h1.next), Value.map (some h2.next), Value.map (some h3.next)]).obj = h5 at c5 t5 n5 ⊢
  have t15 : Sm Nix h1 h5 := ((t2.ext t3).ext t4).ext t5
  have hf := H1.lt _ H1.f1
  have hs := H1.lt _ H1.s1
  have hw := H1.lt _ H1.w1
  obtain ⟨h6, e6, c6, t6, n6⟩ := (H1.cl.ext t15).store (P := Tryz.prog) (T := 93) (o := 2) (v := ptr h4.next) (by kernel_rfl) rfl rfl (by simp)
  obtain ⟨fp, hfp⟩ : ∃ fp, fp = X ++ [h4.next, h1.next, h2.next, h3.next] := ⟨_, rfl⟩
  have inX : ∀ x, x ∈ X → x ∈ fp := fun x hx => by rw [hfp]; exact List.mem_append_left _ hx
  have H6 : F0 h6 f sb wb st (ptr h4.next) fp m.st m.ws := by
    have mq : Mp h1 wb wk (Rq h1 fp) m.ws := H1.mp.mono (fun v x ⟨u, e, g, hb⟩ => ⟨u, e, g, fun b hb' hm => by
      have h1b := hb b hb'; have h2b := g.lt hb'
      rw [hfp] at hm
      simp only [List.mem_append, List.mem_cons, List.not_mem_nil, or_false] at hm
      rcases hm with hm | hm
      · exact h1b hm
      · omega⟩)
    have mq5 : Mp h5 wb wk (Rq h5 fp) m.ws := mq.sm t15 (fun x => x) (fun _ _ r => r.sm t15 (fun x hx => hx.elim))
    refine ⟨c6, (H1.gr.ext t15).sm t6 (fun b hb => by rw [H1.vb] at hb; cases hb; omega), H1.vb, mq5.sm t6 (by omega) (fun _ _ r => r.sm t6 (fun x hx => by subst hx; exact inX _ H1.f1)), inX _ H1.f1, inX _ H1.s1, inX _ H1.w1, H1.nd, fun x hx => ?_⟩
    rw [hfp] at hx
    simp only [List.mem_append, List.mem_cons, List.not_mem_nil, or_false] at hx
    rcases hx with hx | hx
    · have := H1.lt x hx; omega
    · omega
  have G6 : S0 h6 h4.next h1.next h2.next h3.next fp ⟨[], [], Fl.oAll m.st.length 0⟩ := by
    refine ⟨c5.sm t6 (by omega), ?_, ?_, ?_, by rw [hfp]; simp, by rw [hfp]; simp, by rw [hfp]; simp, by rw [hfp]; simp⟩
    · exact (m2.sm ((t3.ext t4).ext t5) (fun x => x) (fun _ _ r => r)).sm t6 (by omega) (fun _ _ r => r.elim)
    · exact (m3.sm (t4.ext t5) (fun x => x) (fun _ _ r => r)).sm t6 (by omega) (fun _ _ r => r.elim)
    · exact (m4.sm t5 (fun x => x) (fun _ _ r => r)).sm t6 (by omega) (fun _ _ r => r.elim)
  have nd7 : [f, sb, wb, h4.next, h1.next, h2.next, h3.next].Nodup := by
    simp only [List.nodup_cons, List.mem_cons, List.not_mem_nil, or_false, not_or, List.nodup_nil, not_false_eq_true, and_true]
    omega
  have o6 : h3.next < h6.next := by omega
  refine L_g 2 (by kernel_rfl) ?_
  refine L_st _ rfl rfl rfl (by kernel_rfl) (by kernel_rfl) (e6) ?_
  refine L_nil ?_
  refine W_seq ?_
  refine W_seq ?_
  refine W_region ?_
  refine L_g 3 (by kernel_rfl) ?_
  refine L_ld _ rfl rfl (by kernel_rfl) (H6.cl.ld (o := 0) (by kernel_rfl) rfl) ?_
  refine L_ln _ rfl rfl (by kernel_rfl) (H6.gr.lenV u64) ?_
  refine L_g 1 (by kernel_rfl) ?_
  refine L_nil ?_
  refine W_block ?_
  refine W_loop (fun j fr hh => ∃ i, i ≤ m.st.length ∧ j = m.st.length - i ∧ fr 0 = ptr f ∧ fr 1 = .int .i64 p ∧ fr 32 = .int .i64 m.st.length ∧ fr 33 = .int .i64 i ∧
        F0 hh f sb wb st (ptr h4.next) fp m.st m.ws ∧ S0 hh h4.next h1.next h2.next h3.next fp ⟨[], [], Fl.oAll m.st.length i⟩ ∧ Sm (fun x => x = h3.next) h6 hh) (m.st.length) ?_ ?_
  ·
    exact ⟨0, Nat.zero_le _, rfl, by kernel_rfl, by kernel_rfl, by kernel_rfl, by kernel_rfl, H6, G6, .refl⟩
  rintro j fr h7 ⟨i, hi, hj, s0, s1, s32, s33, H7, G7, t7⟩
  refine W_set s0 (W_set (k := 1) s1 (W_set (k := 32) s32 (W_set (k := 33) s33 ?_)))
  refine W_seq ?_
  refine W_region ?_
  refine L_g 1 (by kernel_rfl) ?_
  refine L_nil ?_
  refine W_seq ?_
  refine W_cond (decide ((i : Int) < m.st.length)) (by kernel_rfl) (fun hb => ?_) (fun hb => ?_)
  ·
    have hlt : i < m.st.length := by simpa using hb
    refine W_skip ?_
    refine W_seq ?_
    refine W_block ?_
    refine W_seq ?_
    refine W_region ?_
    refine L_g 2 (by kernel_rfl) ?_
    refine L_nil ?_
    refine W_seq ?_
    refine W_region ?_
    refine L_g 3 (by kernel_rfl) ?_
    refine L_ld _ rfl rfl (by kernel_rfl) (H7.cl.ld (o := 0) (by kernel_rfl) rfl) ?_
    refine L_ln _ rfl rfl (by kernel_rfl) (H7.gr.lenV u64) ?_
    refine L_g 1 (by kernel_rfl) ?_
    refine L_nil ?_
    refine W_block ?_
    refine W_loop (fun j fr hh => ∃ k, k ≤ m.st.length ∧ j = m.st.length - k ∧ fr 0 = ptr f ∧ fr 1 = .int .i64 p ∧ fr 32 = .int .i64 m.st.length ∧ fr 33 = .int .i64 i ∧ fr 6 = .int .i64 i ∧ fr 40 = .int .i64 m.st.length ∧ fr 41 = .int .i64 k ∧
          F0 hh f sb wb st (ptr h4.next) fp m.st m.ws ∧ S0 hh h4.next h1.next h2.next h3.next fp ⟨[], [], Fl.oRow i k (Fl.oAll m.st.length i)⟩ ∧ Sm (fun x => x = h3.next) h7 hh) (m.st.length) ?_ ?_
    ·
      exact ⟨0, Nat.zero_le _, rfl, by kernel_rfl, by kernel_rfl, by kernel_rfl, by kernel_rfl, by kernel_rfl, by kernel_rfl, by kernel_rfl, H7, G7, .refl⟩
    rintro j2 fr2 h8 ⟨k, hk, hj2, s0, s1, s32, s33, s6, s40, s41, H8, G8, t8⟩
    refine W_set s0 (W_set (k := 1) s1 (W_set (k := 32) s32 (W_set (k := 33) s33 (W_set (k := 6) s6 (W_set (k := 40) s40 (W_set (k := 41) s41 ?_))))))
    refine W_seq ?_
    refine W_region ?_
    refine L_g 1 (by kernel_rfl) ?_
    refine L_nil ?_
    refine W_seq ?_
    refine W_cond (decide ((k : Int) < m.st.length)) (by kernel_rfl) (fun hb => ?_) (fun hb => ?_)
    ·
      have hlt2 : k < m.st.length := by simpa using hb
      refine W_skip ?_
      refine W_seq ?_
      refine W_block ?_
      refine W_seq ?_
      refine W_region ?_
      refine L_g 2 (by kernel_rfl) ?_
      refine L_nil ?_
      refine W_seq ?_
      refine W_region ?_
      refine L_g 3 (by kernel_rfl) ?_
      refine L_nil ?_
      refine W_cond ((i : Int) != k) (by kernel_rfl) (fun hb => ?_) (fun hb => ?_)
      ·
        have hik : ¬ i = k := by simp at hb; omega
        refine W_region ?_
        refine L_g 3 (by kernel_rfl) ?_
        refine L_ld _ rfl rfl (by kernel_rfl) (H8.cl.ld (o := 2) (by kernel_rfl) rfl) ?_
        refine L_g 2 (by kernel_rfl) ?_
        refine L_ld _ rfl rfl (by kernel_rfl) (G8.cl.ld (o := 2) (by kernel_rfl) rfl) ?_
        refine L_g 3 (by kernel_rfl) ?_
        obtain ⟨h9, e9, m9, t9, n9⟩ := G8.mo.update u136 kWay ((i : Int), (k : Int)) (v := .bool true) (y := true) rfl
        have H9 : F0 h9 f sb wb st (ptr h4.next) fp m.st m.ws := H8.sm t9 (by omega) (by omega) (by omega) (fun x hx => by subst hx; rw [hfp]; simp)
        have G9 : S0 h9 h4.next h1.next h2.next h3.next fp ⟨[], [], kset (Fl.oRow i k (Fl.oAll m.st.length i)) ((i : Int), (k : Int)) true⟩ :=
          ⟨G8.cl.sm t9 (by omega), G8.ma.sm t9 (by omega) (fun _ _ r => r), G8.mc.sm t9 (by omega) (fun _ _ r => r.sm t9 (fun x hx => by subst hx; rw [hfp]; simp)), m9, G8.g1, G8.a1, G8.c1, G8.o1⟩
        refine L_mu _ rfl rfl rfl (by kernel_rfl) (by kernel_rfl) (by kernel_rfl) (e9) ?_
        refine L_nil ?_
        refine W_region ?_
        refine L_i ((k : Int)) (1) (.int .i64 ((k + 1 : Nat) : Int)) rfl rfl (by kernel_rfl) (by kernel_rfl) rfl (inc_ok (by omega)) ?_
        refine L_g 1 (by kernel_rfl) ?_
        refine L_nil ?_
        refine ⟨m.st.length - (k + 1), by omega, k + 1, by omega, rfl, by kernel_rfl, by kernel_rfl, by kernel_rfl, by kernel_rfl, by kernel_rfl, by kernel_rfl, by kernel_rfl, H9, ?_, t8.then t9⟩
        rw [Fl.oRow_succ, if_neg hik]; exact G9
      ·
        have hik : i = k := by simp at hb; omega
        refine W_skip ?_
        refine W_region ?_
        refine L_i ((k : Int)) (1) (.int .i64 ((k + 1 : Nat) : Int)) rfl rfl (by kernel_rfl) (by kernel_rfl) rfl (inc_ok (by omega)) ?_
        refine L_g 1 (by kernel_rfl) ?_
        refine L_nil ?_
        refine ⟨m.st.length - (k + 1), by omega, k + 1, by omega, rfl, by kernel_rfl, by kernel_rfl, by kernel_rfl, by kernel_rfl, by kernel_rfl, by kernel_rfl, by kernel_rfl, H8, ?_, t8⟩
        rw [Fl.oRow_succ, if_pos hik]; exact G8
    ·
      have hge2 : ¬ k < m.st.length := by simpa using hb
      refine W_exit ?_
      repeat with_reducible refine then_exit ?_
      refine exit_here ?_
      refine W_region ?_
      refine L_i ((i : Int)) (1) (.int .i64 ((i + 1 : Nat) : Int)) rfl rfl (by kernel_rfl) (by kernel_rfl) rfl (inc_ok (by omega)) ?_
      refine L_g 1 (by kernel_rfl) ?_
      refine L_nil ?_
      have hkn : k = m.st.length := by omega
      subst hkn
      refine ⟨m.st.length - (i + 1), by omega, i + 1, by omega, rfl, by kernel_rfl, by kernel_rfl, by kernel_rfl, by kernel_rfl, H8, ?_, t7.then t8⟩
      rw [Fl.oAll_succ]; exact G8
  ·
    have hge : ¬ i < m.st.length := by simpa using hb
    refine W_exit ?_
    repeat with_reducible refine then_exit ?_
    refine exit_here ?_
    refine W_seq ?_
    refine W_region ?_
    refine L_g 2 (by kernel_rfl) ?_
    have hin : i = m.st.length := by omega
    subst hin
    refine L_c rfl rfl (by kernel_rfl) (record_ok (m := { m with sh := some ⟨[], [], Fl.opens m.st.length⟩ }) (s := ⟨[], [], Fl.opens m.st.length⟩) H7 G7 nd7 hp hn hle hK) ?_
    rintro v8 h8 ⟨e8, H8, G8, t8⟩
    dsimp only at e8 H8 G8 t8
    subst hfp
    refine L_nil ?_
    refine W_seq ?_
    refine W_region ?_
    refine L_g 1 (by kernel_rfl) ?_
    refine L_nil ?_
    refine W_ret ?_
    repeat first | with_reducible refine then_ret ?_ | with_reducible refine blk_ret ?_
    refine done_of (v := .int .i64 0) (.inl rfl) (by kernel_rfl) ?_
    refine ⟨rfl, h4.next, h1.next, h2.next, h3.next, ?_, ⟨⟨[((p : Int), m.at_ p)], [], Fl.opens m.st.length⟩, Fl.sh_begin, G8⟩, nd7, ?_, by omega, by omega, by omega, by omega⟩
    · have : (m.begin_ p).st = m.st := Fl.st_begin
      rw [this]; exact H8
    · have T5 : Sm (fun k => k = f ∨ k = wb) h h6 := (t1.ext t15).of.then (t6.mono (fun x hx => .inl hx))
      have T7 := T5.trans t7 (fun x hx => .inr (by omega))
      exact T7.trans t8 (fun x hx => hx.elim (fun e => .inl (.inr e)) (fun e => .inr (by omega)))
end
end Go.Proofs.YtdaedcoolcicoaaGreat
namespace Go.Proofs.YtdaedcoolcicoaaGreat
noncomputable section
open Go Go.X Go.Arm
theorem pass_err {h : AH} {f sb wb : Nat} {st sv : Value} {fp : List Nat} {m : Fl} {p q : Int} {v : Int} (H : F0 h f sb wb st sv fp m.st m.ws) (he : chk2 m.st.length p q ≠ 0) :
    Arm.Calls Tryz.prog 36 [ptr f, .int .i64 p, .int .i64 q, .int .i64 v] h (fun r => r.1 = .int .i64 (chk2 m.st.length p q) ∧ Sm Nix h r.2) := by
  refine Calls_of_W (n := 35) (fn := Tryz.f36) (by kernel_rfl) rfl rfl (Nat.le_of_ble_eq_true rfl) trivial ⟨.inr (by simp), rfl⟩ ?_
  refine W_seq ?_
  refine W_region ?_
  refine L_g 1 (by kernel_rfl) ?_
  refine L_nil ?_
  refine W_seq ?_
  refine W_seq ?_
  refine W_region ?_
  refine L_g 3 (by kernel_rfl) ?_
  refine L_nw (Al.cells [Value.int .i64 p, Value.int .i64 q]) (.sl 2 2) rfl rfl (by kernel_rfl) ?_
  have c1 : Cl (h.push (Al.cells [Value.int .i64 p, Value.int .i64 q]).obj) h.next [Value.int .i64 p, Value.int .i64 q] := Cl.new h _
  have t1 : Sm Nix h (h.push (Al.cells [Value.int .i64 p, Value.int .i64 q]).obj) := .push h _
  have n1 : (h.push (Al.cells [Value.int .i64 p, Value.int .i64 q]).obj).next = h.next + 1 := rfl
  generalize h.push (Al.cells [Value.int .i64 p, Value.int .i64 q]).obj = h1 at c1 t1 n1 ⊢
  have H1 := H.ext t1
  refine L_c rfl rfl (by kernel_rfl) (check2 (p := p) (q := q) H1 c1) ?_
  rintro v9 h9 e9
  cases e9
  refine L_g 1 (by kernel_rfl) ?_
  refine L_nil ?_
  refine W_seq ?_
  refine W_region ?_
  refine L_g 1 (by kernel_rfl) ?_
  refine L_i ((chk2 m.st.length p q)) (0) (.bool true) rfl rfl (by kernel_rfl) (by kernel_rfl) rfl (by simp [he]) ?_
  refine L_nil ?_
  refine W_cond true (by kernel_rfl) (fun _ => ?_) (fun e => by cases e)
  refine W_seq ?_
  refine W_region ?_
  refine L_g 2 (by kernel_rfl) ?_
  refine L_nil ?_
  refine W_ret ?_
  repeat first | with_reducible refine then_ret ?_ | with_reducible refine blk_ret ?_
  refine done_of (v := .int .i64 (chk2 m.st.length p q)) (.inl rfl) (by kernel_rfl) ?_
  exact ⟨rfl, t1⟩
theorem dlv_err {h : AH} {f sb wb : Nat} {st sv : Value} {fp : List Nat} {m : Fl} {p q : Int} {v : Int} (H : F0 h f sb wb st sv fp m.st m.ws) (he : chk2 m.st.length p q ≠ 0) :
    Arm.Calls Tryz.prog 44 [ptr f, .int .i64 p, .int .i64 q] h (fun r => r.1 = .tuple ⟨[.bool false, .int .i64 (chk2 m.st.length p q)]⟩ ∧ Sm Nix h r.2) := by
  refine Calls_of_W (n := 46) (fn := Tryz.f44) (by kernel_rfl) rfl rfl (Nat.le_of_ble_eq_true rfl) trivial ⟨.inr (by simp), rfl⟩ ?_
  refine W_seq ?_
  refine W_region ?_
  refine L_g 2 (by kernel_rfl) ?_
  refine L_nil ?_
  refine W_seq ?_
  refine W_seq ?_
  refine W_region ?_
  refine L_g 3 (by kernel_rfl) ?_
  refine L_nw (Al.cells [Value.int .i64 p, Value.int .i64 q]) (.sl 2 2) rfl rfl (by kernel_rfl) ?_
  have c1 : Cl (h.push (Al.cells [Value.int .i64 p, Value.int .i64 q]).obj) h.next [Value.int .i64 p, Value.int .i64 q] := Cl.new h _
  have t1 : Sm Nix h (h.push (Al.cells [Value.int .i64 p, Value.int .i64 q]).obj) := .push h _
  have n1 : (h.push (Al.cells [Value.int .i64 p, Value.int .i64 q]).obj).next = h.next + 1 := rfl
  generalize h.push (Al.cells [Value.int .i64 p, Value.int .i64 q]).obj = h1 at c1 t1 n1 ⊢
  have H1 := H.ext t1
  refine L_c rfl rfl (by kernel_rfl) (check2 (p := p) (q := q) H1 c1) ?_
  rintro v9 h9 e9
  cases e9
  refine L_g 1 (by kernel_rfl) ?_
  refine L_nil ?_
  refine W_seq ?_
  refine W_region ?_
  refine L_g 1 (by kernel_rfl) ?_
  refine L_i ((chk2 m.st.length p q)) (0) (.bool true) rfl rfl (by kernel_rfl) (by kernel_rfl) rfl (by simp [he]) ?_
  refine L_nil ?_
  refine W_cond true (by kernel_rfl) (fun _ => ?_) (fun e => by cases e)
  refine W_seq ?_
  refine W_region ?_
  refine L_g 3 (by kernel_rfl) ?_
  refine L_nil ?_
  refine W_ret ?_
  repeat first | with_reducible refine then_ret ?_ | with_reducible refine blk_ret ?_
  refine done_of (v := .tuple ⟨[.bool false, .int .i64 (chk2 m.st.length p q)]⟩) (.inl rfl) (by kernel_rfl) ?_
  exact ⟨rfl, t1⟩
theorem begin_err {h : AH} {f sb wb : Nat} {st sv : Value} {fp : List Nat} {m : Fl} {p q : Int} {v : Int} (H : F0 h f sb wb st sv fp m.st m.ws) (he : chk1 m.st.length p ≠ 0) :
    Arm.Calls Tryz.prog 38 [ptr f, .int .i64 p] h (fun r => r.1 = .int .i64 (chk1 m.st.length p) ∧ Sm Nix h r.2) := by
  refine Calls_of_W (n := 62) (fn := Tryz.f38) (by kernel_rfl) rfl rfl (Nat.le_of_ble_eq_true rfl) trivial ⟨.inr (by simp), rfl⟩ ?_
  refine W_seq ?_
  refine W_region ?_
  refine L_g 1 (by kernel_rfl) ?_
  refine L_nil ?_
  refine W_seq ?_
  refine W_seq ?_
  refine W_region ?_
  refine L_g 2 (by kernel_rfl) ?_
  refine L_nw (Al.cells [Value.int .i64 p]) (.sl 1 1) rfl rfl (by kernel_rfl) ?_
  have c1 : Cl (h.push (Al.cells [Value.int .i64 p]).obj) h.next [Value.int .i64 p] := Cl.new h _
  have t1 : Sm Nix h (h.push (Al.cells [Value.int .i64 p]).obj) := .push h _
  have n1 : (h.push (Al.cells [Value.int .i64 p]).obj).next = h.next + 1 := rfl
  generalize h.push (Al.cells [Value.int .i64 p]).obj = h1 at c1 t1 n1 ⊢
  have H1 := H.ext t1
  refine L_c rfl rfl (by kernel_rfl) (check1 (p := p) H1 c1) ?_
  rintro v9 h9 e9
  cases e9
  refine L_g 1 (by kernel_rfl) ?_
  refine L_nil ?_
  refine W_seq ?_
  refine W_region ?_
  refine L_g 1 (by kernel_rfl) ?_
  refine L_i ((chk1 m.st.length p)) (0) (.bool true) rfl rfl (by kernel_rfl) (by kernel_rfl) rfl (by simp [he]) ?_
  refine L_nil ?_
  refine W_cond true (by kernel_rfl) (fun _ => ?_) (fun e => by cases e)
  refine W_seq ?_
  refine W_region ?_
  refine L_g 2 (by kernel_rfl) ?_
  refine L_nil ?_
  refine W_ret ?_
  repeat first | with_reducible refine then_ret ?_ | with_reducible refine blk_ret ?_
  refine done_of (v := .int .i64 (chk1 m.st.length p)) (.inl rfl) (by kernel_rfl) ?_
  exact ⟨rfl, t1⟩
theorem state_err {h : AH} {f sb wb : Nat} {st sv : Value} {fp : List Nat} {m : Fl} {p q : Int} {v : Int} (H : F0 h f sb wb st sv fp m.st m.ws) (he : chk1 m.st.length p ≠ 0) :
    Arm.Calls Tryz.prog 47 [ptr f, .int .i64 p] h (fun r => r.1 = .tuple ⟨[.int .i64 0, .int .i64 (chk1 m.st.length p)]⟩ ∧ Sm Nix h r.2) := by
  refine Calls_of_W (n := 21) (fn := Tryz.f47) (by kernel_rfl) rfl rfl (Nat.le_of_ble_eq_true rfl) trivial ⟨.inr (by simp), rfl⟩ ?_
  refine W_seq ?_
  refine W_region ?_
  refine L_g 2 (by kernel_rfl) ?_
  refine L_nil ?_
  refine W_seq ?_
  refine W_seq ?_
  refine W_region ?_
  refine L_g 2 (by kernel_rfl) ?_
  refine L_nw (Al.cells [Value.int .i64 p]) (.sl 1 1) rfl rfl (by kernel_rfl) ?_
  have c1 : Cl (h.push (Al.cells [Value.int .i64 p]).obj) h.next [Value.int .i64 p] := Cl.new h _
  have t1 : Sm Nix h (h.push (Al.cells [Value.int .i64 p]).obj) := .push h _
  have n1 : (h.push (Al.cells [Value.int .i64 p]).obj).next = h.next + 1 := rfl
  generalize h.push (Al.cells [Value.int .i64 p]).obj = h1 at c1 t1 n1 ⊢
  have H1 := H.ext t1
  refine L_c rfl rfl (by kernel_rfl) (check1 (p := p) H1 c1) ?_
  rintro v9 h9 e9
  cases e9
  refine L_g 1 (by kernel_rfl) ?_
  refine L_nil ?_
  refine W_seq ?_
  refine W_region ?_
  refine L_g 1 (by kernel_rfl) ?_
  refine L_i ((chk1 m.st.length p)) (0) (.bool true) rfl rfl (by kernel_rfl) (by kernel_rfl) rfl (by simp [he]) ?_
  refine L_nil ?_
  refine W_cond true (by kernel_rfl) (fun _ => ?_) (fun e => by cases e)
  refine W_seq ?_
  refine W_region ?_
  refine L_g 3 (by kernel_rfl) ?_
  refine L_nil ?_
  refine W_ret ?_
  repeat first | with_reducible refine then_ret ?_ | with_reducible refine blk_ret ?_
  refine done_of (v := .tuple ⟨[.int .i64 0, .int .i64 (chk1 m.st.length p)]⟩) (.inl rfl) (by kernel_rfl) ?_
  exact ⟨rfl, t1⟩
theorem begin_on {h : AH} {f sb wb g : Nat} {st : Value} {fp : List Nat} {m : Fl} {p : Nat} (H : F0 h f sb wb st (ptr g) fp m.st m.ws) (hp : p < m.st.length) :
    Arm.Calls Tryz.prog 38 [ptr f, .int .i64 p] h (fun r => r.1 = .int .i64 6 ∧ Sm Nix h r.2) := by
  refine Calls_of_W (n := 62) (fn := Tryz.f38) (by kernel_rfl) rfl rfl (Nat.le_of_ble_eq_true rfl) trivial ⟨.inr (by simp), rfl⟩ ?_
  refine W_seq ?_
  refine W_region ?_
  refine L_g 1 (by kernel_rfl) ?_
  refine L_nil ?_
  refine W_seq ?_
  refine W_seq ?_
  refine W_region ?_
  refine L_g 2 (by kernel_rfl) ?_
  refine L_nw (Al.cells [Value.int .i64 (p : Int)]) (.sl 1 1) rfl rfl (by kernel_rfl) ?_
  have c1 : Cl (h.push (Al.cells [Value.int .i64 (p : Int)]).obj) h.next [Value.int .i64 (p : Int)] := Cl.new h _
  have t1 : Sm Nix h (h.push (Al.cells [Value.int .i64 (p : Int)]).obj) := .push h _
  have n1 : (h.push (Al.cells [Value.int .i64 (p : Int)]).obj).next = h.next + 1 := rfl
  generalize h.push (Al.cells [Value.int .i64 (p : Int)]).obj = h1 at c1 t1 n1 ⊢
  have H1 := H.ext t1
  refine L_c rfl rfl (by kernel_rfl) (check1 (p := (p : Int)) H1 c1) ?_
  rintro v9 h9 e9
  cases e9
  rw [chk1_ok hp]
  refine L_g 1 (by kernel_rfl) ?_
  refine L_nil ?_
  refine W_seq ?_
  refine W_region ?_
  refine L_g 2 (by kernel_rfl) ?_
  refine L_nil ?_
  refine W_cond false (by kernel_rfl) (fun e => by cases e) (fun _ => ?_)
  refine W_skip ?_
  refine W_seq ?_
  refine W_seq ?_
  refine W_region ?_
  refine L_g 3 (by kernel_rfl) ?_
  refine L_ld _ rfl rfl (by kernel_rfl) (H1.cl.ld (o := 2) (by kernel_rfl) rfl) ?_
  refine L_g 1 (by kernel_rfl) ?_
  refine L_nil ?_
  refine W_cond true (by kernel_rfl) (fun _ => ?_) (fun e => by cases e)
  refine W_seq ?_
  refine W_region ?_
  refine L_g 1 (by kernel_rfl) ?_
  refine L_nil ?_
  refine W_ret ?_
  repeat first | with_reducible refine then_ret ?_ | with_reducible refine blk_ret ?_
  refine done_of (v := .int .i64 6) (.inl rfl) (by kernel_rfl) ?_
  exact ⟨rfl, t1⟩
end
end Go.Proofs.YtdaedcoolcicoaaGreat
namespace Go.Proofs.YtdaedcoolcicoaaGreat
noncomputable section
open Go Go.X Go.Arm
theorem taken_off {h : AH} {f sb wb : Nat} {st : Value} {fp : List Nat} {m : Fl} (H : F0 h f sb wb st (.pointer none) fp m.st m.ws) :
    Arm.Calls Tryz.prog 40 [ptr f] h (fun r => r.1 = .tuple ⟨[.agg ⟨[Value.slice none 0 0, Value.slice none 0 0]⟩, .bool false, .int .i64 6]⟩ ∧ Sm Nix h r.2) := by
  refine Calls_of_W (n := 95) (fn := Tryz.f40) (by kernel_rfl) rfl rfl (Nat.le_of_ble_eq_true rfl) trivial ⟨.inr (by simp), rfl⟩ ?_
  refine W_seq ?_
  refine W_region ?_
  refine L_nw (Al.cells [Value.slice none 0 0, Value.slice none 0 0]) (.ptr) rfl rfl (by kernel_rfl) ?_
  have c1 : Cl (h.push (Al.cells [Value.slice none 0 0, Value.slice none 0 0]).obj) h.next [Value.slice none 0 0, Value.slice none 0 0] := Cl.new h _
  have t1 : Sm Nix h (h.push (Al.cells [Value.slice none 0 0, Value.slice none 0 0]).obj) := .push h _
  have n1 : (h.push (Al.cells [Value.slice none 0 0, Value.slice none 0 0]).obj).next = h.next + 1 := rfl
  generalize h.push (Al.cells [Value.slice none 0 0, Value.slice none 0 0]).obj = h1 at c1 t1 n1 ⊢
  have H1 := H.ext t1
  refine L_g 2 (by kernel_rfl) ?_
  refine L_nil ?_
  refine W_seq ?_
  refine W_block ?_
  refine W_seq ?_
  refine W_region ?_
  refine L_g 1 (by kernel_rfl) ?_
  refine L_c rfl rfl (by kernel_rfl) (valid_ok H1.cl) ?_
  rintro v9 h9 e9
  cases e9
  refine L_g 2 (by kernel_rfl) ?_
  refine L_nil ?_
  refine W_cond false (by kernel_rfl) (fun e => by cases e) (fun _ => ?_)
  refine W_seq ?_
  refine W_region ?_
  refine L_g 3 (by kernel_rfl) ?_
  refine L_ld _ rfl rfl (by kernel_rfl) (H1.cl.ld (o := 2) (by kernel_rfl) rfl) ?_
  refine L_g 2 (by kernel_rfl) ?_
  refine L_nil ?_
  refine W_cond true (by kernel_rfl) (fun _ => ?_) (fun e => by cases e)
  refine W_seq ?_
  refine W_region ?_
  refine L_g 1 (by kernel_rfl) ?_
  obtain ⟨h2, e2, c2, t2, n2⟩ := c1.storeS (P := Tryz.prog) (T := 80) (v := .agg ⟨[Value.slice none 0 0, Value.slice none 0 0]⟩) (cs := [Value.slice none 0 0, Value.slice none 0 0]) (by kernel_rfl) rfl rfl (fun x hx => by simp only [List.mem_cons, List.not_mem_nil, or_false] at hx; rcases hx with rfl | rfl <;> rfl)
  refine L_st _ rfl rfl rfl (by kernel_rfl) (by kernel_rfl) (e2) ?_
  refine L_g 2 (by kernel_rfl) ?_
  refine L_nil ?_
  refine W_ret ?_
  repeat first | with_reducible refine then_ret ?_ | with_reducible refine blk_ret ?_
  refine done_of (.inl rfl) (evR_c3 (by kernel_rfl) (by kernel_rfl) (by kernel_rfl) (a := ⟨h.next, 0, none⟩) (by kernel_rfl) (c2.ldS (k := 2) (by kernel_rfl) (Nat.le_refl _)) (u := .bool false) (by kernel_rfl) (w := .int .i64 6) (by kernel_rfl)) ?_
  exact ⟨rfl, t1.trans t2 (fun x hx => .inr (by omega))⟩
set_option maxHeartbeats 4000000 in
theorem taken_on {h : AH} {f sb wb g a c o : Nat} {st : Value} {fp : List Nat} {m : Fl} {s : Sh} (H : F0 h f sb wb st (ptr g) fp m.st m.ws) (G : S0 h g a c o fp s) (nd : [f, sb, wb, g, a, c, o].Nodup) (hop : s.op = []) (hn : m.st.length < 1000000) {C : Nat} (hC : ∀ w, (Fl.ctOf s w).length ≤ C) (hC4 : C < 4000000000) :
    Arm.Calls Tryz.prog 40 [ptr f] h (fun r => ∃ A B, r.1 = .tuple ⟨[.agg ⟨[.slice (some ⟨A, 0, none⟩) m.st.length m.st.length, .slice (some ⟨B, 0, none⟩) m.st.length m.st.length]⟩, .bool true, .int .i64 0]⟩ ∧
      Sts r.2 A m.st.length m.st.length s ∧ Rws r.2 h.next B m.st.length m.st.length s ∧ h.next ≤ A ∧ h.next ≤ B ∧ F0 r.2 f sb wb st (.pointer none) fp m.st m.ws ∧ Sm (fun x => x = f) h r.2) := by
  simp only [List.nodup_cons, List.mem_cons, List.not_mem_nil, or_false, not_or, List.nodup_nil, not_false_eq_true, and_true] at nd
  refine Calls_of_W (n := 95) (fn := Tryz.f40) (by kernel_rfl) rfl rfl (Nat.le_of_ble_eq_true rfl) trivial ⟨.inr (by simp), rfl⟩ ?_
  refine W_seq ?_
  refine W_region ?_
  refine L_nw (Al.cells [Value.slice none 0 0, Value.slice none 0 0]) (.ptr) rfl rfl (by kernel_rfl) ?_
  have c1 : Cl (h.push (Al.cells [Value.slice none 0 0, Value.slice none 0 0]).obj) h.next [Value.slice none 0 0, Value.slice none 0 0] := Cl.new h _
  have t1 : Sm Nix h (h.push (Al.cells [Value.slice none 0 0, Value.slice none 0 0]).obj) := .push h _
  have n1 : (h.push (Al.cells [Value.slice none 0 0, Value.slice none 0 0]).obj).next = h.next + 1 := rfl
  generalize h.push (Al.cells [Value.slice none 0 0, Value.slice none 0 0]).obj = h1 at c1 t1 n1 ⊢
  have H1 := H.ext t1
  have G1 := G.ext t1
  have hf := H.lt _ H.f1
  refine L_g 2 (by kernel_rfl) ?_
  refine L_nil ?_
  refine W_seq ?_
  refine W_block ?_
  refine W_seq ?_
  refine W_region ?_
  refine L_g 1 (by kernel_rfl) ?_
  refine L_c rfl rfl (by kernel_rfl) (valid_ok H1.cl) ?_
  rintro v9 h9 e9
  cases e9
  refine L_g 2 (by kernel_rfl) ?_
  refine L_nil ?_
  refine W_cond false (by kernel_rfl) (fun e => by cases e) (fun _ => ?_)
  refine W_seq ?_
  refine W_region ?_
  refine L_g 3 (by kernel_rfl) ?_
  refine L_ld _ rfl rfl (by kernel_rfl) (H1.cl.ld (o := 2) (by kernel_rfl) rfl) ?_
  refine L_g 2 (by kernel_rfl) ?_
  refine L_nil ?_
  refine W_cond false (by kernel_rfl) (fun e => by cases e) (fun _ => ?_)
  refine W_seq ?_
  refine W_region ?_
  refine L_g 3 (by kernel_rfl) ?_
  refine L_ld _ rfl rfl (by kernel_rfl) (H1.cl.ld (o := 2) (by kernel_rfl) rfl) ?_
  refine L_g 2 (by kernel_rfl) ?_
  refine L_ld _ rfl rfl (by kernel_rfl) (G1.cl.ld (o := 2) (by kernel_rfl) rfl) ?_
  refine L_ln _ rfl rfl (by kernel_rfl) (lenO G1.mo hop) ?_
  refine L_g 2 (by kernel_rfl) ?_
  refine L_nil ?_
  refine W_cond false (by kernel_rfl) (fun e => by cases e) (fun _ => ?_)
  refine W_skip ?_
  refine W_seq ?_
  refine W_region ?_
  refine L_g 3 (by kernel_rfl) ?_
  refine L_ld _ rfl rfl (by kernel_rfl) (H1.cl.ld (o := 0) (by kernel_rfl) rfl) ?_
  refine L_ln _ rfl rfl (by kernel_rfl) (H1.gr.lenV u64) ?_
  refine L_g 1 (by kernel_rfl) ?_
  refine L_nil ?_
  refine W_seq ?_
  refine W_drawn (by kernel_rfl) ?_
  refine D_e (e := 6) (l := [0, 1, 2, 3, 4, 5]) (s' := []) (by kernel_rfl) (by kernel_rfl) rfl (by kernel_rfl) Rk_nil ?_
  refine NS_b 1 (by kernel_rfl) ?_
  refine NS_new (Al.cells (zrep m.st.length [Value.int .i64 0])) (.sl m.st.length m.st.length) rfl (by kernel_rfl) rfl rfl (by kernel_rfl) (ev_mk (P := Tryz.prog) (el := 2) (z := Value.int .i64 0) (by_ := 8) (by kernel_rfl) (by kernel_rfl) (by kernel_rfl) (by kernel_rfl) rfl (by omega) (by kernel_rfl) (by kernel_rfl))  ?_
  have c2 : Cl (h1.push (Al.cells (zrep m.st.length [Value.int .i64 0])).obj) h1.next (zrep m.st.length [Value.int .i64 0]) := Cl.new h1 _
  have t2 : Sm Nix h1 (h1.push (Al.cells (zrep m.st.length [Value.int .i64 0])).obj) := .push h1 _
  have n2 : (h1.push (Al.cells (zrep m.st.length [Value.int .i64 0])).obj).next = h1.next + 1 := rfl
  generalize h1.push (Al.cells (zrep m.st.length [Value.int .i64 0])).obj = h2 at c2 t2 n2 ⊢
  refine NS_b 1 (by kernel_rfl) ?_
  refine NS_new (Al.cells (zrep m.st.length [Value.slice none 0 0])) (.sl m.st.length m.st.length) rfl (by kernel_rfl) rfl rfl (by kernel_rfl) (ev_mk (P := Tryz.prog) (el := 107) (z := Value.slice none 0 0) (by_ := 24) (by kernel_rfl) (by kernel_rfl) (by kernel_rfl) (by kernel_rfl) rfl (by omega) (by kernel_rfl) (by kernel_rfl))  ?_
  have c3 : Cl (h2.push (Al.cells (zrep m.st.length [Value.slice none 0 0])).obj) h2.next (zrep m.st.length [Value.slice none 0 0]) := Cl.new h2 _
  have t3 : Sm Nix h2 (h2.push (Al.cells (zrep m.st.length [Value.slice none 0 0])).obj) := .push h2 _
  have n3 : (h2.push (Al.cells (zrep m.st.length [Value.slice none 0 0])).obj).next = h2.next + 1 := rfl
  generalize h2.push (Al.cells (zrep m.st.length [Value.slice none 0 0])).obj = h3 at c3 t3 n3 ⊢
  refine NS_b 1 (by kernel_rfl) ?_
  refine NS_new (Al.cells [Value.slice none 0 0, Value.slice none 0 0]) (.ptr) rfl (by kernel_rfl) rfl rfl (by kernel_rfl) (by kernel_rfl) ?_
  have c4 : Cl (h3.push (Al.cells [Value.slice none 0 0, Value.slice none 0 0]).obj) h3.next [Value.slice none 0 0, Value.slice none 0 0] := Cl.new h3 _
  have t4 : Sm Nix h3 (h3.push (Al.cells [Value.slice none 0 0, Value.slice none 0 0]).obj) := .push h3 _
  have n4 : (h3.push (Al.cells [Value.slice none 0 0, Value.slice none 0 0]).obj).next = h3.next + 1 := rfl
  generalize h3.push (Al.cells [Value.slice none 0 0, Value.slice none 0 0]).obj = h4 at c4 t4 n4 ⊢
  refine NS_nil ?_
  obtain ⟨h5, e5, c5, t5, n5⟩ := c4.storeS (P := Tryz.prog) (T := 80) (v := .agg ⟨[Value.slice (some ⟨h1.next, 0, none⟩) m.st.length m.st.length, Value.slice (some ⟨h2.next, 0, none⟩) m.st.length m.st.length]⟩) (cs := [Value.slice (some ⟨h1.next, 0, none⟩) m.st.length m.st.length, Value.slice (some ⟨h2.next, 0, none⟩) m.st.length m.st.length]) (by kernel_rfl) rfl rfl (fun x hx => by simp only [List.mem_cons, List.not_mem_nil, or_false] at hx; rcases hx with rfl | rfl <;> rfl)
  have T5 : Sm Nix h h5 := (((t1.ext t2).ext t3).ext t4).trans t5 (fun x hx => .inr (by omega))
  have A5 : Sts h5 h1.next m.st.length 0 s := ⟨_, ((c2.ext t3).ext t4).sm t5 (by omega), zrep_length _ _, fun i hi => by omega⟩
  have B5 : Rws h5 h4.next h2.next m.st.length 0 s := ⟨_, (c3.ext t4).sm t5 (by omega), zrep_length _ _, fun i hi => by omega⟩
  have R5 : Cl h5 h.next [Value.slice none 0 0, Value.slice none 0 0] := (((c1.ext t2).ext t3).ext t4).sm t5 (by omega)
  refine L_st _ rfl rfl rfl (by kernel_rfl) (by kernel_rfl) (e5) ?_
  refine L_nil ⟨rfl, ?_⟩
  refine D_l (l := []) (by kernel_rfl) (by kernel_rfl) Rk_nil ?_
  refine NS_nil ?_
  refine W_seq ?_
  refine W_seq ?_
  refine W_region ?_
  refine L_g 2 (by kernel_rfl) ?_
  refine L_nil ?_
  refine W_block ?_
  refine W_loop (fun i fr hh => ∃ p, p ≤ m.st.length ∧ i = m.st.length - p ∧ fr 0 = ptr f ∧ fr 2 = ptr h.next ∧ fr 5 = .int .i64 m.st.length ∧ fr 6 = ptr h3.next ∧ fr 42 = .int .i64 m.st.length ∧ fr 43 = .int .i64 p ∧
        Sm Nix h hh ∧ Cl hh h3.next [Value.slice (some ⟨h1.next, 0, none⟩) m.st.length m.st.length, Value.slice (some ⟨h2.next, 0, none⟩) m.st.length m.st.length] ∧ Cl hh h.next [Value.slice none 0 0, Value.slice none 0 0] ∧ Sts hh h1.next m.st.length p s ∧ Rws hh h4.next h2.next m.st.length p s ∧ h4.next ≤ hh.next) (m.st.length) ?_ ?_
  ·
    exact ⟨0, Nat.zero_le _, rfl, by kernel_rfl, by kernel_rfl, by kernel_rfl, by kernel_rfl, by kernel_rfl, by kernel_rfl, T5, c5, R5, A5, B5, by omega⟩
  rintro i fr h6 ⟨p, hp, hi, y0, y2, y5, y6, y42, y43, T6, c6, R6, ⟨ca, A6, la, ra⟩, ⟨cb, B6, lb, rb⟩, n6⟩
  have H6 := H.ext T6
  have G6 := G.ext T6
  refine W_set y0 (W_set (k := 2) y2 (W_set (k := 5) y5 (W_set (k := 6) y6 (W_set (k := 42) y42 (W_set (k := 43) y43 ?_)))))
  refine W_seq ?_
  refine W_region ?_
  refine L_g 1 (by kernel_rfl) ?_
  refine L_nil ?_
  refine W_seq ?_
  refine W_cond (decide ((p : Int) < m.st.length)) (by kernel_rfl) (fun hb => ?_) (fun hb => ?_)
  ·
    have hlt : p < m.st.length := by simpa using hb
    refine W_skip ?_
    refine W_seq ?_
    refine W_block ?_
    refine W_seq ?_
    refine W_region ?_
    refine L_g 2 (by kernel_rfl) ?_
    refine L_nil ?_
    refine W_seq ?_
    refine W_drawn (by kernel_rfl) ?_
    refine D_e (e := 13) (l := [0, 1, 2, 3, 4, 5, 6, 7, 8, 9, 10, 11, 12]) (s' := []) (by kernel_rfl) (by kernel_rfl) rfl (by kernel_rfl) Rk_nil ?_
    refine NS_b 1 (by kernel_rfl) ?_
    refine NS_ld _ rfl rfl (by kernel_rfl) (by kernel_rfl) (by kernel_rfl) (c6.ld (o := 0) (by kernel_rfl) rfl) ?_
    refine NS_b 4 (by kernel_rfl) ?_
    refine NS_ld _ rfl rfl (by kernel_rfl) (by kernel_rfl) (by kernel_rfl) (H6.cl.ld (o := 2) (by kernel_rfl) rfl) ?_
    refine NS_b 2 (by kernel_rfl) ?_
    refine NS_ld _ rfl rfl (by kernel_rfl) (by kernel_rfl) (by kernel_rfl) (G6.cl.ld (o := 0) (by kernel_rfl) rfl) ?_
    refine NS_b 1 (by kernel_rfl) ?_
    refine NS_lk _ rfl rfl (by kernel_rfl) (by kernel_rfl) (by kernel_rfl) (by kernel_rfl) (lookS G6.ma (p : Int)) ?_
    refine NS_ix _ rfl rfl (by kernel_rfl) (by kernel_rfl) (by kernel_rfl) (by kernel_rfl) (ix_cl (b := h1.next) u64 s2 hlt .i64) ?_
    refine NS_nil ?_
    obtain ⟨h7, e7, A7, t7, n7⟩ := A6.store (P := Tryz.prog) (T := 2) (o := p) (v := iv ((kget s.st (p : Int)).getD 0)) (by kernel_rfl) rfl rfl (by omega)
    have c7 := c6.sm t7 (by omega)
    have B7 := B6.sm t7 (by omega)
    refine L_st _ rfl rfl rfl (by kernel_rfl) (by kernel_rfl) (e7) ?_
    refine L_nil ⟨rfl, ?_⟩
    refine D_l (l := []) (by kernel_rfl) (by kernel_rfl) Rk_nil ?_
    refine NS_nil ?_
    refine W_seq ?_
    refine W_drawn (by kernel_rfl) ?_
    refine D_e (e := 6) (l := [0, 1, 2, 3, 4, 5]) (s' := []) (by kernel_rfl) (by kernel_rfl) rfl (by kernel_rfl) Rk_nil ?_
    refine NS_b 1 (by kernel_rfl) ?_
    refine NS_ld _ rfl rfl (by kernel_rfl) (by kernel_rfl) (by kernel_rfl) (c7.ld (o := 1) (by kernel_rfl) rfl) ?_
    refine NS_b 2 (by kernel_rfl) ?_
    refine NS_newR (Al.cells (zrep m.st.length [Value.slice none 0 0])) (.sl m.st.length m.st.length) rfl (by kernel_rfl) rfl rfl (ev_mk (P := Tryz.prog) (el := 64) (z := Value.slice none 0 0) (by_ := 24) (by kernel_rfl) (by kernel_rfl) (by kernel_rfl) (by kernel_rfl) rfl (by omega) (by kernel_rfl) (by kernel_rfl)) (Rk_1 rfl rfl (Rk_ld _ rfl rfl rfl (by kernel_rfl) ((c7.ext (.push h7 _)).ld (o := 1) (by kernel_rfl) rfl) (by kernel_rfl) (Rk_1 rfl rfl (Rk_1 rfl rfl (Rk_1 rfl rfl Rk_nil))))) ?_
    have c8 : Cl (h7.push (Al.cells (zrep m.st.length [Value.slice none 0 0])).obj) h7.next (zrep m.st.length [Value.slice none 0 0]) := Cl.new h7 _
    have t8 : Sm Nix h7 (h7.push (Al.cells (zrep m.st.length [Value.slice none 0 0])).obj) := .push h7 _
    have n8 : (h7.push (Al.cells (zrep m.st.length [Value.slice none 0 0])).obj).next = h7.next + 1 := rfl
    generalize h7.push (Al.cells (zrep m.st.length [Value.slice none 0 0])).obj = h8 at c8 t8 n8 ⊢
    refine NS_ix _ rfl rfl (by kernel_rfl) (by kernel_rfl) (by kernel_rfl) (by kernel_rfl) (ix_cl (b := h2.next) u69 s74 hlt .i64) ?_
    refine NS_nil ?_
    obtain ⟨h9, e9, B9, t9, n9⟩ := (B7.ext t8).store (P := Tryz.prog) (T := 107) (o := p) (v := Value.slice (some ⟨h7.next, 0, none⟩) m.st.length m.st.length) (by kernel_rfl) rfl rfl (by omega)
    have T9 : Sm Nix h h9 := ((T6.trans t7 (fun x hx => .inr (by have := t1.nx; omega))).ext t8).trans t9 (fun x hx => .inr (by have := t1.nx; omega))
    have c9 := (c7.ext t8).sm t9 (by omega)
    have C9 := c8.sm t9 (by omega)
    refine L_st _ rfl rfl rfl (by kernel_rfl) (by kernel_rfl) (e9) ?_
    refine L_nil ⟨rfl, ?_⟩
    refine D_l (l := []) (by kernel_rfl) (by kernel_rfl) Rk_nil ?_
    refine NS_nil ?_
    refine W_seq ?_
    refine W_region ?_
    refine L_g 2 (by kernel_rfl) ?_
    refine L_nil ?_
    refine W_block ?_
    refine W_loop (fun i fr hh => ∃ k, k ≤ m.st.length ∧ i = m.st.length - k ∧ fr 0 = ptr f ∧ fr 2 = ptr h.next ∧ fr 5 = .int .i64 m.st.length ∧ fr 6 = ptr h3.next ∧ fr 42 = .int .i64 m.st.length ∧ fr 43 = .int .i64 p ∧ fr 7 = .int .i64 p ∧ fr 65 = .int .i64 m.st.length ∧ fr 66 = .int .i64 k ∧
          Sm (fun x => x = h7.next) h9 hh ∧ ∃ cr, Cl hh h7.next cr ∧ cr.length = m.st.length ∧ ∀ j, j < k → ∃ u, cr[j]? = some u ∧ Gr hh 1 u (Fl.ctOf s ((p : Int), (j : Int))).length ((Fl.ctOf s ((p : Int), (j : Int))).map iv) ∧ ∀ b, vb u = some b → h7.next < b) (m.st.length) ?_ ?_
    ·
      exact ⟨0, Nat.zero_le _, rfl, by kernel_rfl, by kernel_rfl, by kernel_rfl, by kernel_rfl, by kernel_rfl, by kernel_rfl, by kernel_rfl, by kernel_rfl, by kernel_rfl, .refl, _, C9, zrep_length _ _, fun j hj => by omega⟩
    rintro i2 fr2 h10 ⟨k, hk, hi2, y0, y2, y5, y6, y42, y43, y7, y65, y66, t10, cr, C10, lr, rr⟩
    have T10 : Sm Nix h h10 := T9.trans t10 (fun x hx => .inr (by have := t1.nx; omega))
    have H10 := H.ext T10
    have G10 := G.ext T10
    have c10 := c9.sm t10 (by omega)
    have B10 := B9.sm t10 (by omega)
    refine W_set y0 (W_set (k := 2) y2 (W_set (k := 5) y5 (W_set (k := 6) y6 (W_set (k := 42) y42 (W_set (k := 43) y43 (W_set (k := 7) y7 (W_set (k := 65) y65 (W_set (k := 66) y66 ?_))))))))
    refine W_seq ?_
    refine W_region ?_
    refine L_g 1 (by kernel_rfl) ?_
    refine L_nil ?_
    refine W_seq ?_
    refine W_cond (decide ((k : Int) < m.st.length)) (by kernel_rfl) (fun hb => ?_) (fun hb => ?_)
    ·
      have hlt2 : k < m.st.length := by simpa using hb
      refine W_skip ?_
      refine W_seq ?_
      refine W_block ?_
      refine W_seq ?_
      refine W_region ?_
      refine L_g 2 (by kernel_rfl) ?_
      refine L_nil ?_
      refine W_drawn (by kernel_rfl) ?_
      refine D_e (e := 18) (l := [0, 1, 2, 3, 4, 5, 6, 7, 8, 9, 10, 11, 12, 13, 14, 15, 16, 17]) (s' := [0, 1, 2, 3, 4, 5]) (by kernel_rfl) (by kernel_rfl) rfl (by kernel_rfl) Rk_nil ?_
      refine NS_b 1 (by kernel_rfl) ?_
      refine NS_ld _ rfl rfl (by kernel_rfl) (by kernel_rfl) (by kernel_rfl) (c10.ld (o := 1) (by kernel_rfl) rfl) ?_
      refine NS_b 1 (by kernel_rfl) ?_
      refine NS_ix _ rfl rfl (by kernel_rfl) (by kernel_rfl) (by kernel_rfl) (by kernel_rfl) (ix_cl (b := h2.next) u69 s74 hlt .i64) ?_
      refine NS_ld _ rfl rfl (by kernel_rfl) (by kernel_rfl) (by kernel_rfl) (B10.ld (o := p) (by kernel_rfl) (by rw [List.getElem?_set, if_pos rfl, if_pos (by omega)])) ?_
      refine NS_b 4 (by kernel_rfl) ?_
      refine NS_ld _ rfl rfl (by kernel_rfl) (by kernel_rfl) (by kernel_rfl) (H10.cl.ld (o := 2) (by kernel_rfl) rfl) ?_
      refine NS_b 2 (by kernel_rfl) ?_
      refine NS_ld _ rfl rfl (by kernel_rfl) (by kernel_rfl) (by kernel_rfl) (G10.cl.ld (o := 1) (by kernel_rfl) rfl) ?_
      refine NS_b 3 (by kernel_rfl) ?_
      obtain ⟨s1, es, gs, bs⟩ := lookC G10.mc ((p : Int), (k : Int))
      refine NS_lk _ rfl rfl (by kernel_rfl) (by kernel_rfl) (by kernel_rfl) (by kernel_rfl) (es) ?_
      refine NS_b 1 (by kernel_rfl) ?_
      refine NS_nil ?_
      refine L_c rfl rfl (by kernel_rfl) (clone_iv gs.sd iv_one (by have := hC ((p : Int), (k : Int)); unfold Fl.ctOf at this; omega)) ?_
      rintro s2 h11 ⟨g11, t11, nb⟩
      dsimp only at g11 t11 nb
      obtain ⟨av, cv, ev⟩ := g11.sd.form
      subst ev
      have nb : ∀ b, vb (Value.slice av (Fl.ctOf s ((p : Int), (k : Int))).length cv) = some b → h10.next ≤ b := nb
      have l10 := C10.lt
      refine L_nil ⟨rfl, ?_⟩
      refine D_e (e := 20) (l := [19]) (s' := []) (by kernel_rfl) (by kernel_rfl) rfl (by kernel_rfl) (Rk_1 rfl rfl (Rk_ld _ rfl rfl rfl (by kernel_rfl) ((c10.ext t11).ld (o := 1) (by kernel_rfl) rfl) (by kernel_rfl) (Rk_1 rfl rfl (Rk_1 rfl rfl (Rk_ld _ rfl rfl rfl (by kernel_rfl) ((B10.ext t11).ld (o := p) (by kernel_rfl) (by rw [List.getElem?_set, if_pos rfl, if_pos (by omega)])) (by kernel_rfl) (Rk_1 rfl rfl Rk_nil)))))) ?_
      refine NS_ix _ rfl rfl (by kernel_rfl) (by kernel_rfl) (by kernel_rfl) (by kernel_rfl) (ix_cl (b := h7.next) u74 s64 hlt2 .i64) ?_
      refine NS_nil ?_
      obtain ⟨h12, e12, C12, t12, n12⟩ := (C10.ext t11).store (P := Tryz.prog) (T := 64) (o := k) (v := Value.slice av (Fl.ctOf s ((p : Int), (k : Int))).length cv) (by kernel_rfl) rfl rfl (by omega)
      refine L_st _ rfl rfl rfl (by kernel_rfl) (by kernel_rfl) (e12) ?_
      refine L_nil ⟨rfl, ?_⟩
      refine D_l (l := []) (by kernel_rfl) (by kernel_rfl) Rk_nil ?_
      refine NS_nil ?_
      refine W_region ?_
      refine L_i ((k : Int)) (1) (.int .i64 ((k + 1 : Nat) : Int)) rfl rfl (by kernel_rfl) (by kernel_rfl) rfl (inc_ok (by omega)) ?_
      refine L_g 1 (by kernel_rfl) ?_
      refine L_nil ?_
      refine ⟨m.st.length - (k + 1), by omega, k + 1, by omega, rfl, by kernel_rfl, by kernel_rfl, by kernel_rfl, by kernel_rfl, by kernel_rfl, by kernel_rfl, by kernel_rfl, by kernel_rfl, by kernel_rfl, (t10.ext t11).then t12, _, C12, by rw [List.length_set]; exact lr, fun j hj => ?_⟩
      rw [List.getElem?_set]
      split
      · rename_i e; subst e; rw [if_pos (by omega)]
        exact ⟨_, rfl, g11.sm t12 (fun b hb e => by have := nb b hb; omega), fun b hb => by have := nb b hb; omega⟩
      · obtain ⟨u, e1, e2, e3⟩ := rr j (by omega)
        exact ⟨u, e1, (e2.ext t11).sm t12 (fun b hb e => by have := e3 b hb; omega), e3⟩
    ·
      have hge2 : ¬ k < m.st.length := by simpa using hb
      refine W_exit ?_
      repeat with_reducible refine then_exit ?_
      refine exit_here ?_
      refine W_region ?_
      refine L_i ((p : Int)) (1) (.int .i64 ((p + 1 : Nat) : Int)) rfl rfl (by kernel_rfl) (by kernel_rfl) rfl (inc_ok (by omega)) ?_
      refine L_g 1 (by kernel_rfl) ?_
      refine L_nil ?_
      have hkn : k = m.st.length := by omega
      subst hkn
      have T69 : Sm (fun x => x = h1.next ∨ x = h2.next) h6 h9 := ((t7.mono (fun x hx => .inl hx)).ext t8).then (t9.mono (fun x hx => .inr hx))
      have T10 : Sm (fun x => x = h1.next ∨ x = h2.next) h6 h10 := T69.trans t10 (fun x hx => .inr (by omega))
      refine ⟨m.st.length - (p + 1), by omega, p + 1, by omega, rfl, by kernel_rfl, by kernel_rfl, by kernel_rfl, by kernel_rfl, by kernel_rfl, by kernel_rfl, T6.trans T10 (fun x hx => .inr (by have := t1.nx; have := t2.nx; omega)), c6.sm T10 (by omega), R6.sm T10 (by omega), ⟨_, ((A7.ext t8).sm t9 (by omega)).sm t10 (by omega), by rw [List.length_set]; exact la, fun i hi => ?_⟩, ⟨_, B9.sm t10 (by omega), by rw [List.length_set]; exact lb, fun i hi => ?_⟩, by have := T10.nx; omega⟩
      · rw [List.getElem?_set]
        split
        · rename_i e; subst e; rw [if_pos (by omega)]
        · exact ra i (by omega)
      · rw [List.getElem?_set]
        split
        · rename_i e; subst e; rw [if_pos (by omega)]
          exact ⟨h7.next, rfl, by omega, cr, C10, lr, rr⟩
        · obtain ⟨R, e1, e2⟩ := rb i (by omega)
          exact ⟨R, e1, e2.sm T10 (fun x hx => .inl (by omega))⟩
  ·
    have hge : ¬ p < m.st.length := by simpa using hb
    refine W_exit ?_
    repeat with_reducible refine then_exit ?_
    refine exit_here ?_
    refine W_seq ?_
    refine W_region ?_
    refine L_g 3 (by kernel_rfl) ?_
    have hpn : p = m.st.length := by omega
    subst hpn
    obtain ⟨h13, e13, c13, t13, n13⟩ := H6.cl.store (P := Tryz.prog) (T := 93) (o := 2) (v := .pointer none) (by kernel_rfl) rfl rfl (by simp)
    have n16 := T6.nx
    have n1h := t1.nx
    have c6' := c6.sm t13 (by omega)
    obtain ⟨h14, e14, c14, t14, n14⟩ := (R6.sm t13 (by omega)).storeS (P := Tryz.prog) (T := 80) (v := .agg ⟨[Value.slice (some ⟨h1.next, 0, none⟩) m.st.length m.st.length, Value.slice (some ⟨h2.next, 0, none⟩) m.st.length m.st.length]⟩) (cs := [Value.slice (some ⟨h1.next, 0, none⟩) m.st.length m.st.length, Value.slice (some ⟨h2.next, 0, none⟩) m.st.length m.st.length]) (by kernel_rfl) rfl rfl (fun x hx => by simp only [List.mem_cons, List.not_mem_nil, or_false] at hx; rcases hx with rfl | rfl <;> rfl)
    refine L_st _ rfl rfl rfl (by kernel_rfl) (by kernel_rfl) (e13) ?_
    refine L_nil ?_
    refine W_seq ?_
    refine W_region ?_
    refine L_ld _ rfl rfl (by kernel_rfl) (c6'.ldS (k := 2) (by kernel_rfl) (Nat.le_refl _)) ?_
    refine L_st _ rfl rfl rfl (by kernel_rfl) (by kernel_rfl) (e14) ?_
    refine L_g 2 (by kernel_rfl) ?_
    refine L_nil ?_
    refine W_ret ?_
    repeat first | with_reducible refine then_ret ?_ | with_reducible refine blk_ret ?_
    refine done_of (.inl rfl) (evR_c3 (by kernel_rfl) (by kernel_rfl) (by kernel_rfl) (a := ⟨h.next, 0, none⟩) (by kernel_rfl) (c14.ldS (k := 2) (by kernel_rfl) (Nat.le_refl _)) (u := .bool true) (by kernel_rfl) (w := .int .i64 0) (by kernel_rfl)) ?_
    have T14 : Sm (fun x => x = f ∨ x = h.next) h6 h14 := (t13.mono (fun x hx => .inl hx)).then (t14.mono (fun x hx => .inr hx))
    have TT : Sm (fun x => x = f) h h14 := T6.of.trans T14 (fun x hx => hx.elim .inl (fun e => .inr (by omega)))
    refine ⟨h1.next, h2.next, rfl, ⟨ca, A6.sm T14 (by omega), la, ra⟩, ⟨cb, B6.sm T14 (by omega), lb, fun i hi => ?_⟩, by omega, by omega, ⟨c13.sm t14 (by omega), H.gr.sm TT (fun b hb => by rw [H.vb] at hb; cases hb; omega), H.vb, ?_, H.f1, H.s1, H.w1, H.nd, fun x hx => ?_⟩, TT⟩
    · obtain ⟨R, e1, e2⟩ := rb i hi
      exact ⟨R, e1, (e2.sm T14 (fun x hx => .inl (by omega))).low (by omega)⟩
    · have hwf : ¬ wb = f := by omega
      exact H.mp.sm TT hwf (fun v x r => Rq.sm r TT (fun x hx => by subst hx; exact H.f1))
    · have := H.lt x hx
      have := TT.nx
      show x < h14.next
      omega
end
end Go.Proofs.YtdaedcoolcicoaaGreat
namespace Go.Proofs.YtdaedcoolcicoaaGreat
noncomputable section
open Go Go.X Go.Arm
set_option maxHeartbeats 1000000 in
theorem taken_part {h : AH} {f sb wb g a c o : Nat} {st : Value} {fp : List Nat} {m : Fl} {s : Sh} (H : F0 h f sb wb st (ptr g) fp m.st m.ws) (G : S0 h g a c o fp s) (hop : s.op ≠ []) :
    Arm.Calls Tryz.prog 40 [ptr f] h (fun r => r.1 = .tuple ⟨[.agg ⟨[Value.slice none 0 0, Value.slice none 0 0]⟩, .bool false, .int .i64 0]⟩ ∧ Sm Nix h r.2) := by
  refine Calls_of_W (n := 95) (fn := Tryz.f40) (by kernel_rfl) rfl rfl (Nat.le_of_ble_eq_true rfl) trivial ⟨.inr (by simp), rfl⟩ ?_
  refine W_seq ?_
  refine W_region ?_
  refine L_nw (Al.cells [Value.slice none 0 0, Value.slice none 0 0]) (.ptr) rfl rfl (by kernel_rfl) ?_
  have c1 : Cl (h.push (Al.cells [Value.slice none 0 0, Value.slice none 0 0]).obj) h.next [Value.slice none 0 0, Value.slice none 0 0] := Cl.new h _
  have t1 : Sm Nix h (h.push (Al.cells [Value.slice none 0 0, Value.slice none 0 0]).obj) := .push h _
  have n1 : (h.push (Al.cells [Value.slice none 0 0, Value.slice none 0 0]).obj).next = h.next + 1 := rfl
  generalize h.push (Al.cells [Value.slice none 0 0, Value.slice none 0 0]).obj = h1 at c1 t1 n1 ⊢
  have H1 := H.ext t1
  have G1 := G.ext t1
  refine L_g 2 (by kernel_rfl) ?_
  refine L_nil ?_
  refine W_seq ?_
  refine W_block ?_
  refine W_seq ?_
  refine W_region ?_
  refine L_g 1 (by kernel_rfl) ?_
  refine L_c rfl rfl (by kernel_rfl) (valid_ok H1.cl) ?_
  rintro v9 h9 e9
  cases e9
  refine L_g 2 (by kernel_rfl) ?_
  refine L_nil ?_
  refine W_cond false (by kernel_rfl) (fun e => by cases e) (fun _ => ?_)
  refine W_seq ?_
  refine W_region ?_
  refine L_g 3 (by kernel_rfl) ?_
  refine L_ld _ rfl rfl (by kernel_rfl) (H1.cl.ld (o := 2) (by kernel_rfl) rfl) ?_
  refine L_g 2 (by kernel_rfl) ?_
  refine L_nil ?_
  refine W_cond false (by kernel_rfl) (fun e => by cases e) (fun _ => ?_)
  refine W_seq ?_
  refine W_region ?_
  refine L_g 3 (by kernel_rfl) ?_
  refine L_ld _ rfl rfl (by kernel_rfl) (H1.cl.ld (o := 2) (by kernel_rfl) rfl) ?_
  refine L_g 2 (by kernel_rfl) ?_
  refine L_ld _ rfl rfl (by kernel_rfl) (G1.cl.ld (o := 2) (by kernel_rfl) rfl) ?_
  refine L_ln _ rfl rfl (by kernel_rfl) (G1.mo.len (P := Tryz.prog) u136) ?_
  refine L_i ((s.op.length : Int)) (0) (.bool true) rfl rfl (by kernel_rfl) (by kernel_rfl) rfl (by have := List.length_pos_iff.2 hop; simp; omega) ?_
  refine L_g 1 (by kernel_rfl) ?_
  refine L_nil ?_
  refine W_cond true (by kernel_rfl) (fun _ => ?_) (fun e => by cases e)
  refine W_seq ?_
  refine W_region ?_
  refine L_g 1 (by kernel_rfl) ?_
  obtain ⟨h2, e2, c2, t2, n2⟩ := c1.storeS (P := Tryz.prog) (T := 80) (v := .agg ⟨[Value.slice none 0 0, Value.slice none 0 0]⟩) (cs := [Value.slice none 0 0, Value.slice none 0 0]) (by kernel_rfl) rfl rfl (fun x hx => by simp only [List.mem_cons, List.not_mem_nil, or_false] at hx; rcases hx with rfl | rfl <;> rfl)
  refine L_st _ rfl rfl rfl (by kernel_rfl) (by kernel_rfl) (e2) ?_
  refine L_g 2 (by kernel_rfl) ?_
  refine L_nil ?_
  refine W_ret ?_
  repeat first | with_reducible refine then_ret ?_ | with_reducible refine blk_ret ?_
  refine done_of (.inl rfl) (evR_c3 (by kernel_rfl) (by kernel_rfl) (by kernel_rfl) (a := ⟨h.next, 0, none⟩) (by kernel_rfl) (c2.ldS (k := 2) (by kernel_rfl) (Nat.le_refl _)) (u := .bool false) (by kernel_rfl) (w := .int .i64 0) (by kernel_rfl)) ?_
  exact ⟨rfl, t1.trans t2 (fun x hx => .inr (by omega))⟩
theorem clone86 {κ β : Type} {kv : κ → Value} {R : Value → β → Prop} {h : AH} {b : Nat} {m : List (κ × β)} (H : Mp h b kv R m) :
    Arm.Calls Tryz.prog (86) [.map (some b)] h (fun r => r.1 = .map (some h.next) ∧ Mp r.2 h.next kv R m ∧ Sm Nix h r.2 ∧ r.2.next = h.next + 1) := by
  obtain ⟨h1, es, cl, h2, h3⟩ := H
  have hg : Kn.g Tryz.prog 86 [.map (some b)] h = some [((.map (some h.next) : Value), (⟨h.m.set h.next (some (.map es cl false)), h.next + 1⟩ : AH))] := by
    show (match h.m.get b with | some (.map es cl _) => some [((.map (some h.next) : Value), (⟨h.m.set h.next (some (.map es cl false)), h.next + 1⟩ : AH))] | _ => none) = _
    rw [h2]
  refine ⟨_, eRun_g hg, fun a ha => ?_⟩
  cases List.mem_singleton.1 ha
  refine ⟨rfl, ⟨Nat.lt_succ_self _, es, cl, by show (h.m.set h.next _).get h.next = _; rw [X.T.get_set, if_pos rfl], h3⟩, ⟨Nat.le_succ _, fun k hk _ => by show (h.m.set h.next _).get k = _; rw [X.T.get_set, if_neg (by omega)]⟩, rfl⟩
theorem clone87 {κ β : Type} {kv : κ → Value} {R : Value → β → Prop} {h : AH} {b : Nat} {m : List (κ × β)} (H : Mp h b kv R m) :
    Arm.Calls Tryz.prog (87) [.map (some b)] h (fun r => r.1 = .map (some h.next) ∧ Mp r.2 h.next kv R m ∧ Sm Nix h r.2 ∧ r.2.next = h.next + 1) := by
  obtain ⟨h1, es, cl, h2, h3⟩ := H
  have hg : Kn.g Tryz.prog 87 [.map (some b)] h = some [((.map (some h.next) : Value), (⟨h.m.set h.next (some (.map es cl false)), h.next + 1⟩ : AH))] := by
    show (match h.m.get b with | some (.map es cl _) => some [((.map (some h.next) : Value), (⟨h.m.set h.next (some (.map es cl false)), h.next + 1⟩ : AH))] | _ => none) = _
    rw [h2]
  refine ⟨_, eRun_g hg, fun a ha => ?_⟩
  cases List.mem_singleton.1 ha
  refine ⟨rfl, ⟨Nat.lt_succ_self _, es, cl, by show (h.m.set h.next _).get h.next = _; rw [X.T.get_set, if_pos rfl], h3⟩, ⟨Nat.le_succ _, fun k hk _ => by show (h.m.set h.next _).get k = _; rw [X.T.get_set, if_neg (by omega)]⟩, rfl⟩
theorem clone88 {κ β : Type} {kv : κ → Value} {R : Value → β → Prop} {h : AH} {b : Nat} {m : List (κ × β)} (H : Mp h b kv R m) :
    Arm.Calls Tryz.prog (88) [.map (some b)] h (fun r => r.1 = .map (some h.next) ∧ Mp r.2 h.next kv R m ∧ Sm Nix h r.2 ∧ r.2.next = h.next + 1) := by
  obtain ⟨h1, es, cl, h2, h3⟩ := H
  have hg : Kn.g Tryz.prog 88 [.map (some b)] h = some [((.map (some h.next) : Value), (⟨h.m.set h.next (some (.map es cl false)), h.next + 1⟩ : AH))] := by
    show (match h.m.get b with | some (.map es cl _) => some [((.map (some h.next) : Value), (⟨h.m.set h.next (some (.map es cl false)), h.next + 1⟩ : AH))] | _ => none) = _
    rw [h2]
  refine ⟨_, eRun_g hg, fun a ha => ?_⟩
  cases List.mem_singleton.1 ha
  refine ⟨rfl, ⟨Nat.lt_succ_self _, es, cl, by show (h.m.set h.next _).get h.next = _; rw [X.T.get_set, if_pos rfl], h3⟩, ⟨Nat.le_succ _, fun k hk _ => by show (h.m.set h.next _).get k = _; rw [X.T.get_set, if_neg (by omega)]⟩, rfl⟩
theorem clone89 {κ β : Type} {kv : κ → Value} {R : Value → β → Prop} {h : AH} {b : Nat} {m : List (κ × β)} (H : Mp h b kv R m) :
    Arm.Calls Tryz.prog (89) [.map (some b)] h (fun r => r.1 = .map (some h.next) ∧ Mp r.2 h.next kv R m ∧ Sm Nix h r.2 ∧ r.2.next = h.next + 1) := by
  obtain ⟨h1, es, cl, h2, h3⟩ := H
  have hg : Kn.g Tryz.prog 89 [.map (some b)] h = some [((.map (some h.next) : Value), (⟨h.m.set h.next (some (.map es cl false)), h.next + 1⟩ : AH))] := by
    show (match h.m.get b with | some (.map es cl _) => some [((.map (some h.next) : Value), (⟨h.m.set h.next (some (.map es cl false)), h.next + 1⟩ : AH))] | _ => none) = _
    rw [h2]
  refine ⟨_, eRun_g hg, fun a ha => ?_⟩
  cases List.mem_singleton.1 ha
  refine ⟨rfl, ⟨Nat.lt_succ_self _, es, cl, by show (h.m.set h.next _).get h.next = _; rw [X.T.get_set, if_pos rfl], h3⟩, ⟨Nat.le_succ _, fun k hk _ => by show (h.m.set h.next _).get k = _; rw [X.T.get_set, if_neg (by omega)]⟩, rfl⟩
set_option maxHeartbeats 2000000 in
theorem copy_off {h : AH} {f sb wb : Nat} {st : Value} {X : List Nat} {m : Fl} (H : F0 h f sb wb st (.pointer none) X m.st m.ws) (hn0 : 0 < m.st.length) (hn : m.st.length < 1000000) :
    Arm.Calls Tryz.prog (34) [ptr f] h (fun r => ∃ f2 sb2 wb2 st2, r.1 = ptr f2 ∧ F0 r.2 f2 sb2 wb2 st2 (.pointer none) (X ++ [f2, sb2, wb2]) m.st m.ws ∧ Sm Nix h r.2 ∧ h.next ≤ f2 ∧ h.next ≤ sb2 ∧ h.next ≤ wb2) := by
  refine Calls_of_W (n := 47) (fn := Tryz.f34) (by kernel_rfl) rfl rfl (Nat.le_of_ble_eq_true rfl) trivial ⟨.inr (by simp), rfl⟩ ?_
  refine W_seq ?_
  refine W_region ?_
  refine L_g 1 (by kernel_rfl) ?_
  refine L_nil ?_
  refine W_seq ?_
  refine W_seq ?_
  refine W_region ?_
  refine L_g 1 (by kernel_rfl) ?_
  refine L_c rfl rfl (by kernel_rfl) (valid_ok H.cl) ?_
  rintro v9 h9 e9
  cases e9
  refine L_g 1 (by kernel_rfl) ?_
  refine L_nil ?_
  refine W_cond false (by kernel_rfl) (fun e => by cases e) (fun _ => ?_)
  refine W_skip ?_
  refine W_seq ?_
  refine W_drawn (by kernel_rfl) ?_
  refine D_e (e := 4) (l := [0, 1, 2, 3, 5, 6, 7, 8]) (s' := [5, 6, 7, 8]) (by kernel_rfl) (by kernel_rfl) rfl (by kernel_rfl) Rk_nil ?_
  refine NS_b 3 (by kernel_rfl) ?_
  refine NS_ld _ rfl rfl (by kernel_rfl) (by kernel_rfl) (by kernel_rfl) (H.cl.ld (o := 0) (by kernel_rfl) rfl) ?_
  refine NS_b 3 (by kernel_rfl) ?_
  refine NS_ld _ rfl rfl (by kernel_rfl) (by kernel_rfl) (by kernel_rfl) (H.cl.ld (o := 1) (by kernel_rfl) rfl) ?_
  refine NS_nil ?_
  refine L_c rfl rfl (by kernel_rfl) (clone_iv H.gr.sd iv_one (by omega)) ?_
  rintro s1 h1 ⟨g1, t1, nb⟩
  dsimp only at g1 t1 nb
  obtain ⟨av, cv, ev⟩ := g1.sd.form
  subst ev
  obtain ⟨sb2, hsb⟩ : ∃ sb2, vb (.slice av m.st.length cv) = some sb2 := by
    rcases g1.2 with ⟨e, _⟩ | ⟨b, o, cc, nn, e, _⟩
    · omega
    · rw [e]; exact ⟨b, rfl⟩
  have hs0 := nb sb2 hsb
  have hs1 := g1.lt hsb
  have H1 := H.ext t1
  refine L_nil ⟨rfl, ?_⟩
  refine D_e (e := 9) (l := []) (s' := []) (by kernel_rfl) (by kernel_rfl) rfl (by kernel_rfl) (Rk_1 rfl rfl (Rk_1 rfl rfl (Rk_1 rfl rfl (Rk_ld _ rfl rfl rfl (by kernel_rfl) (H1.cl.ld (o := 1) (by kernel_rfl) rfl) (by kernel_rfl) Rk_nil)))) ?_
  refine NS_nil ?_
  refine L_c rfl rfl (by kernel_rfl) (clone86 (H.mp.sm t1 (fun x => x) (fun _ _ r => r))) ?_
  rintro v2 h2 ⟨e2, m2, t2, n2⟩
  dsimp only at e2 m2 t2 n2
  subst e2
  refine L_nil ⟨rfl, ?_⟩
  refine D_l (l := [10, 11, 12]) (by kernel_rfl) (by kernel_rfl) Rk_nil ?_
  refine NS_b 1 (by kernel_rfl) ?_
  refine NS_new (Al.cells [Value.slice av m.st.length cv, Value.map (some h1.next), Value.pointer none]) (.ptr) rfl (by kernel_rfl) rfl rfl (by kernel_rfl) (by kernel_rfl) ?_
  have c3 : Cl (h2.push (Al.cells [Value.slice av m.st.length cv, Value.map (some h1.next), Value.pointer none]).obj) h2.next [Value.slice av m.st.length cv, Value.map (some h1.next), Value.pointer none] := Cl.new h2 _
  have t3 : Sm Nix h2 (h2.push (Al.cells [Value.slice av m.st.length cv, Value.map (some h1.next), Value.pointer none]).obj) := .push h2 _
  have n3 : (h2.push (Al.cells [Value.slice av m.st.length cv, Value.map (some h1.next), Value.pointer none]).obj).next = h2.next + 1 := rfl
  generalize h2.push (Al.cells [Value.slice av m.st.length cv, Value.map (some h1.next), Value.pointer none]).obj = h3 at c3 t3 n3 ⊢
  refine NS_b 1 (by kernel_rfl) ?_
  refine NS_nil ?_
  refine W_seq ?_
  refine W_seq ?_
  refine W_region ?_
  refine L_g 3 (by kernel_rfl) ?_
  refine L_ld _ rfl rfl (by kernel_rfl) ((H1.ext (t2.ext t3)).cl.ld (o := 2) (by kernel_rfl) rfl) ?_
  refine L_g 1 (by kernel_rfl) ?_
  refine L_nil ?_
  refine W_seq ?_
  refine W_region ?_
  refine L_g 2 (by kernel_rfl) ?_
  refine L_nil ?_
  refine W_cond false (by kernel_rfl) (fun e => by cases e) (fun _ => ?_)
  refine W_skip ?_
  refine W_seq ?_
  refine W_region ?_
  refine L_g 2 (by kernel_rfl) ?_
  refine L_nil ?_
  refine W_ret ?_
  repeat first | with_reducible refine then_ret ?_ | with_reducible refine blk_ret ?_
  refine done_of (v := ptr h2.next) (.inl rfl) (by kernel_rfl) ?_
  have TT := (t1.ext t2).ext t3
  have t13 := t1.nx
  have big : ∀ y, y ∈ X ++ [h2.next, sb2, h1.next] → y ∈ X ∨ h.next ≤ y := fun y hy => by
    simp only [List.mem_append, List.mem_cons, List.not_mem_nil, or_false] at hy
    rcases hy with hy | hy
    · exact .inl hy
    · exact .inr (by omega)
  refine ⟨h2.next, sb2, h1.next, _, rfl, ⟨c3, (g1.ext t2).ext t3, hsb, ?_, by simp, by simp, by simp, ?_, ?_⟩, TT, by omega, by omega, by omega⟩
  · refine m2.sm t3 (fun x => x) (fun v x r => ?_)
    obtain ⟨u, e, gu, hb⟩ := r
    exact ⟨u, e, gu.ext TT, fun b hb' hm => by
      have hl := gu.lt hb'
      rcases big b hm with hm | hm
      · exact hb b hb' hm
      · omega⟩
  · simp only [List.nodup_cons, List.mem_cons, List.not_mem_nil, or_false, not_or, List.nodup_nil, not_false_eq_true, and_true]; omega
  · intro x hx
    show x < h3.next
    simp only [List.mem_append, List.mem_cons, List.not_mem_nil, or_false] at hx
    rcases hx with hx | hx
    · have := H.lt x hx; have := TT.nx; omega
    · omega
end
end Go.Proofs.YtdaedcoolcicoaaGreat
namespace Go.Proofs.YtdaedcoolcicoaaGreat
noncomputable section
open Go Go.X Go.Arm
set_option maxHeartbeats 4000000 in
theorem copy_on {h : AH} {f sb wb g a c o : Nat} {st : Value} {fp : List Nat} {m : Fl} {s : Sh} (H : F0 h f sb wb st (ptr g) fp m.st m.ws) (G : S0 h g a c o fp s) (hn0 : 0 < m.st.length) (hn : m.st.length < 1000000) :
    Arm.Calls Tryz.prog (34) [ptr f] h (fun r => ∃ f2 sb2 wb2 st2 g2 a2 c2 o2, r.1 = ptr f2 ∧ F0 r.2 f2 sb2 wb2 st2 (ptr g2) (fp ++ [f2, sb2, wb2, g2, a2, c2, o2]) m.st m.ws ∧ S0 r.2 g2 a2 c2 o2 (fp ++ [f2, sb2, wb2, g2, a2, c2, o2]) s ∧
      [f2, sb2, wb2, g2, a2, c2, o2].Nodup ∧ Sm Nix h r.2 ∧ h.next ≤ f2 ∧ h.next ≤ sb2 ∧ h.next ≤ wb2 ∧ h.next ≤ g2 ∧ h.next ≤ a2 ∧ h.next ≤ c2 ∧ h.next ≤ o2) := by
  refine Calls_of_W (n := 47) (fn := Tryz.f34) (by kernel_rfl) rfl rfl (Nat.le_of_ble_eq_true rfl) trivial ⟨.inr (by simp), rfl⟩ ?_
  refine W_seq ?_
  refine W_region ?_
  refine L_g 1 (by kernel_rfl) ?_
  refine L_nil ?_
  refine W_seq ?_
  refine W_seq ?_
  refine W_region ?_
  refine L_g 1 (by kernel_rfl) ?_
  refine L_c rfl rfl (by kernel_rfl) (valid_ok H.cl) ?_
  rintro v9 h9 e9
  cases e9
  refine L_g 1 (by kernel_rfl) ?_
  refine L_nil ?_
  refine W_cond false (by kernel_rfl) (fun e => by cases e) (fun _ => ?_)
  refine W_skip ?_
  refine W_seq ?_
  refine W_drawn (by kernel_rfl) ?_
  refine D_e (e := 4) (l := [0, 1, 2, 3, 5, 6, 7, 8]) (s' := [5, 6, 7, 8]) (by kernel_rfl) (by kernel_rfl) rfl (by kernel_rfl) Rk_nil ?_
  refine NS_b 3 (by kernel_rfl) ?_
  refine NS_ld _ rfl rfl (by kernel_rfl) (by kernel_rfl) (by kernel_rfl) (H.cl.ld (o := 0) (by kernel_rfl) rfl) ?_
  refine NS_b 3 (by kernel_rfl) ?_
  refine NS_ld _ rfl rfl (by kernel_rfl) (by kernel_rfl) (by kernel_rfl) (H.cl.ld (o := 1) (by kernel_rfl) rfl) ?_
  refine NS_nil ?_
  refine L_c rfl rfl (by kernel_rfl) (clone_iv H.gr.sd iv_one (by omega)) ?_
  rintro s1 h1 ⟨g1, t1, nb⟩
  dsimp only at g1 t1 nb
  obtain ⟨av, cv, ev⟩ := g1.sd.form
  subst ev
  obtain ⟨sb2, hsb⟩ : ∃ sb2, vb (.slice av m.st.length cv) = some sb2 := by
    rcases g1.2 with ⟨e, _⟩ | ⟨b, o, cc, nn, e, _⟩
    · omega
    · rw [e]; exact ⟨b, rfl⟩
  have hs0 := nb sb2 hsb
  have hs1 := g1.lt hsb
  have H1 := H.ext t1
  refine L_nil ⟨rfl, ?_⟩
  refine D_e (e := 9) (l := []) (s' := []) (by kernel_rfl) (by kernel_rfl) rfl (by kernel_rfl) (Rk_1 rfl rfl (Rk_1 rfl rfl (Rk_1 rfl rfl (Rk_ld _ rfl rfl rfl (by kernel_rfl) (H1.cl.ld (o := 1) (by kernel_rfl) rfl) (by kernel_rfl) Rk_nil)))) ?_
  refine NS_nil ?_
  refine L_c rfl rfl (by kernel_rfl) (clone86 (H.mp.sm t1 (fun x => x) (fun _ _ r => r))) ?_
  rintro v2 h2 ⟨e2, m2, t2, n2⟩
  dsimp only at e2 m2 t2 n2
  subst e2
  refine L_nil ⟨rfl, ?_⟩
  refine D_l (l := [10, 11, 12]) (by kernel_rfl) (by kernel_rfl) Rk_nil ?_
  refine NS_b 1 (by kernel_rfl) ?_
  refine NS_new (Al.cells [Value.slice av m.st.length cv, Value.map (some h1.next), Value.pointer none]) (.ptr) rfl (by kernel_rfl) rfl rfl (by kernel_rfl) (by kernel_rfl) ?_
  have c3 : Cl (h2.push (Al.cells [Value.slice av m.st.length cv, Value.map (some h1.next), Value.pointer none]).obj) h2.next [Value.slice av m.st.length cv, Value.map (some h1.next), Value.pointer none] := Cl.new h2 _
  have t3 : Sm Nix h2 (h2.push (Al.cells [Value.slice av m.st.length cv, Value.map (some h1.next), Value.pointer none]).obj) := .push h2 _
  have n3 : (h2.push (Al.cells [Value.slice av m.st.length cv, Value.map (some h1.next), Value.pointer none]).obj).next = h2.next + 1 := rfl
  generalize h2.push (Al.cells [Value.slice av m.st.length cv, Value.map (some h1.next), Value.pointer none]).obj = h3 at c3 t3 n3 ⊢
  refine NS_b 1 (by kernel_rfl) ?_
  refine NS_nil ?_
  refine W_seq ?_
  refine W_seq ?_
  refine W_region ?_
  refine L_g 3 (by kernel_rfl) ?_
  refine L_ld _ rfl rfl (by kernel_rfl) ((H1.ext (t2.ext t3)).cl.ld (o := 2) (by kernel_rfl) rfl) ?_
  refine L_g 1 (by kernel_rfl) ?_
  refine L_nil ?_
  refine W_seq ?_
  refine W_region ?_
  refine L_g 2 (by kernel_rfl) ?_
  refine L_nil ?_
  refine W_cond true (by kernel_rfl) (fun _ => ?_) (fun e => by cases e)
  skip
  ·
    have TT := (t1.ext t2).ext t3
    have t13 := t1.nx
    have H3 := H.ext TT
    have G3 := G.ext TT
    refine W_drawn (by kernel_rfl) ?_
    refine D_e (e := 5) (l := [0, 1, 2, 3, 4, 6, 7, 8, 9, 11, 12, 13, 14]) (s' := [0, 6, 7, 8, 9, 11, 12, 13, 14]) (by kernel_rfl) (by kernel_rfl) rfl (by kernel_rfl) Rk_nil ?_
    refine NS_b 4 (by kernel_rfl) ?_
    refine NS_ld _ rfl rfl (by kernel_rfl) (by kernel_rfl) (by kernel_rfl) (G3.cl.ld (o := 0) (by kernel_rfl) rfl) ?_
    refine NS_b 3 (by kernel_rfl) ?_
    refine NS_ld _ rfl rfl (by kernel_rfl) (by kernel_rfl) (by kernel_rfl) (G3.cl.ld (o := 1) (by kernel_rfl) rfl) ?_
    refine NS_b 3 (by kernel_rfl) ?_
    refine NS_ld _ rfl rfl (by kernel_rfl) (by kernel_rfl) (by kernel_rfl) (G3.cl.ld (o := 2) (by kernel_rfl) rfl) ?_
    refine NS_nil ?_
    refine L_c rfl rfl (by kernel_rfl) (clone87 G3.ma) ?_
    rintro v4 h4 ⟨e4, m4, t4, n4⟩
    dsimp only at e4 m4 t4 n4
    subst e4
    have G4 := G3.ext t4
    refine L_nil ⟨rfl, ?_⟩
    refine D_e (e := 10) (l := []) (s' := [0, 11, 12, 13, 14]) (by kernel_rfl) (by kernel_rfl) rfl (by kernel_rfl) (Rk_1 rfl rfl (Rk_1 rfl rfl (Rk_1 rfl rfl (Rk_1 rfl rfl (Rk_ld _ rfl rfl rfl (by kernel_rfl) (G4.cl.ld (o := 1) (by kernel_rfl) rfl) (by kernel_rfl) (Rk_1 rfl rfl (Rk_1 rfl rfl (Rk_1 rfl rfl (Rk_ld _ rfl rfl rfl (by kernel_rfl) (G4.cl.ld (o := 2) (by kernel_rfl) rfl) (by kernel_rfl) Rk_nil))))))))) ?_
    refine NS_nil ?_
    refine L_c rfl rfl (by kernel_rfl) (clone88 (G.mc.sm (TT.ext t4) (fun x => x) (fun _ _ r => r))) ?_
    rintro v5 h5 ⟨e5, m5, t5, n5⟩
    dsimp only at e5 m5 t5 n5
    subst e5
    have G5 := G4.ext t5
    refine L_nil ⟨rfl, ?_⟩
    refine D_e (e := 15) (l := []) (s' := [0]) (by kernel_rfl) (by kernel_rfl) rfl (by kernel_rfl) (Rk_1 rfl rfl (Rk_1 rfl rfl (Rk_1 rfl rfl (Rk_1 rfl rfl (Rk_ld _ rfl rfl rfl (by kernel_rfl) (G5.cl.ld (o := 2) (by kernel_rfl) rfl) (by kernel_rfl) Rk_nil))))) ?_
    refine NS_nil ?_
    refine L_c rfl rfl (by kernel_rfl) (clone89 G5.mo) ?_
    rintro v6 h6 ⟨e6, m6, t6, n6⟩
    dsimp only at e6 m6 t6 n6
    subst e6
    refine L_nil ⟨rfl, ?_⟩
    refine D_e (e := 20) (l := [16, 17, 18, 19]) (s' := []) (by kernel_rfl) (by kernel_rfl) rfl (by kernel_rfl) (Rk_noRead (by kernel_rfl)) ?_
    refine NS_b 1 (by kernel_rfl) ?_
    refine NS_new (Al.cells [Value.map (some h3.next), Value.map (some h4.next), Value.map (some h5.next)]) (.ptr) rfl (by kernel_rfl) rfl rfl (by kernel_rfl) (by kernel_rfl) ?_
    have c7 : Cl (h6.push (Al.cells [Value.map (some h3.next), Value.map (some h4.next), Value.map (some h5.next)]).obj) h6.next [Value.map (some h3.next), Value.map (some h4.next), Value.map (some h5.next)] := Cl.new h6 _
    have t7 : Sm Nix h6 (h6.push (Al.cells [Value.map (some h3.next), Value.map (some h4.next), Value.map (some h5.next)]).obj) := .push h6 _
    have n7 : (h6.push (Al.cells [Value.map (some h3.next), Value.map (some h4.next), Value.map (some h5.next)]).obj).next = h6.next + 1 := rfl
    generalize h6.push (Al.cells [Value.map (some h3.next), Value.map (some h4.next), Value.map (some h5.next)]).obj = h7 at c7 t7 n7 ⊢
    refine NS_b 2 (by kernel_rfl) ?_
    refine NS_nil ?_
    obtain ⟨h8, e8, c8, t8, n8⟩ := ((((c3.ext t4).ext t5).ext t6).ext t7).store (P := Tryz.prog) (T := 93) (o := 2) (v := ptr h6.next) (by kernel_rfl) rfl rfl (by simp)
    have T37 : Sm Nix h3 h7 := ((t4.ext t5).ext t6).ext t7
    have T38 : Sm (fun x => x = h2.next) h3 h8 := T37.of.then t8
    have T8 : Sm Nix h h8 := TT.trans T38 (fun x hx => .inr (by omega))
    refine L_st _ rfl rfl rfl (by kernel_rfl) (by kernel_rfl) (e8) ?_
    refine L_nil ⟨rfl, ?_⟩
    refine D_l (l := []) (by kernel_rfl) (by kernel_rfl) Rk_nil ?_
    refine NS_nil ?_
    refine W_seq ?_
    refine W_region ?_
    refine L_g 2 (by kernel_rfl) ?_
    refine L_nil ?_
    refine W_ret ?_
    repeat first | with_reducible refine then_ret ?_ | with_reducible refine blk_ret ?_
    refine done_of (v := ptr h2.next) (.inl rfl) (by kernel_rfl) ?_
    have big : ∀ y, y ∈ fp ++ [h2.next, sb2, h1.next, h6.next, h3.next, h4.next, h5.next] → y ∈ fp ∨ h.next ≤ y := fun y hy => by
      simp only [List.mem_append, List.mem_cons, List.not_mem_nil, or_false] at hy
      rcases hy with hy | hy
      · exact .inl hy
      · exact .inr (by omega)
    refine ⟨h2.next, sb2, h1.next, _, h6.next, h3.next, h4.next, h5.next, rfl, ⟨c8, ((g1.ext t2).ext t3).sm T38 (fun b hb e => by rw [hsb] at hb; cases hb; omega), hsb, ?_, by simp, by simp, by simp, ?_, ?_⟩, ⟨c7.sm t8 (by omega), ?_, ?_, ?_, by simp, by simp, by simp, by simp⟩, ?_, T8, by omega, by omega, by omega, by omega, by omega, by omega, by omega⟩
    · refine (m2.sm t3 (fun x => x) (fun _ _ r => r)).sm T38 (by omega) (fun v x r => ?_)
      obtain ⟨u, e, gu, hb⟩ := r
      exact ⟨u, e, gu.ext T8, fun b hb' hm => by
        have hl := gu.lt hb'
        rcases big b hm with hm | hm
        · exact hb b hb' hm
        · omega⟩
    · simp only [List.nodup_cons, List.mem_cons, List.not_mem_nil, or_false, not_or, List.nodup_nil, not_false_eq_true, and_true]; omega
    · intro x hx
      show x < h8.next
      simp only [List.mem_append, List.mem_cons, List.not_mem_nil, or_false] at hx
      rcases hx with hx | hx
      · have := H.lt x hx; have := T8.nx; omega
      · omega
    · exact (m4.sm ((t5.ext t6).ext t7) (fun x => x) (fun _ _ r => r)).sm t8 (by omega) (fun _ _ r => r)
    · refine (m5.sm (t6.ext t7) (fun x => x) (fun _ _ r => r)).sm t8 (by omega) (fun v x r => ?_)
      obtain ⟨u, e, gu, hb⟩ := r
      exact ⟨u, e, gu.ext T8, fun b hb' hm => by
        have hl := gu.lt hb'
        rcases big b hm with hm | hm
        · exact hb b hb' hm
        · omega⟩
    · exact (m6.sm t7 (fun x => x) (fun _ _ r => r)).sm t8 (by omega) (fun _ _ r => r)
    · simp only [List.nodup_cons, List.mem_cons, List.not_mem_nil, or_false, not_or, List.nodup_nil, not_false_eq_true, and_true]; omega
end
end Go.Proofs.YtdaedcoolcicoaaGreat
