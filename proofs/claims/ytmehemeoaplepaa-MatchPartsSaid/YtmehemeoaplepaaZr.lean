/- Worlds of the program and walks of its functions. -/
import Derived.Test.YtmehemeoaplepaaZj
import Derived.Test.YtmehemeoaplepaaZk
import Derived.Test.YtmehemeoaplepaaZq
import Derived.Test.YtmehemeoaplepaaZm
namespace Go.Arm
noncomputable section
open Go Go.X
section
variable {P : Program}
theorem pr_un2 {t : TypeId} {d : TypeDesc} (h : P.underlying t = some d) : pureRun P (underlying t) = some d := by
 simp only [underlying]; exact pureRun_and (e := Sem.program .pure) (a := P) rfl (by simp only [h]; rfl)
theorem sb_ok {i y : Nat} {c : BoundsCode} (h : i ≤ y) : pureRun P (Instr.sliceBound (nv (i : Int)) y c) = some i := by
 unfold Instr.sliceBound
 refine pureRun_and (a := (.i64, (i : Int))) rfl ?_
 dsimp only
 rw [if_pos ⟨by omega, by omega⟩]
 show some ((i : Int).toNat) = _
 rw [Int.toNat_natCast]
theorem sl_str {T : TypeId} {h : AH} (hT : P.underlying T = some .string) {l : List UInt8} {lo hi : Nat} (h1 : lo ≤ hi) (h2 : hi ≤ l.length) :
  aSl P T (.string ⟨⟨l⟩⟩) (some (nv (lo : Int))) (some (nv (hi : Int))) none h = some (.string ⟨⟨(l.drop lo).take (hi - lo)⟩⟩) := by
 have hb : pureRun P (Instr.sliceBounds false l.length l.length (some (nv (lo : Int))) (some (nv (hi : Int))) none) = some (lo, hi, l.length) := by
  unfold Instr.sliceBounds
  exact pureRun_and (a := l.length) rfl (pureRun_and (a := hi) (sb_ok h2) (pureRun_and (a := lo) (sb_ok h1) rfl))
 have hs : pureRun P (Instr.slice T (.string ⟨⟨l⟩⟩) (some (nv (lo : Int))) (some (nv (hi : Int))) none) = some (.string ((⟨⟨l⟩⟩ : ByteArray).extract lo hi)) := by
  unfold Instr.slice
  refine pureRun_and (pr_un2 hT) ?_
  dsimp only
  exact pureRun_and (a := (lo, hi, l.length)) hb rfl
 have hp : pureRun P (Instr.sliceAt T (.string ⟨⟨l⟩⟩) (some (nv (lo : Int))) (some (nv (hi : Int))) none) = some (.string ⟨⟨(l.drop lo).take (hi - lo)⟩⟩) := by
  unfold Instr.sliceAt
  refine pureRun_and (pr_un2 hT) ?_
  dsimp only
  rw [hs]
  congr 2
  apply ByteArray.ext
  rw [ByteArray.data_extract]
  apply Array.ext'
  simp [List.extract_eq_take_drop]
 have ha : aSlice P T (.string ⟨⟨l⟩⟩) (some (nv (lo : Int))) (some (nv (hi : Int))) none h = none := by
  unfold aSlice
  simp only [hT]
  split <;> rfl
 unfold aSl
 rw [ha]
 dsimp only
 rw [if_pos (by rfl)]
 unfold aPure
 rw [hp]
 rfl
theorem s2b_ok {s d e : TypeId} {h : AH} {ds : TypeDesc} (hs : P.underlying s = some ds) (hd : P.underlying d = some (.slice e)) (he : P.underlying e = some (.int .u8)) (l : List UInt8) :
   ∃ v h', aS2B P s d (.string ⟨⟨l⟩⟩) h = some [(.val v, h')] ∧ Rb h' v (l.map bv) ∧ Sm Nix h h' ∧ h'.next = h.next + 1 ∧ ∀ b, vb v = some b → b = h.next := by
 have hv : byteVals ⟨⟨l⟩⟩ = l.map bv := rfl
 refine ⟨_, _, by unfold aS2B; simp only [hs, hd, he]; rfl, ?_, ⟨Nat.le_succ _, fun k hk _ => ?_⟩, rfl, fun b hb => (by cases hb; rfl)⟩
 · rw [hv]
   by_cases h0 : l.map bv = []
   · rw [h0]
     exact .inl ⟨rfl, _, _, rfl, (fun e => by cases e), fun q hq => by cases hq; exact Nat.lt_succ_self _⟩
   · refine .inr ⟨h.next, 0, open_, h0, by decide, rfl, Nat.lt_succ_self _, fun j hj => ?_⟩
     unfold AH.cell
     dsimp only
     rw [X.T.get_set, if_pos rfl]
     dsimp only
     rw [Nat.zero_add, if_pos hj, X.T.get_fill, if_pos (by omega)]
     rfl
 · show (h.m.set h.next _).get k = _
   rw [X.T.get_set, if_neg (by omega)]
end
section
variable {P : Program} [Kn P] {n : Nat} {h h' : AH} {Q : Post} {f : Fr} {ops : Array Oper} {rest : List Oper} {o : Oper}
theorem L_sb {s d : TypeId} {x : Operand} {a : Value} (v : Value) (h' : AH) (ho : o.op = .convert s d x) (hs : okO n o = true) (hx : ev n f x = some a) (hn : aConv P s d a h = none) (hv : aS2B P s d a h = some [(.val v, h')])
  (k : L P n ops Q rest (updO f o.dst v) h') : L P n ops Q (o :: rest) f h :=
 L_bu (okO_ok hs).1 (okO_ok hs).2 (by rw [ho]; rfl) (by rw [ho]; simp only [evVal, hx]; exact hn) (by rw [ho]; simp only [evAct, hx]; exact hv) k
end
section
variable {P : Program} {h : AH}
theorem add_str {T : TypeId} {xo yo : Operand} {a b : List UInt8} (hl : a.length + b.length < 1099511627776) : aBin P .add T xo yo (.string ⟨⟨a⟩⟩) (.string ⟨⟨b⟩⟩) h = some (.string ⟨⟨a ++ b⟩⟩) := by
 unfold aBin aStr
 exact if_pos hl
end
end
end Go.Arm
namespace Go.Mt.P6
open Go.Arm
def pt (m k : Nat) : By := (List.range m).map fun j => UInt8.ofNat (16 * k + j)
def want (n m : Nat) : By := (List.range n).flatMap (pt m)
theorem pt_len (m k : Nat) : (pt m k).length = m := by unfold pt; rw [List.length_map, List.length_range]
def pcF (m n : Nat) (gv : Nat → Bool) : List (Option By) := (List.range n).map fun k => if gv k = true then some (pt m k) else none
def sF (n : Nat) (sv : Nat → Bool) : List Bool := (List.range n).map sv
def cnt (n : Nat) (sv : Nat → Bool) : Nat := ((List.range n).filter sv).length
def allb (n : Nat) (ar : Nat → Bool) : Bool := (List.range n).all ar
def en (n m : Nat) : En := ⟨0, 2, 7, ((n * m : Nat) : Int), n⟩
def Ss (n m : Nat) (gv sv : Nat → Bool) (c dn : Bool) : Rq := ⟨1, 1, 2, 7, 0, true, false, false, true, dn, n, m, [], pcF m n gv, cnt n sv, sF n sv, c, ⟨1, 7, ((n * m : Nat) : Int), 0⟩⟩
def Rr (n m : Nat) (ar : Nat → Bool) (st : St) : Rq := ⟨1, 0, 2, 7, 0, false, false, false, true, allb n ar, n, m, if allb n ar = true then want n m else [], pcF m n ar, 0, List.replicate n false, false, st⟩
def no0 : Nat → Bool := fun _ => false
def pk (m : Nat) (i : Nat) : Pk := .part 1 i (pt m i)
def qa (i : List (Int × Pk)) : Pr := ⟨2, [1], [], i, [], [], [3, 3]⟩
def qb (pos : Bool) (ex : List ((Int × Int) × Nat)) (i : List (Int × Pk)) (ms : List Ms) (rc : List Nat) : Pr := ⟨if pos = true then 2 else 1, if pos = true then [1] else [], ex, i, ms, rc, [3, 3]⟩
def exA (n : Nat) (ar : Nat → Bool) : List ((Int × Int) × Nat) := if allb n ar = true then [] else [((0, 1), 1)]
section
variable {n m : Nat} {gv sv ar : Nat → Bool}
theorem pcF_len : (pcF m n gv).length = n := by unfold pcF; rw [List.length_map, List.length_range]
theorem pcF_at {i : Nat} (h : i < n) : (pcF m n gv)[i]? = some (if gv i = true then some (pt m i) else none) := by
 unfold pcF
 rw [List.getElem?_map, List.getElem?_range h]; rfl
theorem pcF_set {i : Nat} (h : i < n) : (pcF m n gv).set i (some (pt m i)) = pcF m n (ups gv i true) := by
 apply List.ext_getElem?
 intro j
 rw [List.getElem?_set]
 by_cases hj : j < n
 · by_cases e : i = j
   · subst e
     rw [if_pos rfl, if_pos (by rw [pcF_len]; exact h), pcF_at h, ups_at]; rfl
   · rw [if_neg e, pcF_at hj, pcF_at hj, ups_ne _ _ (fun h => e h.symm)]
 · have : (pcF m n (ups gv i true))[j]? = none := List.getElem?_eq_none (by rw [pcF_len]; omega)
   rw [this, if_neg (by omega)]
   exact List.getElem?_eq_none (by rw [pcF_len]; omega)
theorem sF_at {i : Nat} (h : i < n) : (sF n sv)[i]? = some (sv i) := by
 unfold sF
 rw [List.getElem?_map, List.getElem?_range h]; rfl
theorem sF_len : (sF n sv).length = n := by unfold sF; rw [List.length_map, List.length_range]
theorem sF_set {i : Nat} (h : i < n) : (sF n sv).set i true = sF n (ups sv i true) := by
 apply List.ext_getElem?
 intro j
 rw [List.getElem?_set]
 by_cases hj : j < n
 · by_cases e : i = j
   · subst e
     rw [if_pos rfl, if_pos (by rw [sF_len]; exact h), sF_at h, ups_at]
   · rw [if_neg e, sF_at hj, sF_at hj, ups_ne _ _ (fun h => e h.symm)]
 · have : (sF n (ups sv i true))[j]? = none := List.getElem?_eq_none (by rw [sF_len]; omega)
   rw [this, if_neg (by omega)]
   exact List.getElem?_eq_none (by rw [sF_len]; omega)
theorem sF_no : sF n no0 = List.replicate n false := by
 unfold sF
 apply List.ext_getElem?
 intro j
 by_cases hj : j < n
 · rw [List.getElem?_map, List.getElem?_range hj, List.getElem?_replicate, if_pos hj]; rfl
 · rw [List.getElem?_eq_none (by rw [List.length_map, List.length_range]; omega), List.getElem?_eq_none (by rw [List.length_replicate]; omega)]
theorem cnt_no : cnt n no0 = 0 := by
 unfold cnt
 rw [List.filter_eq_nil_iff.2 (fun x _ => by simp [no0])]; rfl
theorem cnt_le : cnt n sv ≤ n := by
 unfold cnt
 exact Nat.le_trans (List.length_filter_le _ _) (by rw [List.length_range]; exact Nat.le_refl _)
theorem filt_ups {i : Nat} (h : sv i = false) : ∀ (l : List Nat), l.Nodup → i ∈ l → (l.filter (ups sv i true)).length = (l.filter sv).length + 1
 | [], _, h => by cases h
 | x :: l, hn, hi => by
  obtain ⟨h1, h2⟩ := List.nodup_cons.1 hn
  by_cases e : x = i
  · subst e
    have : l.filter (ups sv x true) = l.filter sv := List.filter_congr fun y hy => ups_ne _ _ (fun e => h1 (e ▸ hy))
    rw [List.filter_cons, List.filter_cons, ups_at, if_pos rfl, h, if_neg (by decide), List.length_cons, this]
  · have hi2 : i ∈ l := (List.mem_cons.1 hi).resolve_left (fun e2 => e e2.symm)
    rw [List.filter_cons, List.filter_cons, ups_ne _ _ e]
    split
    · rw [List.length_cons, List.length_cons, filt_ups h l h2 hi2]
    · exact filt_ups h l h2 hi2
theorem cnt_ups {i : Nat} (h : i < n) (h0 : sv i = false) : cnt n (ups sv i true) = cnt n sv + 1 := filt_ups h0 _ List.nodup_range (List.mem_range.2 h)
theorem cnt_all (h : ∀ i, i < n → sv i = true) : cnt n sv = n := by
 unfold cnt
 rw [List.filter_eq_self.2 (fun x hx => h x (List.mem_range.1 hx)), List.length_range]
theorem cnt_full (h : cnt n sv = n) : ∀ i, i < n → sv i = true := fun i hi => by
 cases e : sv i with
 | true => rfl
 | false =>
  have := cnt_ups (n := n) hi e
  have h2 := cnt_le (n := n) (sv := ups sv i true)
  omega
theorem Ss_congr {sv' : Nat → Bool} {c dn : Bool} (h : ∀ i, i < n → sv i = sv' i) : Ss n m gv sv c dn = Ss n m gv sv' c dn := by
 unfold Ss
 have h1 : cnt n sv = cnt n sv' := by unfold cnt; rw [List.filter_congr fun x hx => h x (List.mem_range.1 hx)]
 have h2 : sF n sv = sF n sv' := List.map_congr_left fun x hx => h x (List.mem_range.1 hx)
 rw [h1, h2]
theorem allb_iff : allb n ar = true ↔ ∀ i, i < n → ar i = true := by
 unfold allb
 rw [List.all_eq_true]
 exact ⟨fun h i hi => h i (List.mem_range.2 hi), fun h i hi => h i (List.mem_range.1 hi)⟩
theorem pcF_any : (pcF m n ar).any Option.isNone = !(allb n ar) := by
 unfold pcF allb
 rw [List.any_map]
 induction List.range n with
 | nil => rfl
 | cons x l ih =>
  rw [List.any_cons, List.all_cons, ih, Bool.not_and]
  congr 1
  show Option.isNone (if ar x = true then some (pt m x) else none) = _
  cases ar x <;> rfl
theorem pcF_cat (h : allb n ar = true) : Wd.catD (pcF m n ar) = want n m := by
 unfold Wd.catD pcF want
 rw [List.flatMap_map]
 have h := allb_iff.1 h
 have : ∀ l : List Nat, (∀ x, x ∈ l → ar x = true) → (l.flatMap fun a => (if ar a = true then some (pt m a) else none).getD []) = l.flatMap (pt m) := by
  intro l
  induction l with
  | nil => intro _; rfl
  | cons x l ih =>
   intro hl
   rw [List.flatMap_cons, List.flatMap_cons, ih (fun y hy => hl y (List.mem_cons_of_mem _ hy)), if_pos (hl x List.mem_cons_self)]; rfl
 exact this _ fun x hx => h x (List.mem_range.1 hx)
theorem cat_len : (Wd.catD (pcF m n ar)).length ≤ n * m := by
 unfold Wd.catD pcF
 rw [List.flatMap_map]
 have : ∀ l : List Nat, (l.flatMap fun a => (if ar a = true then some (pt m a) else none).getD []).length ≤ l.length * m := by
  intro l
  induction l with
  | nil => simp
  | cons x l ih =>
   rw [List.flatMap_cons, List.length_append, List.length_cons, Nat.succ_mul]
   have : ((if ar x = true then some (pt m x) else none).getD []).length ≤ m := by
    split
    · show (pt m x).length ≤ m; rw [pt_len]; exact Nat.le_refl _
    · exact Nat.zero_le _
   omega
 have h := this (List.range n)
 rw [List.length_range] at h
 exact h
theorem want_len : (want n m).length = n * m := by
 unfold want
 have : ∀ l : List Nat, (l.flatMap (pt m)).length = l.length * m := by
  intro l
  induction l with
  | nil => simp
  | cons x l ih => rw [List.flatMap_cons, List.length_append, List.length_cons, Nat.succ_mul, ih, pt_len, Nat.add_comm]
 rw [this, List.length_range]
end
section
variable {K : Wd} {a b : Pr} {f g : Nat → Rq} {u v : List Pk} {n m : Nat} {gv sv ar : Nat → Bool} {dn : Bool}
theorem spart_go {i : Nat} (hi : i < n) (hn : n < big) (hu : u.length < big) (hf : f 1 = Ss n m gv sv true dn) :
  (T2 K a b f g u v).spart 0 1 i = some (if (gv i && !sv i) = true then T2 K a b (ups f 1 (Ss n m gv (ups sv i true) true dn)) g (u ++ [pk m i]) v else T2 K a b f g u v) := by
 unfold Wd.spart
 rw [T2.rq0_, hf]
 show (match (pcF m n gv)[i]? with
  | some (some d) => _
  | _ => _) = _
 rw [pcF_at hi]
 cases hg : gv i with
 | false => rfl
 | true =>
  rw [if_pos rfl]
  show (match (sF n sv)[i]? with
   | some false => _
   | some true => _
   | none => _) = _
  rw [sF_at hi]
  cases hs : sv i with
  | true => rfl
  | false =>
   show (if cnt n sv < big then _ else _) = _
   rw [if_pos (Nat.lt_of_le_of_lt cnt_le hn)]
   show Option.map _ (Wd.put _ 0 1 (.part 1 i (pt m i))) = _
   rw [T2.put01 hu]
   show some (Wd.setRq _ 0 1 _) = _
   rw [T2.setRq0, T2.rq0_]
   show some (T2 K a b (ups f 1 { f 1 with sent := (f 1).sent.set i true, gone := (f 1).gone + 1 }) g _ v) = _
   rw [hf]
   show some (T2 K a b (ups f 1 { Ss n m gv sv true dn with sent := (sF n sv).set i true, gone := cnt n sv + 1 }) g _ v) = _
   rw [sF_set hi, ← cnt_ups hi hs]
   rfl
theorem spartsL_go : ∀ (l : List Nat) (f : Nat → Rq) (u : List Pk) (sv : Nat → Bool), l.Nodup → (∀ i, i ∈ l → i < n) → n < big → u.length + l.length < big → f 1 = Ss n m gv sv true dn →
  ∃ f', Wd.spartsL 0 1 l (T2 K a b f g u v) = some (T2 K a b f' g (u ++ (l.filter fun i => gv i && !sv i).map (pk m)) v) ∧ f' 1 = Ss n m gv (fun k => sv k || (gv k && decide (k ∈ l))) true dn
 | [], f, u, sv, _, _, _, _, hf => ⟨f, by simp [Wd.spartsL], by rw [hf]; exact Ss_congr fun i _ => by simp⟩
 | i :: l, f, u, sv, hnd, hl, hn, hu, hf => by
  obtain ⟨h1, h2⟩ := List.nodup_cons.1 hnd
  rw [List.length_cons] at hu
  have hs := spart_go (K := K) (a := a) (b := b) (g := g) (u := u) (v := v) (hl i List.mem_cons_self) hn (by omega) hf
  unfold Wd.spartsL
  rw [hs]
  dsimp only
  by_cases hc : (gv i && !sv i) = true
  · rw [if_pos hc]
    obtain ⟨f', e1, e2⟩ := spartsL_go l (ups f 1 (Ss n m gv (ups sv i true) true dn)) (u ++ [pk m i]) (ups sv i true) h2 (fun j hj => hl j (List.mem_cons_of_mem _ hj)) hn (by rw [List.length_append, List.length_singleton]; omega) (ups_at _ _ _)
    refine ⟨f', ?_, ?_⟩
    · rw [e1, List.filter_cons, if_pos hc, List.map_cons, List.append_assoc]
      have : (l.filter fun j => gv j && !(ups sv i true) j) = l.filter fun j => gv j && !sv j := List.filter_congr fun y hy => by rw [ups_ne sv true (show y ≠ i from fun e => h1 (e ▸ hy))]
      rw [this]; rfl
    · rw [e2]
      refine Ss_congr fun k _ => ?_
      by_cases e : k = i
      · subst e
        rw [ups_at]
        simp only [Bool.and_eq_true] at hc
        simp [hc.1]
      · rw [ups_ne _ _ e]; simp [e]
  · rw [if_neg hc]
    obtain ⟨f', e1, e2⟩ := spartsL_go l f u sv h2 (fun j hj => hl j (List.mem_cons_of_mem _ hj)) hn (by omega) hf
    refine ⟨f', ?_, ?_⟩
    · rw [e1, List.filter_cons, if_neg hc]
    · rw [e2]
      refine Ss_congr fun k _ => ?_
      by_cases e : k = i
      · subst e
        cases hg : gv k <;> cases hs : sv k <;> simp_all
      · simp [e]
def gl (n : Nat) (gv sv : Nat → Bool) : List Nat := (List.range n).filter fun i => gv i && !sv i
theorem sparts_go (hn : n < big) (hu : u.length + n < big) (hle : ∀ i, i < n → sv i = true → gv i = true) (hf : f 1 = Ss n m gv sv true dn) :
  ∃ f', (T2 K a b f g u v).sparts 0 1 = some (T2 K a b f' g (u ++ (gl n gv sv).map (pk m)) v) ∧ f' 1 = Ss n m gv gv true (decide (cnt n gv = n)) := by
 obtain ⟨f', e1, e2⟩ := spartsL_go (K := K) (a := a) (b := b) (g := g) (v := v) (List.range n) f u sv List.nodup_range (fun i hi => List.mem_range.1 hi) hn (by rw [List.length_range]; exact hu) hf
 have e3 : f' 1 = Ss n m gv gv true dn := by
  rw [e2]
  refine Ss_congr fun k hk => ?_
  have := hle k hk
  cases hs : sv k <;> simp_all
 unfold Wd.sparts
 rw [T2.rq0_, hf]
 have hpl : (Ss n m gv sv true dn).pcs.length = n := pcF_len
 rw [hpl, if_pos hn, e1]
 refine ⟨ups f' 1 (Ss n m gv gv true (decide (cnt n gv = n))), ?_, ups_at _ _ _⟩
 show some (Wd.setRq _ 0 1 _) = _
 rw [T2.setRq0, T2.rq0_]
 show some (T2 K a b (ups f' 1 { f' 1 with done := decide ((f' 1).gone = (f' 1).parts) }) g _ v) = _
 rw [e3]
 rfl
theorem part_go {i : Nat} {st : St} {pos : Bool} {ms : List Ms} {rc : List Nat} (hi : i < n) (hn : n < big) (hnm : n * m < big) (h0 : ar i = false) (hg : g 1 = Rr n m ar st) :
  (T2 K a (qb pos (exA n ar) [] ms rc) f g u v).handle 1 0 (pk m i) = some (T2 K a (qb pos (exA n (ups ar i true)) [] ms rc) f (ups g 1 (Rr n m (ups ar i true) st)) u v) := by
 have hna : allb n ar = false := Bool.eq_false_iff.2 fun h => by rw [allb_iff.1 h i hi] at h0; cases h0
 have hex : exA n ar = [((0, 1), 1)] := by unfold exA; rw [hna]; rfl
 have hpg : Wd.pget (Rr n m ar st) i (pt m i) = { Rr n m ar st with pcs := pcF m n (ups ar i true) } := by
  show ({ Rr n m ar st with pcs := (pcF m n ar).set i (some (pt m i)) } : Rq) = _
  rw [pcF_set hi]
 unfold Wd.handle pk
 dsimp only
 rw [T2.pr1_, hex]
 have hkg : kget (qb pos [(((0 : Int), (1 : Int)), (1 : Nat))] [] ms rc).exps (0, 1) = some 1 := rfl
 rw [hkg]
 dsimp only
 rw [T2.rq1_, hg, Int.toNat_natCast, hpg]
 have hpl : (Rr n m ar st).pcs.length = n := pcF_len
 have hcl : (Wd.catD { Rr n m ar st with pcs := pcF m n (ups ar i true) }.pcs).length < big := Nat.lt_of_le_of_lt cat_len hnm
 rw [hpl, if_pos ⟨by omega, hi, hn, hcl, Int.le_refl 0⟩]
 have hany : ({ Rr n m ar st with pcs := pcF m n (ups ar i true) } : Rq).pcs.any Option.isNone = !(allb n (ups ar i true)) := pcF_any
 rw [hany]
 cases hall : allb n (ups ar i true) with
 | false =>
  rw [if_pos (show (!false) = true from rfl), T2.setRq1]
  have e1 : exA n (ups ar i true) = [((0, 1), 1)] := by unfold exA; rw [hall]; rfl
  have e2 : ({ Rr n m ar st with pcs := pcF m n (ups ar i true) } : Rq) = Rr n m (ups ar i true) st := by unfold Rr; rw [hna, hall]
  rw [e1, e2]
 | true =>
  rw [if_neg (show ¬ (!true) = true by decide), T2.setRq1, T2.setPr1]
  have e1 : exA n (ups ar i true) = [] := by unfold exA; rw [hall]; rfl
  have e2 : ({ Rr n m ar st with pcs := pcF m n (ups ar i true) } : Rq).gets (Wd.catD { Rr n m ar st with pcs := pcF m n (ups ar i true) }.pcs) = Rr n m (ups ar i true) st := by
   show Rq.gets _ (Wd.catD (pcF m n (ups ar i true))) = _
   rw [pcF_cat hall]
   unfold Rq.gets
   rw [if_neg (fun h => by have h1 : n = 0 := h.1; omega)]
   unfold Rr
   rw [hall]; rfl
  rw [e1, e2]
  rfl
theorem parts_go {st : St} {pos : Bool} {ms : List Ms} {rc : List Nat} : ∀ (l : List Nat) (ar : Nat → Bool) (g : Nat → Rq), l.Nodup → (∀ i, i ∈ l → i < n ∧ ar i = false) → n < big → n * m < big → g 1 = Rr n m ar st →
  ∃ g' ar', Wd.handles 1 (T2 K a (qb pos (exA n ar) [] ms rc) f g u v) (l.map fun i => ((0 : Int), pk m i)) = some (T2 K a (qb pos (exA n ar') [] ms rc) f g' u v) ∧ g' 1 = Rr n m ar' st ∧ ∀ k, ar' k = (ar k || decide (k ∈ l))
 | [], ar, g, _, _, _, _, hg => ⟨g, ar, rfl, hg, fun k => by simp⟩
 | i :: l, ar, g, hnd, hl, hn, hnm, hg => by
  obtain ⟨h1, h2⟩ := List.nodup_cons.1 hnd
  obtain ⟨hi, h0⟩ := hl i List.mem_cons_self
  obtain ⟨g', ar', e1, e2, e3⟩ := parts_go (st := st) (pos := pos) (ms := ms) (rc := rc) l (ups ar i true) (ups g 1 (Rr n m (ups ar i true) st)) h2 (fun j hj => ⟨(hl j (List.mem_cons_of_mem _ hj)).1, by rw [ups_ne ar true (show j ≠ i from fun e => h1 (e ▸ hj))]; exact (hl j (List.mem_cons_of_mem _ hj)).2⟩) hn hnm (ups_at _ _ _)
  refine ⟨g', ar', ?_, e2, fun k => ?_⟩
  · rw [List.map_cons]
    unfold Wd.handles
    rw [part_go hi hn hnm h0 hg]
    exact e1
  · rw [e3]
    by_cases e : k = i
    · subst e; rw [ups_at]; simp
    · rw [ups_ne _ _ e]; simp [e]
end
end Go.Mt.P6
namespace Go.Mt.P6
open Go.Arm
inductive Sg
 | A0 | A1 | A2 | M0 | M1
 | C (l1 l2 : List Nat) (ar : Nat → Bool)
def Sg.cl : Sg → Bool
 | .C _ _ _ => true
 | _ => false
def Sg.ar : Sg → Nat → Bool
 | .C _ _ ar => ar
 | _ => no0
def Sg.mt : Sg → Bool
 | .A0 => false
 | .A1 => false
 | .A2 => false
 | _ => true
def rc (pos : Bool) : List Nat := if pos = true then [1] else []
def Wof (K : Wd) (n m : Nat) (f g : Nat → Rq) (pos : Bool) : Sg → Wd
 | .A0 => T2 K (qa []) (qb pos [] [] [] (rc pos)) f g [.ask (en n m) 1] []
 | .A1 => T2 K (qa []) (qb pos [] [(0, .ask (en n m) 1)] [] (rc pos)) f g [] []
 | .A2 => T2 K (qa []) (qb pos [] [] [.ask (en n m) 1] []) f g [] []
 | .M0 => T2 K (qa []) (qb pos (exA n no0) [] [] []) f g [] [.clear 1]
 | .M1 => T2 K (qa [(1, .clear 1)]) (qb pos (exA n no0) [] [] []) f g [] []
 | .C l1 l2 ar => T2 K (qa []) (qb pos (exA n ar) (l2.map fun i => (0, pk m i)) [] []) f g (l1.map (pk m)) []
def Ok (n : Nat) (gv : Nat → Bool) (pos : Bool) : Sg → Prop
 | .A0 => True
 | .A1 => True
 | .A2 => pos = false
 | .M0 => pos = true
 | .M1 => pos = true
 | .C l1 l2 ar => pos = true ∧ (l2 ++ l1).Nodup ∧ (∀ i, i ∈ l2 ++ l1 → i < n ∧ gv i = true ∧ ar i = false) ∧ (∀ i, i < n → gv i = true → ar i = true ∨ i ∈ l2 ++ l1) ∧ ∀ i, i < n → ar i = true → gv i = true
def fS (n m : Nat) (gv : Nat → Bool) (s : Sg) : Rq := if s.cl = true then Ss n m gv gv true (decide (cnt n gv = n)) else Ss n m gv no0 false false
def gS (n m : Nat) (s : Sg) : Rq := Rr n m s.ar (if s.mt = true then ⟨0, 7, ((n * m : Nat) : Int), 0⟩ else St.z)
structure Sp (n m : Nat) (gv : Nat → Bool) (pos : Bool) (s : Sg) (W : Wd) : Prop where
 hn : 0 < n
 hb : n ≤ 64 ∧ n * m ≤ 4096
 ok : Ok n gv pos s
 ex : ∃ K f g, f 1 = fS n m gv s ∧ (pos = true → g 1 = gS n m s) ∧ W = Wof K n m f g pos s
section
variable {n m : Nat} {gv : Nat → Bool} {pos : Bool} {s : Sg} {W : Wd}
theorem Sp.bgs (S : Sp n m gv pos s W) : n < big ∧ n * m < big := ⟨Nat.lt_of_le_of_lt S.hb.1 (show 64 < big by decide), Nat.lt_of_le_of_lt S.hb.2 (show 4096 < big by decide)⟩
theorem allb_no (h : 0 < n) : allb n no0 = false := Bool.eq_false_iff.2 fun e => by cases allb_iff.1 e 0 h
theorem exA_no (h : 0 < n) : exA n no0 = [((0, 1), 1)] := by unfold exA; rw [allb_no h]; rfl
theorem nd_len : ∀ (k : Nat) (l : List Nat), l.Nodup → (∀ x, x ∈ l → x < k) → l.length ≤ k
 | 0, l, _, h => by
  cases l with
  | nil => exact Nat.le_refl _
  | cons x l => exact absurd (h x List.mem_cons_self) (Nat.not_lt_zero _)
 | k + 1, l, hn, h => by
  have h1 := nodup_len k (l.erase k) (hn.erase _) fun x hx => by
   have h2 := h x (List.mem_of_mem_erase hx)
   have h3 : x ≠ k := fun e => by subst e; exact (List.Nodup.not_mem_erase hn) hx
   omega
  have h2 := List.length_erase (a := k) (l := l)
  split at h2 <;> omega
theorem len_le {n : Nat} {l : List Nat} (hn : l.Nodup) (hl : ∀ i, i ∈ l → i < n) : l.length ≤ n := nd_len n l hn hl
def Sg.c0 (n : Nat) (gv : Nat → Bool) : Sg → Sg
 | .M1 => .C (gl n gv no0) [] no0
 | s => s
def Sg.c1 (pos : Bool) : Sg → Sg
 | .A1 => if pos = true then .M0 else .A2
 | .C l1 l2 ar => .C l1 [] (fun k => ar k || decide (k ∈ l2))
 | s => s
theorem gl_ok {sv : Nat → Bool} {i : Nat} : i ∈ gl n gv sv ↔ i < n ∧ gv i = true ∧ sv i = false := by
 unfold gl
 rw [List.mem_filter, List.mem_range]
 simp
theorem gl_nodup {sv : Nat → Bool} : (gl n gv sv).Nodup := List.nodup_range.filter _
theorem handles_one {p : Nat} {w w' : Wd} {x : Int × Pk} (h : w.handle p x.1 x.2 = some w') : Wd.handles p w [x] = some w' := by
 unfold Wd.handles; rw [h]; rfl
theorem clear_go {K : Wd} {b : Pr} {f g : Nat → Rq} {u v : List Pk} (hn : 0 < n) (hb : n < big) (hu : u.length + n < big) (hf : f 1 = Ss n m gv no0 false false) :
  ∃ f', (T2 K (qa []) b f g u v).handle 0 1 (.clear 1) = some (T2 K (qa []) b f' g (u ++ (gl n gv no0).map (pk m)) v) ∧ f' 1 = Ss n m gv gv true (decide (cnt n gv = n)) := by
 obtain ⟨f', e1, e2⟩ := sparts_go (K := K) (a := qa []) (b := b) (f := ups f 1 (Ss n m gv no0 true false)) (g := g) (u := u) (v := v) (sv := no0) hb hu (fun i _ h => by cases h) (ups_at _ _ _)
 refine ⟨f', ?_, e2⟩
 unfold Wd.handle
 dsimp only
 rw [T2.pr0_, T2.rq0_, show Int.toNat 1 = 1 from rfl, hf]
 rw [if_pos ⟨by decide, by show 1 ∈ [1]; simp⟩, if_neg (fun h => by have h : n = 0 := h; omega), T2.setRq0]
 exact e1
theorem Sp.call0 (S : Sp n m gv pos s W) : ∃ W', W.call 0 = some W' ∧ Sp n m gv pos (s.c0 n gv) W' := by
 obtain ⟨hn, hb, ok, K, f, g, hf, hg, rfl⟩ := S
 have hnb : n < big := Nat.lt_of_le_of_lt hb.1 (show 64 < big by decide)
 cases s with
 | M1 =>
  have hf : f 1 = Ss n m gv no0 false false := hf
  obtain ⟨f', e1, e2⟩ := clear_go (K := K) (b := qb pos (exA n no0) [] [] []) (g := g) (u := []) (v := []) hn hnb (by rw [List.length_nil]; omega) hf
  refine ⟨_, (T2.call0 rfl (by show 1 < big; decide)).trans (handles_one e1), hn, hb, ⟨ok, ?_, fun i hi => ?_, fun i h1 h2 => ?_, fun i _ h => by cases h⟩, K, f', g, e2, hg, rfl⟩
  · exact gl_nodup
  · obtain ⟨h1, h2, -⟩ := gl_ok.1 hi
    exact ⟨h1, h2, rfl⟩
  · exact .inr (gl_ok.2 ⟨h1, h2, rfl⟩)
 | A0 => exact ⟨_, T2.rest0 rfl, hn, hb, ok, K, f, g, hf, hg, rfl⟩
 | A1 => exact ⟨_, T2.rest0 rfl, hn, hb, ok, K, f, g, hf, hg, rfl⟩
 | A2 => exact ⟨_, T2.rest0 rfl, hn, hb, ok, K, f, g, hf, hg, rfl⟩
 | M0 => exact ⟨_, T2.rest0 rfl, hn, hb, ok, K, f, g, hf, hg, rfl⟩
 | C l1 l2 ar => exact ⟨_, T2.rest0 rfl, hn, hb, ok, K, f, g, hf, hg, rfl⟩
theorem fits_go {dn : Bool} {st : St} {ar : Nat → Bool} : ({ Rr n m ar st with done := dn } : Rq).fits (en n m) = true := by
 unfold Rq.fits en Rr
 simp
theorem ask_go {K : Wd} {a : Pr} {f g : Nat → Rq} {u v : List Pk} (hn : 0 < n) (hnm : n * m < big) (hv : v.length < big) (hg : g 1 = Rr n m no0 St.z) :
  ∃ g', (T2 K a (qb true [] [] [] [1]) f g u v).handle 1 0 (.ask (en n m) 1) = some (T2 K a (qb true (exA n no0) [] [] []) f g' u (v ++ [.clear 1])) ∧ g' 1 = Rr n m no0 ⟨0, 7, ((n * m : Nat) : Int), 0⟩ := by
 refine ⟨ups g 1 (Rr n m no0 ⟨0, 7, ((n * m : Nat) : Int), 0⟩), ?_, ups_at _ _ _⟩
 have hsm : (g 1).small := by rw [hg]; exact hnm
 have hfit : (g 1).fits (en n m) = true := by rw [hg]; exact fits_go (dn := allb n no0)
 show Wd.came _ 1 (.ask (en n m) 1) = _
 unfold Wd.came
 rw [T2.pr1_]
 unfold qb
 dsimp only
 rw [if_neg (fun h => h ⟨fun no hno => by rw [List.mem_singleton.1 hno]; exact hsm, by show 1 < big; decide⟩)]
 rw [show (List.findIdx? (fun no => ((T2 K a _ f g u v).rq 1 no).fits (Ms.ask (en n m) 1).en) [1]) = some 0 by
  rw [T2.rq1_]
  show List.findIdx? (fun no => (g no).fits (en n m)) [1] = some 0
  simp only [List.findIdx?_cons, hfit]; rfl]
 dsimp only
 rw [T2.setPr1]
 unfold Wd.mtch
 show Wd.put _ 1 (en n m).src (.clear 1) = _
 show Wd.put (Wd.setPr (Wd.setRq _ 1 1 _) 1 _) 1 0 (.clear 1) = _
 rw [T2.setRq1, T2.rq1_, T2.setPr1, T2.put10 hv]
 show some (T2 K a _ f (ups g 1 { g 1 with st := ⟨0, 7, ((n * m : Nat) : Int), 0⟩ }) u _) = _
 rw [hg, exA_no hn]
 rfl
theorem Sp.call1 (S : Sp n m gv pos s W) : ∃ W', W.call 1 = some W' ∧ Sp n m gv pos (s.c1 pos) W' := by
 have hbg := S.bgs
 obtain ⟨hn, hb, ok, K, f, g, hf, hg, rfl⟩ := S
 cases s with
 | A1 =>
  have h1 : (T2 K (qa []) (qb pos [] [(0, .ask (en n m) 1)] [] (rc pos)) f g [] []).call 1 = Wd.handles 1 (T2 K (qa []) (qb pos [] [] [] (rc pos)) f g [] []) [(0, .ask (en n m) 1)] := T2.call1 rfl (by show 1 < big; decide)
  cases pos with
  | true =>
    obtain ⟨g', e1, e2⟩ := ask_go (K := K) (a := qa []) (f := f) (u := []) (v := []) hn hbg.2 (by show 0 < big; decide) (hg rfl)
    exact ⟨_, h1.trans (handles_one e1), hn, hb, rfl, K, f, g', hf, fun _ => e2, rfl⟩
  | false =>
    refine ⟨Wof K n m f g false .A2, h1.trans (handles_one ?_), hn, hb, rfl, K, f, g, hf, (fun h => by cases h), rfl⟩
    show Wd.came _ 1 (.ask (en n m) 1) = _
    unfold Wd.came
    rw [T2.pr1_]
    unfold qb rc
    dsimp only
    rw [if_neg (fun h => h ⟨fun no hno => (by rw [if_neg (by decide)] at hno; cases hno), by show 0 < big; decide⟩)]
    rw [show (List.findIdx? (fun no => ((T2 K (qa []) _ f g [] []).rq 1 no).fits (Ms.ask (en n m) 1).en) (if false = true then [1] else [])) = none from rfl]
    dsimp only
    rw [if_pos (by show 0 < big; decide), T2.setPr1]
    rfl
 | C l1 l2 ar =>
  obtain ⟨o1, o2, o3, o4, o5⟩ := ok
  have hl : l2.length ≤ n := len_le (List.nodup_append.1 o2).1 (fun i hi => (o3 i (List.mem_append_left _ hi)).1)
  have h1 : (T2 K (qa []) (qb pos (exA n ar) (l2.map fun i => (0, pk m i)) [] []) f g (l1.map (pk m)) []).call 1 = Wd.handles 1 (T2 K (qa []) (qb pos (exA n ar) [] [] []) f g (l1.map (pk m)) []) (l2.map fun i => (0, pk m i)) := T2.call1 rfl (by rw [List.length_map]; omega)
  obtain ⟨g', ar', e1, e2, e3⟩ := parts_go (K := K) (a := qa []) (f := f) (u := l1.map (pk m)) (v := []) (st := ⟨0, 7, ((n * m : Nat) : Int), 0⟩) (pos := pos) (ms := []) (rc := []) l2 ar g (List.nodup_append.1 o2).1 (fun i hi => ⟨(o3 i (List.mem_append_left _ hi)).1, (o3 i (List.mem_append_left _ hi)).2.2⟩) hbg.1 hbg.2 (hg o1)
  obtain rfl : ar' = fun k => ar k || decide (k ∈ l2) := funext e3
  refine ⟨_, h1.trans e1, hn, hb, ⟨o1, ?_, fun i hi => ?_, fun i h1 h2 => ?_, fun i h1 h2 => ?_⟩, K, f, g', hf, fun _ => e2, rfl⟩
  · exact (List.nodup_append.1 o2).2.1
  · obtain ⟨q1, q2, q3⟩ := o3 i (List.mem_append_right _ hi)
    refine ⟨q1, q2, ?_⟩
    have : i ∉ l2 := fun h => (List.nodup_append.1 o2).2.2 i h i hi rfl
    simp [q3, this]
  · rcases o4 i h1 h2 with h | h
    · exact .inl (by simp [h])
    · rcases List.mem_append.1 h with h | h
      · exact .inl (by simp [h])
      · exact .inr h
  · simp only [Bool.or_eq_true, decide_eq_true_eq] at h2
    rcases h2 with h2 | h2
    · exact o5 i h1 h2
    · exact (o3 i (List.mem_append_left _ h2)).2.1
 | A0 => exact ⟨_, T2.rest1 rfl, hn, hb, ok, K, f, g, hf, hg, rfl⟩
 | A2 => exact ⟨_, T2.rest1 rfl, hn, hb, ok, K, f, g, hf, hg, rfl⟩
 | M0 => exact ⟨_, T2.rest1 rfl, hn, hb, ok, K, f, g, hf, hg, rfl⟩
 | M1 => exact ⟨_, T2.rest1 rfl, hn, hb, ok, K, f, g, hf, hg, rfl⟩
end
end Go.Mt.P6
namespace Go.Mt.P6
open Go.Arm
section
variable {n m : Nat} {gv : Nat → Bool} {pos : Bool} {s : Sg} {W : Wd}
def Sg.dl : Sg → Sg
 | .A0 => .A1
 | .M0 => .M1
 | .C l1 l2 ar => .C [] (l2 ++ l1) ar
 | s => s
theorem allG {K : Wd} {a b : Pr} {f g : Nat → Rq} {u v : List Pk} (ha : a.inb.length + 1000 < big) (hb : b.inb.length + 1000 < big) (hu : u.length < 200) (hv : v.length < 200) :
  Wd.allD 2 0 2 (T2 K a b f g u v) = some (T2 K { a with inb := a.inb ++ v.map fun x => ((1 : Int), x) } { b with inb := b.inb ++ u.map fun x => ((0 : Int), x) } f g [] []) := by
 have h1 : ({ b with inb := b.inb ++ u.map fun x => ((0 : Int), x) } : Pr).inb.length + 200 < big := by
  show (b.inb ++ u.map fun x => ((0 : Int), x)).length + 200 < big
  rw [List.length_append, List.length_map]; omega
 simp only [Wd.allD, Wd.rowD, T2.del00 (K := K) (b := b) (f := f) (g := g) (u := u) (v := v) (show a.inb.length + 200 < big by omega), T2.del01 (K := K) (a := a) (f := f) (g := g) (v := v) hu (show b.inb.length + 200 < big by omega), Option.bind_some, Nat.zero_add]
 rw [T2.del10 hv (by omega)]
 simp only [Option.bind_some]
 rw [T2.del11 h1]
 simp only [Option.bind_some]
theorem Sp.del (S : Sp n m gv pos s W) : ∃ W', Wd.allD 2 0 2 W = some W' ∧ Sp n m gv pos s.dl W' := by
 have h0 : (1000 : Nat) < big := by decide
 have h2 : (2000 : Nat) < big := by decide
 obtain ⟨hn, hb, ok, K, f, g, hf, hg, rfl⟩ := S
 cases s with
 | A0 => exact ⟨_, allG (show 0 + 1000 < big by omega) (show 0 + 1000 < big by omega) (show 1 < 200 by decide) (show 0 < 200 by decide), hn, hb, ok, K, f, g, hf, hg, rfl⟩
 | A1 => exact ⟨_, allG (show 0 + 1000 < big by omega) (show 1 + 1000 < big by omega) (show 0 < 200 by decide) (show 0 < 200 by decide), hn, hb, ok, K, f, g, hf, hg, rfl⟩
 | A2 => exact ⟨_, allG (show 0 + 1000 < big by omega) (show 0 + 1000 < big by omega) (show 0 < 200 by decide) (show 0 < 200 by decide), hn, hb, ok, K, f, g, hf, hg, rfl⟩
 | M0 => exact ⟨_, allG (show 0 + 1000 < big by omega) (show 0 + 1000 < big by omega) (show 0 < 200 by decide) (show 1 < 200 by decide), hn, hb, ok, K, f, g, hf, hg, rfl⟩
 | M1 => exact ⟨_, allG (show 1 + 1000 < big by omega) (show 0 + 1000 < big by omega) (show 0 < 200 by decide) (show 0 < 200 by decide), hn, hb, ok, K, f, g, hf, hg, rfl⟩
 | C l1 l2 ar =>
  obtain ⟨o1, o2, o3, o4, o5⟩ := ok
  have hl : (l2 ++ l1).length ≤ n := len_le o2 (fun i hi => (o3 i hi).1)
  rw [List.length_append] at hl
  have hn64 := hb.1
  refine ⟨_, allG (show 0 + 1000 < big by omega) (show (l2.map fun i => ((0 : Int), pk m i)).length + 1000 < big by rw [List.length_map]; omega) (show (l1.map (pk m)).length < 200 by rw [List.length_map]; omega) (show 0 < 200 by decide), hn, hb, ⟨o1, ?_, fun i hi => o3 i (by rwa [List.append_nil] at hi), fun i h1 h2 => by rw [List.append_nil]; exact o4 i h1 h2, o5⟩, K, f, g, hf, hg, ?_⟩
  · rw [List.append_nil]; exact o2
  · show T2 K (qa []) { qb pos (exA n ar) (l2.map fun i => (0, pk m i)) [] [] with inb := (l2.map fun i => ((0 : Int), pk m i)) ++ (l1.map (pk m)).map fun x => ((0 : Int), x) } f g [] [] = T2 K (qa []) (qb pos (exA n ar) ((l2 ++ l1).map fun i => (0, pk m i)) [] []) f g [] []
    rw [List.map_append, List.map_map]; rfl
theorem Sp.n_ (S : Sp n m gv pos s W) : W.n = 2 := by
 obtain ⟨-, -, -, K, f, g, -, -, rfl⟩ := S
 cases s <;> rfl
theorem Sp.rnd (S : Sp n m gv pos s W) : ∃ W', W.rnd = some W' ∧ Sp n m gv pos ((s.dl.c0 n gv).c1 pos) W' := by
 obtain ⟨W1, e1, S1⟩ := S.del
 obtain ⟨W2, e2, S2⟩ := S1.call0
 obtain ⟨W3, e3, S3⟩ := S2.call1
 refine ⟨W3, ?_, S3⟩
 unfold Wd.rnd
 rw [S.n_, e1]
 simp only [Option.bind_some, Wd.callsD, e2, Nat.zero_add, e3]
theorem Sp.quietA (S : Sp n m gv pos .A2 W) : W.quiet := by
 obtain ⟨-, -, -, K, f, g, -, -, rfl⟩ := S
 exact T2.quiet rfl rfl
theorem Sp.quietC {ar : Nat → Bool} (S : Sp n m gv pos (.C [] [] ar) W) : W.quiet := by
 obtain ⟨-, -, -, K, f, g, -, -, rfl⟩ := S
 exact T2.quiet rfl rfl
theorem Sp.loudM (S : Sp n m gv pos .M0 W) : ¬ W.quiet := by
 obtain ⟨-, -, -, K, f, g, -, -, rfl⟩ := S
 exact T2.loud1
theorem Sp.loudC {x : Nat} {l l2 : List Nat} {ar : Nat → Bool} (S : Sp n m gv pos (.C (x :: l) l2 ar) W) : ¬ W.quiet := by
 obtain ⟨-, -, -, K, f, g, -, -, rfl⟩ := S
 exact T2.loud0
def Rest (n m : Nat) (gv : Nat → Bool) (pos : Bool) (W : Wd) : Prop := (pos = false ∧ Sp n m gv pos .A2 W) ∨ (pos = true ∧ ∃ ar, Sp n m gv pos (.C [] [] ar) W)
theorem Sp.settleC {l1 l2 : List Nat} {ar : Nat → Bool} (S : Sp n m gv pos (.C l1 l2 ar) W) : ∃ W', Wd.Settles 0 W W' ∧ Rest n m gv pos W' := by
 obtain ⟨W1, e1, S1⟩ := S.rnd
 exact ⟨W1, .last e1 S1.quietC, .inr ⟨S.ok.1, _, S1⟩⟩
theorem Sp.settleG {l : List Nat} {ar : Nat → Bool} {W1 : Wd} (e1 : W.rnd = some W1) (S1 : Sp n m gv pos (.C l [] ar) W1) : ∃ k W', k < 3 ∧ Wd.Settles k W W' ∧ Rest n m gv pos W' := by
 cases l with
 | nil => exact ⟨0, W1, by decide, .last e1 S1.quietC, .inr ⟨S1.ok.1, _, S1⟩⟩
 | cons x l =>
  obtain ⟨W2, e2, S2⟩ := S1.settleC
  exact ⟨1, W2, by decide, .more e1 S1.loudC e2, S2⟩
theorem Sp.settleM (S : Sp n m gv pos .M0 W) : ∃ k W', k < 3 ∧ Wd.Settles k W W' ∧ Rest n m gv pos W' := by
 obtain ⟨W1, e1, S1⟩ := S.rnd
 exact Sp.settleG e1 S1
theorem Sp.settle (S : Sp n m gv pos s W) : ∃ k W', k < 2000 ∧ Wd.Settles k W W' ∧ Rest n m gv pos W' := by
 have hA : ∀ {W1}, W.rnd = some W1 → Sp n m gv pos (if pos = true then Sg.M0 else Sg.A2) W1 → ∃ k W', k < 2000 ∧ Wd.Settles k W W' ∧ Rest n m gv pos W' := fun {W1} e1 S1 => by
  cases pos with
  | true =>
   obtain ⟨k, W2, hk, e2, S2⟩ := S1.settleM
   exact ⟨k + 1, W2, by omega, .more e1 S1.loudM e2, S2⟩
  | false => exact ⟨0, W1, by decide, .last e1 S1.quietA, .inl ⟨rfl, S1⟩⟩
 obtain ⟨W1, e1, S1⟩ := S.rnd
 cases s with
 | A0 => exact hA e1 S1
 | A1 => exact hA e1 S1
 | A2 => exact ⟨0, W1, by decide, .last e1 S1.quietA, .inl ⟨S.ok, S1⟩⟩
 | M0 => obtain ⟨k, W2, hk, e2, S2⟩ := Sp.settleG e1 S1; exact ⟨k, W2, by omega, e2, S2⟩
 | M1 => obtain ⟨k, W2, hk, e2, S2⟩ := Sp.settleG e1 S1; exact ⟨k, W2, by omega, e2, S2⟩
 | C l1 l2 ar => exact ⟨0, W1, by decide, .last e1 S1.quietC, .inr ⟨S.ok.1, _, S1⟩⟩
theorem fS_f (n m : Nat) (gv : Nat → Bool) (s : Sg) : (fS n m gv s).send = true ∧ (fS n m gv s).parts = n ∧ (fS n m gv s).size = m ∧ (fS n m gv s).act = true ∧ (fS n m gv s).pcs = pcF m n gv := by
 unfold fS; split <;> exact ⟨rfl, rfl, rfl, rfl, rfl⟩
theorem Sp.snd (S : Sp n m gv pos s W) : 1 ∈ (W.pr 0).reqs ∧ (W.rq 0 1).send = true ∧ (W.rq 0 1).parts = n ∧ (W.rq 0 1).size = m ∧ (W.rq 0 1).act = true ∧ (W.rq 0 1).pcs.length = n ∧ ∀ k, k < n → (W.rq 0 1).pcs[k]? = some (if gv k = true then some (pt m k) else none) := by
 obtain ⟨-, -, -, K, f, g, hf, -, rfl⟩ := S
 obtain ⟨h1, h2, h3, h4, h5⟩ := fS_f n m gv s
 have hr : (Wof K n m f g pos s).rq 0 1 = fS n m gv s := by rw [← hf]; cases s <;> rfl
 rw [hr, h5]
 exact ⟨by cases s <;> exact List.mem_singleton.2 rfl, h1, h2, h3, h4, pcF_len, fun k hk => pcF_at hk⟩
theorem Sp.rcv (S : Sp n m gv true s W) : 1 ∈ (W.pr 1).reqs ∧ (W.rq 1 1).send = false ∧ (W.rq 1 1).parts = n ∧ ∀ k, k < n → (W.rq 1 1).pcs[k]? = some (if s.ar k = true then some (pt m k) else none) := by
 obtain ⟨-, -, -, K, f, g, -, hg, rfl⟩ := S
 have hr : (Wof K n m f g true s).rq 1 1 = gS n m s := by rw [← hg rfl]; cases s <;> rfl
 rw [hr]
 exact ⟨by cases s <;> exact List.mem_singleton.2 rfl, rfl, rfl, fun k hk => pcF_at hk⟩
theorem Sp.ar_gv (S : Sp n m gv pos s W) {k : Nat} (hk : k < n) (h : s.ar k = true) : gv k = true := by
 have := S.ok
 cases s with
 | C l1 l2 ar => exact S.ok.2.2.2.2 k hk h
 | _ => cases h
theorem start_r {r : Rq} (hr : ({ W.rq 1 1 with act := true, done := false, st := St.z, data := [] } : Rq) = r) (hsm : r.small) (hroom : 0 ≤ r.room) (hm : (W.pr 1).msgs.length < big) (hs : r.send = false) (hp : ¬ r.peer = -2) :
  W.start 1 1 [] = match (W.pr 1).msgs.findIdx? fun m => r.fits m.en with
   | some i => ((W.setRq 1 1 r).setPr 1 { W.pr 1 with msgs := (W.pr 1).msgs.eraseIdx i }).mtch 1 1 ((W.pr 1).msgs.getD i (.ask ⟨((1 : Nat) : Int), r.ctx, r.tag, ((([] : By).length + r.parts * r.size : Nat) : Int), r.parts⟩ 0))
   | none => if (W.pr 1).rcvs.length < big then some ((W.setRq 1 1 r).setPr 1 { W.pr 1 with rcvs := (W.pr 1).rcvs ++ [1] }) else none := by
 subst hr
 have h0 : ([] : By).length < big := by show 0 < big; decide
 have hs2 : ¬ (W.rq 1 1).send = true := fun h => by
  have hs3 : (W.rq 1 1).send = false := hs
  rw [h] at hs3; cases hs3
 unfold Wd.start
 dsimp only
 rw [if_neg (fun h => h ⟨hsm, h0, hm, hroom⟩), if_neg hs2, if_neg hp]
 rfl
theorem Sp.post (S : Sp n m gv false s W) : (W.pr 1).reqs.length < 256 ∧ ∃ W1 W2 W3 s', W.call 1 = some W1 ∧ (W1.pr 1).next = 1 ∧ W1.add 1 (rqP false 0 2 7 n m) = some W2 ∧ W2.start 1 1 [] = some W3 ∧ (W3.rq 1 1).no = 1 ∧ Sp n m gv true s' W3 := by
 have hlen : (W.pr 1).reqs.length < 256 := by
  obtain ⟨-, -, -, K, f, g, -, -, rfl⟩ := S
  cases s <;> exact (show 0 < 256 by decide)
 refine ⟨hlen, ?_⟩
 obtain ⟨W1, e1, S1⟩ := S.call1
 have hbg := S1.bgs
 have h0 : (0 : Nat) < big := by decide
 have h1 : (1 : Nat) < big := by decide
 have hadd : ∀ (K : Wd) (a : Pr) (f g : Nat → Rq) (u v : List Pk) (i : List (Int × Pk)) (ms : List Ms), (T2 K a (qb false [] i ms []) f g u v).add 1 (rqP false 0 2 7 n m) = some (T2 K a (qb true [] i ms []) f (ups g 1 { rqP false 0 2 7 n m with no := 1 }) u v) := fun K a f g u v i ms => by
  unfold Wd.add
  rw [T2.pr1_]
  unfold qb
  dsimp only
  rw [if_pos ⟨by decide, by simp⟩, T2.setPr1, T2.setRq1, T2.setPr1]
  rfl
 have hR : ({ rqP false 0 2 7 n m with no := 1, act := true, done := false, st := St.z, data := [] } : Rq) = Rr n m no0 St.z := by
  show (⟨1, 0, 2, 7, 0, false, false, false, true, false, n, m, [], List.replicate n none, 0, List.replicate n false, false, St.z⟩ : Rq) = _
  have hp : pcF m n no0 = List.replicate n none := by
    unfold pcF
    apply List.ext_getElem?
    intro j
    by_cases hj : j < n
    · rw [List.getElem?_map, List.getElem?_range hj, List.getElem?_replicate, if_pos hj]; rfl
    · rw [List.getElem?_eq_none (by rw [List.length_map, List.length_range]; omega), List.getElem?_eq_none (by rw [List.length_replicate]; omega)]
  unfold Rr
  rw [hp, allb_no S.hn]
  rfl
 obtain ⟨hn, hb, ok, K, f, g, hf, hg, rfl⟩ := S1
 have hnm : n * m < big := hbg.2
 cases s with
 | A0 =>
  refine ⟨_, _, T2 K (qa []) (qb true [] [] [] [1]) f (ups (ups g 1 { rqP false 0 2 7 n m with no := 1 }) 1 (Rr n m no0 St.z)) [.ask (en n m) 1] [], .A0, e1, rfl, hadd K (qa []) f g [.ask (en n m) 1] [] [] [], ?_, ?_, hn, hb, trivial, K, f, _, hf, fun _ => ups_at _ _ _, rfl⟩
  · refine (start_r (r := Rr n m no0 St.z) (by rw [T2.rq1_, ups_at]; exact hR) hnm (Int.le_refl 0) ?_ rfl (show ¬ (0 : Int) = -2 by decide)).trans ?_
    · exact h0
    show (if 0 < big then _ else _) = _
    rw [if_pos h0, T2.setRq1, T2.setPr1]
    rfl
  · rw [T2.rq1_, ups_at]; rfl
 | A1 | A2 =>
  refine ⟨_, _, T2 K (qa []) (qb true (exA n no0) [] [] []) f (ups (ups g 1 { rqP false 0 2 7 n m with no := 1 }) 1 (Rr n m no0 ⟨0, 7, ((n * m : Nat) : Int), 0⟩)) [] [.clear 1], .M0, e1, rfl, hadd K (qa []) f g [] [] [] [.ask (en n m) 1], ?_, ?_, hn, hb, rfl, K, f, _, hf, fun _ => ups_at _ _ _, rfl⟩
  · refine (start_r (r := Rr n m no0 St.z) (by rw [T2.rq1_, ups_at]; exact hR) hnm (Int.le_refl 0) ?_ rfl (show ¬ (0 : Int) = -2 by decide)).trans ?_
    · exact h1
    rw [T2.pr1_]
    have hfit : (Rr n m no0 St.z).fits (en n m) = true := fits_go (dn := allb n no0)
    rw [show List.findIdx? (fun m_1 : Ms => (Rr n m no0 St.z).fits m_1.en) (qb true [] [] [Ms.ask (en n m) 1] []).msgs = some 0 by
      show List.findIdx? (fun m_1 : Ms => (Rr n m no0 St.z).fits m_1.en) [Ms.ask (en n m) 1] = some 0
      simp only [List.findIdx?_cons, Ms.en, hfit]; rfl]
    dsimp only
    show Wd.mtch (Wd.setPr (Wd.setRq _ 1 1 _) 1 _) 1 1 (.ask (en n m) 1) = _
    rw [T2.setRq1, T2.setPr1]
    unfold Wd.mtch
    show Wd.put (Wd.setPr (Wd.setRq _ 1 1 _) 1 _) 1 0 (.clear 1) = _
    rw [T2.setRq1, T2.rq1_, ups_at, T2.setPr1, T2.put10 (show ([] : List Pk).length < big from h0)]
    rw [ups_ups, ups_ups, ups_ups, exA_no hn]
    rfl
  · rw [T2.rq1_, ups_at]; rfl
 | M0 => cases S.ok
 | M1 => cases S.ok
 | C l1 l2 ar => cases S.ok.1
theorem Sp.ready (S : Sp n m gv pos s W) {k : Nat} (hk : k < n) (_ : gv k = false) : ∃ W1 W2 s', W.call 0 = some W1 ∧ k < (W1.rq 0 1).pcs.length ∧ W1.rdy 0 1 k (pt m k) = some W2 ∧ Sp n m (ups gv k true) pos s' W2 := by
 obtain ⟨W1, e1, S1⟩ := S.call0
 refine ⟨W1, ?_⟩
 have hl := S1.snd.2.2.2.2.2.1
 have hpg : ∀ (sv : Nat → Bool) (c dn : Bool), Wd.pget (Ss n m gv sv c dn) k (pt m k) = Ss n m (ups gv k true) sv c dn := fun sv c dn => by
  show ({ Ss n m gv sv c dn with pcs := (pcF m n gv).set k (some (pt m k)) } : Rq) = _
  rw [pcF_set hk]; rfl
 have hbg := S1.bgs
 obtain ⟨hn, hb, ok, K, f, g, hf, hg, e⟩ := S1
 generalize hs : s.c0 n gv = s1 at ok hf hg e
 have hnot : s1.cl = false → f 1 = Ss n m gv no0 false false → ∃ W2 s', W.call 0 = some W1 ∧ k < (W1.rq 0 1).pcs.length ∧ W1.rdy 0 1 k (pt m k) = some W2 ∧ Sp n m (ups gv k true) pos s' W2 := fun hc hf1 => by
  have hr : W1.rq 0 1 = Ss n m gv no0 false false := by rw [← hf1, e]; cases s1 <;> rfl
  refine ⟨Wof K n m (ups f 1 (Ss n m (ups gv k true) no0 false false)) g pos s1, s1, e1, by omega, ?_, hn, hb, ?_, K, _, g, ?_, hg, rfl⟩
  · unfold Wd.rdy
    rw [hr, if_neg (show ¬ (Ss n m gv no0 false false).clr = true from (by decide : ¬ false = true)), hpg, e]
    cases s1 <;> exact congrArg some (T2.setRq0 _ _)
  · cases s1 with
    | C l1 l2 ar => cases hc
    | _ => exact ok
  · rw [ups_at]; unfold fS; rw [hc]; rfl
 cases s1 with
 | C l1 l2 ar =>
  obtain ⟨o1, o2, o3, o4, o5⟩ := ok
  have hf1 : f 1 = Ss n m gv gv true (decide (cnt n gv = n)) := hf
  have hr : W1.rq 0 1 = Ss n m gv gv true (decide (cnt n gv = n)) := by rw [← hf1, e]; rfl
  have hll : (l2 ++ l1).length ≤ n := len_le o2 (fun i hi => (o3 i hi).1)
  rw [List.length_append] at hll
  have h64 := hb.1
  have h1000 : (1000 : Nat) < big := by decide
  obtain ⟨f', e2, e3⟩ := sparts_go (K := K) (a := qa []) (b := qb pos (exA n ar) (l2.map fun i => (0, pk m i)) [] []) (f := ups f 1 (Ss n m (ups gv k true) gv true (decide (cnt n gv = n)))) (g := g) (u := l1.map (pk m)) (v := []) (gv := ups gv k true) (sv := gv) hbg.1 (by rw [List.length_map]; omega) (fun i _ h => by
    by_cases e : i = k
    · rw [e, ups_at]
    · rw [ups_ne _ _ e]; exact h) (ups_at _ _ _)
  have hgl : ∀ i, i ∈ gl n (ups gv k true) gv → i < n ∧ (ups gv k true) i = true ∧ gv i = false := fun i hi => gl_ok.1 hi
  refine ⟨_, .C (l1 ++ gl n (ups gv k true) gv) l2 ar, e1, by omega, ?_, hn, hb, ⟨o1, ?_, fun i hi => ?_, fun i h1 h2 => ?_, fun i h1 h2 => ?_⟩, K, f', g, e3, hg, rfl⟩
  · unfold Wd.rdy
    rw [hr, if_pos (show (Ss n m gv gv true (decide (cnt n gv = n))).clr = true from rfl), hpg, e]
    show (Wd.setRq (T2 K _ _ f g _ _) 0 1 _).sparts 0 1 = _
    rw [T2.setRq0, e2, ← List.map_append]
    rfl
  · rw [← List.append_assoc]
    refine List.nodup_append.2 ⟨o2, gl_nodup, fun a ha b hb hab => ?_⟩
    subst hab
    have h9 := (hgl a hb).2.2
    rw [(o3 a ha).2.1] at h9
    cases h9
  · rw [← List.append_assoc] at hi
    rcases List.mem_append.1 hi with hi | hi
    · obtain ⟨q1, q2, q3⟩ := o3 i hi
      refine ⟨q1, ?_, q3⟩
      by_cases e : i = k
      · rw [e, ups_at]
      · rw [ups_ne _ _ e]; exact q2
    · obtain ⟨q1, q2, q3⟩ := hgl i hi
      refine ⟨q1, q2, ?_⟩
      cases ha : ar i with
      | false => rfl
      | true => rw [o5 i q1 ha] at q3; cases q3
  · cases hgi : gv i with
    | true =>
      rcases o4 i h1 hgi with h | h
      · exact .inl h
      · exact .inr (by rw [← List.append_assoc]; exact List.mem_append_left _ h)
    | false => exact .inr (by rw [← List.append_assoc]; exact List.mem_append_right _ (gl_ok.2 ⟨h1, h2, hgi⟩))
  · by_cases e : i = k
    · rw [e, ups_at]
    · rw [ups_ne _ _ e]; exact o5 i h1 h2
 | A0 => obtain ⟨W2, s', h⟩ := hnot rfl hf; exact ⟨W2, s', h⟩
 | A1 => obtain ⟨W2, s', h⟩ := hnot rfl hf; exact ⟨W2, s', h⟩
 | A2 => obtain ⟨W2, s', h⟩ := hnot rfl hf; exact ⟨W2, s', h⟩
 | M0 => obtain ⟨W2, s', h⟩ := hnot rfl hf; exact ⟨W2, s', h⟩
 | M1 => obtain ⟨W2, s', h⟩ := hnot rfl hf; exact ⟨W2, s', h⟩
theorem Sp.fin {ar : Nat → Bool} (S : Sp n m gv true (.C [] [] ar) W) (hall : ∀ i, i < n → gv i = true) :
   ∃ W1, W.call 0 = some W1 ∧ (W1.rq 0 1).done = true ∧ (W1.rq 0 1).send = true ∧ (W1.over 0 1).n = 2 ∧ 1 ∈ ((W1.over 0 1).pr 1).reqs ∧ ((W1.over 0 1).rq 1 1).act = true ∧ (W1.over 0 1).call 1 = some (W1.over 0 1) ∧ ((W1.over 0 1).rq 1 1).done = true ∧ ((W1.over 0 1).rq 1 1).send = false ∧ ((W1.over 0 1).rq 1 1).st = ⟨0, 7, ((n * m : Nat) : Int), 0⟩ ∧ ((W1.over 0 1).rq 1 1).data = want n m := by
 obtain ⟨W1, e1, S1⟩ := S.call0
 have S1 : Sp n m gv true (.C [] [] ar) W1 := S1
 refine ⟨W1, e1, ?_⟩
 obtain ⟨hn, hb, ok, K, f, g, hf, hg, rfl⟩ := S1
 have hf : f 1 = Ss n m gv gv true (decide (cnt n gv = n)) := hf
 have hg : g 1 = Rr n m ar ⟨0, 7, ((n * m : Nat) : Int), 0⟩ := hg rfl
 have har : allb n ar = true := allb_iff.2 fun i hi => by
   rcases ok.2.2.2.1 i hi (hall i hi) with h | h
   · exact h
   · cases h
 have ho : (Wof K n m f g true (.C [] [] ar)).over 0 1 = T2 K { qa [] with reqs := [] } (qb true (exA n ar) [] [] []) (ups f 1 { f 1 with act := false }) g [] [] := by
   unfold Wd.over
   show (if ((T2 K (qa []) (qb true (exA n ar) [] [] []) f g [] []).rq 0 1).pers = true then _ else _) = _
   rw [T2.rq0_, hf]
   rw [if_neg (show ¬ (Ss n m gv gv true (decide (cnt n gv = n))).pers = true from (by decide : ¬ false = true))]
   show Wd.setPr (Wd.setRq (T2 K (qa []) (qb true (exA n ar) [] [] []) f g [] []) 0 1 _) 0 _ = _
   rw [T2.setRq0, T2.setPr0]
   have hno : (f 1).no = 1 := by rw [hf]; rfl
   show T2 K { qa [] with reqs := [1].erase (f 1).no } (qb true (exA n ar) [] [] []) (ups f 1 { f 1 with act := false }) g [] [] = _
   rw [hno, show [1].erase 1 = ([] : List Nat) by simp, hf]
 have hd : ((Wof K n m f g true (.C [] [] ar)).rq 0 1) = Ss n m gv gv true (decide (cnt n gv = n)) := hf
 rw [ho, hd]
 refine ⟨decide_eq_true (cnt_all hall), rfl, rfl, List.mem_singleton.2 rfl, ?_, T2.rest1 rfl, ?_, ?_, ?_, ?_⟩
 · rw [T2.rq1_, hg]; rfl
 · rw [T2.rq1_, hg]; exact har
 · rw [T2.rq1_, hg]; rfl
 · rw [T2.rq1_, hg]; rfl
 · rw [T2.rq1_, hg]; unfold Rr; rw [har]; rfl
theorem born (hn : 0 < n) (hb : n ≤ 64 ∧ n * m ≤ 4096) {W : Wd} {q : Rq} (hW : W = ⟨100, 2, fun _ => ⟨1, [], [], [], [], [], [3, 3]⟩, fun _ _ => q, fun _ _ => []⟩) : W.n = 2 ∧ (W.pr 0).reqs.length < 256 ∧ ∃ W2 W3, W.call 0 = some W ∧ (W.pr 0).next = 1 ∧ W.add 0 (rqP true 1 2 7 n m) = some W2 ∧ W2.start 0 1 [] = some W3 ∧ (W3.rq 0 1).no = 1 ∧ Sp n m no0 false .A0 W3 := by
 have h0 : (0 : Nat) < big := by decide
 have hnm : n * m < big := Nat.lt_of_le_of_lt hb.2 (show 4096 < big by decide)
 obtain ⟨K, rfl⟩ : ∃ K, W = T2 K ⟨1, [], [], [], [], [], [3, 3]⟩ (qb false [] [] [] []) (fun _ => q) (fun _ => q) [] [] := by
   refine ⟨W, ?_⟩
   subst hW
   unfold T2 qb
   dsimp only
   congr 1
   · funext p; split
     · rfl
     · split <;> rfl
   · funext p; split
     · rfl
     · split <;> rfl
   · funext i j; split
     · rfl
     · split <;> rfl
 clear hW
 have hp : pcF m n no0 = List.replicate n none := by
   unfold pcF
   apply List.ext_getElem?
   intro j
   by_cases hj : j < n
   · rw [List.getElem?_map, List.getElem?_range hj, List.getElem?_replicate, if_pos hj]; rfl
   · rw [List.getElem?_eq_none (by rw [List.length_map, List.length_range]; omega), List.getElem?_eq_none (by rw [List.length_replicate]; omega)]
 have hS : (⟨1, 1, 2, 7, 0, true, false, false, true, false, n, m, [], List.replicate n none, 0, List.replicate n false, false, ⟨1, 7, ((n * m : Nat) : Int), 0⟩⟩ : Rq) = Ss n m no0 no0 false false := by
   unfold Ss
   rw [hp, cnt_no, sF_no]
 refine ⟨rfl, by show 0 < 256; decide, T2 K (qa []) (qb false [] [] [] []) (ups (fun _ => q) 1 { rqP true 1 2 7 n m with no := 1 }) (fun _ => q) [] [], T2 K (qa []) (qb false [] [] [] []) (ups (ups (fun _ => q) 1 { rqP true 1 2 7 n m with no := 1 }) 1 (Ss n m no0 no0 false false)) (fun _ => q) [.ask (en n m) 1] [], T2.rest0 rfl, rfl, ?_, ?_, ?_, hn, hb, trivial, K, _, (fun _ => q), ups_at _ _ _, fun h => (by cases h), rfl⟩
 · unfold Wd.add
   rw [T2.pr0_]
   dsimp only
   rw [if_pos ⟨by decide, by simp⟩, T2.setPr0, T2.setRq0, T2.setPr0]
   rfl
 · unfold Wd.start
   rw [T2.rq0_, T2.pr0_, ups_at]
   dsimp only
   rw [if_neg (fun h => h ⟨hnm, h0, h0, Int.le_refl 0⟩), if_pos rfl, T2.setRq0, ups_ups]
   have e0 : ((([] : By).length + n * m : Nat) : Int) = ((n * m : Nat) : Int) := by rw [List.length_nil, Nat.zero_add]
   rw [e0]
   show Wd.send (T2 K (qa []) (qb false [] [] [] []) (ups (fun _ => q) 1 (⟨1, 1, 2, 7, 0, true, false, false, true, false, n, m, [], List.replicate n none, 0, List.replicate n false, false, ⟨1, 7, ((n * m : Nat) : Int), 0⟩⟩ : Rq)) (fun _ => q) [] []) 0 1 (en n m) = _
   rw [hS]
   unfold Wd.send
   rw [T2.rq0_, ups_at]
   dsimp only
   rw [if_neg (show ¬ (Ss n m no0 no0 false false).peer = -2 from (by decide : ¬ (1 : Int) = -2)), if_pos (.inr (.inl hn))]
   show Wd.put _ 0 1 (.ask (en n m) 1) = _
   rw [T2.put01 (show ([] : List Pk).length < big from h0), ups_ups]
   rfl
 · rw [T2.rq0_, ups_at]; rfl
end
end Go.Mt.P6
namespace Go.Mt.P6
open Go.Arm
def rv (b : Bool) : Int := if b = true then 1 else 0
def ps (late : Bool) (n i : Nat) : Bool := !late || decide (n / 2 < i)
theorem ps0 {late : Bool} {n : Nat} : ps late n 0 = !late := by simp [ps]
theorem ps_n {late : Bool} {n : Nat} (h : 0 < n) : ps late n n = true := by
 have : n / 2 < n := Nat.div_lt_self h (by decide)
 simp [ps, this]
theorem ps_ne {late : Bool} {n i : Nat} (h : i ≠ n / 2) : ps late n i = ps late n (i + 1) := by
 unfold ps
 have : decide (n / 2 < i) = decide (n / 2 < i + 1) := decide_eq_decide.2 (by omega)
 rw [this]
theorem ps_half {late : Bool} {n i : Nat} (h : i = n / 2) : ps late n (i + 1) = true := by
 unfold ps
 have : decide (n / 2 < i + 1) = true := decide_eq_true (by omega)
 rw [this, Bool.or_true]
theorem ps_late {n i : Nat} (h : i = n / 2) : ps true n i = false := by
 unfold ps
 have : decide (n / 2 < i) = false := decide_eq_false (by omega)
 rw [this]; rfl
theorem rv_eq (b : Bool) : Value.bool (rv b == 0) = .bool (!b) := by cases b <;> rfl
theorem Rest.sp {n m : Nat} {gv : Nat → Bool} {pos : Bool} {W : Wd} (h : Rest n m gv pos W) : ∃ s, Sp n m gv pos s W := by
 rcases h with ⟨_, h⟩ | ⟨_, ar, h⟩
 · exact ⟨_, h⟩
 · exact ⟨_, h⟩
theorem free {n : Nat} {gv : Nat → Bool} {k : Nat} (h : cnt n gv < n) (hk : k < n) : ∃ d, gv ((k + d) % n) = false := by
 obtain ⟨j, hj, hg⟩ : ∃ j, j < n ∧ gv j = false := by
  apply Classical.byContradiction
  intro hc
  have : cnt n gv = n := cnt_all fun i hi => by
   cases e : gv i with
   | true => rfl
   | false => exact (hc ⟨i, hi, e⟩).elim
  omega
 refine ⟨j + n - k, ?_⟩
 rw [show k + (j + n - k) = j + n by omega, Nat.add_mod_right, Nat.mod_eq_of_lt hj]
 exact hg
theorem want_succ (n m : Nat) : want (n + 1) m = want n m ++ pt m n := by
 unfold want
 rw [List.range_succ, List.flatMap_append]
 simp
theorem pt_succ (j i : Nat) : pt (j + 1) i = pt j i ++ [UInt8.ofNat (16 * i + j)] := by
 unfold pt
 rw [List.range_succ, List.map_append]
 rfl
theorem want_part {m k : Nat} : ∀ {n : Nat}, k < n → ((want n m).drop (k * m)).take (k * m + m - k * m) = pt m k
 | 0, h => absurd h (Nat.not_lt_zero _)
 | n + 1, h => by
  have e : k * m + m - k * m = m := by omega
  rw [want_succ, e]
  by_cases hk : k < n
  · have h1 := want_part (m := m) hk
    rw [e] at h1
    have hl : k * m + m ≤ (want n m).length := by
     rw [want_len, ← Nat.succ_mul]; exact Nat.mul_le_mul_right m hk
    rw [List.drop_append_of_le_length (by omega), List.take_append_of_le_length (by rw [List.length_drop]; omega)]
    exact h1
  · obtain rfl : k = n := by omega
    have hl : (want k m).length = k * m := want_len
    rw [← hl, List.drop_left, List.take_of_length_le (by rw [pt_len]; exact Nat.le_refl _)]
theorem part_le {n m k : Nat} (h : k < n) : k * m + m ≤ (want n m).length := by
 rw [want_len, ← Nat.succ_mul]; exact Nat.mul_le_mul_right m h
end Go.Mt.P6



namespace Go.Proofs.Ytmehemeoaplepaa
noncomputable section
open Go Go.X Go.Arm Go.Mt
structure Wl (h0 : AH) (W : Wd) (G : Gh) (va : Value) (la : List Value) (vc : Value) (lc : List Value) (h : AH) : Prop where
 R : Rep W G h
 O : Old h0 G h
 ga : Gr h 1 va la.length la
 gc : Gr h 1 vc lc.length lc
 ma : ∀ b, vb va = some b → h0.next ≤ b ∧ ¬ G.mut b ∧ ¬ G.ro b
 mc : ∀ b, vb vc = some b → h0.next ≤ b ∧ ¬ G.mut b ∧ ¬ G.ro b
 dj : ∀ b, vb va = some b → vb vc = some b → False
section
variable {h0 h h' : AH} {W W' : Wd} {G G' : Gh} {va vc v : Value} {la lc : List Value} {x : Value}
theorem Old.ext (O : Old h0 G h) (t : Sm Nix h h') : Old h0 G h' := ⟨O.sm.ext t, O.mu⟩
end
theorem el_by {h : AH} {v : Value} {d : By} {i : Nat} (H : Sd h 1 v d.length (d.map bv)) (hi : i < d.length) : ∃ b o, aIndex Try.prog 23 v (nv (i : Int)) = some (.pointer (some ⟨b, o, none⟩)) ∧ aLoad Try.prog 5 ⟨b, o, none⟩ h = some (.int .u8 (d[i].toNat : Int)) := by
 obtain ⟨b, o, _, h1, h2⟩ := H.at (P := Try.prog) (T := 23) (el := 5) kr kr hi .i64
 refine ⟨b, o, h1, ld_cell kr ?_⟩
 have := h2 0 (by decide)
 rw [Nat.add_zero, Nat.mul_one, Nat.add_zero, List.getElem?_map, List.getElem?_eq_getElem hi] at this
 exact this
end
end Go.Proofs.Ytmehemeoaplepaa

namespace Go.Proofs.Ytmehemeoaplepaa
noncomputable section
open Go Go.X Go.Arm Go.Mt
structure Wx (h0 : AH) (W : Wd) (G : Gh) (V : Nat → Value) (T : Nat → Tx) (h : AH) : Prop where
 R : Rep W G h
 O : Old h0 G h
 at_ : ∀ k, AtX h (V k) (T k)
 own : ∀ k b, T k ≠ .no → vbx (V k) = some b → h0.next ≤ b ∧ ¬ G.mut b ∧ ¬ G.ro b
 dj : ∀ k k' b, T k ≠ .no → T k' ≠ .no → vbx (V k) = some b → vbx (V k') = some b → k = k'
section
variable {h0 h h' : AH} {W W' : Wd} {G G' : Gh} {V : Nat → Value} {T : Nat → Tx} {v : Value} {x : Tx} {k : Nat}
theorem Wx.lt (H : Wx h0 W G V T h) {b : Nat} (hx : T k ≠ .no) (hb : vbx (V k) = some b) : b < h.next := (H.at_ k).lt hx hb
theorem Wx.nil (R : Rep W G h) (O : Old h0 G h) : Wx h0 W G V (fun _ => .no) h := ⟨R, O, fun _ => trivial, fun _ _ hx => (hx rfl).elim, fun _ _ _ hx => (hx rfl).elim⟩
theorem Wx.ext (H : Wx h0 W G V T h) (t : Sm Nix h h') : Wx h0 W G V T h' := ⟨H.R.ext t, H.O.ext t, fun k => (H.at_ k).sm t (fun _ _ x => x), H.own, H.dj⟩
theorem Wx.go (H : Wx h0 W G V T h) (Y : Gx G h G' h') (R' : Rep W' G' h') : Wx h0 W' G' V T h' :=
 ⟨R', H.O.go Y, fun k => by
  by_cases e : T k = .no
  · rw [e]; trivial
  · exact (H.at_ k).sm Y.sm fun b hb => (H.own k b e hb).2.1,
  fun k b hx hb => ⟨(H.own k b hx hb).1, fun e => (Y.mu b e).elim (H.own k b hx hb).2.1 fun e2 => by have := H.lt hx hb; omega, fun e => (Y.ron b e).elim (H.own k b hx hb).2.2 fun e2 => by have := H.lt hx hb; omega⟩, H.dj⟩
theorem Wx.upd (H : Wx h0 W G V T h) (k : Nat) {v : Value} {x : Tx} (A : AtX h' v x) (t : Sm (fun b => T k ≠ .no ∧ vbx (V k) = some b) h h') (f : ∀ b, vbx v = some b → (T k ≠ .no ∧ vbx (V k) = some b) ∨ h.next ≤ b) : Wx h0 W G (ups V k v) (ups T k x) h' := by
 have hne : ∀ j, j ≠ k → AtX h' (V j) (T j) := fun j hj => by
   by_cases e : T j = .no
   · rw [e]; trivial
   · exact (H.at_ j).sm t fun b hb hs => hj (H.dj j k b e hs.1 hb hs.2)
 refine ⟨H.R.sm t fun b hb => (H.own k b hb.1 hb.2).2, ⟨H.O.sm.then (t.mono fun b hb => (H.own k b hb.1 hb.2).1), H.O.mu⟩, fun j => ?_, fun j b hx hb => ?_, fun j j' b hx hx' hb hb' => ?_⟩
 · by_cases e : j = k
   · subst e; rw [ups_at, ups_at]; exact A
   · rw [ups_ne _ _ e, ups_ne _ _ e]; exact hne j e
 · by_cases e : j = k
   · subst e
     rw [ups_at] at hb
     exact (f b hb).elim (fun e => H.own j b e.1 e.2) fun e => ⟨Nat.le_trans H.O.sm.nx e, H.R.op.new e, H.R.op.newr e⟩
   · rw [ups_ne _ _ e] at hb hx; exact H.own j b hx hb
 · by_cases e : j = k
   · by_cases e' : j' = k
     · rw [e, e']
     · subst e
       rw [ups_at] at hb
       rw [ups_ne _ _ e'] at hb' hx'
       rcases f b hb with h1 | h1
       · exact H.dj j j' b h1.1 hx' h1.2 hb'
       · have := H.lt hx' hb'; omega
   · by_cases e' : j' = k
     · subst e'
       rw [ups_at] at hb'
       rw [ups_ne _ _ e] at hb hx
       rcases f b hb' with h1 | h1
       · exact H.dj j j' b hx h1.1 hb h1.2
       · have := H.lt hx hb; omega
     · rw [ups_ne _ _ e] at hb hx
       rw [ups_ne _ _ e'] at hb' hx'
       exact H.dj j j' b hx hx' hb hb'
end
abbrev W4 (h0 : AH) (W : Wd) (G : Gh) (v0 : Value) (x0 : Tx) (v1 : Value) (x1 : Tx) (v2 : Value) (x2 : Tx) (v3 : Value) (x3 : Tx) (h : AH) : Prop := Wx h0 W G (q4 (nv 0) v0 v1 v2 v3) (q4 .no x0 x1 x2 x3) h
section
variable {h0 h h' : AH} {W W' : Wd} {G G' : Gh} {v0 v1 v2 v3 v : Value} {x0 x1 x2 x3 x : Tx}
theorem W4.nil (R : Rep W G h) (O : Old h0 G h) : W4 h0 W G v0 .no v1 .no v2 .no v3 .no h := by
 have : (q4 .no .no .no .no .no : Nat → Tx) = fun _ => .no := by
  funext i; match i with | 0 => rfl | 1 => rfl | 2 => rfl | 3 => rfl | _ + 4 => rfl
 unfold W4
 rw [this]
 exact .nil R O
theorem W4.up0 (H : W4 h0 W G v0 x0 v1 x1 v2 x2 v3 x3 h) (A : AtX h' v x) (t : Sm (fun b => x0 ≠ .no ∧ vbx v0 = some b) h h') (f : ∀ b, vbx v = some b → (x0 ≠ .no ∧ vbx v0 = some b) ∨ h.next ≤ b) : W4 h0 W G v x v1 x1 v2 x2 v3 x3 h' := by
 have := Wx.upd H 0 A t f
 rw [q4_0, q4_0] at this; exact this
theorem W4.a0 (H : W4 h0 W G v0 x0 v1 x1 v2 x2 v3 x3 h) : AtX h v0 x0 := H.at_ 0
end
theorem AtX.row {T el : TypeId} {h : AH} {v : Value} {f : Nat → Value} {n i : Nat} (hT : Try.prog.underlying T = some (.slice el)) (hs : szOf Try.prog el = some 1) (hl : scalT Try.prog el = true) (A : AtX h v (.cl (rg f n))) (hi : i < n) : ∃ b, v = .slice (some ⟨b, 0, none⟩) n n ∧ b < h.next ∧ aIndex Try.prog T v (nv (i : Int)) = some (.pointer (some ⟨b, i, none⟩)) ∧ aLoad Try.prog el ⟨b, i, none⟩ h = some (f i) := by
 obtain ⟨b, rfl, c⟩ := A
 rw [rg_len]
 exact ⟨b, rfl, c.lt, ix_cl hT hs hi .i64, c.ld hl (rg_at hi)⟩
theorem AtX.put {el : TypeId} {h : AH} {v : Value} {f : Nat → Value} {n i : Nat} {x : Value} (hs : szOf Try.prog el = some 1) (hx : cellsL x = [x]) (hx1 : x.oneCell' = true) (A : AtX h v (.cl (rg f n))) (hi : i < n) : ∀ b, v = .slice (some ⟨b, 0, none⟩) n n → ∃ h', aStore Try.prog el ⟨b, i, none⟩ x h = some h' ∧ AtX h' v (.cl (rg (ups f i x) n)) ∧ Sm (fun c => c = b) h h' ∧ h'.next = h.next := by
 intro b hb
 obtain ⟨b', e', c⟩ := A
 have hbb : b' = b := by rw [e', rg_len] at hb; cases hb; rfl
 subst hbb
 obtain ⟨h', e1, e2, e3, e4⟩ := c.store (P := Try.prog) (T := el) (o := i) (v := x) hs hx hx1 (by rw [rg_len]; exact hi)
 refine ⟨h', e1, ⟨b', ?_, ?_⟩, e3, e4⟩
 · rw [rg_len]; exact hb
 · rw [← rg_set]; exact e2
end
end Go.Proofs.Ytmehemeoaplepaa

namespace Go.Proofs.Ytmehemeoaplepaa
noncomputable section
open Go Go.X Go.Arm Go.Mt
theorem conv8 {h : AH} {x : Nat} (hx : x < 256) : aConv Try.prog 5 3 (.int .u8 (x : Int)) h = some (nv (x : Int)) := by
 have e : aConv Try.prog 5 3 (.int .u8 (x : Int)) h = some (.int .i64 (IntKind.i64.wrap (x : Int))) := by kernel_rfl
 have e2 : IntKind.i64.wrap (x : Int) = x := by rw [IntKind.wrap_i64]; omega
 rw [e, e2]; rfl
theorem convB {h : AH} {x : Nat} (hx : x < 256) : aConv Try.prog 3 5 (nv (x : Int)) h = some (.int .u8 (x : Int)) := by
 have e : aConv Try.prog 3 5 (nv (x : Int)) h = some (.int .u8 (IntKind.u8.wrap (x : Int))) := by kernel_rfl
 have e2 : IntKind.u8.wrap (x : Int) = x := by
  have : ∀ k : Fin 256, IntKind.u8.wrap (k.val : Int) = (k.val : Int) := by decide +kernel
  exact this ⟨x, hx⟩
 rw [e, e2]
theorem rem_lit {h : AH} {xo yo : Operand} {x E : Nat} {c : Int} (hc : 0 < c) (hE : x % c.toNat = E) (hr : aBin Try.prog .rem 3 xo yo (nv (x : Int)) (nv c) h = some (nv (Int.tmod (x : Int) c))) : aBin Try.prog .rem 3 xo yo (nv (x : Int)) (nv c) h = some (nv (E : Int)) := by
 have : Int.tmod (x : Int) c = (E : Int) := by
  rw [Int.tmod_eq_emod_of_nonneg (by omega), ← hE, Int.natCast_emod, Int.toNat_of_nonneg (by omega)]
 rw [hr, this]
theorem quo_lit {h : AH} {xo yo : Operand} {x E : Nat} {c : Int} (hx : x < 256) (hc : 0 < c) (hE : x / c.toNat = E) (hr : aBin Try.prog .quo 3 xo yo (nv (x : Int)) (nv c) h = some (.int .i64 (IntKind.i64.wrap (Int.tdiv (x : Int) c)))) : aBin Try.prog .quo 3 xo yo (nv (x : Int)) (nv c) h = some (nv (E : Int)) := by
 have e1 : Int.tdiv (x : Int) c = (E : Int) := by
  rw [Int.tdiv_eq_ediv_of_nonneg (by omega), ← hE, Int.natCast_ediv, Int.toNat_of_nonneg (by omega)]
 have e2 : E < 256 := by rw [← hE]; exact Nat.lt_of_le_of_lt (Nat.div_le_self _ _) hx
 have e3 : IntKind.i64.wrap (E : Int) = E := by rw [IntKind.wrap_i64]; omega
 rw [hr, e1, e3]; rfl
theorem add_ii {a b : Int} {n : Nat} (h1 : a + b = n) (h2 : n < 1000) : Value.int .i64 (IntKind.i64.wrap (a + b)) = nv (n : Int) := by
 have : IntKind.i64.wrap (a + b) = (n : Int) := by rw [IntKind.wrap_i64]; omega
 rw [this]; rfl
end
end Go.Proofs.Ytmehemeoaplepaa

namespace Go.Proofs.Ytmehemeoaplepaa
noncomputable section
open Go Go.X Go.Arm Go.Mt
section
variable {h0 h h' : AH} {W W' : Wd} {G G' : Gh} {V : Nat → Value} {T : Nat → Tx} {b : Nat}
end
theorem rem_d {h : AH} {xo yo : Operand} {x d : Nat} (hd : 0 < d) : aBin Try.prog .rem 3 xo yo (nv (x : Int)) (nv (d : Int)) h = some (nv ((x % d : Nat) : Int)) := by
 obtain ⟨k, rfl⟩ : ∃ k, d = k + 1 := ⟨d - 1, by omega⟩
 have e : aBin Try.prog .rem 3 xo yo (nv (x : Int)) (nv ((k + 1 : Nat) : Int)) h = some (nv (Int.tmod (x : Int) ((k + 1 : Nat) : Int))) := by kernel_rfl
 rw [e, Int.tmod_eq_emod_of_nonneg (by omega), Int.natCast_emod]
theorem bv_n {x : Nat} (hx : x < 256) : bv (UInt8.ofNat x) = .int .u8 (x : Int) := by
 unfold bv
 rw [UInt8.toNat_ofNat', Nat.mod_eq_of_lt (by omega)]
theorem settle_n {W : Wd} {G : Gh} {h : AH} {k n : Nat} {W' : Wd} (R : Rep W G h) (hn : W.n = n) (hn5 : n < 5) (hk : k < 2000) (hs : Wd.Settles k W W') :
  Arm.Calls Try.prog 14 [ptr (G.B .wd), nv (n : Int)] h (fun r => r.1 = .bool true ∧ Nxt W' G h r.2) := by
 have := settle_ok R (by rw [hn]; omega) hk hs
 rw [hn] at this
 exact this
end
end Go.Proofs.Ytmehemeoaplepaa


namespace Go.Proofs.Ytmehemeoaplepaa
noncomputable section
open Go Go.X Go.Arm Go.Mt
theorem neq_str {h : AH} {xo yo : Operand} (d : By) : aBin Try.prog .neq 9 xo yo (.string ⟨⟨d⟩⟩) (.string ⟨⟨d⟩⟩) h = some (.bool false) := by
 unfold aBin aStr
 simp
end
end Go.Proofs.Ytmehemeoaplepaa


namespace Go.Proofs.Ytmehemeoaplepaa
noncomputable section
open Go Go.X Go.Arm Go.Mt
theorem rb_one {h : AH} {b i : Nat} (hi : i < 256) (c : Cl h b [.int .u8 (i : Int)]) : Rb h (.slice (some ⟨b, 0, none⟩) 1 1) (([UInt8.ofNat i] : By).map bv) := by
 have := (c.sd (n := 1) rfl).rb
 rw [← bv_n hi] at this
 exact this
end
end Go.Proofs.Ytmehemeoaplepaa
