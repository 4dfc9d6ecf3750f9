/- Worlds of the program and walks of its functions. -/
import Derived.Test.YtmehemeoaplepaaZr
import Derived.Test.YtmehemeoaplepaaZs
namespace Go.Mt
open Go.Arm
theorem kget_ks {κ β : Type} [DecidableEq κ] (k k' : κ) (y : β) : ∀ (m : List (κ × β)), kget (kset m k y) k' = if k = k' then some y else kget m k'
 | [] => by unfold kset kget; by_cases h : k = k' <;> simp [h, kget]
 | e :: m => by
  unfold kset
  by_cases h : e.1 = k
  · rw [if_pos h]
    by_cases h2 : k = k'
    · subst h2; unfold kget; simp
    · unfold kget; rw [if_neg h2, if_neg h2, if_neg (fun e2 => h2 (h.symm.trans e2))]
  · rw [if_neg h]
    unfold kget
    by_cases h3 : e.1 = k'
    · rw [if_pos h3, if_pos h3, if_neg (fun e2 => h (h3.trans e2.symm))]
    · rw [if_neg h3, if_neg h3]; exact kget_ks k k' y m
def tb (w : Nat → Option Nat) (i x : Nat) : Bool := (List.range i).any fun j => w j == some x
theorem tb_iff {w : Nat → Option Nat} {i x : Nat} : tb w i x = true ↔ ∃ j, j < i ∧ w j = some x := by
 unfold tb
 rw [List.any_eq_true]
 constructor
 · rintro ⟨j, h1, h2⟩
   exact ⟨j, List.mem_range.1 h1, by simpa using h2⟩
 · rintro ⟨j, h1, h2⟩
   exact ⟨j, List.mem_range.2 h1, by simpa using h2⟩
theorem tb_no {w : Nat → Option Nat} {i : Nat} (h : w i = none) (x : Nat) : tb w (i + 1) x = tb w i x := by
 unfold tb
 rw [List.range_succ, List.any_append]
 simp [h]
theorem tb_some {w : Nat → Option Nat} {i x : Nat} (h : w i = some x) (y : Nat) : tb w (i + 1) y = (tb w i y || decide (x = y)) := by
 unfold tb
 rw [List.range_succ, List.any_append]
 congr 1
 by_cases e : x = y <;> simp [h, e]
theorem flt_succ (q : Nat → Bool) (i : Nat) : ((List.range (i + 1)).filter q).length = ((List.range i).filter q).length + (if q i = true then 1 else 0) := by
 rw [List.range_succ, List.filter_append, List.length_append]
 congr 1
 by_cases h : q i = true
 · rw [if_pos h, List.filter_cons_of_pos h]; rfl
 · rw [if_neg h, List.filter_cons_of_neg h]; rfl
theorem flt_le (q : Nat → Bool) (i : Nat) : ((List.range i).filter q).length ≤ i := by
 have := List.length_filter_le q (List.range i)
 rw [List.length_range] at this; exact this
def qr (sp : Nat → Mv) (w : Nat → Option Nat) (j : Nat) : Bool := !(sp j).send && (w j).isNone
def ql (sp : Nat → Mv) (w : Nat → Option Nat) (k i : Nat) : Bool := (sp i).send && !tb w k i
section
variable {C : Ct} {sp : Nat → Mv} {no : Nat → Nat} {k : Nat} {Γ : Gs} {W W' : Wd}
structure Sd9 (C : Ct) (sp : Nat → Mv) (no : Nat → Nat) (k : Nat) (W : Wd) : Prop where
 p : ∀ i, i < k → (sp i).p < C.n
 r : ∀ j, j < k → (sp j).send = false → (wa sp k k j = none ∧ (W.rq (sp j).p (no j)).act = true ∧ (W.rq (sp j).p (no j)).done = false ∧ (W.rq (sp j).p (no j)).no = no j) ∨
  ∃ i, wa sp k k j = some i ∧ i < k ∧ (sp i).send = true ∧ ((sp i).d.length : Int) ≤ C.room ∧ (W.rq (sp j).p (no j)).act = true ∧ (W.rq (sp j).p (no j)).done = true ∧ (W.rq (sp j).p (no j)).send = false ∧ (W.rq (sp j).p (no j)).no = no j ∧ (W.rq (sp j).p (no j)).data = (sp i).d ∧ (W.rq (sp j).p (no j)).st = ⟨(sp i).p, (sp i).tag, ((sp i).d.length : Nat), 0⟩
 s : ∀ i, i < k → (sp i).send = true → (W.rq (sp i).p (no i)).act = true ∧ (W.rq (sp i).p (no i)).send = true ∧ (W.rq (sp i).p (no i)).no = no i ∧
  (((W.rq (sp i).p (no i)).done = true ∧ tb (wa sp k k) k i = true) ∨ ((W.rq (sp i).p (no i)).done = true ∧ tb (wa sp k k) k i = false ∧ (sp i).sync = false) ∨ ((W.rq (sp i).p (no i)).done = false ∧ tb (wa sp k k) k i = false))
 a : sumN (fun p => (W.pr p).rcvs.length) C.n = ((List.range k).filter (qr sp (wa sp k k))).length
 b : sumN (fun p => (W.pr p).msgs.length) C.n = ((List.range k).filter (ql sp (wa sp k k) k)).length
theorem Pl.sd9 (P : Pl C sp no k Γ W) (Q : Gq Γ) (hsrc : ∀ j, j < k → (sp j).send = false → 0 ≤ (sp j).peer) : Sd9 C sp no k W := by
 obtain ⟨h1, h2⟩ := P.wa Q hsrc
 have htb : ∀ i, i < k → (sp i).send = true → (tb (Go.Mt.wa sp k k) k i = true ↔ ∃ j, Γ.mt (sp i).to j = some i) := fun i hi hs => by
   rw [tb_iff]
   constructor
   · rintro ⟨j, hj, hw⟩
     obtain ⟨a1, a2, _, _, a5⟩ := wa_mem hw
     rw [← h1 j a1 a2] at hw
     have := (P.gotm hw).2.2.1
     rw [← this] at hw
     exact ⟨j, hw⟩
   · rintro ⟨j, hj⟩
     obtain ⟨a1, a2, a3, a4, a5, a6, _⟩ := P.gotm hj
     rw [← a6, h1 j a4 a5] at hj
     exact ⟨j, a4, hj⟩
 refine ⟨fun i hi => (P.pn hi).1, fun j hj hs => ?_, fun i hi hs => ?_, ?_, ?_⟩
 · rcases P.recvd Q hj hs with ⟨a, b⟩ | ⟨i, a, b⟩
   · exact .inl ⟨(h1 j hj hs).symm.trans a, b⟩
   · obtain ⟨c1, c2, _⟩ := P.gotm a
     obtain ⟨_, _, _, e4, _⟩ := P.attr c1
     have := (P.hf.mv i (by rw [P.hk]; exact c1)).2.1
     rw [e4] at this
     exact .inr ⟨i, (h1 j hj hs).symm.trans a, c1, c2, this, b⟩
 · obtain ⟨a, b, c, d, e⟩ := P.sent Q hi hs
   refine ⟨a, b, c, ?_⟩
   cases ht : tb (Go.Mt.wa sp k k) k i with
   | true => exact .inl ⟨d ((htb i hi hs).1 ht), rfl⟩
   | false =>
     have hno : ∀ j, Γ.mt (sp i).to j ≠ some i := fun j hj => by
      have := (htb i hi hs).2 ⟨j, hj⟩
      rw [ht] at this; cases this
     cases hd : (W.rq (sp i).p (no i)).done with
     | false => exact .inr (.inr ⟨rfl, rfl⟩)
     | true =>
      refine .inr (.inl ⟨rfl, rfl, ?_⟩)
      cases hsy : (sp i).sync with
      | false => rfl
      | true => rw [e hno hsy] at hd; cases hd
 · rw [P.waits]
   congr 1
   refine List.filter_congr fun j hj => ?_
   unfold qr
   cases hs : (sp j).send with
   | true => rfl
   | false => rw [h1 j (List.mem_range.1 hj) hs]
 · rw [P.lefts Q]
   congr 1
   refine List.filter_congr fun i hi => ?_
   unfold ql
   cases hs : (sp i).send with
   | false => rfl
   | true =>
     congr 1
     have hik := List.mem_range.1 hi
     cases ht : tb (Go.Mt.wa sp k k) k i with
     | true =>
      obtain ⟨j, hj⟩ := (htb i hik hs).1 ht
      cases hf : Γ.fr (sp i).to i with
      | false => rfl
      | true => exact (free_iff.1 hf j hj).elim
     | false =>
      refine free_iff.2 fun j hj => ?_
      have := (htb i hik hs).2 ⟨j, hj⟩
      rw [ht] at this; cases this
end
theorem spS_src {n : Nat} {l : List Mo} : ∀ j, j < l.length → (spS n l j).send = false → 0 ≤ (spS n l j).peer := fun j hj hs => by
 have hm := List.getElem?_eq_getElem hj
 rw [spS_send hm] at hs
 rw [spS_r hm hs]
 exact Int.natCast_nonneg _
end Go.Mt
namespace Go.Proofs.Ytmehemeoaplepaa
noncomputable section
open Go Go.X Go.Arm Go.Mt
theorem k_num : KeyK Try.prog 3 nv := KeyK.int kr (fun e k => by kernel_rfl)
theorem lookT {h : AH} {mt : Value} {mm : List (Int × Value)} {w : Nat → Option Nat} {i x : Nat} (A : AtX h mt (.mi mm)) (hM : ∀ y : Nat, kget mm (y : Int) = if tb w i y = true then some (.bool true) else none) : aLookup Try.prog 53 mt (nv (x : Int)) false h = some (.bool (tb w i x)) := by
 obtain ⟨b, rfl, H⟩ := A
 rcases H.lookup (P := Try.prog) (T := 53) (kt := 3) (el := 4) (z := .bool false) kr k_num kr (x : Int) false with ⟨h1, h2⟩ | ⟨v, y, h1, h2, h3⟩
 · rw [h2]
   rw [hM] at h1
   cases ht : tb w i x with
   | false => rfl
   | true => rw [ht] at h1; cases h1
 · rw [h3]
   rw [hM] at h1
   cases ht : tb w i x with
   | false => rw [ht] at h1; cases h1
   | true => rw [ht] at h1; cases h1; rw [show v = _ from h2]; rfl
theorem updT {h : AH} {mt : Value} {mm : List (Int × Value)} {x : Nat} (A : AtX h mt (.mi mm)) : ∃ h' bm, aUpdate Try.prog 53 mt (nv (x : Int)) (.bool true) h = some h' ∧ AtX h' mt (.mi (kset mm (x : Int) (.bool true))) ∧ vbx mt = some bm ∧ Sm (fun c => c = bm) h h' := by
 obtain ⟨b, rfl, H⟩ := A
 obtain ⟨h', e, m, t, _⟩ := H.update (P := Try.prog) (T := 53) (kt := 3) (el := 4) kr k_num (x : Int) (v := .bool true) (y := .bool true) rfl
 exact ⟨h', b, e, ⟨b, rfl, m⟩, rfl, t⟩
theorem hM_set {mm : List (Int × Value)} {w : Nat → Option Nat} {i x : Nat} (hM : ∀ y : Nat, kget mm (y : Int) = if tb w i y = true then some (.bool true) else none) (hw : w i = some x) : ∀ y : Nat, kget (kset mm (x : Int) (.bool true)) (y : Int) = if tb w (i + 1) y = true then some (.bool true) else none := fun y => by
 rw [kget_ks, tb_some hw, hM]
 by_cases e : x = y
 · subst e; simp
 · rw [if_neg (show ¬ (x : Int) = (y : Int) by omega)]
   cases tb w i y <;> simp [e]
theorem hM_no {mm : List (Int × Value)} {w : Nat → Option Nat} {i : Nat} (hM : ∀ y : Nat, kget mm (y : Int) = if tb w i y = true then some (.bool true) else none) (hw : w i = none) : ∀ y : Nat, kget mm (y : Int) = if tb w (i + 1) y = true then some (.bool true) else none := fun y => by
 rw [tb_no hw, hM]
theorem el_od {h : AH} {v : Value} {sp : Nat → Mv} {no : Nat → Nat} {N i : Nat} (H : Sd h 3 v N (od sp no N)) (hi : i < N) : ∃ b o, aIndex Try.prog 49 v (nv (i : Int)) = some (.pointer (some ⟨b, o, none⟩)) ∧ aLoad Try.prog 3 ⟨b, o, none⟩ h = some (nk (sp i).p) ∧ aLoad Try.prog 3 ⟨b, o + 1, none⟩ h = some (nk (no i)) ∧ aLoad Try.prog 9 ⟨b, o + 2, none⟩ h = some (.string ⟨⟨(sp i).d⟩⟩) ∧ b < h.next := by
 obtain ⟨b, o, hv, h1, h2⟩ := H.at (P := Try.prog) (T := 49) (el := 55) kr kr hi .i64
 have h3 : ∀ j, j < 3 → h.cell ⟨b, o + j, none⟩ = ([nk (sp i).p, nk (no i), Value.string ⟨⟨(sp i).d⟩⟩] : List Value)[j]? := fun j hj => by
  rw [h2 j hj]
  exact flat_at (fun i => [nk (sp i).p, nk (no i), Value.string ⟨⟨(sp i).d⟩⟩]) (fun _ => rfl) (List.getElem?_range hi) hj
 exact ⟨b, o, h1, ld_cell kr (h3 0 (by decide)), ld_cell kr (h3 1 (by decide)), ld_cell kr (h3 2 (by decide)), H.lt hv⟩
theorem neq_st (s : St) (h : AH) (xo yo : Operand) : aBin Try.prog .neq 43 xo yo (.agg ⟨[nv s.src, nv s.tag, nv s.size, nv s.err]⟩) (.agg ⟨[nv s.src, nv s.tag, nv s.size, nv s.err]⟩) h = some (.bool false) := by
 have hu : ∃ f : Array Field, Try.prog.underlying 43 = some (.struct f) := ⟨⟨[fld 43 0, fld 43 1, fld 43 2, fld 43 3]⟩, kr⟩
 obtain ⟨fsd, hu⟩ := hu
 have e1 : aBinV Try.prog .neq 43 (.agg ⟨[nv s.src, nv s.tag, nv s.size, nv s.err]⟩) (.agg ⟨[nv s.src, nv s.tag, nv s.size, nv s.err]⟩) h = none := by
  unfold aBinV aEqV
  simp only [hu]
 unfold aBin
 simp only [e1]
 have e2 : pureRun Try.prog (eqGuard .neq 43 xo yo (.agg ⟨[nv s.src, nv s.tag, nv s.size, nv s.err]⟩) (.agg ⟨[nv s.src, nv s.tag, nv s.size, nv s.err]⟩)) = some () := by kernel_rfl
 have e3 : pureRun Try.prog (binOp .neq 43 (.agg ⟨[nv s.src, nv s.tag, nv s.size, nv s.err]⟩) (.agg ⟨[nv s.src, nv s.tag, nv s.size, nv s.err]⟩)) = some (.bool false) := by
  have : binOp .neq 43 (.agg ⟨[nv s.src, nv s.tag, nv s.size, nv s.err]⟩) (.agg ⟨[nv s.src, nv s.tag, nv s.size, nv s.err]⟩) = (Go.Op.equal 43 (.agg ⟨[nv s.src, nv s.tag, nv s.size, nv s.err]⟩) (.agg ⟨[nv s.src, nv s.tag, nv s.size, nv s.err]⟩) >>= fun b => pure (.bool (!b))) := rfl
  rw [this]
  exact pureRun_and (a := true) (eq_st s) rfl
 have e4 : pureRun Try.prog (eqGuard .neq 43 xo yo (.agg ⟨[nv s.src, nv s.tag, nv s.size, nv s.err]⟩) (.agg ⟨[nv s.src, nv s.tag, nv s.size, nv s.err]⟩) >>= fun _ => binOp .neq 43 (.agg ⟨[nv s.src, nv s.tag, nv s.size, nv s.err]⟩) (.agg ⟨[nv s.src, nv s.tag, nv s.size, nv s.err]⟩)) = some (.bool false) := pureRun_and (a := ()) e2 e3
 have e5 : pfv (.agg ⟨[nv s.src, nv s.tag, nv s.size, nv s.err]⟩) = true := by kernel_rfl
 rw [e5]
 unfold aPure
 rw [if_pos (by rfl)]
 generalize hq : pureRun Try.prog _ = q
 have : q = some (.bool false) := by rw [← hq]; exact e4
 rw [this]
 rfl
theorem neq_str {h : AH} {xo yo : Operand} (d : By) : aBin Try.prog .neq 9 xo yo (.string ⟨⟨d⟩⟩) (.string ⟨⟨d⟩⟩) h = some (.bool false) := by
 unfold aBin aStr
 simp
theorem lenA_str (d : By) (h : AH) : aLen Try.prog 9 (.string ⟨⟨d⟩⟩) h = some (nv (d.length : Int)) := by kernel_rfl
theorem wv_no {w : Nat → Option Nat} {j : Nat} (h : w j = none) : wv w j = nv (-1) := by unfold wv; rw [h]
theorem wv_so {w : Nat → Option Nat} {j k : Nat} (h : w j = some k) : wv w j = nv (k : Int) := by unfold wv; rw [h]
theorem sumN_le {f : Nat → Nat} : ∀ {n p : Nat}, p ≤ n → sumN f p ≤ sumN f n
  | 0, p, h => by obtain rfl : p = 0 := by omega
                  exact Nat.le_refl _
  | n + 1, p, h => by
    by_cases e : p = n + 1
    · subst e; exact Nat.le_refl _
    · exact Nat.le_trans (sumN_le (n := n) (by omega)) (Nat.le_add_right _ _)
theorem sub_n {a b : Nat} (h1 : b ≤ a) (h2 : a < 1000) : Value.int .i64 (IntKind.i64.wrap ((a : Int) - (b : Int))) = nv ((a - b : Nat) : Int) := by
 have : IntKind.i64.wrap ((a : Int) - (b : Int)) = ((a - b : Nat) : Int) := by rw [IntKind.wrap_i64]; omega
 rw [this]; rfl
def un1 (sp : Nat → Mv) (i j : Nat) : Prop := (sp j).send = true ∨ i ≤ j
def un2 (sp : Nat → Mv) (i j : Nat) : Prop := (sp j).send = true ∧ i ≤ j
end
end Go.Proofs.Ytmehemeoaplepaa
namespace Go.Proofs.Ytmehemeoaplepaa
noncomputable section
open Go Go.X Go.Arm Go.Mt
theorem len_nil {h : AH} : aLen Try.prog 23 (.slice none 0 0) h = some (nv 0) := by kernel_rfl
set_option maxHeartbeats 4000000 in
theorem sched_ok {h : AH} {x1 x2 x3 : Nat} {sv ov : Value} {l : List Mo} {os : By} (hx1 : x1 < 256) (hx2 : x2 < 256) (hx3 : x3 < 256) (hl : ∀ m, m ∈ l → m.ok) (Hl : Sd h 6 sv l.length (l.flatMap mo6)) (Ho : Sd h 1 ov os.length (os.map bv)) :
  Arm.Calls Try.prog 4 [.int .u8 (x1 : Int), .int .u8 (x2 : Int), .int .u8 (x3 : Int), sv, ov] h (fun r => r.1 = .bool true) := by
 obtain ⟨n, hn1⟩ : ∃ n, 1 + x1 % 4 = n := ⟨_, rfl⟩
 have hn : 0 < n ∧ n < 5 := by omega
 obtain ⟨E, hE⟩ : ∃ E, x2 % 14 = E := ⟨_, rfl⟩
 have hE9 : E < 14 := by omega
 obtain ⟨c, hc⟩ : ∃ c, x3 % 5 = c := ⟨_, rfl⟩
 have hc9 : c < 5 := by omega
 refine Calls_W 254 Try.f4 ?_
 have T0 : Sm Nix h h := .refl
 refine W_sg 1 kr (L_nil (W_seq (W_seq ?_)))
 rcases (show 24 < l.length ∨ (l.length ≤ 24 ∧ 40 < os.length) ∨ (l.length ≤ 24 ∧ os.length ≤ 40) by omega) with h24 | ⟨hlen, h40⟩ | ⟨hlen, hol⟩
 ·
  refine W_rg 1 kr (L_ln _ rfl rfl kr (Sd.len (P := Try.prog) (T := 22) (el := 32) kr (Hl.ext T0)) (L_i ((l.length : Int)) (24) (.bool true) rfl rfl kr kr rfl (by simp; omega) (L_g 5 kr (L_nil ?_))))
  refine W_cond true kr (fun _ => ?_) (fun e => by cases e)
  refine W_seq (W_region (L_c rfl rfl kr (works_ok) ?_))
  rintro vw hw ew
  cases ew
  refine L_g 1 kr (L_nil (W_ret ?_))
  repeat first | with_reducible refine then_ret ?_ | with_reducible refine blk_ret ?_
  refine done_of (v := .bool true) (.inl rfl) kr ?_
  exact rfl
 ·
  refine W_rg 1 kr (L_ln _ rfl rfl kr (Sd.len (P := Try.prog) (T := 22) (el := 32) kr (Hl.ext T0)) (L_i ((l.length : Int)) (24) (.bool false) rfl rfl kr kr rfl (by simp; omega) (L_g 2 kr (L_want kr (L_ln _ rfl rfl kr (Sd.len (P := Try.prog) (T := 23) (el := 5) kr (Ho.ext T0)) (L_want kr (L_i ((os.length : Int)) (40) (.bool true) rfl rfl kr kr rfl (by simp; omega) (L_g 1 kr (L_nil ?_)))))))))
  refine W_cond true kr (fun _ => ?_) (fun e => by cases e)
  refine W_seq (W_region (L_c rfl rfl kr (works_ok) ?_))
  rintro vw hw ew
  cases ew
  refine L_g 1 kr (L_nil (W_ret ?_))
  repeat first | with_reducible refine then_ret ?_ | with_reducible refine blk_ret ?_
  refine done_of (v := .bool true) (.inl rfl) kr ?_
  exact rfl
 ·
  refine W_rg 1 kr (L_ln _ rfl rfl kr (Sd.len (P := Try.prog) (T := 22) (el := 32) kr (Hl.ext T0)) (L_i ((l.length : Int)) (24) (.bool false) rfl rfl kr kr rfl (by simp; omega) (L_g 2 kr (L_want kr (L_ln _ rfl rfl kr (Sd.len (P := Try.prog) (T := 23) (el := 5) kr (Ho.ext T0)) (L_want kr (L_i ((os.length : Int)) (40) (.bool false) rfl rfl kr kr rfl (by simp; omega) (L_g 1 kr (L_nil ?_)))))))))
  refine W_cond false kr (fun e => by cases e) (fun _ => ?_)
  refine W_skip (W_sg 1 kr (L_p (nv (x1 : Int)) rfl (ev_conv (o := _) rfl kr (conv8 (hx1))) (L_p (nv ((x1 % 4 : Nat) : Int)) rfl (ev_bin (o := _) rfl kr kr (rem_lit (c := 4) (by decide) rfl kr)) (L_i (1) (((x1 % 4 : Nat) : Int)) (nv (n : Int)) rfl rfl kr kr rfl (add_ii (by omega) (by omega)) (L_g 1 kr (L_nil (W_seq (W_region (L_g 2 kr ?_)))))))))
  refine L_p (nv (x2 : Int)) rfl (ev_conv (o := _) rfl kr (conv8 (hx2))) (L_p (nv (E : Int)) rfl (ev_bin (o := _) rfl kr kr (rem_lit (c := 14) (by decide) hE kr)) (L_g 1 kr (L_p (nv (x3 : Int)) rfl (ev_conv (o := _) rfl kr (conv8 (hx3))) (L_p (nv (c : Int)) rfl (ev_bin (o := _) rfl kr kr (rem_lit (c := 5) (by decide) hc kr)) (L_g 2 kr (L_c rfl rfl kr (played_ok hn hE9 hc9 hl hlen hol (Hl.ext T0) (Ho.ext T0)) ?_))))))
  rintro v370 h370 ⟨Γ, W, G, no, vo, e370, PL, Q, w370⟩
  dsimp only at e370 w370
  subst e370
  have S9 := PL.sd9 Q spS_src
  have T370 : Sm Nix h370 h370 := .refl
  refine L_g 7 kr (L_nil (W_seq (W_sg 2 kr (L_nil ?_))))
  refine W_cond false kr (fun e => by cases e) (fun _ => ?_)
  refine W_skip (W_sg 2 kr (L_c rfl rfl kr (matches_ok hn hl hlen (((w370).ext T370).O.sd Hl)) ?_))
  rintro wt h371 ⟨b7, e371, c371, lo371, t371⟩
  dsimp only at e371 c371 t371
  have w371 := W4.up1 ((w370).ext T370) (v := wt) (x := .cl (rg (wv (wa (spS n l) l.length l.length)) l.length)) ⟨b7, by rw [e371, rg_len], c371⟩ (t371.mono fun _ x => (show False from x).elim) (fun b hb => .inr (by rw [e371] at hb; cases hb; exact lo371))
  have T371 : Sm Nix h371 h371 := .refl
  refine L_g 1 kr (L_nil (W_seq (W_region (L_nw (Al.map) .mp rfl rfl kr ?_))))
  have m372 : Mp (h371.push (Al.map).obj) h371.next nv Eq ([] : List (Int × Value)) := Mp.new h371
  have t372 : Sm Nix h371 (h371.push (Al.map).obj) := .push h371 _
  have n372 : (h371.push (Al.map).obj).next = h371.next + 1 := rfl
  generalize h371.push (Al.map).obj = h372 at m372 t372 n372 ⊢
  have T372 := T371.ext t372
  have N372 := T372.nx
  refine L_g 1 kr (L_nil (W_seq (W_sg 1 kr (L_ln _ rfl rfl kr (Sd.len (P := Try.prog) (T := 22) (el := 32) kr ((((w371).ext T372).O).sd Hl)) (L_g 1 kr (L_nil (W_block ?_)))))))
  refine W_loop (fun mm fr hh => ∃ (i : Nat) (W10 : Wd) (G10 : Gh) (mt : Value) (tm : List (Int × Value)), mm = l.length - i ∧ (i ≤ l.length) ∧ (Ts (⟨n, (E : Int), 11, (c : Int)⟩ : Mt.Ct) (spS n l) no l.length W (un1 (spS n l) i) W10) ∧ (∀ y : Nat, kget tm (y : Int) = if tb (wa (spS n l) l.length l.length) i y = true then some (Value.bool true) else none) ∧ (W4 h W10 G10 vo (.gr 3 l.length (od (spS n l) no l.length)) wt (.cl (rg (wv (wa (spS n l) l.length l.length)) l.length)) mt (.mi tm) (nv 0) .no hh) ∧ fr 3 = sv ∧ fr 11 = nv (n : Int) ∧ fr 13 = vo ∧ fr 15 = wt ∧ fr 16 = mt ∧ fr 12 = ptr (G10.B .wd) ∧ fr 70 = sv ∧ fr 71 = nv (l.length : Int) ∧ fr 72 = nv (i : Int)) (l.length) ?_ ?_
  ·
   have w8 := W4.up2 (w371) (x := .mi []) ⟨_, rfl, m372⟩ ((T372).mono fun _ x => (show False from x).elim) (fun b hb => .inr (by cases hb; omega))
   exact ⟨0, _, _, _, [], rfl, Nat.zero_le _, ((PL.ts Q).mono (fun _ _ _ => trivial)), (fun y => rfl), w8, kr, kr, kr, kr, kr, kr, kr, kr, kr⟩
  rintro mm fr hh10 ⟨i, W10, G10, mt, tm, hm10, hi, U10, hM, w10, y103, y1011, y1013, y1015, y1016, y1012, y1070, y1071, y1072⟩
  refine W_set (k := 3) y103 (W_set (k := 11) y1011 (W_set (k := 13) y1013 (W_set (k := 15) y1015 (W_set (k := 16) y1016 (W_set (k := 12) y1012 (W_set (k := 70) y1070 (W_set (k := 71) y1071 (W_set (k := 72) y1072 ?_))))))))
  have T10 : Sm Nix hh10 hh10 := .refl
  refine W_seq (W_region (L_i ((i : Int)) ((l.length : Int)) (.bool (decide ((i : Int) < (l.length : Int)))) rfl rfl kr kr rfl (rfl) (L_nil (W_seq ?_))))
  refine W_cond (decide ((i : Int) < (l.length : Int))) kr (fun hb => ?_) (fun hb => ?_)
  ·
   have hlt : i < l.length := by simp at hb; omega
   obtain ⟨m, hm⟩ : ∃ m, l[i]? = some m := ⟨_, List.getElem?_eq_getElem hlt⟩
   have hmo := hl m (List.mem_of_getElem? hm)
   obtain ⟨b9, o9, i9, l9, -, -⟩ := el_mo (w10.O.sd Hl) hm
   refine W_skip (W_seq (W_block (W_sg 1 kr (L_ix _ rfl rfl kr kr (i9) (L_ld _ rfl rfl kr (l9) (L_nwc [.int .u8 0, .int .u8 0, .bool false, .int .i8 0, .int .u8 0, .bool false] .ptr rfl rfl kr fun h373 c373 t373 n373 => ?_))))))
   have T373 := T10.ext t373
   have N373 := T373.nx
   refine L_g 1 kr ?_
   obtain ⟨h374, e374, d374, t374, n374⟩ := c373.sA 32 [.int .u8 (m.p : Int), .int .u8 (m.q : Int), .bool m.snd, .int .i8 m.tag, .int .u8 (m.size : Int), .bool m.sync]
   replace c373 := d374
   have T374 := T373.tr t374
   have N374 := T374.nx
   refine L_st _ rfl rfl rfl kr kr (e374) (L_nil (W_seq (W_sg 1 kr (L_ld _ rfl rfl kr (c373.ld (o := 2) kr rfl) (L_nil ?_)))))
   refine W_cond (m.snd) kr (fun hb => ?_) (fun hb => ?_)
   ·
    have hms : m.snd = true := hb
    have hw : (wa (spS n l) l.length l.length) i = none := by
     cases hw : (wa (spS n l) l.length l.length) i with
     | none => rfl
     | some x =>
      have := (wa_mem hw).2.1
      rw [spS_send hm, hms] at this; cases this
    refine W_exit ?_
    repeat with_reducible refine then_exit ?_
    refine exit_here (W_region (L_i ((i : Int)) (1) (nv ((i + 1 : Nat) : Int)) rfl rfl kr kr rfl (inc_ok (by omega)) (L_g 1 kr (L_nil ?_))))
    exact ⟨l.length - (i + 1), by omega, i + 1, _, _, _, tm, rfl, by omega, (U10.mono (fun j _ hj => hj.imp id (fun e => by omega))), (hM_no hM hw), ((w10).ext T374), kr, kr, kr, kr, kr, kr, kr, kr, kr⟩
   ·
    have hms : m.snd = false := hb
    have hsd : (spS n l i).send = false := by rw [spS_send hm]; exact hms
    obtain ⟨hq1, hq2⟩ := U10.rq i hlt (.inr (Nat.le_refl _))
    have hpn := S9.p i hlt
    have hcl := U10.call hpn
    refine W_skip (W_seq ?_)
    rcases S9.r i hlt hsd with ⟨hw, a1, a2, a3⟩ | ⟨x, hw, hx, hxs, hxd, a1, a2, a4, a3, a5, a6⟩
    ·
     obtain ⟨bo, oo, io, lp, ln, ls, lo⟩ := el_od (i := i) (Gr.sd (W4.a0 ((w10).ext T374))) hlt
     refine W_drawn kr (D_e (e := 11) (l := [0,1,2,3,4,5,6,7,8,9,10,17]) (s' := [17]) kr kr rfl kr Rk_nil (NS_b 3 kr (NS_ix _ rfl rfl kr kr kr kr (io) (NS_b 1 kr (NS_ld _ rfl rfl kr kr kr (lp) (NS_b 2 kr (NS_ix _ rfl rfl kr kr kr kr (io) (NS_b 1 kr (NS_ld _ rfl rfl kr kr kr (ln) (NS_nwc [nv 0, nv 0, nv 0, nv 0] .ptr rfl kr rfl rfl kr (Rk_1 rfl rfl (Rk_1 rfl rfl (Rk_1 rfl rfl (Rk_1 rfl rfl (Rk_1 rfl rfl (Rk_ld _ rfl rfl rfl kr (ldx (lp) (lo) (.push h374 _)) kr (Rk_1 rfl rfl (Rk_1 rfl rfl (Rk_1 rfl rfl (Rk_1 rfl rfl (Rk_ld _ rfl rfl rfl kr (ldx (ln) (lo) (.push h374 _)) kr (Rk_1 rfl rfl Rk_nil)))))))))))) fun h375 c375 t375 n375 => ?_))))))))))
     replace c373 := c373.ext t375
     have T375 := T374.ext t375
     have N375 := T375.nx
     have a19 := Ap.new ((w10).ext T374)
     refine NS_nil (L_c rfl rfl kr (test_not (p := (spS n l i).p) (no := (no i)) (((w10).ext T375).R) (by rw [U10.n]; exact hpn) hq2 (by rw [hq1]; exact a1) hcl (by rw [hq1]; exact a2)) ?_)
     rintro v376 h376 ⟨e376, S376, C376, ro376, R376, Y376⟩
     dsimp only at e376 R376 Y376
     subst e376
     have NB := (T375).nx
     have NY376 := Y376.sm.nx
     have l19 := c375.lt
     replace c375 := c375.sm Y376.sm a19.mu
     replace a19 := a19.go Y376 l19
     have w376 := ((w10).ext T375).go Y376 R376
     replace c373 := c373
     replace c375 := c375
     have T376 : Sm Nix h376 h376 := .refl
     refine L_nil ⟨rfl, ?_⟩
     refine D_e (e := 18) (l := [12,13,14,15,16]) (s' := [14,15,16]) kr kr rfl kr (Rk_noRead kr) (NS_b 5 kr (NS_nil ?_))
     obtain ⟨h377, e377, d377, t377, n377⟩ := c375.sA 43 [nv 0, nv 0, nv 0, nv 0]
     refine L_st _ rfl rfl rfl kr kr (e377) ?_
     have w377 := ((w376).ext T376).sm a19 t377
     have c375 := d377
     replace c375 := c375
     have T377 : Sm Nix h377 h377 := .refl
     refine L_nil ⟨rfl, ?_⟩
     refine D_l (l := [19,20,21]) kr kr (Rk_noRead kr) (NS_b 3 kr (NS_nil (W_seq (W_seq (W_region (L_g 6 kr ?_))))))
     obtain ⟨bw, ew, lw, iw, vw⟩ := AtX.row (T := 29) (el := 3) (i := i) kr kr kr (W4.a1 ((w377).ext T377)) hlt
     rw [wv_no hw] at vw
     refine L_want kr (L_ix _ rfl rfl kr kr (iw) (L_want kr (L_ld _ rfl rfl kr (vw) (L_want kr (L_i (-1) (0) (.bool false) rfl rfl kr kr rfl (by first | (simp; done) | (simp; omega)) (L_g 2 kr (L_nil ?_)))))))
     refine W_cond false kr (fun e => by cases e) (fun _ => ?_)
     refine W_skip (W_seq (W_sg 2 kr (L_nil ?_)))
     refine W_cond true kr (fun _ => ?_) (fun e => by cases e)
     refine W_exit ?_
     repeat with_reducible refine then_exit ?_
     refine exit_here (W_region (L_i ((i : Int)) (1) (nv ((i + 1 : Nat) : Int)) rfl rfl kr kr rfl (inc_ok (by omega)) (L_g 1 kr (L_nil ?_))))
     exact ⟨l.length - (i + 1), by omega, i + 1, _, _, _, tm, rfl, by omega, (U10.mono (fun j _ hj => hj.imp id (fun e => by omega))), (hM_no hM hw), ((w377).ext T377), kr, kr, kr, kr, kr, kr, kr, kr, kr⟩
    ·
     obtain ⟨mx, hmx⟩ : ∃ mx, l[x]? = some mx := ⟨_, List.getElem?_eq_getElem hx⟩
     have hxo := hl mx (List.mem_of_getElem? hmx)
     have hxm : mx.snd = true := by rw [← spS_send hmx]; exact hxs
     rw [spS_s hmx hxm] at hxd a5 a6
     dsimp only at hxd a5 a6
     obtain ⟨bo, oo, io, lp, ln, ls, lo⟩ := el_od (i := i) (Gr.sd (W4.a0 ((w10).ext T374))) hlt
     refine W_drawn kr (D_e (e := 11) (l := [0,1,2,3,4,5,6,7,8,9,10,17]) (s' := [17]) kr kr rfl kr Rk_nil (NS_b 3 kr (NS_ix _ rfl rfl kr kr kr kr (io) (NS_b 1 kr (NS_ld _ rfl rfl kr kr kr (lp) (NS_b 2 kr (NS_ix _ rfl rfl kr kr kr kr (io) (NS_b 1 kr (NS_ld _ rfl rfl kr kr kr (ln) (NS_nwc [nv 0, nv 0, nv 0, nv 0] .ptr rfl kr rfl rfl kr (Rk_1 rfl rfl (Rk_1 rfl rfl (Rk_1 rfl rfl (Rk_1 rfl rfl (Rk_1 rfl rfl (Rk_ld _ rfl rfl rfl kr (ldx (lp) (lo) (.push h374 _)) kr (Rk_1 rfl rfl (Rk_1 rfl rfl (Rk_1 rfl rfl (Rk_1 rfl rfl (Rk_ld _ rfl rfl rfl kr (ldx (ln) (lo) (.push h374 _)) kr (Rk_1 rfl rfl Rk_nil)))))))))))) fun h378 c378 t378 n378 => ?_))))))))))
     replace c373 := c373.ext t378
     have T378 := T374.ext t378
     have N378 := T378.nx
     have a19 := Ap.new ((w10).ext T374)
     refine NS_nil (L_c rfl rfl kr (test_recv (p := (spS n l i).p) (no := (no i)) (((w10).ext T378).R) (by rw [U10.n]; exact hpn) hq2 (by rw [hq1]; exact a1) hcl (by rw [hq1]; exact a2) (by rw [hq1]; exact a4) (by rw [hq1, a5, dS_len]; exact Nat.lt_trans (Nat.mod_lt _ (by decide)) (by decide))) ?_)
     rintro v379 h379 ⟨vd, e379, HD, hlo, S379, C379, ro379, R379, Y379⟩
     dsimp only at e379 R379 Y379
     dsimp only at HD
     rw [hq1, a6] at e379
     rw [hq1, a5] at HD
     subst e379
     have NB := (T378).nx
     have NY379 := Y379.sm.nx
     have l19 := c378.lt
     replace c378 := c378.sm Y379.sm a19.mu
     replace a19 := a19.go Y379 l19
     have w379 := ((w10).ext T378).go Y379 R379
     have HL : ∀ b, vb vd = some b → b < h379.next := fun b hb => HD.lt hb
     replace c373 := c373
     replace c378 := c378
     have T379 : Sm Nix h379 h379 := .refl
     refine L_nil ⟨rfl, ?_⟩
     refine D_e (e := 18) (l := [12,13,14,15,16]) (s' := [14,15,16]) kr kr rfl kr (Rk_noRead kr) (NS_b 5 kr (NS_nil ?_))
     obtain ⟨h380, e380, d380, t380, n380⟩ := c378.sA 43 [nv (((mx.p % n : Nat) : Nat) : Int), nv (tgO mx), nv ((dS x (mx.size % 12)).length : Int), nv 0]
     refine L_st _ rfl rfl rfl kr kr (e380) ?_
     have w380 := ((w379).ext T379).sm a19 t380
     have c378 := d380
     replace HD := HD.sm t380 (fun b hb e => by have := hlo b hb; have e9 : b = h374.next := e; omega)
     replace c378 := c378
     have T380 : Sm Nix h380 h380 := .refl
     refine L_nil ⟨rfl, ?_⟩
     refine D_l (l := [19,20,21]) kr kr (Rk_noRead kr) (NS_b 3 kr (NS_nil (W_seq (W_seq (W_region (L_g 6 kr ?_))))))
     obtain ⟨bw, ew, lw, iw, vw⟩ := AtX.row (T := 29) (el := 3) (i := i) kr kr kr (W4.a1 ((w380).ext T380)) hlt
     rw [wv_so hw] at vw
     refine L_want kr (L_ix _ rfl rfl kr kr (iw) (L_want kr (L_ld _ rfl rfl kr (vw) (L_want kr (L_i ((x : Int)) (0) (.bool true) rfl rfl kr kr rfl (by first | (simp; done) | (simp; omega)) (L_g 2 kr (L_nil ?_)))))))
     refine W_cond false kr (fun e => by cases e) (fun _ => ?_)
     refine W_skip (W_seq (W_sg 2 kr (L_nil ?_)))
     refine W_cond false kr (fun e => by cases e) (fun _ => ?_)
     refine W_skip (W_seq (W_region (L_g 3 kr ?_)))
     obtain ⟨bw2, ew2, lw2, iw2, vw2⟩ := AtX.row (T := 29) (el := 3) (i := i) kr kr kr (W4.a1 ((w380).ext T380)) hlt
     rw [wv_so hw] at vw2
     obtain ⟨b8, o8, i8, l8, -, -⟩ := el_mo (((w380).ext T380).O.sd Hl) hmx
     refine L_ix _ rfl rfl kr kr (iw2) (L_ld _ rfl rfl kr (vw2) (L_ix _ rfl rfl kr kr (i8) (L_ld _ rfl rfl kr (l8) (L_nwc [.int .u8 0, .int .u8 0, .bool false, .int .i8 0, .int .u8 0, .bool false] .ptr rfl rfl kr fun h381 c381 t381 n381 => ?_))))
     replace c378 := c378.ext t381
     have T381 := T380.ext t381
     have N381 := T381.nx
     replace HD := HD.ext t381
     obtain ⟨h382, e382, d382, t382, n382⟩ := c381.sA 32 [.int .u8 (mx.p : Int), .int .u8 (mx.q : Int), .bool mx.snd, .int .i8 mx.tag, .int .u8 (mx.size : Int), .bool mx.sync]
     replace c378 := c378.sn t382
     replace c381 := d382
     have T382 := T381.tr t382
     have N382 := T382.nx
     refine L_st _ rfl rfl rfl kr kr (e382) ?_
     replace HD := HD.sm t382 (fun b hb e => by have := HL b hb; have e9 : b = h380.next := e; omega)
     refine L_nil (W_seq (W_region (L_g 3 kr ?_)))
     obtain ⟨bw3, ew3, lw3, iw3, vw3⟩ := AtX.row (T := 29) (el := 3) (i := i) kr kr kr (W4.a1 ((w380).ext T382)) hlt
     rw [wv_so hw] at vw3
     refine L_ix _ rfl rfl kr kr (iw3) (L_ld _ rfl rfl kr (vw3) ?_)
     obtain ⟨h383, bm, e383, m383, v383, t383⟩ := updT (x := x) (W4.a2 ((w380).ext T382))
     have lbm := Wx.lt (w380) (k := 2) (fun e => by cases e) v383
     have lb0 := Wx.lt w10 (k := 2) (fun e => by cases e) v383
     have NC := (T382).nx
     refine L_mu _ rfl rfl rfl kr kr kr (e383) ?_
     have w383 := W4.up2 ((w380).ext T382) (x := .mi (kset tm (x : Int) (.bool true))) m383 (t383.mono fun c hc => ⟨(fun e => by cases e), by rw [hc]; exact v383⟩) (fun b hb => .inl ⟨(fun e => by cases e), hb⟩)
     replace c378 := c378.sm t383 (fun e => a19.th 2 (fun e => by cases e) (by show vbx mt = some _; rw [v383]; exact congrArg some e.symm))
     replace c381 := c381.sn t383
     replace HD := HD.sm t383 (fun b hb e => by have := hlo b hb; have e9 : b = bm := e; omega)
     replace c378 := c378
     replace c381 := c381
     have T383 : Sm Nix h383 h383 := .refl
     refine L_nil (W_seq (W_drawn kr (D_e (e := 7) (l := [0,1,2,3,4,5,6,8,9,10,11,12,13,14,15,16]) (s' := [0,1,2,3,4,5,8,9,10,11,12,13,14,15,16]) kr kr rfl kr Rk_nil (NS_ld _ rfl rfl kr kr kr (Cl.allN (n := 4) c378 rfl kr) (NS_b 1 kr (NS_ld _ rfl rfl kr kr kr (c381.ld (o := 0) kr rfl) (NS_v (nv (mx.p : Int)) rfl kr rfl kr (ev_conv (o := _) rfl kr (conv8 (hxo.p))) (NS_b 1 kr (NS_v (nv ((mx.p % n : Nat) : Int)) rfl kr rfl kr (ev_bin (o := _) rfl kr kr (rem_n hn)) (NS_ld _ rfl rfl kr kr kr (Cl.allN (n := 6) c381 rfl kr) (NS_b 3 kr ?_)))))))))))
     obtain ⟨bw4, ew4, lw4, iw4, vw4⟩ := AtX.row (T := 29) (el := 3) (i := i) kr kr kr (W4.a1 ((w383).ext T383)) hlt
     rw [wv_so hw] at vw4
     obtain ⟨bo4, oo4, io4, lp4, ln4, ls4, lo4⟩ := el_od (i := x) (Gr.sd (W4.a0 ((w383).ext T383))) hx
     rw [spS_s hmx hxm] at ls4
     refine NS_ix _ rfl rfl kr kr kr kr (iw4) (NS_ld _ rfl rfl kr kr kr (vw4) (NS_ix _ rfl rfl kr kr kr kr (io4) (NS_b 1 kr (NS_ld _ rfl rfl kr kr kr (ls4) (NS_ln _ rfl rfl kr kr kr (lenA_str (dS x (mx.size % 12)) _) (NS_nil (L_c rfl rfl kr (tagOf_ok hxo) ?_)))))))
     rintro v384 h384 ⟨e384, t384⟩
     try dsimp only at e384
     try dsimp only at t384
     subst e384
     replace HD := HD.ext t384
     replace c378 := c378.ext t384
     replace c381 := c381.ext t384
     have T384 := T383.ext t384
     have N384 := T384.nx
     have M384 := t384.nx
     refine L_nil ⟨rfl, ?_⟩
     refine D_l (l := [17,18,19,20,21,22,23,24,25,26,27,28,29,30,31]) kr kr (Rk_ld _ rfl rfl rfl kr (Cl.allN (n := 4) c378 rfl kr) kr (Rk_1 rfl rfl (Rk_ld _ rfl rfl rfl kr (c381.ld (o := 0) kr rfl) kr (Rk_v (v := (nv (mx.p : Int))) rfl rfl (ev_conv (o := _) rfl kr (conv8 (hxo.p))) kr (Rk_1 rfl rfl (Rk_v (v := (nv ((mx.p % n : Nat) : Int))) rfl rfl (ev_bin (o := _) rfl kr kr (rem_n hn)) kr (Rk_1 rfl rfl (Rk_1 rfl rfl (Rk_1 rfl rfl (Rk_1 rfl rfl (Rk_ld _ rfl rfl rfl kr (ldx (vw4) (lw4) t384) kr (Rk_1 rfl rfl (Rk_1 rfl rfl (Rk_ld _ rfl rfl rfl kr (ldx (ls4) (lo4) t384) kr (Rk_ln _ rfl rfl rfl kr (lenA_str (dS x (mx.size % 12)) _) kr Rk_nil))))))))))))))) (NS_b 1 kr (NS_v (.bool false) rfl kr rfl kr (ev_bin (o := _) rfl kr kr (neq_st ⟨((mx.p % n : Nat) : Int), tgO mx, ((dS x (mx.size % 12)).length : Int), 0⟩ _ _ _)) (NS_b 2 kr (NS_v (.string ⟨⟨dS x (mx.size % 12)⟩⟩) rfl kr rfl kr (ev_conv (o := _) rfl kr (str_ok HD)) (NS_b 3 kr ?_)))))
     obtain ⟨bw5, ew5, lw5, iw5, vw5⟩ := AtX.row (T := 29) (el := 3) (i := i) kr kr kr (W4.a1 ((w383).ext T384)) hlt
     rw [wv_so hw] at vw5
     obtain ⟨bo5, oo5, io5, lp5, ln5, ls5, lo5⟩ := el_od (i := x) (Gr.sd (W4.a0 ((w383).ext T384))) hx
     rw [spS_s hmx hxm] at ls5
     refine NS_ix _ rfl rfl kr kr kr kr (iw5) (NS_ld _ rfl rfl kr kr kr (vw5) (NS_ix _ rfl rfl kr kr kr kr (io5) (NS_b 1 kr (NS_ld _ rfl rfl kr kr kr (ls5) (NS_v (.bool false) rfl kr rfl kr (ev_bin (o := _) rfl kr kr (neq_str (dS x (mx.size % 12)))) (NS_b 1 kr (NS_nil ?_)))))))
     refine W_cond false kr (fun e => by cases e) (fun _ => ?_)
     refine W_skip (W_region (L_i ((i : Int)) (1) (nv ((i + 1 : Nat) : Int)) rfl rfl kr kr rfl (inc_ok (by omega)) (L_g 1 kr (L_nil ?_))))
     exact ⟨l.length - (i + 1), by omega, i + 1, _, _, _, (kset tm (x : Int) (.bool true)), rfl, by omega, ((Ts.over PL U10 hlt (by rw [hq1]; exact a3)).mono (fun j _ hj => ⟨hj.imp id (fun e => by omega), fun e => by subst e; rcases hj with e | e; rw [hsd] at e; cases e; omega⟩)), (hM_set hM hw), ((w383).ext T384), kr, kr, kr, kr, kr, kr, kr, kr, kr⟩
  ·
   have hge : i = l.length := by simp at hb; omega
   subst hge
   refine W_exit ?_
   repeat with_reducible refine then_exit ?_
   refine exit_here (W_sg 2 kr (L_nil (W_seq (W_sg 1 kr (L_ln _ rfl rfl kr (Sd.len (P := Try.prog) (T := 22) (el := 32) kr ((((w10).ext T10).O).sd Hl)) (L_g 1 kr (L_nil ?_)))))))
   refine W_block ?_
   refine W_loop (fun mm fr hh => ∃ (i : Nat) (W24 : Wd) (G24 : Gh) (a : Nat) (b : Nat), mm = l.length - i ∧ (i ≤ l.length) ∧ (Ts (⟨n, (E : Int), 11, (c : Int)⟩ : Mt.Ct) (spS n l) no l.length W (un2 (spS n l) i) W24) ∧ (a = ((List.range i).filter (qr (spS n l) (wa (spS n l) l.length l.length))).length) ∧ (b = ((List.range i).filter (ql (spS n l) (wa (spS n l) l.length l.length) l.length)).length) ∧ (W4 h W24 G24 vo (.gr 3 l.length (od (spS n l) no l.length)) wt (.cl (rg (wv (wa (spS n l) l.length l.length)) l.length)) mt (.mi tm) (nv 0) .no hh) ∧ fr 3 = sv ∧ fr 11 = nv (n : Int) ∧ fr 13 = vo ∧ fr 15 = wt ∧ fr 16 = mt ∧ fr 12 = ptr (G24.B .wd) ∧ fr 24 = nv (a : Int) ∧ fr 25 = nv (b : Int) ∧ fr 154 = sv ∧ fr 155 = nv (l.length : Int) ∧ fr 156 = nv (i : Int)) (l.length) ?_ ?_
   ·
    exact ⟨0, _, _, 0, 0, rfl, Nat.zero_le _, (U10.mono (fun _ _ hj => .inl hj.1)), rfl, rfl, ((w10).ext T10), kr, kr, kr, kr, kr, kr, kr, kr, kr, kr, kr⟩
   rintro mm fr hh24 ⟨i, W24, G24, a, b, hm24, hi, U24, ha, hbb, w24, y243, y2411, y2413, y2415, y2416, y2412, y2424, y2425, y24154, y24155, y24156⟩
   refine W_set (k := 3) y243 (W_set (k := 11) y2411 (W_set (k := 13) y2413 (W_set (k := 15) y2415 (W_set (k := 16) y2416 (W_set (k := 12) y2412 (W_set (k := 24) y2424 (W_set (k := 25) y2425 (W_set (k := 154) y24154 (W_set (k := 155) y24155 (W_set (k := 156) y24156 ?_))))))))))
   have T24 : Sm Nix hh24 hh24 := .refl
   refine W_seq (W_region (L_i ((i : Int)) ((l.length : Int)) (.bool (decide ((i : Int) < (l.length : Int)))) rfl rfl kr kr rfl (rfl) (L_nil (W_seq ?_))))
   refine W_cond (decide ((i : Int) < (l.length : Int))) kr (fun hb => ?_) (fun hb => ?_)
   ·
    have hlt : i < l.length := by simp at hb; omega
    obtain ⟨m, hm⟩ : ∃ m, l[i]? = some m := ⟨_, List.getElem?_eq_getElem hlt⟩
    have hmo := hl m (List.mem_of_getElem? hm)
    obtain ⟨b9, o9, i9, l9, -, -⟩ := el_mo (w24.O.sd Hl) hm
    refine W_skip (W_seq (W_block (W_sg 1 kr (L_ix _ rfl rfl kr kr (i9) (L_ld _ rfl rfl kr (l9) (L_nwc [.int .u8 0, .int .u8 0, .bool false, .int .i8 0, .int .u8 0, .bool false] .ptr rfl rfl kr fun h385 c385 t385 n385 => ?_))))))
    have T385 := T24.ext t385
    have N385 := T385.nx
    have a27 := Ap.new ((w24).ext T24)
    refine L_g 1 kr ?_
    obtain ⟨h386, e386, d386, t386, n386⟩ := c385.sA 32 [.int .u8 (m.p : Int), .int .u8 (m.q : Int), .bool m.snd, .int .i8 m.tag, .int .u8 (m.size : Int), .bool m.sync]
    replace c385 := d386
    have T386 := T385.tr t386
    have N386 := T386.nx
    refine L_st _ rfl rfl rfl kr kr (e386) (L_nil (W_seq (W_sg 1 kr (L_ld _ rfl rfl kr (c385.ld (o := 2) kr rfl) (L_g 1 kr (L_nil ?_))))))
    refine W_cond (!m.snd) kr (fun hb => ?_) (fun hb => ?_)
    ·
     have hms : m.snd = false := by simpa using hb
     have hsd : (spS n l i).send = false := by rw [spS_send hm]; exact hms
     have hql : ¬ ql (spS n l) (wa (spS n l) l.length l.length) l.length i = true := by simp [ql, hsd]
     refine W_seq (W_seq ?_)
     rcases (show (wa (spS n l) l.length l.length) i = none ∨ ∃ x, (wa (spS n l) l.length l.length) i = some x by cases (wa (spS n l) l.length l.length) i; exact .inl rfl; exact .inr ⟨_, rfl⟩) with hw | ⟨x, hw⟩
     ·
      refine W_region (L_g 2 kr ?_)
      obtain ⟨bw, ew, lw, iw, vw⟩ := AtX.row (T := 29) (el := 3) (i := i) kr kr kr (W4.a1 ((w24).ext T386)) hlt
      rw [wv_no hw] at vw
      refine L_ix _ rfl rfl kr kr (iw) (L_ld _ rfl rfl kr (vw) (L_i (-1) (0) (.bool true) rfl rfl kr kr rfl (by first | (simp; done) | (simp; omega)) (L_nil ?_)))
      refine W_cond true kr (fun _ => ?_) (fun e => by cases e)
      refine W_rg 1 kr (L_i ((a : Int)) (1) (nv ((a + 1 : Nat) : Int)) rfl rfl kr kr rfl (inc_ok (by have := flt_le (qr (spS n l) (wa (spS n l) l.length l.length)) i; omega)) (L_g 1 kr (L_nil (W_exit ?_))))
      repeat with_reducible refine then_exit ?_
      refine exit_here (W_region (L_i ((i : Int)) (1) (nv ((i + 1 : Nat) : Int)) rfl rfl kr kr rfl (inc_ok (by omega)) (L_g 1 kr (L_nil ?_))))
      exact ⟨l.length - (i + 1), by omega, i + 1, _, _, (a + 1), b, rfl, by omega, (U24.mono (fun j _ hj => ⟨hj.1, by have := hj.2; omega⟩)), (by rw [flt_succ, if_pos (by simp [qr, hsd, hw]), ← ha]), (by rw [flt_succ, if_neg hql, ← hbb]; rfl), ((w24).ext T386), kr, kr, kr, kr, kr, kr, kr, kr, kr, kr, kr⟩
     ·
      refine W_region (L_g 2 kr ?_)
      obtain ⟨bw, ew, lw, iw, vw⟩ := AtX.row (T := 29) (el := 3) (i := i) kr kr kr (W4.a1 ((w24).ext T386)) hlt
      rw [wv_so hw] at vw
      refine L_ix _ rfl rfl kr kr (iw) (L_ld _ rfl rfl kr (vw) (L_i ((x : Int)) (0) (.bool false) rfl rfl kr kr rfl (by first | (simp; done) | (simp; omega)) (L_nil ?_)))
      refine W_cond false kr (fun e => by cases e) (fun _ => ?_)
      refine W_skip (W_exit ?_)
      repeat with_reducible refine then_exit ?_
      refine exit_here (W_region (L_i ((i : Int)) (1) (nv ((i + 1 : Nat) : Int)) rfl rfl kr kr rfl (inc_ok (by omega)) (L_g 1 kr (L_nil ?_))))
      exact ⟨l.length - (i + 1), by omega, i + 1, _, _, a, b, rfl, by omega, (U24.mono (fun j _ hj => ⟨hj.1, by have := hj.2; omega⟩)), (by rw [flt_succ, if_neg (by simp [qr, hsd, hw]), ← ha]; rfl), (by rw [flt_succ, if_neg hql, ← hbb]; rfl), ((w24).ext T386), kr, kr, kr, kr, kr, kr, kr, kr, kr, kr, kr⟩
    ·
     have hms : m.snd = true := by simpa using hb
     have hsd : (spS n l i).send = true := by rw [spS_send hm]; exact hms
     have hqr : ¬ qr (spS n l) (wa (spS n l) l.length l.length) i = true := by simp [qr, hsd]
     obtain ⟨hq1, hq2⟩ := U24.rq i hlt ⟨hsd, Nat.le_refl _⟩
     have hpn := S9.p i hlt
     have hcl := U24.call hpn
     obtain ⟨a1, a2, a3, a4⟩ := S9.s i hlt hsd
     refine W_skip (W_seq ?_)
     rcases (show _ ∨ _ ∨ (_ ∧ m.sync = true) ∨ (_ ∧ m.sync = false) from a4.imp id (fun x => x.imp id (fun y => (Bool.eq_false_or_eq_true m.sync).imp (fun z => ⟨y, z⟩) (fun z => ⟨y, z⟩)))) with ⟨hd, htk⟩ | ⟨hd, htk, hsy⟩ | ⟨⟨hd, htk⟩, hsy9⟩ | ⟨⟨hd, htk⟩, hsy9⟩
     ·
      obtain ⟨bo, oo, io, lp, ln, ls, lo⟩ := el_od (i := i) (Gr.sd (W4.a0 ((w24).ext T386))) hlt
      refine W_drawn kr (D_e (e := 11) (l := [0,1,2,3,4,5,6,7,8,9,10,17]) (s' := [17]) kr kr rfl kr Rk_nil (NS_b 3 kr (NS_ix _ rfl rfl kr kr kr kr (io) (NS_b 1 kr (NS_ld _ rfl rfl kr kr kr (lp) (NS_b 2 kr (NS_ix _ rfl rfl kr kr kr kr (io) (NS_b 1 kr (NS_ld _ rfl rfl kr kr kr (ln) (NS_nwc [nv 0, nv 0, nv 0, nv 0] .ptr rfl kr rfl rfl kr (Rk_1 rfl rfl (Rk_1 rfl rfl (Rk_1 rfl rfl (Rk_1 rfl rfl (Rk_1 rfl rfl (Rk_ld _ rfl rfl rfl kr (ldx (lp) (lo) (.push h386 _)) kr (Rk_1 rfl rfl (Rk_1 rfl rfl (Rk_1 rfl rfl (Rk_1 rfl rfl (Rk_ld _ rfl rfl rfl kr (ldx (ln) (lo) (.push h386 _)) kr (Rk_1 rfl rfl Rk_nil)))))))))))) fun h387 c387 t387 n387 => ?_))))))))))
      replace c385 := c385.ext t387
      have T387 := T386.ext t387
      have N387 := T387.nx
      have a28 := Ap.new ((w24).ext T386)
      refine NS_nil (L_c rfl rfl kr (test_send (p := (spS n l i).p) (no := (no i)) (((w24).ext T387).R) (by rw [U24.n]; exact hpn) hq2 (by rw [hq1]; exact a1) hcl (by rw [hq1]; exact hd) (by rw [hq1]; exact a2)) ?_)
      rintro v388 h388 ⟨e388, S388, C388, ro388, R388, Y388⟩
      dsimp only at e388 R388 Y388
      subst e388
      have NB := (T387).nx
      have NY388 := Y388.sm.nx
      have l27 := c385.lt
      replace c385 := c385.sm Y388.sm a27.mu
      replace a27 := a27.go Y388 l27
      have l28 := c387.lt
      replace c387 := c387.sm Y388.sm a28.mu
      replace a28 := a28.go Y388 l28
      have w388 := ((w24).ext T387).go Y388 R388
      replace c385 := c385
      replace c387 := c387
      have T388 : Sm Nix h388 h388 := .refl
      refine L_nil ⟨rfl, ?_⟩
      refine D_e (e := 18) (l := [12,13,14,15,16]) (s' := [14,15,16]) kr kr rfl kr (Rk_noRead kr) (NS_b 5 kr (NS_nil ?_))
      obtain ⟨h389, e389, d389, t389, n389⟩ := c387.sA 43 [nv (W24.rq (spS n l i).p (no i)).st.src, nv (W24.rq (spS n l i).p (no i)).st.tag, nv (W24.rq (spS n l i).p (no i)).st.size, nv (W24.rq (spS n l i).p (no i)).st.err]
      refine L_st _ rfl rfl rfl kr kr (e389) ?_
      have w389 := ((w388).ext T388).sm a28 t389
      have c387 := d389
      replace c385 := c385.sn t389
      replace c385 := c385
      replace c387 := c387
      have T389 : Sm Nix h389 h389 := .refl
      refine L_nil ⟨rfl, ?_⟩
      refine D_l (l := [19,20,21]) kr kr (Rk_noRead kr) (NS_b 3 kr (NS_nil (W_seq (W_sg 4 kr (L_want kr (L_ln _ rfl rfl kr (len_nil) (L_want kr (L_i (0) (0) (.bool false) rfl rfl kr kr rfl (by first | (simp; done) | (simp; omega)) (L_g 4 kr ?_)))))))))
      refine L_want kr (L_lk _ rfl rfl kr kr ((lookT (x := i) (W4.a2 ((w389).ext T389)) hM).trans (by rw [htk])) (L_g 8 kr (L_want kr (L_lk _ rfl rfl kr kr ((lookT (x := i) (W4.a2 ((w389).ext T389)) hM).trans (by rw [htk])) (L_g 9 kr (L_nil ?_))))))
      refine W_cond false kr (fun e => by cases e) (fun _ => ?_)
      refine W_skip (W_sg 2 kr (L_lk _ rfl rfl kr kr ((lookT (x := i) (W4.a2 ((w389).ext T389)) hM).trans (by rw [htk])) (L_g 1 kr (L_nil ?_))))
      refine W_cond false kr (fun e => by cases e) (fun _ => ?_)
      refine W_skip (W_region (L_i ((i : Int)) (1) (nv ((i + 1 : Nat) : Int)) rfl rfl kr kr rfl (inc_ok (by omega)) (L_g 1 kr (L_nil ?_))))
      exact ⟨l.length - (i + 1), by omega, i + 1, _, _, a, b, rfl, by omega, ((Ts.over PL U24 hlt (by rw [hq1]; exact a3)).mono (fun j _ hj => ⟨⟨hj.1, by have := hj.2; omega⟩, fun e => by have := hj.2; omega⟩)), (by rw [flt_succ, if_neg hqr, ← ha]; rfl), (by rw [flt_succ, if_neg (by simp [ql, htk, hsd]), ← hbb]; rfl), ((w389).ext T389), kr, kr, kr, kr, kr, kr, kr, kr, kr, kr, kr⟩
     ·
      have hsy9 : m.sync = false := by rw [spS_s hm hms] at hsy; exact hsy
      rw [hsy9] at c385
      obtain ⟨bo, oo, io, lp, ln, ls, lo⟩ := el_od (i := i) (Gr.sd (W4.a0 ((w24).ext T386))) hlt
      refine W_drawn kr (D_e (e := 11) (l := [0,1,2,3,4,5,6,7,8,9,10,17]) (s' := [17]) kr kr rfl kr Rk_nil (NS_b 3 kr (NS_ix _ rfl rfl kr kr kr kr (io) (NS_b 1 kr (NS_ld _ rfl rfl kr kr kr (lp) (NS_b 2 kr (NS_ix _ rfl rfl kr kr kr kr (io) (NS_b 1 kr (NS_ld _ rfl rfl kr kr kr (ln) (NS_nwc [nv 0, nv 0, nv 0, nv 0] .ptr rfl kr rfl rfl kr (Rk_1 rfl rfl (Rk_1 rfl rfl (Rk_1 rfl rfl (Rk_1 rfl rfl (Rk_1 rfl rfl (Rk_ld _ rfl rfl rfl kr (ldx (lp) (lo) (.push h386 _)) kr (Rk_1 rfl rfl (Rk_1 rfl rfl (Rk_1 rfl rfl (Rk_1 rfl rfl (Rk_ld _ rfl rfl rfl kr (ldx (ln) (lo) (.push h386 _)) kr (Rk_1 rfl rfl Rk_nil)))))))))))) fun h390 c390 t390 n390 => ?_))))))))))
      replace c385 := c385.ext t390
      have T390 := T386.ext t390
      have N390 := T390.nx
      have a28 := Ap.new ((w24).ext T386)
      refine NS_nil (L_c rfl rfl kr (test_send (p := (spS n l i).p) (no := (no i)) (((w24).ext T390).R) (by rw [U24.n]; exact hpn) hq2 (by rw [hq1]; exact a1) hcl (by rw [hq1]; exact hd) (by rw [hq1]; exact a2)) ?_)
      rintro v391 h391 ⟨e391, S391, C391, ro391, R391, Y391⟩
      dsimp only at e391 R391 Y391
      subst e391
      have NB := (T390).nx
      have NY391 := Y391.sm.nx
      have l27 := c385.lt
      replace c385 := c385.sm Y391.sm a27.mu
      replace a27 := a27.go Y391 l27
      have l28 := c390.lt
      replace c390 := c390.sm Y391.sm a28.mu
      replace a28 := a28.go Y391 l28
      have w391 := ((w24).ext T390).go Y391 R391
      replace c385 := c385
      replace c390 := c390
      have T391 : Sm Nix h391 h391 := .refl
      refine L_nil ⟨rfl, ?_⟩
      refine D_e (e := 18) (l := [12,13,14,15,16]) (s' := [14,15,16]) kr kr rfl kr (Rk_noRead kr) (NS_b 5 kr (NS_nil ?_))
      obtain ⟨h392, e392, d392, t392, n392⟩ := c390.sA 43 [nv (W24.rq (spS n l i).p (no i)).st.src, nv (W24.rq (spS n l i).p (no i)).st.tag, nv (W24.rq (spS n l i).p (no i)).st.size, nv (W24.rq (spS n l i).p (no i)).st.err]
      refine L_st _ rfl rfl rfl kr kr (e392) ?_
      have w392 := ((w391).ext T391).sm a28 t392
      have c390 := d392
      replace c385 := c385.sn t392
      replace c385 := c385
      replace c390 := c390
      have T392 : Sm Nix h392 h392 := .refl
      refine L_nil ⟨rfl, ?_⟩
      refine D_l (l := [19,20,21]) kr kr (Rk_noRead kr) (NS_b 3 kr (NS_nil (W_seq (W_sg 4 kr (L_want kr (L_ln _ rfl rfl kr (len_nil) (L_want kr (L_i (0) (0) (.bool false) rfl rfl kr kr rfl (by first | (simp; done) | (simp; omega)) (L_g 4 kr ?_)))))))))
      refine L_want kr (L_lk _ rfl rfl kr kr ((lookT (x := i) (W4.a2 ((w392).ext T392)) hM).trans (by rw [htk])) (L_g 8 kr (L_want kr (L_lk _ rfl rfl kr kr ((lookT (x := i) (W4.a2 ((w392).ext T392)) hM).trans (by rw [htk])) (L_g 3 kr (L_want kr (L_ld _ rfl rfl kr (c385.ld (o := 5) kr rfl) (L_g 5 kr (L_nil ?_)))))))))
      refine W_cond false kr (fun e => by cases e) (fun _ => ?_)
      refine W_skip (W_sg 2 kr (L_lk _ rfl rfl kr kr ((lookT (x := i) (W4.a2 ((w392).ext T392)) hM).trans (by rw [htk])) (L_g 1 kr (L_nil ?_))))
      refine W_cond true kr (fun _ => ?_) (fun e => by cases e)
      refine W_rg 1 kr (L_i ((b : Int)) (1) (nv ((b + 1 : Nat) : Int)) rfl rfl kr kr rfl (inc_ok (by have := flt_le (ql (spS n l) (wa (spS n l) l.length l.length) l.length) i; omega)) (L_g 1 kr (L_nil (W_region (L_i ((i : Int)) (1) (nv ((i + 1 : Nat) : Int)) rfl rfl kr kr rfl (inc_ok (by omega)) (L_g 1 kr (L_nil ?_)))))))
      exact ⟨l.length - (i + 1), by omega, i + 1, _, _, a, (b + 1), rfl, by omega, ((Ts.over PL U24 hlt (by rw [hq1]; exact a3)).mono (fun j _ hj => ⟨⟨hj.1, by have := hj.2; omega⟩, fun e => by have := hj.2; omega⟩)), (by rw [flt_succ, if_neg hqr, ← ha]; rfl), (by rw [flt_succ, if_pos (by simp [ql, htk, hsd]), ← hbb]), ((w392).ext T392), kr, kr, kr, kr, kr, kr, kr, kr, kr, kr, kr⟩
     ·
      rw [hsy9] at c385
      obtain ⟨bo, oo, io, lp, ln, ls, lo⟩ := el_od (i := i) (Gr.sd (W4.a0 ((w24).ext T386))) hlt
      refine W_drawn kr (D_e (e := 11) (l := [0,1,2,3,4,5,6,7,8,9,10,17]) (s' := [17]) kr kr rfl kr Rk_nil (NS_b 3 kr (NS_ix _ rfl rfl kr kr kr kr (io) (NS_b 1 kr (NS_ld _ rfl rfl kr kr kr (lp) (NS_b 2 kr (NS_ix _ rfl rfl kr kr kr kr (io) (NS_b 1 kr (NS_ld _ rfl rfl kr kr kr (ln) (NS_nwc [nv 0, nv 0, nv 0, nv 0] .ptr rfl kr rfl rfl kr (Rk_1 rfl rfl (Rk_1 rfl rfl (Rk_1 rfl rfl (Rk_1 rfl rfl (Rk_1 rfl rfl (Rk_ld _ rfl rfl rfl kr (ldx (lp) (lo) (.push h386 _)) kr (Rk_1 rfl rfl (Rk_1 rfl rfl (Rk_1 rfl rfl (Rk_1 rfl rfl (Rk_ld _ rfl rfl rfl kr (ldx (ln) (lo) (.push h386 _)) kr (Rk_1 rfl rfl Rk_nil)))))))))))) fun h393 c393 t393 n393 => ?_))))))))))
      replace c385 := c385.ext t393
      have T393 := T386.ext t393
      have N393 := T393.nx
      have a28 := Ap.new ((w24).ext T386)
      refine NS_nil (L_c rfl rfl kr (test_not (p := (spS n l i).p) (no := (no i)) (((w24).ext T393).R) (by rw [U24.n]; exact hpn) hq2 (by rw [hq1]; exact a1) hcl (by rw [hq1]; exact hd)) ?_)
      rintro v394 h394 ⟨e394, S394, C394, ro394, R394, Y394⟩
      dsimp only at e394 R394 Y394
      subst e394
      have NB := (T393).nx
      have NY394 := Y394.sm.nx
      have l27 := c385.lt
      replace c385 := c385.sm Y394.sm a27.mu
      replace a27 := a27.go Y394 l27
      have l28 := c393.lt
      replace c393 := c393.sm Y394.sm a28.mu
      replace a28 := a28.go Y394 l28
      have w394 := ((w24).ext T393).go Y394 R394
      replace c385 := c385
      replace c393 := c393
      have T394 : Sm Nix h394 h394 := .refl
      refine L_nil ⟨rfl, ?_⟩
      refine D_e (e := 18) (l := [12,13,14,15,16]) (s' := [14,15,16]) kr kr rfl kr (Rk_noRead kr) (NS_b 5 kr (NS_nil ?_))
      obtain ⟨h395, e395, d395, t395, n395⟩ := c393.sA 43 [nv 0, nv 0, nv 0, nv 0]
      refine L_st _ rfl rfl rfl kr kr (e395) ?_
      have w395 := ((w394).ext T394).sm a28 t395
      have c393 := d395
      replace c385 := c385.sn t395
      replace c385 := c385
      replace c393 := c393
      have T395 : Sm Nix h395 h395 := .refl
      refine L_nil ⟨rfl, ?_⟩
      refine D_l (l := [19,20,21]) kr kr (Rk_noRead kr) (NS_b 3 kr (NS_nil (W_seq (W_sg 4 kr (L_want kr (L_ln _ rfl rfl kr (len_nil) (L_want kr (L_i (0) (0) (.bool false) rfl rfl kr kr rfl (by first | (simp; done) | (simp; omega)) (L_g 4 kr ?_)))))))))
      refine L_want kr (L_lk _ rfl rfl kr kr ((lookT (x := i) (W4.a2 ((w395).ext T395)) hM).trans (by rw [htk])) (L_g 8 kr (L_want kr (L_lk _ rfl rfl kr kr ((lookT (x := i) (W4.a2 ((w395).ext T395)) hM).trans (by rw [htk])) (L_g 3 kr (L_want kr (L_ld _ rfl rfl kr (c385.ld (o := 5) kr rfl) (L_g 5 kr (L_nil ?_)))))))))
      refine W_cond false kr (fun e => by cases e) (fun _ => ?_)
      refine W_skip (W_sg 2 kr (L_lk _ rfl rfl kr kr ((lookT (x := i) (W4.a2 ((w395).ext T395)) hM).trans (by rw [htk])) (L_g 1 kr (L_nil ?_))))
      refine W_cond true kr (fun _ => ?_) (fun e => by cases e)
      refine W_rg 1 kr (L_i ((b : Int)) (1) (nv ((b + 1 : Nat) : Int)) rfl rfl kr kr rfl (inc_ok (by have := flt_le (ql (spS n l) (wa (spS n l) l.length l.length) l.length) i; omega)) (L_g 1 kr (L_nil (W_region (L_i ((i : Int)) (1) (nv ((i + 1 : Nat) : Int)) rfl rfl kr kr rfl (inc_ok (by omega)) (L_g 1 kr (L_nil ?_)))))))
      exact ⟨l.length - (i + 1), by omega, i + 1, _, _, a, (b + 1), rfl, by omega, (U24.mono (fun j _ hj => ⟨hj.1, by have := hj.2; omega⟩)), (by rw [flt_succ, if_neg hqr, ← ha]; rfl), (by rw [flt_succ, if_pos (by simp [ql, htk, hsd]), ← hbb]), ((w395).ext T395), kr, kr, kr, kr, kr, kr, kr, kr, kr, kr, kr⟩
     ·
      rw [hsy9] at c385
      obtain ⟨bo, oo, io, lp, ln, ls, lo⟩ := el_od (i := i) (Gr.sd (W4.a0 ((w24).ext T386))) hlt
      refine W_drawn kr (D_e (e := 11) (l := [0,1,2,3,4,5,6,7,8,9,10,17]) (s' := [17]) kr kr rfl kr Rk_nil (NS_b 3 kr (NS_ix _ rfl rfl kr kr kr kr (io) (NS_b 1 kr (NS_ld _ rfl rfl kr kr kr (lp) (NS_b 2 kr (NS_ix _ rfl rfl kr kr kr kr (io) (NS_b 1 kr (NS_ld _ rfl rfl kr kr kr (ln) (NS_nwc [nv 0, nv 0, nv 0, nv 0] .ptr rfl kr rfl rfl kr (Rk_1 rfl rfl (Rk_1 rfl rfl (Rk_1 rfl rfl (Rk_1 rfl rfl (Rk_1 rfl rfl (Rk_ld _ rfl rfl rfl kr (ldx (lp) (lo) (.push h386 _)) kr (Rk_1 rfl rfl (Rk_1 rfl rfl (Rk_1 rfl rfl (Rk_1 rfl rfl (Rk_ld _ rfl rfl rfl kr (ldx (ln) (lo) (.push h386 _)) kr (Rk_1 rfl rfl Rk_nil)))))))))))) fun h396 c396 t396 n396 => ?_))))))))))
      replace c385 := c385.ext t396
      have T396 := T386.ext t396
      have N396 := T396.nx
      have a28 := Ap.new ((w24).ext T386)
      refine NS_nil (L_c rfl rfl kr (test_not (p := (spS n l i).p) (no := (no i)) (((w24).ext T396).R) (by rw [U24.n]; exact hpn) hq2 (by rw [hq1]; exact a1) hcl (by rw [hq1]; exact hd)) ?_)
      rintro v397 h397 ⟨e397, S397, C397, ro397, R397, Y397⟩
      dsimp only at e397 R397 Y397
      subst e397
      have NB := (T396).nx
      have NY397 := Y397.sm.nx
      have l27 := c385.lt
      replace c385 := c385.sm Y397.sm a27.mu
      replace a27 := a27.go Y397 l27
      have l28 := c396.lt
      replace c396 := c396.sm Y397.sm a28.mu
      replace a28 := a28.go Y397 l28
      have w397 := ((w24).ext T396).go Y397 R397
      replace c385 := c385
      replace c396 := c396
      have T397 : Sm Nix h397 h397 := .refl
      refine L_nil ⟨rfl, ?_⟩
      refine D_e (e := 18) (l := [12,13,14,15,16]) (s' := [14,15,16]) kr kr rfl kr (Rk_noRead kr) (NS_b 5 kr (NS_nil ?_))
      obtain ⟨h398, e398, d398, t398, n398⟩ := c396.sA 43 [nv 0, nv 0, nv 0, nv 0]
      refine L_st _ rfl rfl rfl kr kr (e398) ?_
      have w398 := ((w397).ext T397).sm a28 t398
      have c396 := d398
      replace c385 := c385.sn t398
      replace c385 := c385
      replace c396 := c396
      have T398 : Sm Nix h398 h398 := .refl
      refine L_nil ⟨rfl, ?_⟩
      refine D_l (l := [19,20,21]) kr kr (Rk_noRead kr) (NS_b 3 kr (NS_nil (W_seq (W_sg 4 kr (L_want kr (L_ln _ rfl rfl kr (len_nil) (L_want kr (L_i (0) (0) (.bool false) rfl rfl kr kr rfl (by first | (simp; done) | (simp; omega)) (L_g 4 kr ?_)))))))))
      refine L_want kr (L_lk _ rfl rfl kr kr ((lookT (x := i) (W4.a2 ((w398).ext T398)) hM).trans (by rw [htk])) (L_g 8 kr (L_want kr (L_lk _ rfl rfl kr kr ((lookT (x := i) (W4.a2 ((w398).ext T398)) hM).trans (by rw [htk])) (L_g 3 kr (L_want kr (L_ld _ rfl rfl kr (c385.ld (o := 5) kr rfl) (L_g 5 kr (L_nil ?_)))))))))
      refine W_cond false kr (fun e => by cases e) (fun _ => ?_)
      refine W_skip (W_sg 2 kr (L_lk _ rfl rfl kr kr ((lookT (x := i) (W4.a2 ((w398).ext T398)) hM).trans (by rw [htk])) (L_g 1 kr (L_nil ?_))))
      refine W_cond true kr (fun _ => ?_) (fun e => by cases e)
      refine W_rg 1 kr (L_i ((b : Int)) (1) (nv ((b + 1 : Nat) : Int)) rfl rfl kr kr rfl (inc_ok (by have := flt_le (ql (spS n l) (wa (spS n l) l.length l.length) l.length) i; omega)) (L_g 1 kr (L_nil (W_region (L_i ((i : Int)) (1) (nv ((i + 1 : Nat) : Int)) rfl rfl kr kr rfl (inc_ok (by omega)) (L_g 1 kr (L_nil ?_)))))))
      exact ⟨l.length - (i + 1), by omega, i + 1, _, _, a, (b + 1), rfl, by omega, (U24.mono (fun j _ hj => ⟨hj.1, by have := hj.2; omega⟩)), (by rw [flt_succ, if_neg hqr, ← ha]; rfl), (by rw [flt_succ, if_pos (by simp [ql, htk, hsd]), ← hbb]), ((w398).ext T398), kr, kr, kr, kr, kr, kr, kr, kr, kr, kr, kr⟩
   ·
    have hge : i = l.length := by simp at hb; omega
    subst hge
    have hA := S9.a
    have hB := S9.b
    rw [← ha] at hA
    rw [← hbb] at hB
    have hal := flt_le (qr (spS n l) (wa (spS n l) l.length l.length)) l.length
    have hbl := flt_le (ql (spS n l) (wa (spS n l) l.length l.length) l.length) l.length
    rw [← ha] at hal
    rw [← hbb] at hbl
    refine W_exit ?_
    repeat with_reducible refine then_exit ?_
    refine exit_here (W_seq (W_sg 2 kr (L_nil (W_block ?_))))
    refine W_loop (fun mm fr hh => ∃ (q : Nat) (a3 : Nat) (b3 : Nat), mm = n - q ∧ (q ≤ n) ∧ (a3 + sumN (fun p => (W.pr p).rcvs.length) q = sumN (fun p => (W.pr p).rcvs.length) n ∧ a3 ≤ a) ∧ (b3 + sumN (fun p => (W.pr p).msgs.length) q = sumN (fun p => (W.pr p).msgs.length) n ∧ b3 ≤ b) ∧ (W4 h W24 G24 vo (.gr 3 l.length (od (spS n l) no l.length)) wt (.cl (rg (wv (wa (spS n l) l.length l.length)) l.length)) mt (.mi tm) (nv 0) .no hh) ∧ fr 11 = nv (n : Int) ∧ fr 12 = ptr (G24.B .wd) ∧ fr 24 = nv (a3 : Int) ∧ fr 25 = nv (b3 : Int) ∧ fr 224 = nv (n : Int) ∧ fr 225 = nv (q : Int)) (n) ?_ ?_
    ·
     exact ⟨0, a, b, rfl, Nat.zero_le _, ⟨hA.symm, Nat.le_refl _⟩, ⟨hB.symm, Nat.le_refl _⟩, ((w24).ext T24), kr, kr, kr, kr, kr, kr⟩
    rintro mm fr hh36 ⟨q, a3, b3, hm36, hq3, ha3, hb3, w36, y3611, y3612, y3624, y3625, y36224, y36225⟩
    refine W_set (k := 11) y3611 (W_set (k := 12) y3612 (W_set (k := 24) y3624 (W_set (k := 25) y3625 (W_set (k := 224) y36224 (W_set (k := 225) y36225 ?_)))))
    have T36 : Sm Nix hh36 hh36 := .refl
    refine W_seq (W_region (L_i ((q : Int)) ((n : Int)) (.bool (decide ((q : Int) < (n : Int)))) rfl rfl kr kr rfl (rfl) (L_nil (W_seq ?_))))
    refine W_cond (decide ((q : Int) < (n : Int))) kr (fun hb => ?_) (fun hb => ?_)
    ·
     have hqn : q < n := by simp at hb; omega
     have hs1 : sumN (fun p => (W.pr p).rcvs.length) q + (W.pr q).rcvs.length ≤ sumN (fun p => (W.pr p).rcvs.length) n := sumN_le (p := q + 1) (by omega)
     have hs2 : sumN (fun p => (W.pr p).msgs.length) q + (W.pr q).msgs.length ≤ sumN (fun p => (W.pr p).msgs.length) n := sumN_le (p := q + 1) (by omega)
     refine W_skip (W_seq (W_block (W_sg 2 kr (L_nil (W_sg 2 kr (L_c rfl rfl kr (lists_ok (p := q) (((w36).ext T36).R) (by rw [U24.n]; exact hqn)) ?_))))))
     rintro v399 h399 ⟨e399, t399⟩
     try dsimp only at t399
     dsimp only at e399
     rw [U24.rcvs, U24.msgs] at e399
     subst e399
     have T399 := T36.ext t399
     have N399 := T399.nx
     have M399 := t399.nx
     refine L_g 9 kr (L_nil (W_seq (W_sg 2 kr (L_nil ?_))))
     refine W_cond false kr (fun e => by cases e) (fun _ => ?_)
     refine W_skip (W_sg 2 kr (L_i ((a3 : Int)) (((W.pr q).rcvs.length : Int)) (nv ((a3 - (W.pr q).rcvs.length : Nat) : Int)) rfl rfl kr kr rfl (sub_n (by omega) (by omega)) (L_g 1 kr (L_nil (W_rg 2 kr (L_i ((b3 : Int)) (((W.pr q).msgs.length : Int)) (nv ((b3 - (W.pr q).msgs.length : Nat) : Int)) rfl rfl kr kr rfl (sub_n (by omega) (by omega)) (L_g 1 kr (L_nil ?_))))))))
     refine W_region (L_i ((q : Int)) (1) (nv ((q + 1 : Nat) : Int)) rfl rfl kr kr rfl (inc_ok (by omega)) (L_g 1 kr (L_nil ?_)))
     exact ⟨n - (q + 1), by omega, q + 1, a3 - (W.pr q).rcvs.length, b3 - (W.pr q).msgs.length, rfl, by omega, ⟨by show _ + (sumN _ q + (W.pr q).rcvs.length) = _; omega, by omega⟩, ⟨by show _ + (sumN _ q + (W.pr q).msgs.length) = _; omega, by omega⟩, ((w36).ext T399), kr, kr, kr, kr, kr, kr⟩
    ·
     have hqn : q = n := by simp at hb; omega
     subst hqn
     obtain rfl : a3 = 0 := by omega
     obtain rfl : b3 = 0 := by omega
     refine W_exit ?_
     repeat with_reducible refine then_exit ?_
     refine exit_here (W_sg 1 kr (L_i (((0 : Nat) : Int)) (0) (.bool true) rfl rfl kr kr rfl (by first | (simp; done) | (simp; omega)) (L_g 2 kr (L_want kr (L_i (((0 : Nat) : Int)) (0) (.bool true) rfl rfl kr kr rfl (by first | (simp; done) | (simp; omega)) (L_g 2 kr (L_want kr (L_c rfl rfl kr (works_ok) ?_))))))))
     rintro vw hw ew
     cases ew
     refine L_g 2 kr (L_nil (W_ret ?_))
     repeat first | with_reducible refine then_ret ?_ | with_reducible refine blk_ret ?_
     refine done_of (v := .bool true) (.inl rfl) kr ?_
     exact rfl
end
end Go.Proofs.Ytmehemeoaplepaa
