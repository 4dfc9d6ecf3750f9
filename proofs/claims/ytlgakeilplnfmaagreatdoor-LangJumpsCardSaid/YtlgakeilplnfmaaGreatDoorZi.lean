/- Rules for symbolic runs. -/
import Derived.Test.YtlgakeilplnfmaaGreatDoorZh
namespace Go.Arm
noncomputable section
open Go Go.X
def dOk (n : Nat) (d : Option Nat) : Bool := match d with | none => true | some k => decide (k < n)
theorem dOk_ok {n : Nat} {d : Option Nat} (h : dOk n d = true) : ∀ k, d = some k → k < n := fun k e => by subst e; simpa [dOk] using h
def plainO (n : Nat) (o : Oper) : Bool := o.guard.isNone && dOk n o.dst && (kOp o.op == 1 || kOp o.op == 4)
def okO (n : Nat) (o : Oper) : Bool := o.guard.isNone && dOk n o.dst
theorem okO_ok {n : Nat} {o : Oper} (h : okO n o = true) : o.guard = none ∧ ∀ k, o.dst = some k → k < n := by
 unfold okO at h
 rw [Bool.and_eq_true, Option.isNone_iff_eq_none] at h
 exact ⟨h.1, dOk_ok h.2⟩
theorem plainO_ok {n : Nat} {o : Oper} (h : plainO n o = true) : o.guard = none ∧ (∀ k, o.dst = some k → k < n) ∧ (kOp o.op == 1 || kOp o.op == 4) = true := by
 unfold plainO at h
 rw [Bool.and_eq_true, Bool.and_eq_true, Option.isNone_iff_eq_none] at h
 exact ⟨h.1.1, dOk_ok h.1.2, h.2⟩
section
variable {P : Program} [Kn P] {n : Nat} {h h' : AH} {Q : Post} {f : Fr} {ops : Array Oper} {rest : List Oper} {o : Oper} {v : Value}
theorem L_p (v : Value) (hs : plainO n o = true) (hv : evVal P n f h o.op = some v) (k : L P n ops Q rest (updO f o.dst v) h) : L P n ops Q (o :: rest) f h := by
 obtain ⟨h1, h2, h3⟩ := plainO_ok hs
 exact L_v h1 h2 h3 hv k
theorem L_ld {T : TypeId} {a : Operand} {p : Addr} (v : Value) (ho : o.op = .load T a) (hs : okO n o = true) (ha : ev n f a = some (.pointer (some p))) (hv : aLoad P T p h = some v)
  (k : L P n ops Q rest (updO f o.dst v) h) : L P n ops Q (o :: rest) f h :=
 L_v (okO_ok hs).1 (okO_ok hs).2 (by rw [ho]; rfl) (by rw [ho]; simp only [evVal, ha]; exact hv) k
theorem L_st {T : TypeId} {a x : Operand} {p : Addr} (h' : AH) (ho : o.op = .store T a x) (hs : okO n o = true) (hd : o.dst = none) (ha : ev n f a = some (.pointer (some p))) (hx : ev n f x = some v) (hv : aStore P T p v h = some h')
  (k : L P n ops Q rest f h') : L P n ops Q (o :: rest) f h :=
 L_do (okO_ok hs).1 hd (by rw [ho]; rfl) (by rw [ho]; simp only [evAct, ha, hx, hv]; rfl) k
theorem L_lk {T : TypeId} {x i : Operand} {a b : Value} {c : Bool} (v : Value) (ho : o.op = .lookup T x i c) (hs : okO n o = true) (ha : ev n f x = some a) (hb : ev n f i = some b) (hv : aLookup P T a b c h = some v)
  (k : L P n ops Q rest (updO f o.dst v) h) : L P n ops Q (o :: rest) f h :=
 L_v (okO_ok hs).1 (okO_ok hs).2 (by rw [ho]; rfl) (by rw [ho]; simp only [evVal, ha, hb]; exact aLookupX_of hv) k
theorem L_mu {T : TypeId} {m i x : Operand} {a b c : Value} (h' : AH) (ho : o.op = .mapUpdate T m i x) (hs : okO n o = true) (hd : o.dst = none) (ha : ev n f m = some a) (hb : ev n f i = some b) (hc : ev n f x = some c) (hv : aUpdate P T a b c h = some h')
  (k : L P n ops Q rest f h') : L P n ops Q (o :: rest) f h :=
 L_do (okO_ok hs).1 hd (by rw [ho]; rfl) (by rw [ho]; simp only [evAct, ha, hb, hc, aUpdateX_of hv]; rfl) k
theorem L_ln {T : TypeId} {x : Operand} {a : Value} (v : Value) (ho : o.op = .call ⟨.builtin .len, ⟨[x]⟩, ⟨[T]⟩⟩) (hs : okO n o = true) (ha : ev n f x = some a) (hv : aLen P T a h = some v)
  (k : L P n ops Q rest (updO f o.dst v) h) : L P n ops Q (o :: rest) f h :=
 L_v (okO_ok hs).1 (okO_ok hs).2 (by rw [ho]; rfl) (by rw [ho]; simp only [evVal, ha]; exact hv) k
theorem L_ix {T : TypeId} {x i : Operand} {a b : Value} (v : Value) (ho : o.op = .indexAddr T x i) (hs : okO n o = true) (ha : ev n f x = some a) (hb : ev n f i = some b) (hv : aIndex P T a b = some v)
  (k : L P n ops Q rest (updO f o.dst v) h) : L P n ops Q (o :: rest) f h :=
 L_v (okO_ok hs).1 (okO_ok hs).2 (by rw [ho]; rfl) (by rw [ho]; simp only [evVal, ha, hb]; exact hv) k
theorem L_sl {T : TypeId} {x : Operand} {lo hi mx : Option Operand} {a : Value} {b c d : Option Value} (v : Value) (ho : o.op = .slice T x lo hi mx) (hs : okO n o = true) (ha : ev n f x = some a) (hb : evO n f lo = some b) (hc : evO n f hi = some c) (hd : evO n f mx = some d) (hv : aSl P T a b c d h = some v)
  (k : L P n ops Q rest (updO f o.dst v) h) : L P n ops Q (o :: rest) f h :=
 L_v (okO_ok hs).1 (okO_ok hs).2 (by rw [ho]; rfl) (by rw [ho]; simp only [evVal, ha, hb, hc, hd]; exact hv) k
theorem L_nw (al : Al) (mk : Mk) (hs : okO n o = true) (hk : kOp o.op = 0) (ha : evAl P n f o.op = some (al, mk))
  (k : L P n ops Q rest (updO f o.dst (mk.val h.next)) (h.push al.obj)) : L P n ops Q (o :: rest) f h :=
 L_new (okO_ok hs).1 (okO_ok hs).2 hk ha k
theorem L_c {g : FuncId} {args : List Value} {R : Value × AH → Prop} (hs : okO n o = true) (hk : kOp o.op = 3) (hc : evCall P n f h o.op = some [(.enter g args, h)])
  (hC : Calls P g args h R) (k : ∀ v h', R (v, h') → L P n ops Q rest (updO f o.dst v) h') : L P n ops Q (o :: rest) f h :=
 L_ca (okO_ok hs).1 (okO_ok hs).2 hk hc hC k
theorem L_bi {b : Builtin} {args : List Operand} {Ts : List TypeId} {vs : List Value} (v : Value) (h' : AH) (ho : o.op = .call ⟨.builtin b, ⟨args⟩, ⟨Ts⟩⟩) (hs : okO n o = true) (hb : evVal P n f h o.op = none) (ha : evs n f args = some vs) (hv : aBuiltin P b Ts vs h = some [(.val v, h')])
  (k : L P n ops Q rest (updO f o.dst v) h') : L P n ops Q (o :: rest) f h :=
 L_bu (okO_ok hs).1 (okO_ok hs).2 (by
  rw [ho]; rfl) hb (by rw [ho]; simp only [evAct, ha]; exact hv) k
theorem W_set {c : Code} {k : Nat} {v : Value} (hk : f k = v) (hw : W P n c Q (upd f k v) h) : W P n c Q f h := by
 have : upd f k v = f := by
  funext t
  rw [upd_eq]
  split
  · rename_i e; rw [e, hk]
  · rfl
 rw [this] at hw; exact hw
end
end
end Go.Arm
namespace Go.Arm
noncomputable section
open Go Go.X
def wantF (n : Nat) (ops : Array Oper) (o : Oper) (f : Fr) : Bool := match o.guard with
 | none => true
 | some (j, b) => (match dstAt ops j with
  | some d => (match Nat.blt d n with
   | true => (match f d with
    | .bool c => c == b
    | _ => false)
   | false => false)
  | none => false)
theorem wantF_ok {n : Nat} {ops : Array Oper} {o : Oper} {t : T Value} : aWant n t ops o = wantF n ops o (fr t) := by
 unfold aWant wantF
 cases o.guard with
 | none => rfl
 | some p =>
  obtain ⟨j, b⟩ := p
  dsimp only
  unfold aYd dstAt
  cases ops[j]? with
  | none => rfl
  | some o' =>
   simp only [Option.bind_some]
   cases o'.dst with
   | none => rfl
   | some d =>
    dsimp only
    by_cases hd : d < n
    · rw [if_pos hd, show Nat.blt d n = true by rw [Nat.blt_eq]; exact hd]
      dsimp only
      unfold fr
      cases hg : t.get d with
      | none => rfl
      | some v => cases v <;> rfl
    · rw [if_neg hd, show Nat.blt d n = false by rw [Bool.eq_false_iff]; intro e; rw [Nat.blt_eq] at e; exact hd e]
section
variable {P : Program} [Kn P] {n : Nat} {h h' : AH} {Q : Post} {f : Fr} {ops : Array Oper} {rest : List Oper} {o : Oper} {v : Value}
theorem L_want (hw : wantF n ops o f = true) (k : L P n ops Q ({ o with guard := none } :: rest) f h) : L P n ops Q (o :: rest) f h := by
 intro hn t ht
 have := k hn t ht
 have e1 : aWant n t ops o = true := by rw [wantF_ok, ht]; exact hw
 have e2 : aWant n t ops { o with guard := none } = true := rfl
 show RX (opsStep P (eRun P) n ops o (aOps P (eRun P) n ops rest) t h) _
 have this : RX (opsStep P (eRun P) n ops { o with guard := none } (aOps P (eRun P) n ops rest) t h) _ := this
 unfold opsStep at this ⊢
 rw [e1]; rw [e2] at this
 exact this
theorem L_not (hw : wantF n ops o f = false) (hd : dOk n o.dst = true) (k : L P n ops Q rest (updO f o.dst undef) h) : L P n ops Q (o :: rest) f h := by
 intro hn t ht
 have e1 : aWant n t ops o = false := by rw [wantF_ok, ht]; exact hw
 show RX (opsStep P (eRun P) n ops o (aOps P (eRun P) n ops rest) t h) _
 unfold opsStep
 rw [e1]
 obtain ⟨t', h1, h2⟩ := aPut_fr hn (dOk_ok hd) undef (t := t)
 dsimp only
 rw [h1]
 exact k hn t' (by rw [h2, ht])
def runG (P : Program) (n : Nat) (h : AH) (ops : Array Oper) : List Oper → Fr → Fr
 | [], f => f
 | o :: r, f => runG P n h ops r (updO f o.dst (match wantF n ops o f with | true => lazyV P n f h o.op | false => undef))
def okG (P : Program) (n : Nat) (h : AH) (ops : Array Oper) : List Oper → Fr → Bool
 | [], _ => true
 | o :: r, f => dOk n o.dst && (match wantF n ops o f with
  | true => (kOp o.op == 1 || kOp o.op == 4) && (evVal P n f h o.op).isSome && okG P n h ops r (updO f o.dst (lazyV P n f h o.op))
  | false => okG P n h ops r (updO f o.dst undef))
theorem L_g (k : Nat) {l : List Oper} (hs : okG P n h ops (l.take k) f = true) (next : L P n ops Q (l.drop k) (runG P n h ops (l.take k) f) h) : L P n ops Q l f h := by
 induction k generalizing l f with
 | zero => exact next
 | succ k ih =>
  cases l with
  | nil => exact next
  | cons o l =>
   rw [List.take_succ_cons] at hs next
   unfold okG at hs
   rw [Bool.and_eq_true] at hs
   unfold runG at next
   cases hw : wantF n ops o f with
   | true =>
    simp only [hw, Bool.and_eq_true] at hs
    simp only [hw] at next
    refine L_want hw ?_
    obtain ⟨h1, ⟨h2, h3⟩, h4⟩ := hs
    exact L_z (o := { o with guard := none }) rfl (dOk_ok h1) h2 h3 (ih h4 next)
   | false =>
    simp only [hw] at hs next
    exact L_not hw hs.1 (ih hs.2 next)
omit [Kn P] in
theorem ev_int {op : BinOp} {T T' : TypeId} {x y : Operand} {a b : Int} {g : Int → Int → Value} (hx : ev n f x = some (.int .i64 a)) (hy : ev n f y = some (.int .i64 b)) (hg : kInt op = some g) : evVal P n f h (.binOp op T x y T') = some (g a b) := by
 simp only [evVal, hx, hy]
 exact kInt_ok hg T x y a b
theorem L_i {op : BinOp} {T T' : TypeId} {x y : Operand} {g : Int → Int → Value} (a b : Int) (v : Value) (ho : o.op = .binOp op T x y T') (hs : okO n o = true) (hx : ev n f x = some (.int .i64 a)) (hy : ev n f y = some (.int .i64 b)) (hg : kInt op = some g) (hv : g a b = v)
  (k : L P n ops Q rest (updO f o.dst v) h) : L P n ops Q (o :: rest) f h :=
 L_v (okO_ok hs).1 (okO_ok hs).2 (by rw [ho]; rfl) (by rw [ho, ← hv]; exact ev_int hx hy hg) k
end
section
variable {P : Program} {n : Nat} {h h' : AH} {Q : Post} {f : Fr} {ops : Array Oper} {o : Oper} {ls ms : List Nat} {K : Fr → AH → Prop} {i : Nat} {r pre : List Nat} {v : Value}
theorem fr_put {t : T Value} {d : Nat} (v : Value) : fr (t.set d (some v)) = upd (fr t) d v := fr_set (n := d + 1) (by omega) trivial v
theorem evVal_congr {o : Op} {f g : Fr} (hs : ∀ s, s ∈ slots o → f s = g s) (hf : ∃ t, fr t = f) (hg : ∃ t, fr t = g) : evVal P n f h o = evVal P n g h o := by
 obtain ⟨t, rfl⟩ := hf
 obtain ⟨u, rfl⟩ := hg
 rw [← aVal_ev, ← aVal_ev]
 exact aVal_congr fun s hs' _ => hs s hs'
def safeD (ops : Array Oper) (d : Nat) (j : Nat) : Bool := match ops[j]? with
 | none => true
 | some o => Nat.beq (opK o.op) 2 == false || ((slots o.op).all (fun s => !Nat.beq s d) && (match o.dst with | none => true | some e => !Nat.beq e d) && (match o.guard with
  | none => true
  | some (g, _) => match dstAt ops g with | none => true | some e => !Nat.beq e d))
def safeO (ops : Array Oper) (d : Option Nat) (l : List Nat) : Bool := match d with
 | none => true
 | some d => l.all (safeD ops d)
theorem beqF {a b : Nat} (h : (!Nat.beq a b) = true) : a ≠ b := by
 intro e; subst e; rw [Nat.beq_refl] at h; cases h
theorem Rk_upd {d : Option Nat} {l : List Nat} (hk : Rk P n ops f h l) (hs : safeO ops d l = true) : Rk P n ops (updO f d v) h l := by
 cases d with
 | none => exact hk
 | some d =>
  intro t1 ht1 j hj o ho hop hw
  have hsj : safeD ops d j = true := by
    unfold safeO at hs
    exact List.all_eq_true.1 hs j hj
  unfold safeD at hsj
  rw [ho] at hsj
  dsimp only at hsj
  rw [hop] at hsj
  have hsj : ((slots o.op).all (fun s => !Nat.beq s d) && (match o.dst with | none => true | some e => !Nat.beq e d) && (match o.guard with
    | none => true
    | some (g, _) => match dstAt ops g with | none => true | some e => !Nat.beq e d)) = true := by simpa using hsj
  rw [Bool.and_eq_true, Bool.and_eq_true] at hsj
  obtain ⟨⟨h1, h2⟩, h3⟩ := hsj
  have ht : fr (t1.set d (some (f d))) = f := by
    rw [fr_put, ht1]
    funext k
    show upd (upd f d v) d (f d) k = f k
    rw [upd_eq]
    split
    · rename_i e; rw [e]
    · rename_i e; rw [upd_eq, if_neg e]
  have hw' : aWant n (t1.set d (some (f d))) ops o = true := by
    rw [wantF_ok, ht]
    rw [wantF_ok, ht1] at hw
    unfold wantF at hw ⊢
    cases hgd : o.guard with
    | none => rfl
    | some p =>
      obtain ⟨g, b⟩ := p
      rw [hgd] at hw h3
      dsimp only at hw h3 ⊢
      cases hdd : dstAt ops g with
      | none => rw [hdd] at hw; exact hw
      | some e =>
       rw [hdd] at hw h3
       have : updO f (some d) v e = f e := by
        show upd f d v e = f e
        rw [upd_eq, if_neg (beqF h3)]
       dsimp only at hw ⊢
       rw [this] at hw
       exact hw
  obtain ⟨u, hu, hd⟩ := hk _ ht j hj o ho hop hw'
  refine ⟨u, ?_, fun e he => ?_⟩
  · rw [← hu]
    refine evVal_congr (fun s hs => ?_) ⟨t1, ht1⟩ ⟨_, ht⟩
    show upd f d v s = f s
    rw [upd_eq, if_neg (beqF (List.all_eq_true.1 h1 s hs))]
  · rw [he] at h2
    show upd f d v e = u
    rw [upd_eq, if_neg (beqF h2)]
    exact hd e he
def NS (P : Program) (n : Nat) (ops : Array Oper) (pre : List Nat) (K : Fr → AH → Prop) (l : List Nat) (f : Fr) (h : AH) : Prop := Rk P n ops f h pre → N P n ops (fun f1 h1 => Rk P n ops f1 h1 (pre ++ l) ∧ K f1 h1) l f h
theorem NS_nil (k : K f h) : NS P n ops pre K [] f h := fun hr => N_nil ⟨by rw [List.append_nil]; exact hr, k⟩
theorem Rk_app {l l' : List Nat} (h1 : Rk P n ops f h l) (h2 : Rk P n ops f h l') : Rk P n ops f h (l ++ l') := by
 intro t ht j hj
 rcases List.mem_append.1 hj with hj | hj
 · exact h1 t ht j hj
 · exact h2 t ht j hj
def selfO (n : Nat) (ops : Array Oper) (_i : Nat) (pre : List Nat) (o : Oper) : Bool := dOk n o.dst && safeO ops o.dst pre && (match o.dst with | none => true | some d => (slots o.op).all (fun s => !Nat.beq s d) && (match o.guard with
 | none => true
 | some (g, _) => match dstAt ops g with | none => true | some e => !Nat.beq e d))
theorem NS_v (v : Value) (ho : ops[i]? = some o) (hw : wantF n ops o f = true) (hk : (opK o.op == 1 || opK o.op == 2) = true) (hs : selfO n ops i pre o = true) (hv : evVal P n f h o.op = some v)
  (k : NS P n ops (pre ++ [i]) K r (updO f o.dst v) h) : NS P n ops pre K (i :: r) f h := by
 intro hr
 unfold selfO at hs
 rw [Bool.and_eq_true, Bool.and_eq_true] at hs
 obtain ⟨⟨h1, h2⟩, h3⟩ := hs
 refine N_v ho (fun t ht => by rw [wantF_ok, ht]; exact hw) (dOk_ok h1) hk hv ?_
 have e : pre ++ i :: r = (pre ++ [i]) ++ r := by simp
 rw [e]
 refine k (Rk_app (Rk_upd hr h2) ?_)
 intro t ht j hj o' ho' hop hw'
 obtain rfl := List.mem_singleton.1 hj
 rw [ho] at ho'
 cases ho'
 cases hd : o.dst with
 | none => exact ⟨v, hv, fun d e => by cases e⟩
 | some d =>
  rw [hd] at h3 ht
  dsimp only at h3
  rw [Bool.and_eq_true] at h3
  have hf : fr (t.set d (some (f d))) = f := by
    rw [fr_put, ht]
    funext k
    show upd (upd f d v) d (f d) k = f k
    rw [upd_eq]
    split
    · rename_i e; rw [e]
    · rename_i e; rw [upd_eq, if_neg e]
  refine ⟨v, ?_, fun e he => ?_⟩
  · rw [← hv]
    refine evVal_congr (fun s hs => ?_) ⟨t, ht⟩ ⟨_, hf⟩
    show upd f d v s = f s
    rw [upd_eq, if_neg (beqF (List.all_eq_true.1 h3.1 s hs))]
  · cases he
    show upd f d v d = v
    rw [upd_eq, if_pos rfl]
theorem NS_no (ho : ops[i]? = some o) (hw : wantF n ops o f = false) (hs : selfO n ops i pre o = true) (k : NS P n ops (pre ++ [i]) K r (updO f o.dst undef) h) : NS P n ops pre K (i :: r) f h := by
 intro hr
 unfold selfO at hs
 rw [Bool.and_eq_true, Bool.and_eq_true] at hs
 obtain ⟨⟨h1, h2⟩, h3⟩ := hs
 refine N_no ho (fun t ht => by rw [wantF_ok, ht]; exact hw) (dOk_ok h1) ?_
 have e : pre ++ i :: r = (pre ++ [i]) ++ r := by simp
 rw [e]
 refine k (Rk_app (Rk_upd hr h2) ?_)
 intro t ht j hj o' ho' hop hw'
 exfalso
 obtain rfl := List.mem_singleton.1 hj
 rw [ho] at ho'
 cases ho'
 rw [wantF_ok, ht] at hw'
 unfold wantF at hw hw'
 cases hg : o.guard with
 | none => rw [hg] at hw; cases hw
 | some p =>
  obtain ⟨g, b⟩ := p
  rw [hg] at hw hw' h3
  dsimp only at hw hw'
  cases hdd : dstAt ops g with
  | none => rw [hdd] at hw'; cases hw'
  | some e =>
   rw [hdd] at hw hw'
   dsimp only at hw hw'
   cases hd : o.dst with
   | none => rw [hd] at hw'; rw [show updO f none undef e = f e from rfl] at hw'; rw [hw] at hw'; cases hw'
   | some d =>
    rw [hd] at hw' h3
    dsimp only at h3
    rw [Bool.and_eq_true, hdd] at h3
    dsimp only at h3
    rw [show updO f (some d) undef e = f e by show upd f d undef e = f e; rw [upd_eq, if_neg (beqF h3.2)]] at hw'
    rw [hw] at hw'; cases hw'
def okN (P : Program) (n : Nat) (h : AH) (ops : Array Oper) : List Nat → List Nat → Fr → Bool
 | _, [], _ => true
 | pre, i :: r, f => match ops[i]? with
  | none => false
  | some o => selfO n ops i pre o && (match wantF n ops o f with
   | true => (opK o.op == 1 || opK o.op == 2) && (evVal P n f h o.op).isSome && okN P n h ops (pre ++ [i]) r (updO f o.dst (lazyV P n f h o.op))
   | false => okN P n h ops (pre ++ [i]) r (updO f o.dst undef))
def runN (P : Program) (n : Nat) (h : AH) (ops : Array Oper) : List Nat → Fr → Fr
 | [], f => f
 | i :: r, f => match ops[i]? with
  | none => f
  | some o => runN P n h ops r (updO f o.dst (match wantF n ops o f with | true => lazyV P n f h o.op | false => undef))
theorem NS_b (k : Nat) {l : List Nat} (hs : okN P n h ops pre (l.take k) f = true) (next : NS P n ops (pre ++ l.take k) K (l.drop k) (runN P n h ops (l.take k) f) h) : NS P n ops pre K l f h := by
 induction k generalizing l f pre with
 | zero => rw [List.take_zero, List.append_nil] at next; exact next
 | succ k ih =>
  cases l with
  | nil => rw [List.take_nil, List.append_nil] at next; exact next
  | cons i l =>
   rw [List.take_succ_cons] at hs next
   unfold okN at hs
   unfold runN at next
   cases ho : ops[i]? with
   | none => rw [ho] at hs; cases hs
   | some o =>
    simp only [ho, Bool.and_eq_true] at hs
    simp only [ho] at next
    have e : pre ++ i :: l.take k = (pre ++ [i]) ++ l.take k := by simp
    rw [e] at next
    cases hw : wantF n ops o f with
    | true =>
     simp only [hw, Bool.and_eq_true] at hs next
     obtain ⟨h1, ⟨h2, h3⟩, h4⟩ := hs
     obtain ⟨v, hv⟩ := Option.isSome_iff_exists.1 h3
     have hl : lazyV P n f h o.op = v := by unfold lazyV; rw [hv]; rfl
     rw [hl] at h4 next
     exact NS_v v ho hw h2 h1 hv (ih h4 next)
    | false =>
     simp only [hw] at hs next
     exact NS_no ho hw hs.1 (ih hs.2 next)
theorem NS_ld {T : TypeId} {a : Operand} {p : Addr} (v : Value) (ho : ops[i]? = some o) (hop : o.op = .load T a) (hw : wantF n ops o f = true) (hs : selfO n ops i pre o = true) (ha : ev n f a = some (.pointer (some p))) (hv : aLoad P T p h = some v)
  (k : NS P n ops (pre ++ [i]) K r (updO f o.dst v) h) : NS P n ops pre K (i :: r) f h :=
 NS_v v ho hw (by rw [hop]; rfl) hs (by rw [hop]; simp only [evVal, ha]; exact hv) k
theorem NS_ix {T : TypeId} {x y : Operand} {a b : Value} (v : Value) (ho : ops[i]? = some o) (hop : o.op = .indexAddr T x y) (hw : wantF n ops o f = true) (hs : selfO n ops i pre o = true) (ha : ev n f x = some a) (hb : ev n f y = some b) (hv : aIndex P T a b = some v)
  (k : NS P n ops (pre ++ [i]) K r (updO f o.dst v) h) : NS P n ops pre K (i :: r) f h :=
 NS_v v ho hw (by rw [hop]; rfl) hs (by rw [hop]; simp only [evVal, ha, hb]; exact hv) k
theorem NS_i {op : BinOp} {T T' : TypeId} {x y : Operand} {g : Int → Int → Value} (a b : Int) (v : Value) (ho : ops[i]? = some o) (hop : o.op = .binOp op T x y T') (hw : wantF n ops o f = true) (hs : selfO n ops i pre o = true) (hx : ev n f x = some (.int .i64 a)) (hy : ev n f y = some (.int .i64 b)) (hg : kInt op = some g) (hv : g a b = v)
  (k : NS P n ops (pre ++ [i]) K r (updO f o.dst v) h) : NS P n ops pre K (i :: r) f h :=
 NS_v v ho hw (by rw [hop]; rfl) hs (by rw [hop, ← hv]; simp only [evVal, hx, hy]; exact kInt_ok hg T x y a b) k
theorem NS_ln {T : TypeId} {x : Operand} {a : Value} (v : Value) (ho : ops[i]? = some o) (hop : o.op = .call ⟨.builtin .len, ⟨[x]⟩, ⟨[T]⟩⟩) (hw : wantF n ops o f = true) (hs : selfO n ops i pre o = true) (ha : ev n f x = some a) (hv : aLen P T a h = some v)
  (k : NS P n ops (pre ++ [i]) K r (updO f o.dst v) h) : NS P n ops pre K (i :: r) f h :=
 NS_v v ho hw (by rw [hop]; rfl) hs (by rw [hop]; simp only [evVal, ha]; exact hv) k
def noRead (ops : Array Oper) (l : List Nat) : Bool := l.all fun j => match ops[j]? with | none => true | some o => !Nat.beq (opK o.op) 2
theorem Rk_noRead {l : List Nat} (hn : noRead ops l = true) : Rk P n ops f h l := by
 intro t ht j hj o ho hop hw
 have := List.all_eq_true.1 hn j hj
 rw [ho] at this
 exact absurd hop (beqF this)
theorem NS_new (al : Al) (mk : Mk) (ho : ops[i]? = some o) (hw : wantF n ops o f = true) (hd : dOk n o.dst = true) (hk : opK o.op = 3) (hn : noRead ops (pre ++ [i]) = true) (ha : evAl P n f o.op = some (al, mk))
  (k : NS P n ops (pre ++ [i]) K r (updO f o.dst (mk.val h.next)) (h.push al.obj)) : NS P n ops pre K (i :: r) f h := by
 intro hr
 refine N_new ho (fun t ht => by rw [wantF_ok, ht]; exact hw) (dOk_ok hd) hk ha ?_
 have e : pre ++ i :: r = (pre ++ [i]) ++ r := by simp
 rw [e]
 exact k (Rk_noRead hn)
theorem NS_newR (al : Al) (mk : Mk) (ho : ops[i]? = some o) (hw : wantF n ops o f = true) (hd : dOk n o.dst = true) (hk : opK o.op = 3) (ha : evAl P n f o.op = some (al, mk))
  (hr : Rk P n ops (updO f o.dst (mk.val h.next)) (h.push al.obj) (pre ++ [i])) (k : NS P n ops (pre ++ [i]) K r (updO f o.dst (mk.val h.next)) (h.push al.obj)) : NS P n ops pre K (i :: r) f h := by
 intro _
 refine N_new ho (fun t ht => by rw [wantF_ok, ht]; exact hw) (dOk_ok hd) hk ha ?_
 have e : pre ++ i :: r = (pre ++ [i]) ++ r := by simp
 rw [e]
 exact k hr
variable [Kn P]
theorem D_l {k lv : Nat} {seen l : List Nat} (hN : lvN ops ls lv = l) (hE : lvE ops ls lv = none) (hr : Rk P n ops f h seen) (hn : NS P n ops seen (fun f1 h1 => Q .normal f1 h1) l f h) : D P n ops Q ls ms (k + 1) lv seen f h :=
 D_last hN hE (hn hr)
theorem D_e {k lv e : Nat} {seen l s' : List Nat} (hN : lvN ops ls lv = l) (hE : lvE ops ls lv = some e) (ho : ops[e]? = some o) (hs : ((seen ++ l).filter fun i => !(ms.getD e 0).testBit i) = s') (hr : Rk P n ops f h seen)
  (hn : NS P n ops seen (fun f1 h1 => L P n ops (fun ex f2 h2 => ex = .normal ∧ D P n ops Q ls ms k (lv + 1) s' f2 h2) [o] f1 h1) l f h) : D P n ops Q ls ms (k + 1) lv seen f h :=
 D_eff hN hE ho hs (hn hr)
omit [Kn P] in
theorem Rk_ld {T : TypeId} {a : Operand} {p : Addr} {d : Nat} (v : Value) (ho : ops[i]? = some o) (hop : o.op = .load T a) (hd : o.dst = some d) (ha : ev n f a = some (.pointer (some p))) (hv : aLoad P T p h = some v) (hf : f d = v) (k : Rk P n ops f h r) : Rk P n ops f h (i :: r) :=
 Rk_v (v := v) ho hd (by rw [hop]; simp only [evVal, ha]; exact hv) hf k
end
def evR1 (P : Program) (n : Nat) (f : Fr) (h : AH) : ResultVar → Option Value
 | .tmp k => match Nat.blt k n with | true => some (f k) | false => none
 | .cell k T => match Nat.blt k n with
  | true => (match f k with
   | .pointer (some a) => aLoad P T a h
   | _ => none)
  | false => none
def evRL (P : Program) (n : Nat) (f : Fr) (h : AH) : List ResultVar → Option (List Value)
 | [] => some []
 | x :: l => match evR1 P n f h x, evRL P n f h l with
  | some v, some m => some (v :: m)
  | _, _ => none
def evR (P : Program) (n : Nat) (f : Fr) (h : AH) (l : List ResultVar) : Option Value := match evRL P n f h l with
 | some [v] => some v
 | some l => some (.tuple ⟨l⟩)
 | none => none
section
variable {P : Program} {n : Nat} {h : AH} {f : Fr}
theorem evR1_ok {t : T Value} : ∀ x, aRes1 P n t h x = evR1 P n (fr t) h x := by
 intro x
 cases x with
 | tmp k =>
  unfold aRes1 evR1
  by_cases hd : k < n
  · dsimp only; rw [if_pos hd, show Nat.blt k n = true by rw [Nat.blt_eq]; exact hd]; rfl
  · dsimp only; rw [if_neg hd, show Nat.blt k n = false by rw [Bool.eq_false_iff]; intro e; rw [Nat.blt_eq] at e; exact hd e]
 | cell k T =>
  unfold aRes1 evR1
  by_cases hd : k < n
  · dsimp only
    rw [if_pos hd, show Nat.blt k n = true by rw [Nat.blt_eq]; exact hd]
    dsimp only
    unfold fr
    cases hg : t.get k with
    | none => rfl
    | some v =>
     cases v with
     | pointer a => cases a <;> rfl
     | _ => rfl
  · dsimp only; rw [if_neg hd, show Nat.blt k n = false by rw [Bool.eq_false_iff]; intro e; rw [Nat.blt_eq] at e; exact hd e]
theorem evRL_ok {t : T Value} : ∀ l, aResL P n t h l = evRL P n (fr t) h l
 | [] => rfl
 | x :: l => by unfold aResL evRL; rw [evR1_ok, evRL_ok l]; rfl
theorem evR_ok {t : T Value} (l) : aRes P n t h l = evR P n (fr t) h l := by unfold aRes evR; rw [evRL_ok]; rfl
theorem done_of {fn : Func} {R : Value × AH → Prop} {e : Ex} {v : Value} (he : e = .ret ∨ e = .normal) (hv : evR P n f h fn.results.toList = some v) (hR : R (v, h)) : Done P n fn R e f h :=
 ⟨he, fun t ht => ⟨v, by rw [evR_ok, ht]; exact hv, hR⟩⟩
end
end
end Go.Arm
namespace Go.Arm
noncomputable section
open Go Go.X
variable {P : Program} {h h' : AH} {b o i n k : Nat} {l cs : List Value} {v : Value} {T el : TypeId}
def scalT (P : Program) (T : TypeId) : Bool := match P.underlying T with
 | some d => !isAg d
 | none => false
def aggT (P : Program) (T : TypeId) (k : Nat) : Bool := match P.underlying T with
 | some d => isAg d && (match szOf P T with | some j => Nat.beq j k | none => false)
 | none => false
theorem Cl.ld (hc : Cl h b l) (hT : scalT P T = true) (ho : l[o]? = some v) : aLoad P T ⟨b, o, none⟩ h = some v := by
 unfold scalT at hT
 cases hu : P.underlying T with
 | none => rw [hu] at hT; cases hT
 | some d => rw [hu] at hT; exact hc.load hu (by simpa using hT) ho
theorem Cl.ldS (hc : Cl h b l) (hT : aggT P T k = true) (ho : o + k ≤ l.length) : aLoad P T ⟨b, o, none⟩ h = some (.agg ⟨(l.drop o).take k⟩) := by
 unfold aggT at hT
 cases hu : P.underlying T with
 | none => rw [hu] at hT; cases hT
 | some d =>
  rw [hu] at hT
  simp only [Bool.and_eq_true] at hT
  cases hz : szOf P T with
  | none => rw [hz] at hT; cases hT.2
  | some j =>
   rw [hz] at hT
   have : j = k := Nat.eq_of_beq_eq_true hT.2
   subst this
   exact hc.loadS hu hT.1 hz ho
theorem exit_here {id : Nat} {Q : Post} {f : Fr} {w : AH} (h : Q .normal f w) : InBlock id Q (.exit id) f w := by
 unfold InBlock; dsimp only; rw [if_pos rfl]; exact h
theorem bi_append {T U : TypeId} {s x v : Value} (e : aAppend P T U s x h = some (v, h')) : aBuiltin P .append [T, U] [s, x] h = some [(.val v, h')] := by
 show ovh (aAppend P T U s x h) = _
 rw [e]; rfl
theorem evR_c1 {f : Fr} {a : Addr} (hk : Nat.blt k n = true) (hf : f k = .pointer (some a)) (hl : aLoad P T a h = some v) : evR P n f h [.cell k T] = some v := by
 have : evR1 P n f h (.cell k T) = some v := by unfold evR1; simp only [hk, hf]; exact hl
 unfold evR evRL evRL
 rw [this]
theorem W_unroll [Kn P] {c : Code} {Q : Post} {f : Fr} {w : AH} (hw : W P n c (Then (fun f' w' => W P n (.loop c) Q f' w') Q) f w) : W P n (.loop c) Q f w := by
 intro hn t ht
 rw [eCode_loop]
 refine RX_bind (RX_mono (hw hn t ht) ?_)
 rintro o ⟨hd, q⟩
 refine thenX_RX fun e he => ?_
 rw [he] at q
 cases e with
 | normal => rw [hd]; exact q hn o.t rfl
 | exit i => exact ⟨hd, he ▸ q⟩
 | ret => exact ⟨hd, he ▸ q⟩
theorem inc_ok {k : Nat} (hk : k < 1000000000) : Value.int .i64 (IntKind.i64.wrap ((k : Int) + 1)) = .int .i64 ((k + 1 : Nat) : Int) := by
 have : IntKind.i64.wrap ((k : Int) + 1) = ((k + 1 : Nat) : Int) := by rw [IntKind.wrap_i64]; omega
 rw [this]
theorem ix_cl (hT : P.underlying T = some (.slice el)) (hs : szOf P el = some 1) (hi : i < n) (kd : IntKind) : aIndex P T (.slice (some ⟨b, 0, none⟩) n n) (.int kd i) = some (.pointer (some ⟨b, i, none⟩)) := by
 unfold aIndex
 simp only [hT, hs]
 rw [if_pos ⟨by omega, by omega, by omega⟩]
 simp
theorem Cl.sd (hc : Cl h b cs) (hn : cs.length = n) : Sd h 1 (.slice (some ⟨b, 0, none⟩) n n) n cs := by
 refine ⟨by omega, ?_⟩
 obtain ⟨h1, c, op, h2, h3⟩ := hc
 by_cases h0 : n = 0
 · exact .inl ⟨h0, some ⟨b, 0, none⟩, n, by rw [h0], (fun e => by cases e), (fun q hq => by cases hq; exact h1)⟩
 · exact .inr ⟨b, 0, n, c, cs.length, op, false, by omega, h0, rfl, h1, h2, by omega, fun j hj => by rw [Nat.zero_add]; exact h3 j hj⟩
theorem then_ret {next : Fr → AH → Prop} {Q : Post} {f : Fr} {w : AH} (h : Q .ret f w) : Then next Q .ret f w := h
theorem then_exit {next : Fr → AH → Prop} {Q : Post} {k : Nat} {f : Fr} {w : AH} (h : Q (.exit k) f w) : Then next Q (.exit k) f w := h
theorem blk_ret {id : Nat} {Q : Post} {f : Fr} {w : AH} (h : Q .ret f w) : InBlock id Q .ret f w := h
theorem Gr.lenV (hg : Gr h k v n cs) (hT : P.underlying T = some (.slice el)) : aLen P T v h = some (.int .i64 n) := hg.sd.len hT
theorem Gr.lt (hg : Gr h k v n cs) (hb : vb v = some b) : b < h.next := hg.sd.lt hb
end
end Go.Arm
