/- The closed evaluator, part L: regions that draw their order: what depends on what. -/
import Derived.Test.YtdaedcoolcicoaaXG
namespace Go.X
noncomputable section
open Go Go.RowKit
variable {w0 w w' : World} {φ φ' : Phi} {h h' : AH} {P : Program} {n : Nat} {t t' : T Value}

def vt (t : T Value) (s : Nat) : Value := (t.get s).getD undef
def opsL : Op → List Operand
  | .move x | .assign x | .box _ x | .load _ x | .nilCheck x | .unOp _ _ x | .convert _ _ x | .makeInterface _ x | .fieldAddr _ x _ | .field _ x _ | .range _ x | .next x _ | .entry x | .typeAssert x _ _ _ | .extract x _ => [x]
  | .pick c a b => [c, a, b]
  | .build _ ⟨ps⟩ | .buildSlice _ _ ⟨ps⟩ => ps.map (·.2)
  | .store _ a v | .binOp _ _ a v _ | .makeSlice _ a v | .indexAddr _ a v | .index _ a v | .lookup _ a v _ | .mapEntry _ a v => [a, v]
  | .makeFunc _ ⟨l⟩ ⟨m⟩ => l ++ m
  | .makeMap _ r => r.toList
  | .slice _ x l h m => x :: (l.toList ++ h.toList ++ m.toList)
  | .mapUpdate _ m k v | .entryStore _ m k v | .insert _ m k v => [m, k, v]
  | .call ⟨.value f, ⟨args⟩, _⟩ => f :: args
  | .call ⟨.invoke r _, ⟨args⟩, _⟩ => r :: args
  | .call ⟨.builtin _, ⟨args⟩, _⟩ => args
  | _ => []
def slots (o : Op) : List Nat := (opsL o).filterMap fun | .tmp k => some k | _ => none
theorem aO_congr {x : Operand} (hx : ∀ k, x = .tmp k → k < n → vt t k = vt t' k) : aO n t x = aO n t' x := by
  rw [aO_eq, aO_eq]
  cases x with
  | tmp k =>
    by_cases hk : k < n
    · have := hx k rfl hk; unfold vt at this; simp only [aEv, this]
    · simp [opnOk, hk]
  | _ => rfl
theorem slots_aO {o : Op} (hs : ∀ s, s ∈ slots o → s < n → vt t s = vt t' s) : ∀ x, x ∈ opsL o → aO n t x = aO n t' x := by
  intro x hx
  refine aO_congr (fun k e hk => hs k ?_ hk)
  subst e
  exact List.mem_filterMap.2 ⟨_, hx, rfl⟩
theorem aOs_congr : ∀ {l : List Operand}, (∀ x, x ∈ l → aO n t x = aO n t' x) → aOs n t l = aOs n t' l
  | [], _ => rfl
  | x :: l, h => by simp only [aOs]; rw [h x (by simp), aOs_congr (fun y hy => h y (by simp [hy]))]
theorem aPs_congr : ∀ {l : List (Nat × Operand)}, (∀ x, x ∈ l.map (·.2) → aO n t x = aO n t' x) → aPs n t l = aPs n t' l
  | [], _ => rfl
  | (i, x) :: l, h => by simp only [aPs]; rw [h x (by simp), aPs_congr (fun y hy => h y (by simp at hy ⊢; exact .inr hy))]
theorem aOO_congr {x : Option Operand} (h : ∀ y, y ∈ x.toList → aO n t y = aO n t' y) : aOO n t x = aOO n t' x := by
  cases x with
  | none => rfl
  | some y => simp only [aOO]; rw [h y (by simp)]
theorem aAl_congr {o : Op} (hs : ∀ s, s ∈ slots o → s < n → vt t s = vt t' s) : aAl P n t o = aAl P n t' o := by
  have hx := slots_aO (n := n) hs
  unfold aAl
  have : aAl0 P n t o = aAl0 P n t' o := by
    cases o with
    | box el x => simp only [aAl0]; rw [hx x (by simp [opsL])]
    | buildSlice T len ps => obtain ⟨ps⟩ := ps; simp only [aAl0]; rw [aPs_congr (fun y hy => hx y hy)]
    | makeSlice T l c => simp only [aAl0]; rw [hx l (by simp [opsL]), hx c (by simp [opsL])]
    | makeMap T r => cases r with
      | none => rfl
      | some x => simp only [aAl0]; rw [hx x (by simp [opsL])]
    | _ => rfl
  rw [this]
theorem aVal0_congr {o : Op} (hs : ∀ s, s ∈ slots o → s < n → vt t s = vt t' s) : aVal0 P n t h o = aVal0 P n t' h o := by
  have hx := slots_aO (n := n) hs
  cases o with
  | move x => simp only [aVal0]; rw [hx x (by simp [opsL])]
  | assign x => simp only [aVal0]; rw [hx x (by simp [opsL])]
  | pick c a b =>
    simp only [aVal0]; rw [hx c (by simp [opsL])]
    split
    · rename_i q _
      cases q
      · exact hx b (by simp [opsL])
      · exact hx a (by simp [opsL])
    · rfl
  | build T ps => obtain ⟨ps⟩ := ps; simp only [aVal0]; rw [aPs_congr (fun y hy => hx y hy)]
  | load T x => simp only [aVal0]; rw [hx x (by simp [opsL])]
  | nilCheck x => simp only [aVal0]; rw [hx x (by simp [opsL])]
  | binOp op T x y yt => simp only [aVal0]; rw [hx x (by simp [opsL]), hx y (by simp [opsL])]
  | unOp op T x => simp only [aVal0]; rw [hx x (by simp [opsL])]
  | convert s d x => simp only [aVal0]; rw [hx x (by simp [opsL])]
  | makeInterface T x => simp only [aVal0]; rw [hx x (by simp [opsL])]
  | makeFunc fn l m =>
    obtain ⟨l⟩ := l; obtain ⟨m⟩ := m
    cases fn with
    | func k => simp only [aVal0]; rw [aOs_congr (fun y hy => hx y (by simp [opsL, hy])), aOs_congr (l := m) (fun y hy => hx y (by simp [opsL, hy]))]
    | _ => rfl
  | slice T x lo hi mx =>
    simp only [aVal0]
    rw [hx x (by simp [opsL]), aOO_congr (x := lo) (fun y hy => hx y (by simp only [opsL, List.mem_cons, List.mem_append]; exact .inr (.inl (.inl hy)))),
      aOO_congr (x := hi) (fun y hy => hx y (by simp only [opsL, List.mem_cons, List.mem_append]; exact .inr (.inl (.inr hy)))), aOO_congr (x := mx) (fun y hy => hx y (by simp only [opsL, List.mem_cons, List.mem_append]; exact .inr (.inr hy)))]
  | fieldAddr s x f => simp only [aVal0]; rw [hx x (by simp [opsL])]
  | field T x f => simp only [aVal0]; rw [hx x (by simp [opsL])]
  | indexAddr T x i => simp only [aVal0]; rw [hx x (by simp [opsL]), hx i (by simp [opsL])]
  | index T x i => simp only [aVal0]; rw [hx x (by simp [opsL]), hx i (by simp [opsL])]
  | lookup T x k c => simp only [aVal0]; rw [hx x (by simp [opsL]), hx k (by simp [opsL])]
  | typeAssert x xT T c => simp only [aVal0]; rw [hx x (by simp [opsL])]
  | extract x i => simp only [aVal0]; rw [hx x (by simp [opsL])]
  | entry it => simp only [aVal0]; rw [hx it (by simp [opsL])]
  | call c =>
    obtain ⟨callee, args, Ts⟩ := c
    obtain ⟨args⟩ := args
    obtain ⟨Ts⟩ := Ts
    cases callee with
    | builtin b =>
      have hargs : ∀ y, y ∈ args → aO n t y = aO n t' y := fun y hy => hx y (by simpa [opsL] using hy)
      match args, Ts, hargs with
      | [x], [T], hargs => cases b <;> first | rfl | (simp only [aVal0]; rw [hargs x (by simp)])
      | [], _, _ => cases b <;> rfl
      | [_], [], _ => cases b <;> rfl
      | [_], _ :: _ :: _, _ => cases b <;> rfl
      | _ :: _ :: _, _, _ => cases b <;> rfl
    | _ => rfl
  | _ => rfl
theorem aVal_congr {o : Op} (hs : ∀ s, s ∈ slots o → s < n → vt t s = vt t' s) : aVal P n t h o = aVal P n t' h o := by
  rw [aVal_eq, aVal_eq]; exact aVal0_congr hs
theorem aAct0_congr {o : Op} (hs : ∀ s, s ∈ slots o → s < n → vt t s = vt t' s) : aAct0 P n t h o = aAct0 P n t' h o := by
  have hx := slots_aO (n := n) hs
  cases o with
  | store T a x => simp only [aAct0]; rw [hx a (by simp [opsL]), hx x (by simp [opsL])]
  | mapUpdate T m k x => simp only [aAct0]; rw [hx m (by simp [opsL]), hx k (by simp [opsL]), hx x (by simp [opsL])]
  | insert T m k x => simp only [aAct0]; rw [hx m (by simp [opsL]), hx k (by simp [opsL]), hx x (by simp [opsL])]
  | mapEntry T m k => simp only [aAct0]; rw [hx m (by simp [opsL]), hx k (by simp [opsL])]
  | entryStore T m k x => simp only [aAct0]; rw [hx m (by simp [opsL]), hx k (by simp [opsL]), hx x (by simp [opsL])]
  | range T x => simp only [aAct0]; rw [hx x (by simp [opsL])]
  | next it b => simp only [aAct0]; rw [hx it (by simp [opsL])]
  | call c =>
    obtain ⟨callee, args, Ts⟩ := c
    obtain ⟨args⟩ := args
    obtain ⟨Ts⟩ := Ts
    cases callee with
    | builtin b =>
      simp only [aAct0]; rw [aOs_congr (fun y hy => hx y (by simpa [opsL] using hy))]
    | _ => rfl
  | _ => rfl
theorem aAct_congr {o : Op} (hs : ∀ s, s ∈ slots o → s < n → vt t s = vt t' s) : aAct P n t h o = aAct P n t' h o := by
  rw [aAct_eq, aAct_eq]; exact aAct0_congr hs
theorem aCallO_congr {o : Op} (hs : ∀ s, s ∈ slots o → s < n → vt t s = vt t' s) : aCallO P n t h o = aCallO P n t' h o := by
  have hx := slots_aO (n := n) hs
  cases o with
  | call c =>
    obtain ⟨callee, args, Ts⟩ := c
    obtain ⟨args⟩ := args
    cases callee with
    | value f => simp only [aCallO]; rw [hx f (by simp [opsL]), aOs_congr (fun y hy => hx y (by simp [opsL, hy]))]
    | invoke r nm => simp only [aCallO]; rw [hx r (by simp [opsL]), aOs_congr (fun y hy => hx y (by simp [opsL, hy]))]
    | builtin b => rfl
  | _ => rfl
theorem aOp_congr {o : Op} (hs : ∀ s, s ∈ slots o → s < n → vt t s = vt t' s) : aOp P n t h o = aOp P n t' h o := by
  unfold aOp
  rw [aAl_congr hs, aVal_congr hs, aAct_congr hs, aCallO_congr hs]
theorem aStep_congr {call : Call1} {o : Op} (hs : ∀ s, s ∈ slots o → s < n → vt t s = vt t' s) : aStep P call n t h o = aStep P call n t' h o := by
  unfold aStep; rw [aOp_congr hs]
/-- The slot that a guard looks at. -/
def gslot (ops : Array Oper) (o : Oper) : Option Nat := match o.guard with
  | some (j, _) => (ops[j]?).bind (·.dst)
  | none => none
theorem aWant_congr {ops : Array Oper} {o : Oper} (hs : ∀ s, gslot ops o = some s → s < n → vt t s = vt t' s) : aWant n t ops o = aWant n t' ops o := by
  unfold aWant
  unfold gslot at hs
  cases hg : o.guard with
  | none => rfl
  | some p =>
    obtain ⟨j, b⟩ := p
    rw [hg] at hs
    dsimp only at hs ⊢
    have : aYd n t ops j = aYd n t' ops j := by
      unfold aYd
      cases ho : ops[j]? with
      | none => rfl
      | some o' =>
        dsimp only
        cases hd : o'.dst with
        | none => rfl
        | some d =>
          have h1 := hs d (by rw [ho]; exact hd)
          dsimp only
          split
          · rename_i hdn
            have h1 := h1 hdn
            unfold vt at h1
            cases h2 : t.get d with
            | none =>
              rw [h2] at h1
              cases h3 : t'.get d with
              | none => rfl
              | some u =>
                rw [h3] at h1
                simp only [Option.getD_none, Option.getD_some] at h1
                rw [← h1]; rfl
            | some v =>
              rw [h2] at h1
              cases h3 : t'.get d with
              | none =>
                rw [h3] at h1
                simp only [Option.getD_none, Option.getD_some] at h1
                rw [h1]; rfl
              | some u =>
                rw [h3] at h1
                simp only [Option.getD_some] at h1
                rw [h1]
          · rfl
    rw [this]

/-! Kinds of operations, and what is checked of a region once. -/
def opK : Op → Nat
  | .move _ | .assign _ | .pick _ _ _ | .build _ _ | .nilCheck _ | .unOp _ _ _ | .makeInterface _ _ | .makeFunc _ _ _ | .fieldAddr _ _ _ | .field _ _ _ | .indexAddr _ _ _ | .index _ _ _ | .typeAssert _ _ _ _ | .extract _ _ => 1
  | .load _ _ | .binOp _ _ _ _ _ | .convert _ _ _ | .slice _ _ _ _ _ | .lookup _ _ _ _ => 2
  | .call ⟨.builtin .len, _, _⟩ | .call ⟨.builtin .cap, _, _⟩ => 2
  | .alloc _ | .box _ _ | .buildSlice _ _ _ | .makeSlice _ _ _ | .makeMap _ _ => 3
  | _ => 0
theorem aVal0_pure {o : Op} (hk : opK o = 1) : aVal0 P n t h o = aVal0 P n t h' o := by
  cases o with
  | build T ps => obtain ⟨ps⟩ := ps; rfl
  | makeFunc fn l m => obtain ⟨l⟩ := l; obtain ⟨m⟩ := m; cases fn <;> rfl
  | call c =>
    obtain ⟨callee, args, Ts⟩ := c
    cases callee with
    | builtin b => cases b <;> simp [opK] at hk
    | _ => simp [opK] at hk
  | _ => first | rfl | (simp [opK] at hk; done)
theorem aVal_pure {o : Op} (hk : opK o = 1) : aVal P n t h o = aVal P n t h' o := by
  rw [aVal_eq, aVal_eq]; exact aVal0_pure hk
def edgesOf (o : Oper) : List Nat := (o.after.toList.filter fun e => Region.binds .any e).map (·.on)
def isE (ops : Array Oper) (j : Nat) : Bool := match ops[j]? with | some o => opK o.op == 0 | none => false
def step1 (ops : Array Oper) (ls : List Nat) (j : Nat) : Nat := ls.getD j 0 + if isE ops j then 1 else 0
def maxL : List Nat → Nat
  | [] => 0
  | x :: l => max x (maxL l)
def levL (ops : Array Oper) : List Nat := ops.toList.foldl (fun ls o => ls ++ [maxL ((edgesOf o).map (step1 ops ls))]) []
def orL : List Nat → Nat
  | [] => 0
  | x :: l => x ||| orL l
/-- Who comes ahead, as a number's bits. -/
def maskL (ops : Array Oper) : List Nat := ops.toList.foldl (fun ms o => ms ++ [orL ((edgesOf o).map fun j => 2 ^ j ||| ms.getD j 0)]) []
def dstAt (ops : Array Oper) (j : Nat) : Option Nat := (ops[j]?).bind (·.dst)
def edgeTo (ops : Array Oper) (i j : Nat) : Bool := match ops[i]? with | some o => (edgesOf o).contains j | none => false
def opOk (n : Nat) (ops : Array Oper) (ls ms : List Nat) (i : Nat) : Bool := match ops[i]? with
  | none => false
  | some o =>
    (edgesOf o).all (fun j => decide (j < i) && decide (step1 ops ls j ≤ ls.getD i 0)) &&
    (decide (ls.getD i 0 = 0) || (edgesOf o).any fun j => decide (step1 ops ls j = ls.getD i 0)) &&
    (!isE ops i || (List.range i).all fun j => !isE ops j || decide (ls.getD j 0 < ls.getD i 0)) &&
    (match o.dst with
     | none => true
     | some d => decide (d < n) && (List.range ops.size).all fun j => decide (j = i) || (dstAt ops j != some d)) &&
    (slots o.op).all (fun s => (List.range ops.size).all fun j => (dstAt ops j != some s) || edgeTo ops i j || (edgeTo ops j i && decide (opK o.op ≠ 2))) &&
    (match o.guard with
     | none => true
     | some (g, _) => (edgesOf o).contains g) &&
    decide (ms.getD i 0 = orL ((edgesOf o).map fun j => 2 ^ j ||| ms.getD j 0))
def planOk (n : Nat) (ops : Array Oper) (ls ms : List Nat) : Bool := (List.range ops.size).all (opOk n ops ls ms)

/-- Equal values. -/
def veq : Nat → Value → Value → Bool
  | _, .bool a, .bool b => a == b
  | _, .int k a, .int j b => decide (k = j) && decide (a = b)
  | _, .float k a, .float j b => decide (k = j) && decide (a = b)
  | _, .string a, .string b => decide (a.data.toList = b.data.toList)
  | _, .pointer none, .pointer none => true
  | _, .pointer (some a), .pointer (some b) => decide (a = b)
  | _, .slice a l c, .slice b m d => decide (a = b) && decide (l = m) && decide (c = d)
  | _, .map a, .map b => decide (a = b)
  | _, .nilFunc, .nilFunc => true
  | _, .nilIface, .nilIface => true
  | k + 1, .func (.func f) ⟨a⟩ ⟨b⟩, .func (.func g) ⟨c⟩ ⟨d⟩ => decide (f = g) && lst (veq k) a c && lst (veq k) b d
  | k + 1, .iface t v, .iface u w => decide (t = u) && veq k v w
  | k + 1, .agg ⟨a⟩, .agg ⟨b⟩ => lst (veq k) a b
  | k + 1, .tuple ⟨a⟩, .tuple ⟨b⟩ => lst (veq k) a b
  | _, _, _ => false
where lst (f : Value → Value → Bool) : List Value → List Value → Bool
  | [], [] => true
  | x :: l, y :: m => f x y && lst f l m
  | _, _ => false
theorem lst_eq {f : Value → Value → Bool} (hf : ∀ x y, f x y = true → x = y) : ∀ (l m : List Value), veq.lst f l m = true → l = m
  | [], [], _ => rfl
  | x :: l, y :: m, h => by
    simp only [veq.lst, Bool.and_eq_true] at h
    rw [hf x y h.1, lst_eq hf l m h.2]
  | [], _ :: _, h => by simp [veq.lst] at h
  | _ :: _, [], h => by simp [veq.lst] at h
theorem bytes_eq {a b : ByteArray} (h : a.data.toList = b.data.toList) : a = b := by
  apply ByteArray.ext
  exact Array.ext' h
theorem veq_eq : ∀ (k : Nat) (v w : Value), veq k v w = true → v = w := by
  intro k
  induction k with
  | zero =>
    intro v w hv
    unfold veq at hv
    split at hv
    all_goals first
      | rfl
      | (simp at hv; done)
      | (simp only [Bool.and_eq_true, decide_eq_true_eq, beq_iff_eq] at hv; subst hv; rfl)
      | (simp only [Bool.and_eq_true, decide_eq_true_eq] at hv; rw [bytes_eq hv]; done)
      | (simp only [Bool.and_eq_true, decide_eq_true_eq] at hv; obtain ⟨h1, h2⟩ := hv; subst h1; subst h2; rfl)
      | (simp only [Bool.and_eq_true, decide_eq_true_eq] at hv; obtain ⟨⟨h1, h2⟩, h3⟩ := hv; subst h1; subst h2; subst h3; rfl)
      | (rename_i e; cases e)
  | succ k ih =>
    intro v w hv
    unfold veq at hv
    split at hv
    all_goals first
      | rfl
      | (simp at hv; done)
      | (simp only [Bool.and_eq_true, decide_eq_true_eq, beq_iff_eq] at hv; subst hv; rfl)
      | (simp only [Bool.and_eq_true, decide_eq_true_eq] at hv; rw [bytes_eq hv]; done)
      | (simp only [Bool.and_eq_true, decide_eq_true_eq] at hv; obtain ⟨h1, h2⟩ := hv; subst h1; subst h2; rfl)
      | (simp only [Bool.and_eq_true, decide_eq_true_eq] at hv; obtain ⟨⟨h1, h2⟩, h3⟩ := hv; subst h1; subst h2; subst h3; rfl)
      | skip
    · rename_i e
      cases e
      simp only [Bool.and_eq_true, decide_eq_true_eq] at hv
      obtain ⟨⟨h1, h2⟩, h3⟩ := hv
      rw [h1, lst_eq ih _ _ h2, lst_eq ih _ _ h3]
    · rename_i e
      cases e
      simp only [Bool.and_eq_true, decide_eq_true_eq] at hv
      obtain ⟨h1, h2⟩ := hv
      rw [h1, ih _ _ h2]
    · rename_i e
      cases e
      rw [lst_eq ih _ _ hv]
    · rename_i e
      cases e
      rw [lst_eq ih _ _ hv]
end
end Go.X
