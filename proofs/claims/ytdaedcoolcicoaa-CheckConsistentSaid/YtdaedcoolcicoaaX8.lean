/- The closed evaluator, part 8: maps. -/
import Derived.Test.YtdaedcoolcicoaaX7
namespace Go.X
noncomputable section
open Go Go.RowKit
variable {w0 w w' : World} {φ φ' : Phi} {h h' : AH} {P : Program}

theorem pureRun_bind {α β : Type} {P : Program} {e : Sem α} {f : α → Sem β} {b : β} : pureRun P (e.bind f) = some b → ∃ a, pureRun P e = some a ∧ pureRun P (f a) = some b := by
  induction e with
  | pure a => intro h; exact ⟨a, rfl, h⟩
  | program k ih => intro h; exact ih P h
  | mark m k ih => intro h; exact ih h
  | _ => intro h; simp [Sem.bind, pureRun] at h
theorem pureRun_bind' {α β : Type} {P : Program} {e : Sem α} {f : α → Sem β} {b : β} (h : pureRun P (e >>= f) = some b) : ∃ a, pureRun P e = some a ∧ pureRun P (f a) = some b := pureRun_bind h

/-- Entries of which only the keys are seen. -/
def blank (l : List MapEntry) : List MapEntry := l.map fun e => ⟨e.key, .nilIface, 0⟩
def valAt (l : List MapEntry) (i : Nat) : Value := (l[i]?.map fun e => e.val).getD .nilIface
theorem valAt_zero (e : MapEntry) (l : List MapEntry) : valAt (e :: l) 0 = e.val := rfl
theorem valAt_succ (e : MapEntry) (l : List MapEntry) (i : Nat) : valAt (e :: l) (i + 1) = valAt l i := by simp [valAt]
theorem valAt_of {l : List MapEntry} {i : Nat} {e : MapEntry} (h : l[i]? = some e) : valAt l i = e.val := by simp [valAt, h]
theorem findNow_blank (kind : TypeDesc) (k : Value) : ∀ (l : List MapEntry) (i : Nat), Instr.findNow kind k l i = match Instr.findNow kind k (blank l) i with
    | none => none
    | some none => some none
    | some (some (j, _)) => some (some (j, valAt l (j - i)))
  | [], i => by simp [blank, Instr.findNow]
  | e :: l, i => by
    simp only [blank, List.map_cons, Instr.findNow]
    cases Instr.sameNow kind k e.key with
    | none => rfl
    | some b =>
      cases b with
      | true => simp [valAt_zero]
      | false =>
        dsimp only
        have ih := findNow_blank kind k l (i + 1)
        rw [ih]
        have mono : ∀ (m : List MapEntry) (q : Nat) (j : Nat) (v : Value), Instr.findNow kind k m q = some (some (j, v)) → q ≤ j := by
          intro m
          induction m with
          | nil => intro q j v h; simp [Instr.findNow] at h
          | cons e m ihm =>
            intro q j v h
            simp only [Instr.findNow] at h
            split at h
            · cases h; exact Nat.le_refl _
            · have := ihm _ _ _ h; omega
            · cases h
        show (match Instr.findNow kind k (blank l) (i + 1) with | none => none | some none => some none | some (some (j, _)) => some (some (j, valAt l (j - (i + 1))))) = _
        cases hf : Instr.findNow kind k (blank l) (i + 1) with
        | none => rw [show List.map (fun e => (⟨e.key, .nilIface, 0⟩ : MapEntry)) l = blank l from rfl, hf]
        | some o =>
          rw [show List.map (fun e => (⟨e.key, .nilIface, 0⟩ : MapEntry)) l = blank l from rfl, hf]
          cases o with
          | none => rfl
          | some p =>
            obtain ⟨j, v⟩ := p
            have hj := mono _ _ _ _ hf
            dsimp only
            rw [show j - i = (j - (i + 1)) + 1 by omega, valAt_succ]
theorem findAsking_blank {kt : TypeId} {k : Value} : ∀ (l : List MapEntry) (i : Nat) {o : Option (Nat × Value)}, pureRun P (Instr.findAsking kt k (blank l) i) = some o →
    pureRun P (Instr.findAsking kt k l i) = some (o.map fun p => (p.1, (valAt l (p.1 - i)))) ∧ ∀ p, o = some p → i ≤ p.1
  | [], i, o, h => by
    simp only [blank, List.map_nil, Instr.findAsking] at h ⊢
    have : o = none := by
      have h' : pureRun P (Sem.pure (none : Option (Nat × Value))) = some o := h
      simp only [pureRun] at h'; cases h'; rfl
    subst this
    exact ⟨rfl, fun p hp => by cases hp⟩
  | e :: l, i, o, h => by
    simp only [blank, List.map_cons, Instr.findAsking] at h ⊢
    obtain ⟨b, h1, h2⟩ := pureRun_bind' h
    have back : ∀ {β : Type} {f : Bool → Sem β} {x : Sem Bool} {r : Option β}, pureRun P x = some b → pureRun P (f b) = r → pureRun P (x >>= f) = r := by
      intro β f x r hx hf
      subst hf
      show pureRun P (x.bind f) = _
      clear h1 h
      induction x with
      | pure a => simp only [pureRun] at hx; cases hx; rfl
      | program k ih => exact ih P hx
      | mark m k ih => exact ih hx
      | _ => simp [pureRun] at hx
    cases b with
    | true =>
      rw [if_pos rfl] at h2
      have h2' : pureRun P (Sem.pure (some (i, Value.nilIface))) = some o := h2
      simp only [pureRun] at h2'
      cases h2'
      refine ⟨back h1 ?_, fun p hp => by cases hp; exact Nat.le_refl _⟩
      rw [if_pos rfl]
      simp [pure, pureRun, valAt_zero]
    | false =>
      rw [if_neg (by simp)] at h2
      obtain ⟨h3, h4⟩ := findAsking_blank l (i + 1) h2
      refine ⟨back h1 ?_, fun p hp => by have := h4 p hp; omega⟩
      rw [if_neg (by simp), h3]
      cases o with
      | none => rfl
      | some p =>
        have := h4 p rfl
        simp only [Option.map_some]
        rw [show p.1 - i = (p.1 - (i + 1)) + 1 by omega, valAt_succ]
theorem findKey_blank {kt : TypeId} {k : Value} {l : List MapEntry} {o : Option (Nat × Value)} (h : pureRun P (Instr.findKey kt k (blank l)) = some o) (w : World) :
    (Instr.findKey kt k l).run P w = .ok (o.map fun p => (p.1, valAt l p.1)) w := by
  unfold Instr.findKey at h ⊢
  obtain ⟨d, h1, h2⟩ := pureRun_bind' h
  have hr := run_of_pure h1 w
  rw [Sem.run_bind, hr, Result.andThen_ok, findNow_blank]
  cases hf : Instr.findNow d k (blank l) 0 with
  | none =>
    rw [hf] at h2
    have := (findAsking_blank l 0 h2).1
    simpa using run_of_pure this w
  | some r =>
    rw [hf] at h2
    have h2' : pureRun P (Sem.pure r) = some o := h2
    simp only [pureRun] at h2'
    cases h2'
    cases o with
    | none => simp
    | some p => simp

def keysOf (es : List (Value × Value × Nat)) : List MapEntry := es.map fun e => ⟨e.1, .nilIface, 0⟩
/-- Where a key is. -/
def aFind (P : Program) (kt : TypeId) (k : Value) (es : List (Value × Value × Nat)) : Option (Option Nat) :=
  if pfv k && es.all (fun e => pfv e.1) then (match pureRun P (Instr.findKey kt k (keysOf es)) with
    | some o => some (o.map (·.1))
    | none => none) else none
theorem ER.keys {es : List (Value × Value × Nat)} {l : List MapEntry} (he : ER φ es l) (hp : es.all (fun e => pfv e.1) = true) : keysOf es = blank l := by
  induction he with
  | nil => rfl
  | cons hk hv _ ih =>
    simp only [List.all_cons, Bool.and_eq_true] at hp
    have := pfv_same hp.1 hk
    subst this
    simp only [keysOf, blank, List.map_cons] at ih ⊢
    rw [ih hp.2]
theorem ER.get {es : List (Value × Value × Nat)} {l : List MapEntry} (he : ER φ es l) : ∀ {i : Nat} {e : Value × Value × Nat}, es[i]? = some e → ∃ e', l[i]? = some e' ∧ VR φ e.1 e'.key ∧ VR φ e.2.1 e'.val ∧ e'.born = e.2.2 := by
  induction he with
  | nil => intro i e h; simp at h
  | cons hk hv _ ih =>
    intro i e h
    cases i with
    | zero => simp at h; subst h; exact ⟨_, rfl, hk, hv, rfl⟩
    | succ i => simp at h; simpa using ih h
theorem find_ok {kt : TypeId} {k k' : Value} {es : List (Value × Value × Nat)} {l : List MapEntry} {o : Option Nat} (hs : aFind P kt k es = some o) (hk : VR φ k k') (he : ER φ es l) (w : World) :
    k' = k ∧ (∀ e, e ∈ es → pfv e.1 = true) ∧ ∃ o', (Instr.findKey kt k' l).run P w = .ok o' w ∧ match o with
      | none => o' = none
      | some i => o' = some (i, valAt l i) := by
  unfold aFind at hs
  split at hs
  · rename_i hp
    simp only [Bool.and_eq_true] at hp
    obtain rfl := pfv_same hp.1 hk
    refine ⟨rfl, fun e hm => List.all_eq_true.1 hp.2 e hm, ?_⟩
    split at hs
    · rename_i o1 ho
      cases hs
      rw [he.keys hp.2] at ho
      refine ⟨_, findKey_blank ho w, ?_⟩
      cases o1 with
      | none => rfl
      | some p => rfl
    · cases hs
  · cases hs
def aCheckKey (P : Program) (e : Bool) (kt : TypeId) (k : Value) : Bool := (pureRun P (Instr.checkKey e 10000 kt k)).isSome
theorem checkKey_ok {e : Bool} {kt : TypeId} {k : Value} (hc : aCheckKey P e kt k = true) (w : World) : (Instr.checkKey e 10000 kt k).run P w = .ok () w := by
  unfold aCheckKey at hc
  obtain ⟨u, hu⟩ := Option.isSome_iff_exists.1 hc
  exact run_of_pure hu w

def tupOk (commaOk : Bool) (v : Value) (ok : Bool) : Value := if commaOk then .tuple #[v, .bool ok] else v
theorem tupOk_rel {c ok : Bool} {v v' : Value} (hv : VR φ v v') : VR φ (tupOk c v ok) (tupOk c v' ok) := by
  unfold tupOk
  split
  · exact .tuple' (.cons hv (.cons (.bool _) .nil))
  · exact hv
def aLookup (P : Program) (T : TypeId) (x k : Value) (c : Bool) (h : AH) : Option Value := match P.underlying T with
  | some (.map kt el) => (match (match x with
      | .map none => some []
      | .map (some r) => (match h.m.get r with
        | some (.map es _ _) => some es
        | _ => none)
      | _ => none) with
    | some es => if aCheckKey P es.isEmpty kt k then (match aFind P kt k es with
      | some (some i) => (match es[i]? with
        | some e => some (tupOk c e.2.1 true)
        | none => none)
      | some none => (match zeroOf P el with
        | some z => some (tupOk c z false)
        | none => none)
      | none => none) else none
    | none => none)
  | _ => none
theorem sim_lookup (r : R w0 φ h w) {T : TypeId} {x k x' k' v : Value} {c : Bool} (hs : aLookup P T x k c h = some v) (hx : VR φ x x') (hk : VR φ k k') : SimV w0 P φ h w (Instr.lookup T x' k' c) v h := by
  unfold aLookup at hs
  split at hs
  · rename_i kt el hu
    split at hs
    · rename_i es hes
      have hex : ∃ arr : Array MapEntry, ER φ es arr.toList ∧ arr.isEmpty = es.isEmpty ∧ ((x' = .map none ∧ arr = #[]) ∨ ∃ b cl, x' = .map (some b) ∧ (getObj b).run P w = .ok (.map arr cl) w) := by
        split at hes
        · cases hes; cases hx
          exact ⟨#[], .nil, rfl, .inl ⟨rfl, rfl⟩⟩
        · split at hes
          · rename_i b es' cl ro ho
            cases hes
            obtain ⟨i, hi, rfl⟩ := hx.map_inv
            obtain ⟨arr, h1, _, h2⟩ := r.map (P := P) hi ho
            refine ⟨arr, h2, ?_, .inr ⟨_, _, rfl, h1⟩⟩
            have hl : es.length = arr.size := by rw [h2.length]; simp
            rw [Bool.eq_iff_iff, Array.isEmpty_iff_size_eq_zero, List.isEmpty_iff_length_eq_zero, hl]
          · cases hes
        · cases hes
      obtain ⟨arr, her, hemp, hx'⟩ := hex
      split at hs
      · rename_i hck
        have fin : ∀ {o : Option Nat}, aFind P kt k es = some o → k' = k ∧ ∀ (v' : Value) , (match o with
            | none => (zeroValue el).run P w = .ok v' w
            | some i => v' = valAt arr.toList i) → (Instr.lookup T x' k' c).run P w = .ok (tupOk c v' o.isSome) w := by
          intro o ho
          obtain ⟨rfl, _, o', h3, h4⟩ := find_ok ho hk her w
          refine ⟨rfl, fun v' hv' => ?_⟩
          have hc := checkKey_ok hck w
          unfold Instr.lookup
          simp only [Sem.run_bind, run_underlying hu, Result.andThen_ok]
          rcases hx' with ⟨rfl, rfl⟩ | ⟨b, cl, rfl, hb⟩
          · have hc' : (Instr.checkKey (#[] : Array MapEntry).isEmpty 10000 kt k').run P w = .ok () w := by rw [hemp]; exact hc
            simp only [Sem.run_pure, Sem.run_bind, Result.andThen_ok, hc', h3]
            cases o with
            | none => subst h4; simp [hv', tupOk]
            | some i => subst h4; simp [hv', tupOk]
          · have hc' : (Instr.checkKey arr.isEmpty 10000 kt k').run P w = .ok () w := by rw [hemp]; exact hc
            simp only [Sem.run_pure, Sem.run_bind, Result.andThen_ok, hb, hc', h3]
            cases o with
            | none => subst h4; simp [hv', tupOk]
            | some i => subst h4; simp [hv', tupOk]
        split at hs
        · rename_i i hf
          split at hs
          · rename_i e he
            cases hs
            obtain ⟨e', h5, h6, h7, _⟩ := her.get he
            have := (fin hf).2 e'.val (valAt_of h5).symm
            exact .here r this (tupOk_rel h7)
          · cases hs
        · rename_i hf
          split at hs
          · rename_i z hz
            cases hs
            obtain ⟨hz1, hz2⟩ := rZero hz w
            exact .here r ((fin hf).2 z hz1) (tupOk_rel (pfv_refl φ hz2))
          · cases hs
        · cases hs
      · cases hs
    · cases hs
  · cases hs

/-! Changes of maps. -/
def setV : List (Value × Value × Nat) → Nat → Value → Value → List (Value × Value × Nat)
  | [], _, _, _ => []
  | (_, _, b) :: l, 0, k, v => (k, v, b) :: l
  | e :: l, i + 1, k, v => e :: setV l i k v
theorem ER.setV {es : List (Value × Value × Nat)} {l : List MapEntry} (he : ER φ es l) {k v k' v' : Value} (hk : VR φ k k') (hv : VR φ v v') : ∀ i, ER φ (setV es i k v) (l.modify i fun e => { e with key := k', val := v' }) := by
  induction he with
  | nil => intro i; cases i <;> exact .nil
  | cons h1 h2 t ih =>
    intro i
    cases i with
    | zero => exact .cons hk hv t
    | succ i => exact .cons h1 h2 (ih i)
theorem ER.append {es es2 : List (Value × Value × Nat)} {l l2 : List MapEntry} (he : ER φ es l) (h2 : ER φ es2 l2) : ER φ (es ++ es2) (l ++ l2) := by
  induction he with
  | nil => exact h2
  | cons h1 h2 _ ih => exact .cons h1 h2 ih
theorem ER.push {es : List (Value × Value × Nat)} {l : List MapEntry} (he : ER φ es l) {k v k' v' : Value} (hk : VR φ k k') (hv : VR φ v v') (b : Nat) : ER φ (es ++ [(k, v, b)]) (l ++ [⟨k', v', b⟩]) :=
  he.append (.cons hk hv .nil)
theorem ER.erase {es : List (Value × Value × Nat)} {l : List MapEntry} (he : ER φ es l) : ∀ i, ER φ (es.eraseIdx i) (l.eraseIdx i) := by
  induction he with
  | nil => intro i; simp; exact .nil
  | cons h1 h2 t ih =>
    intro i
    cases i with
    | zero => simpa using t
    | succ i => simpa using .cons h1 h2 (ih i)
theorem R.setMap (r : R w0 φ h w) {b : Nat} {i : Im} {es es2 : List (Value × Value × Nat)} {cl cl2 : Nat} {arr2 : Array MapEntry} (hi : φ b = some i) (ho : h.m.get b = some (.map es cl false)) (he : ER φ es2 arr2.toList) :
    (setObj i.c (.map arr2 cl2)).run P w = .ok () (putW w i.c (.map arr2 cl2)) ∧ R w0 φ { h with m := h.m.set b (some (.map es2 cl2 false)) } (putW w i.c (.map arr2 cl2)) ∧ Nx φ φ h { h with m := h.m.set b (some (.map es2 cl2 false)) } := by
  obtain ⟨arr, h1, h2, h3⟩ := r.map (P := P) hi ho
  refine ⟨?_, r.put hi ho rfl (fun w' hw' => ⟨arr2, hw', he⟩), Nx.put hi (Nat.lt_of_lt_of_le (r.lt _ _ hi).2 r.nx)⟩
  simp [setObj, Sem.run, h2, putW]
def aSetMap (h : AH) (b : Nat) (es : List (Value × Value × Nat)) (cl : Nat) : AH := { h with m := h.m.set b (some (.map es cl false)) }
/-- The key that stays. -/
def stays (old new : Value) : Bool := Instr.sameBits 10000 old new
theorem stays_ok {old new : Value} (hs : stays old new = true) (w : World) : (Instr.keyThatStays old new).run P w = .ok new w := by
  unfold Instr.keyThatStays
  unfold stays at hs
  rw [if_pos hs]; rfl
def aUpdate (P : Program) (T : TypeId) (x k v : Value) (h : AH) : Option AH := match P.underlying T, x with
  | some (.map kt _), .map (some b) => (match h.m.get b with
    | some (.map es cl false) => if aCheckKey P false kt k then (match aFind P kt k es with
      | some (some i) => (match es[i]? with
        | some e => if stays e.1 k then some (aSetMap h b (setV es i k v) cl) else none
        | none => none)
      | some none => some (aSetMap h b (es ++ [(k, v, cl)]) (cl + 1))
      | none => none) else none
    | _ => none)
  | _, _ => none
theorem toList_modify {α : Type} (a : Array α) (i : Nat) (f : α → α) : (a.modify i f).toList = a.toList.modify i f := by simp
theorem sim_update (r : R w0 φ h w) {T : TypeId} {x k v x' k' v' : Value} (hs : aUpdate P T x k v h = some h') (hx : VR φ x x') (hk : VR φ k k') (hv : VR φ v v') :
    ∃ w', (Instr.mapUpdate T x' k' v').run P w = .ok () w' ∧ Nx φ φ h h' ∧ R w0 φ h' w' := by
  unfold aUpdate at hs
  split at hs
  · rename_i kt el b hu
    split at hs
    · rename_i es cl ho
      split at hs
      · rename_i hck
        obtain ⟨i, hi, rfl⟩ := hx.map_inv
        obtain ⟨arr, h1, _, h2⟩ := r.map (P := P) hi ho
        have hc := checkKey_ok hck w
        unfold Instr.mapUpdate
        simp only [Sem.run_bind, run_underlying hu, Result.andThen_ok]
        split at hs
        · rename_i j hf
          split at hs
          · rename_i e he
            split at hs
            · rename_i hst
              cases hs
              obtain ⟨rfl, hpk, o', h3, h4⟩ := find_ok hf hk h2 w
              subst h4
              obtain ⟨e', h5, h6, h7, _⟩ := h2.get he
              have hke : e'.key = e.1 := pfv_same (hpk e (List.mem_of_getElem? he)) h6
              have hold : ((arr[j]?.map (·.key)).getD k') = e.1 := by
                rw [Array.getElem?_toList] at h5
                rw [h5]; exact hke
              obtain ⟨q1, q2, q3⟩ := r.setMap (P := P) (cl2 := cl) (es2 := setV es j k' v) (arr2 := arr.modify j fun e => { e with key := k', val := v' }) hi ho (by rw [toList_modify]; exact h2.setV hk hv j)
              refine ⟨_, ?_, q3, q2⟩
              simp only [h1, Result.andThen_ok, Sem.run_bind, hc, h3, hold, stays_ok hst, q1]
            · cases hs
          · cases hs
        · rename_i hf
          cases hs
          obtain ⟨rfl, hpk, o', h3, h4⟩ := find_ok hf hk h2 w
          subst h4
          obtain ⟨q1, q2, q3⟩ := r.setMap (P := P) (cl2 := cl + 1) (es2 := es ++ [(k', v, cl)]) (arr2 := arr.push ⟨k', v', cl⟩) hi ho (by rw [Array.toList_push]; exact h2.push hk hv cl)
          refine ⟨_, ?_, q3, q2⟩
          simp only [h1, Result.andThen_ok, Sem.run_bind, hc, h3, q1]
        · cases hs
      · cases hs
    · cases hs
  · cases hs
def aEntry (P : Program) (T : TypeId) (x k : Value) (h : AH) : Option (Value × AH) := match P.underlying T, x with
  | some (.map kt el), .map (some b) => (match h.m.get b with
    | some (.map es cl false) => if aCheckKey P false kt k then (match aFind P kt k es with
      | some (some i) => (match es[i]? with
        | some e => if stays e.1 k then some (.tuple #[e.2.1, .int .i64 e.2.2], aSetMap h b (setV es i k e.2.1) cl) else none
        | none => none)
      | some none => (match zeroOf P el with
        | some z => some (.tuple #[z, .int .i64 cl], aSetMap h b (es ++ [(k, z, cl)]) (cl + 1))
        | none => none)
      | none => none) else none
    | _ => none)
  | _, _ => none
theorem modify_key {l : List MapEntry} {j : Nat} {k : Value} {e : MapEntry} (he : l[j]? = some e) : (l.modify j fun x => { x with key := k }) = l.modify j fun x => { x with key := k, val := e.val } := by
  apply List.ext_getElem?
  intro i
  rw [List.getElem?_modify, List.getElem?_modify]
  by_cases hij : j = i
  · subst hij; simp [he]
  · simp [hij]
theorem sim_entry (r : R w0 φ h w) {T : TypeId} {x k x' k' v : Value} (hs : aEntry P T x k h = some (v, h')) (hx : VR φ x x') (hk : VR φ k k') : SimV w0 P φ h w (Instr.mapEntry T x' k') v h' := by
  unfold aEntry at hs
  split at hs
  · rename_i kt el b hu
    split at hs
    · rename_i es cl ho
      split at hs
      · rename_i hck
        obtain ⟨i, hi, rfl⟩ := hx.map_inv
        obtain ⟨arr, h1, _, h2⟩ := r.map (P := P) hi ho
        have hc := checkKey_ok hck w
        unfold Instr.mapEntry
        split at hs
        · rename_i j hf
          split at hs
          · rename_i e he
            split at hs
            · rename_i hst
              cases hs
              obtain ⟨rfl, hpk, o', h3, h4⟩ := find_ok hf hk h2 w
              subst h4
              obtain ⟨e', h5, h6, h7, h8⟩ := h2.get he
              have hke : e'.key = e.1 := pfv_same (hpk e (List.mem_of_getElem? he)) h6
              have h5' := h5
              rw [Array.getElem?_toList] at h5
              have hold : ((arr[j]?.map (·.key)).getD k') = e.1 := by rw [h5]; exact hke
              have hborn : ((arr[j]?.map (fun x => (x.born : Int))).getD 0) = (e.2.2 : Int) := by rw [h5]; show (e'.born : Int) = _; rw [h8]
              obtain ⟨q1, q2, q3⟩ := r.setMap (P := P) (cl2 := cl) (es2 := setV es j k' e.2.1) (arr2 := arr.modify j fun e => { e with key := k' }) hi ho
                (by rw [toList_modify, modify_key h5']; exact h2.setV hk h7 j)
              refine ⟨.tuple #[e'.val, .int .i64 e.2.2], _, φ, ?_, q3, q2, .tuple' (.cons h7 (.cons (.int _ _) .nil))⟩
              simp only [Sem.run_bind, run_underlying hu, Result.andThen_ok, h1, hc, h3, hold, hborn, stays_ok hst, q1, valAt_of h5', goInt, Sem.run_pure]
            · cases hs
          · cases hs
        · rename_i hf
          split at hs
          · rename_i z hz
            cases hs
            obtain ⟨hz1, hz2⟩ := rZero hz w
            obtain ⟨rfl, hpk, o', h3, h4⟩ := find_ok hf hk h2 w
            subst h4
            obtain ⟨q1, q2, q3⟩ := r.setMap (P := P) (cl2 := cl + 1) (es2 := es ++ [(k', z, cl)]) (arr2 := arr.push ⟨k', z, cl⟩) hi ho (by rw [Array.toList_push]; exact h2.push hk (pfv_refl φ hz2) cl)
            refine ⟨.tuple #[z, .int .i64 cl], _, φ, ?_, q3, q2, .tuple' (.cons (pfv_refl φ hz2) (.cons (.int _ _) .nil))⟩
            simp only [Sem.run_bind, run_underlying hu, Result.andThen_ok, h1, hc, h3, q1, hz1, goInt, Sem.run_pure]
          · cases hs
        · cases hs
      · cases hs
    · cases hs
  · cases hs
def bornIdx : List (Value × Value × Nat) → Int → Nat → Option Nat
  | [], _, _ => none
  | e :: l, b, i => if (e.2.2 : Int) = b then some i else bornIdx l b (i + 1)
theorem bornIdx_ok {es : List (Value × Value × Nat)} {l : List MapEntry} (he : ER φ es l) : ∀ (b : Int) (q : Nat), bornIdx es b q = (l.findIdx? (fun e => (e.born : Int) == b)).map (q + ·) := by
  induction he with
  | nil => intro b q; rfl
  | @cons k v k' v' b0 l l' hk hv t ih =>
    intro b q
    simp only [bornIdx, List.findIdx?_cons]
    by_cases e : (b0 : Int) = b
    · simp [e]
    · rw [if_neg e, ih]
      have : ((b0 : Int) == b) = false := by simpa using e
      simp only [this, Bool.false_eq_true, if_false, Option.map_map]
      congr 1
      funext x
      simp only [Function.comp]
      omega
def aEStore (T : TypeId) (x s v : Value) (h : AH) : Option AH := match x, s with
  | .map (some b), .int _ st => (match h.m.get b with
    | some (.map es cl false) => (match bornIdx es st 0 with
      | some i => (match es[i]? with
        | some e => some (aSetMap h b (setV es i e.1 v) cl)
        | none => none)
      | none => none)
    | _ => none)
  | _, _ => if T = T then none else none
theorem modify_val {l : List MapEntry} {j : Nat} {v : Value} {e : MapEntry} (he : l[j]? = some e) : (l.modify j fun x => { x with val := v }) = l.modify j fun x => { x with key := e.key, val := v } := by
  apply List.ext_getElem?
  intro i
  rw [List.getElem?_modify, List.getElem?_modify]
  by_cases hij : j = i
  · subst hij; simp [he]
  · simp [hij]
theorem sim_estore (r : R w0 φ h w) {T : TypeId} {x k v x' k' v' : Value} (hs : aEStore T x k v h = some h') (hx : VR φ x x') (hk : VR φ k k') (hv : VR φ v v') :
    ∃ w', (Instr.entryStore T x' k' v').run P w = .ok () w' ∧ Nx φ φ h h' ∧ R w0 φ h' w' := by
  unfold aEStore at hs
  split at hs
  · rename_i b kk st
    split at hs
    · rename_i es cl ho
      split at hs
      · rename_i j hj
        split at hs
        · rename_i e he
          cases hs
          obtain ⟨i, hi, rfl⟩ := hx.map_inv
          obtain rfl := hk.int_inv
          obtain ⟨arr, h1, _, h2⟩ := r.map (P := P) hi ho
          obtain ⟨e', h5, h6, h7, h8⟩ := h2.get he
          have hfi : arr.findIdx? (fun e => (e.born : Int) == st) = some j := by
            have := bornIdx_ok h2 st 0
            rw [hj] at this
            have e9 : arr.findIdx? (fun e => (e.born : Int) == st) = arr.toList.findIdx? (fun e => (e.born : Int) == st) := by
              rw [← List.findIdx?_toArray, Array.toArray_toList]
            rw [e9]
            cases hq : arr.toList.findIdx? (fun e => (e.born : Int) == st) with
            | none => rw [hq] at this; cases this
            | some q => rw [hq] at this; simpa using this.symm
          obtain ⟨q1, q2, q3⟩ := r.setMap (P := P) (cl2 := cl) (es2 := setV es j e.1 v) (arr2 := arr.modify j fun e => { e with val := v' }) hi ho (by rw [toList_modify, modify_val h5]; exact h2.setV h6 hv j)
          refine ⟨_, ?_, q3, q2⟩
          simp only [Instr.entryStore, Sem.run_bind, h1, Result.andThen_ok, asInt, asIntOf, Sem.run_pure, hfi, q1]
        · cases hs
      · cases hs
    · cases hs
  · simp at hs
def aDelete (P : Program) (T : TypeId) (x k : Value) (h : AH) : Option AH := match P.underlying T, x with
  | some (.map kt _), .map (some b) => (match h.m.get b with
    | some (.map es cl false) => if aCheckKey P es.isEmpty kt k then (match aFind P kt k es with
      | some (some i) => some (aSetMap h b (es.eraseIdx i) cl)
      | some none => some (aSetMap h b es cl)
      | none => none) else none
    | _ => none)
  | _, _ => none
theorem sim_delete (r : R w0 φ h w) {T ty T2 : TypeId} {x k x' k' : Value} (hs : aDelete P T x k h = some h') (hx : VR φ x x') (hk : VR φ k k') : SimV w0 P φ h w (Builtin.delete_ #[T, T2] ty #[x', k']) undef h' := by
  unfold aDelete at hs
  split at hs
  · rename_i kt el b hu
    split at hs
    · rename_i es cl ho
      split at hs
      · rename_i hck
        obtain ⟨i, hi, rfl⟩ := hx.map_inv
        obtain ⟨arr, h1, _, h2⟩ := r.map (P := P) hi ho
        have hemp : arr.isEmpty = es.isEmpty := by
          have hl : es.length = arr.size := by rw [h2.length]; simp
          rw [Bool.eq_iff_iff, Array.isEmpty_iff_size_eq_zero, List.isEmpty_iff_length_eq_zero, hl]
        have hc := checkKey_ok hck w
        rw [← hemp] at hc
        split at hs
        · rename_i j hf
          cases hs
          obtain ⟨rfl, hpk, o', h3, h4⟩ := find_ok hf hk h2 w
          subst h4
          obtain ⟨q1, q2, q3⟩ := r.setMap (P := P) (cl2 := cl) (es2 := es.eraseIdx j) (arr2 := arr.eraseIdxIfInBounds j) hi ho (by rw [Array.toList_eraseIdxIfInBounds]; exact h2.erase j)
          refine ⟨undef, _, φ, ?_, q3, q2, .undef⟩
          simp [Builtin.delete_, run_underlying hu, h1, hc, h3, q1, undef]
        · rename_i hf
          cases hs
          obtain ⟨rfl, hpk, o', h3, h4⟩ := find_ok hf hk h2 w
          subst h4
          obtain ⟨q1, q2, q3⟩ := r.setMap (P := P) (cl2 := cl) (es2 := es) (arr2 := arr) hi ho h2
          refine ⟨undef, _, φ, ?_, q3, q2, .undef⟩
          simp [Builtin.delete_, run_underlying hu, h1, hc, h3, q1, undef]
        · cases hs
      · cases hs
    · cases hs
  · cases hs
end
end Go.X
