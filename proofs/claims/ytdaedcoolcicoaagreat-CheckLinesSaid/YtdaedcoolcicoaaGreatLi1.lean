/- A part of the proof. -/
import Derived.Test.YtdaedcoolcicoaaGreatHandO
namespace Go.Arm
open Go Go.RowKit

/-- Something that a process did: its place, and how many states were saved before it. -/
structure Ev where
  p : Nat
  i : Nat
  x : Item
  s : Nat
def evl (p : Nat) : List Item → Nat → Nat → List Ev
  | [], _, _ => []
  | x :: l, i, s => ⟨p, i, x, s⟩ :: evl p l (i + 1) (if x.Kind = 1 then s + 1 else s)
def evs (p : Nat) : List (List Item) → List Ev
  | [] => []
  | l :: h => evl p l 0 0 ++ evs (p + 1) h
def cnt : List Item → Nat
  | [] => 0
  | x :: l => (if x.Kind = 1 then 1 else 0) + cnt l
def badX (x : Item) : Bool := ((!decide (x.Kind = 2)) && (!decide (x.Kind = 3))) || decide (x.No < 0)
def saveX (x : Item) : Bool := decide (x.Kind = 1) && decide (x.No = 0)
def stepE (ps : List (Int × Psg)) (e : Ev) : Option (List (Int × Psg)) :=
  if saveX e.x then some ps
  else if badX e.x then none
  else if (if decide (e.x.Kind = 3) then ((mget ps e.x.No).getD ⟨⟨none⟩, ⟨none⟩⟩).recv.x.isSome else ((mget ps e.x.No).getD ⟨⟨none⟩, ⟨none⟩⟩).sent.x.isSome) then none
  else some (mset ps e.x.No (if decide (e.x.Kind = 3) then ⟨((mget ps e.x.No).getD ⟨⟨none⟩, ⟨none⟩⟩).sent, ⟨some ⟨(e.p : Int), (e.s : Int)⟩⟩⟩ else ⟨⟨some ⟨(e.p : Int), (e.s : Int)⟩⟩, ((mget ps e.x.No).getD ⟨⟨none⟩, ⟨none⟩⟩).recv⟩))
def foldS : List Ev → List (Int × Psg) → Option (List (Int × Psg))
  | [], ps => some ps
  | e :: l, ps => match stepE ps e with
    | none => none
    | some ps' => foldS l ps'
theorem foldS_append (a b : List Ev) (ps : List (Int × Psg)) : foldS (a ++ b) ps = (foldS a ps).bind fun ps' => foldS b ps' := by
  induction a generalizing ps with
  | nil => rfl
  | cons e a ih =>
    show (match stepE ps e with | none => none | some ps' => foldS (a ++ b) ps') = (match stepE ps e with | none => none | some ps' => foldS a ps').bind _
    cases h : stepE ps e with
    | none => rfl
    | some ps' => exact ih ps'
def dupX (ps : List (Int × Psg)) (x : Item) : Bool := if decide (x.Kind = 3) then ((mget ps x.No).getD ⟨⟨none⟩, ⟨none⟩⟩).recv.x.isSome else ((mget ps x.No).getD ⟨⟨none⟩, ⟨none⟩⟩).sent.x.isSome
def putX (ps : List (Int × Psg)) (x : Item) (sp : Spot) : List (Int × Psg) := mset ps x.No (if decide (x.Kind = 3) then ⟨((mget ps x.No).getD ⟨⟨none⟩, ⟨none⟩⟩).sent, ⟨some sp⟩⟩ else ⟨⟨some sp⟩, ((mget ps x.No).getD ⟨⟨none⟩, ⟨none⟩⟩).recv⟩)
theorem stepE_eq (ps : List (Int × Psg)) (e : Ev) : stepE ps e = if saveX e.x then some ps else if badX e.x then none else if dupX ps e.x then none else some (putX ps e.x ⟨(e.p : Int), (e.s : Int)⟩) := rfl
theorem item_eq {p s : Nat} {i : Nat} {x : Item} {ps : List (Int × Psg)} {sv : List Int} (hp : sv[p]? = some (s : Int)) (hs : s ≤ 100000) :
    psgItem (p : Int) x ps sv = some ((stepE ps ⟨p, i, x, s⟩).map fun ps' => (ps', if saveX x then sv.set p ((s : Int) + 1) else sv)) := by
  have hi : idx sv (p : Int) = some (s : Int) := by
    show (if (0 : Int) ≤ (p : Int) then sv[((p : Int)).toNat]? else none) = _
    rw [if_pos (by omega), Int.toNat_natCast]; exact hp
  have hps : psgItem (p : Int) x ps sv = if saveX x then (Option.bind (idx sv (p : Int)) fun c => chk (inR (c + 1)) <| some (some (ps, sv.set (p : Int).toNat (c + 1)))) else if badX x then some none else if dupX ps x then some none else (Option.bind (idx sv (p : Int)) fun c => some (some (putX ps x ⟨(p : Int), c⟩, sv))) := rfl
  rw [hps, stepE_eq, hi, Option.bind_some, Option.bind_some]
  by_cases h1 : saveX x = true
  · rw [h1, if_pos rfl, chk, if_pos (by unfold inR; omega), Int.toNat_natCast]; rfl
  · have h1' : saveX x = false := by simpa using h1
    rw [h1']
    by_cases h2 : badX x = true
    · rw [h2]; rfl
    · have h2' : badX x = false := by simpa using h2
      rw [h2']
      by_cases h3 : dupX ps x = true
      · rw [h3]; rfl
      · have h3' : dupX ps x = false := by simpa using h3
        rw [h3']; rfl
theorem psgI_eq {p : Nat} {l : List Item} (hl : l.length ≤ 100000) : ∀ (m i s : Nat) (ps : List (Int × Psg)) (sv : List Int), i ≤ l.length → l.length < i + m → sv[p]? = some (s : Int) → s ≤ i →
    psgI (p : Int) l m (i : Int) ps sv = some ((foldS (evl p (l.drop i) i s) ps).map fun ps' => (ps', sv.set p ((s + cnt (l.drop i) : Nat) : Int)))
  | 0, i, s, ps, sv, h1, h2, _, _ => by omega
  | m + 1, i, s, ps, sv, h1, h2, hp, hs => by
    rw [psgI]
    by_cases hi : i < l.length
    · have hd : l.drop i = l[i] :: l.drop (i + 1) := List.drop_eq_getElem_cons hi
      have hix : idx l (i : Int) = some l[i] := by
        show (if (0 : Int) ≤ (i : Int) then l[((i : Int)).toNat]? else none) = _
        rw [if_pos (by omega), Int.toNat_natCast]; exact List.getElem?_eq_getElem hi
      rw [if_pos (show decide ((i : Int) < (l.length : Int)) = true by simp; exact hi), hix, Option.bind_some, item_eq (i := i) hp (by omega), Option.bind_some, hd]
      show (match (stepE ps ⟨p, i, l[i], s⟩).map fun ps' => (ps', if saveX l[i] then sv.set p ((s : Int) + 1) else sv) with | none => some none | some q => chk (inR ((i : Int) + 1)) <| psgI (p : Int) l m ((i : Int) + 1) q.1 q.2) = some ((match stepE ps ⟨p, i, l[i], s⟩ with | none => none | some ps' => foldS (evl p (l.drop (i + 1)) (i + 1) (if (l[i]).Kind = 1 then s + 1 else s)) ps').map _)
      cases hst : stepE ps ⟨p, i, l[i], s⟩ with
      | none => rfl
      | some ps' =>
        rw [Option.map_some]
        dsimp only
        rw [chk, if_pos (show inR ((i : Int) + 1) by unfold inR; omega)]
        have hpl : p < sv.length := (List.getElem?_eq_some_iff.1 hp).1
        by_cases h1 : saveX l[i] = true
        · have hk : (l[i]).Kind = 1 := by
            unfold saveX at h1
            rw [Bool.and_eq_true] at h1
            exact of_decide_eq_true h1.1
          rw [h1, if_pos rfl, if_pos hk]
          have := psgI_eq hl m (i + 1) (s + 1) ps' (sv.set p ((s : Int) + 1)) (by omega) (by omega) (by rw [List.getElem?_set_self hpl]; rfl) (by omega)
          refine Eq.trans this ?_
          rw [List.set_set]
          show _ = some (Option.map (fun ps' => (ps', sv.set p ((s + ((if (l[i]).Kind = 1 then 1 else 0) + cnt (l.drop (i + 1))) : Nat) : Int))) _)
          rw [if_pos hk, Nat.add_assoc]
        · have hk : ¬ (l[i]).Kind = 1 := fun hk => by
            have h1' : saveX l[i] = false := by simpa using h1
            have : stepE ps ⟨p, i, l[i], s⟩ = none := by
              rw [stepE_eq]
              show (if saveX l[i] then _ else if badX l[i] then _ else _) = _
              rw [h1']
              have : badX l[i] = true := by unfold badX; rw [hk]; rfl
              rw [this]; rfl
            rw [this] at hst; cases hst
          rw [if_neg h1, if_neg hk]
          have := psgI_eq hl m (i + 1) s ps' sv (by omega) (by omega) hp (by omega)
          refine Eq.trans this ?_
          show _ = some (Option.map (fun ps' => (ps', sv.set p ((s + ((if (l[i]).Kind = 1 then 1 else 0) + cnt (l.drop (i + 1))) : Nat) : Int))) _)
          rw [if_neg hk, Nat.zero_add]
    · have hd : l.drop i = [] := List.drop_eq_nil_of_le (by omega)
      rw [if_neg (show ¬ decide ((i : Int) < (l.length : Int)) = true by simp; omega), hd]
      have he : sv.set p ((s + 0 : Nat) : Int) = sv := by
        refine List.ext_getElem? fun j => ?_
        rw [List.getElem?_set]
        split
        · rename_i e; subst e; rw [hp]; split
          · rfl
          · rename_i h; rw [List.getElem?_eq_none (by omega)] at hp; cases hp
        · rfl
      show some (some (ps, sv)) = some (some (ps, sv.set p ((s + 0 : Nat) : Int)))
      rw [he]
theorem psgP_eq {N : Nat} (hN : 200000 < N) {h : List (List Item)} (hh : h.length ≤ 1000) (hl : ∀ l, l ∈ h → l.length ≤ 100000) : ∀ (m p : Nat) (ps : List (Int × Psg)) (sv : List Int), p ≤ h.length → h.length < p + m → sv.length = h.length → (∀ j, p ≤ j → j < h.length → sv[j]? = some 0) →
    psgP N h m (p : Int) ps sv = some ((foldS (evs p (h.drop p)) ps).map fun ps' => (ps', sv.take p ++ (h.drop p).map fun l => (cnt l : Int)))
  | 0, p, ps, sv, h1, h2, _, _ => by omega
  | m + 1, p, ps, sv, h1, h2, hsl, hz => by
    rw [psgP]
    by_cases hp : p < h.length
    · have hd : h.drop p = h[p] :: h.drop (p + 1) := List.drop_eq_getElem_cons hp
      have hix : idx h (p : Int) = some h[p] := by
        show (if (0 : Int) ≤ (p : Int) then h[((p : Int)).toNat]? else none) = _
        rw [if_pos (by omega), Int.toNat_natCast]; exact List.getElem?_eq_getElem hp
      have hlp := hl h[p] (List.getElem_mem hp)
      have hI := psgI_eq (p := p) hlp N 0 0 ps sv (by omega) (by omega) (hz p (Nat.le_refl _) hp) (Nat.le_refl _)
      have hI : psgI (p : Int) h[p] N 0 ps sv = _ := hI
      rw [if_pos (show decide ((p : Int) < (h.length : Int)) = true by simp; exact hp), hix, Option.bind_some, hI, Option.bind_some, hd]
      show (match (foldS (evl p (h[p].drop 0) 0 0) ps).map fun ps' => (ps', sv.set p ((0 + cnt (h[p].drop 0) : Nat) : Int)) with | none => some none | some q => chk (inR ((p : Int) + 1)) <| psgP N h m ((p : Int) + 1) q.1 q.2) = some ((foldS (evl p h[p] 0 0 ++ evs (p + 1) (h.drop (p + 1))) ps).map _)
      rw [List.drop_zero, foldS_append, Nat.zero_add]
      cases hf : foldS (evl p h[p] 0 0) ps with
      | none => rfl
      | some ps' =>
        rw [Option.map_some, Option.bind_some]
        dsimp only
        rw [chk, if_pos (show inR ((p : Int) + 1) by unfold inR; omega)]
        have := psgP_eq hN hh hl m (p + 1) ps' (sv.set p ((cnt h[p] : Nat) : Int)) (by omega) (by omega) (by rw [List.length_set]; exact hsl) (fun j hj hj2 => by rw [List.getElem?_set_ne (by omega)]; exact hz j (by omega) hj2)
        refine Eq.trans this ?_
        have ht : (sv.set p ((cnt h[p] : Nat) : Int)).take (p + 1) = sv.take p ++ [((cnt h[p] : Nat) : Int)] := by
          refine List.ext_getElem? fun j => ?_
          have hps : p < sv.length := by omega
          rcases Nat.lt_trichotomy j p with hj | hj | hj
          · rw [List.getElem?_take_of_lt (by omega), List.getElem?_set_ne (by omega), List.getElem?_append_left (by rw [List.length_take]; omega), List.getElem?_take_of_lt hj]
          · subst hj
            rw [List.getElem?_take_of_lt (by omega), List.getElem?_set_self hps, List.getElem?_append_right (by rw [List.length_take]; omega), List.length_take, Nat.min_eq_left (by omega), Nat.sub_self]; rfl
          · rw [List.getElem?_eq_none (by rw [List.length_take, List.length_set]; omega), List.getElem?_eq_none (by rw [List.length_append, List.length_take, List.length_singleton]; omega)]
        rw [ht, List.map_cons, List.append_assoc]
        rfl
    · have hd : h.drop p = [] := List.drop_eq_nil_of_le (by omega)
      rw [if_neg (show ¬ decide ((p : Int) < (h.length : Int)) = true by simp; omega), hd, List.map_nil, List.append_nil, List.take_of_length_le (by omega)]
      rfl
end Go.Arm
namespace Go.Arm
open Go Go.RowKit

theorem mget_mset {β : Type} {l : List (Int × β)} {k k' : Int} {y : β} : mget (mset l k y) k' = if k' = k then some y else mget l k' := by
  unfold mset
  by_cases ha : l.any (fun e => e.1 == k) = true
  · rw [if_pos ha]
    unfold mget
    rw [List.find?_map]
    have hp : ((fun e : Int × β => e.1 == k') ∘ fun e => if e.1 == k then (k, y) else e) = fun e => e.1 == k' := by
      funext e
      simp only [Function.comp]
      split
      · rename_i h
        have h' : e.1 = k := by simpa using h
        show (k == k') = (e.1 == k')
        rw [h']
      · rfl
    rw [hp, Option.map_map]
    by_cases hk : k' = k
    · subst hk
      rw [if_pos rfl]
      obtain ⟨e, he, hek⟩ := List.any_eq_true.1 ha
      cases hf : l.find? (fun e => e.1 == k') with
      | none => exact absurd hek (by simpa using List.find?_eq_none.1 hf e he)
      | some x =>
        have hx := List.find?_some hf
        rw [Option.map_some]
        simp only [Function.comp]
        rw [if_pos hx]
    · rw [if_neg hk]
      cases hf : l.find? (fun e => e.1 == k') with
      | none => rfl
      | some x =>
        have hx : x.1 = k' := by simpa using List.find?_some hf
        rw [Option.map_some, Option.map_some]
        simp only [Function.comp]
        rw [if_neg (by rw [hx]; simpa using hk)]
  · rw [if_neg ha]
    unfold mget
    rw [List.find?_append]
    by_cases hk : k' = k
    · subst hk
      rw [if_pos rfl]
      have : l.find? (fun e => e.1 == k') = none := List.find?_eq_none.2 fun e he h => ha (List.any_eq_true.2 ⟨e, he, h⟩)
      rw [this]
      simp
    · rw [if_neg hk]
      have : ([(k, y)] : List (Int × β)).find? (fun e => e.1 == k') = none := by
        rw [List.find?_cons_of_neg (by simpa using fun h => hk h.symm)]; rfl
      rw [this, Option.or_none]
def isE (k no : Int) (e : Ev) : Bool := decide (e.x.Kind = k) && decide (e.x.No = no)
/-- The first event of a kind with a number. -/
def look (E : List Ev) (k no : Int) : Option Ev := E.find? (isE k no)
def spotOf (e : Ev) : Spot := ⟨(e.p : Int), (e.s : Int)⟩
def spots (E : List Ev) (k no : Int) : NRef Spot := ⟨(look E k no).map spotOf⟩
structure Inv (E : List Ev) (ps : List (Int × Psg)) : Prop where
  keys : (ps.map (·.1)).Nodup
  get : ∀ no, (mget ps no).getD ⟨⟨none⟩, ⟨none⟩⟩ = ⟨spots E 2 no, spots E 3 no⟩
  has : ∀ no, (mget ps no).isSome = ((look E 2 no).isSome || (look E 3 no).isSome)
theorem look_snoc (E : List Ev) (e : Ev) (k no : Int) : look (E ++ [e]) k no = (look E k no).or (if isE k no e then some e else none) := by
  unfold look
  rw [List.find?_append]
  congr 1
  cases h : isE k no e with
  | true => rw [List.find?_cons_of_pos h]; rfl
  | false => rw [List.find?_cons_of_neg (by rw [h]; exact Bool.false_ne_true)]; rfl
theorem isE_kind {k no : Int} {e : Ev} (h : e.x.Kind ≠ k) : isE k no e = false := by unfold isE; rw [decide_eq_false h]; rfl
theorem isE_no {k no : Int} {e : Ev} (h : e.x.No ≠ no) : isE k no e = false := by unfold isE; rw [decide_eq_false h, Bool.and_false]
theorem isE_self {e : Ev} : isE e.x.Kind e.x.No e = true := by unfold isE; simp
def val : List Ev → List Ev → Prop
  | _, [] => True
  | D, e :: R => (saveX e.x = true ∨ (badX e.x = false ∧ look D e.x.Kind e.x.No = none)) ∧ val (D ++ [e]) R
theorem badX_kind {x : Item} (h : badX x = false) : x.Kind = 2 ∨ x.Kind = 3 := by
  unfold badX at h
  simp only [Bool.or_eq_false_iff, Bool.and_eq_false_iff, Bool.not_eq_eq_eq_not, Bool.not_false, decide_eq_true_eq] at h
  exact h.1
theorem saveX_kind {x : Item} (h : saveX x = true) : x.Kind = 1 := by
  unfold saveX at h
  rw [Bool.and_eq_true] at h
  exact of_decide_eq_true h.1
theorem inv_save {D : List Ev} {e : Ev} {ps : List (Int × Psg)} (h : Inv D ps) (hs : e.x.Kind = 1) : Inv (D ++ [e]) ps := by
  have l2 : ∀ no, look (D ++ [e]) 2 no = look D 2 no := fun no => by rw [look_snoc, isE_kind (by omega)]; simp
  have l3 : ∀ no, look (D ++ [e]) 3 no = look D 3 no := fun no => by rw [look_snoc, isE_kind (by omega)]; simp
  refine ⟨h.keys, fun no => ?_, fun no => ?_⟩
  · rw [h.get no]; unfold spots; rw [l2, l3]
  · rw [h.has no, l2, l3]
theorem dup_eq {D : List Ev} {x : Item} {ps : List (Int × Psg)} (h : Inv D ps) (hk : x.Kind = 2 ∨ x.Kind = 3) : dupX ps x = (look D x.Kind x.No).isSome := by
  unfold dupX
  rw [h.get]
  rcases hk with hk | hk
  · rw [hk, if_neg (by decide)]
    show ((look D 2 x.No).map spotOf).isSome = _
    rw [Option.isSome_map]
  · rw [hk, if_pos (by decide)]
    show ((look D 3 x.No).map spotOf).isSome = _
    rw [Option.isSome_map]
theorem inv_put {D : List Ev} {e : Ev} {ps : List (Int × Psg)} (h : Inv D ps) (hk : e.x.Kind = 2 ∨ e.x.Kind = 3) (hn : look D e.x.Kind e.x.No = none) : Inv (D ++ [e]) (putX ps e.x (spotOf e)) := by
  refine ⟨mset_keys _ _ _ h.keys, fun no => ?_, fun no => ?_⟩
  · unfold putX
    rw [mget_mset]
    by_cases hno : no = e.x.No
    · subst hno
      rw [if_pos rfl, Option.getD_some, h.get]
      unfold spots
      rw [look_snoc, look_snoc]
      rcases hk with hk | hk
      · have e3 : isE 3 e.x.No e = false := isE_kind (by omega)
        have e2 : isE 2 e.x.No e = true := by rw [← hk]; exact isE_self
        rw [hk] at hn
        rw [hk, if_neg (by decide), e3, e2, hn]
        simp
      · have e2 : isE 2 e.x.No e = false := isE_kind (by omega)
        have e3 : isE 3 e.x.No e = true := by rw [← hk]; exact isE_self
        rw [hk] at hn
        rw [hk, if_pos (by decide), e3, e2, hn]
        simp
    · rw [if_neg hno, h.get]
      unfold spots
      rw [look_snoc, look_snoc, isE_no (fun h => hno h.symm), isE_no (fun h => hno h.symm)]
      simp
  · unfold putX
    rw [mget_mset, look_snoc, look_snoc]
    by_cases hno : no = e.x.No
    · subst hno
      rw [if_pos rfl]
      rcases hk with hk | hk
      · have e2 : isE 2 e.x.No e = true := by rw [← hk]; exact isE_self
        rw [e2]; simp
      · have e3 : isE 3 e.x.No e = true := by rw [← hk]; exact isE_self
        rw [e3]; simp
    · rw [if_neg hno, h.has, isE_no (fun h => hno h.symm), isE_no (fun h => hno h.symm)]
      simp
theorem fold_spec : ∀ (R D : List Ev) (ps : List (Int × Psg)), Inv D ps → (∃ ps', foldS R ps = some ps' ∧ Inv (D ++ R) ps' ∧ val D R) ∨ (foldS R ps = none ∧ ¬ val D R)
  | [], D, ps, h => .inl ⟨ps, rfl, by rw [List.append_nil]; exact h, trivial⟩
  | e :: R, D, ps, h => by
    have hstep : foldS (e :: R) ps = match stepE ps e with | none => none | some ps' => foldS R ps' := rfl
    have happ : D ++ e :: R = (D ++ [e]) ++ R := by simp
    rw [hstep, stepE_eq, happ]
    by_cases hs : saveX e.x = true
    · rw [hs, if_pos rfl]
      rcases fold_spec R (D ++ [e]) ps (inv_save h (saveX_kind hs)) with ⟨ps', a, b, c⟩ | ⟨a, b⟩
      · exact .inl ⟨ps', a, b, .inl hs, c⟩
      · exact .inr ⟨a, fun x => b x.2⟩
    · have hs' : saveX e.x = false := by simpa using hs
      rw [hs']
      by_cases hb : badX e.x = true
      · rw [hb]
        refine .inr ⟨rfl, fun x => ?_⟩
        rcases x.1 with x | ⟨x, _⟩
        · exact hs x
        · rw [hb] at x; cases x
      · have hb' : badX e.x = false := by simpa using hb
        have hk := badX_kind hb'
        rw [hb', dup_eq h hk]
        cases hl : look D e.x.Kind e.x.No with
        | some z =>
          refine .inr ⟨rfl, fun x => ?_⟩
          rcases x.1 with x | ⟨_, x⟩
          · exact hs x
          · rw [hl] at x; cases x
        | none =>
          rcases fold_spec R (D ++ [e]) (putX ps e.x (spotOf e)) (inv_put h hk hl) with ⟨ps', a, b, c⟩ | ⟨a, b⟩
          · exact .inl ⟨ps', a, b, .inr ⟨hb', hl⟩, c⟩
          · exact .inr ⟨a, fun x => b x.2⟩
end Go.Arm
namespace Go.Arm
open Go Go.RowKit

theorem idx_at {α : Type} {l : List α} {i : Nat} (h : i < l.length) : idx l (i : Int) = some l[i] := by
  show (if (0 : Int) ≤ (i : Int) then l[((i : Int)).toNat]? else none) = _
  rw [if_pos (by omega), Int.toNat_natCast]; exact List.getElem?_eq_getElem h
theorem dlt {a b : Nat} (h : a < b) : decide ((a : Int) < (b : Int)) = true := by simp; exact h
theorem dge {a b : Nat} (h : b ≤ a) : ¬ decide ((a : Int) < (b : Int)) = true := by simp; omega
theorem saves_l {N : Nat} {l : List Item} (hl : l.length ≤ 100000) : ∀ (m i c : Nat), i ≤ l.length → l.length < i + m → c ≤ i → ref14_saves_l1 N l m (c : Int) (i : Int) = some ((c + cnt (l.drop i) : Nat) : Int)
  | 0, i, c, h1, h2, _ => by omega
  | m + 1, i, c, h1, h2, hc => by
    rw [ref14_saves_l1.eq_2]
    by_cases hi : i < l.length
    · have hd : l.drop i = l[i] :: l.drop (i + 1) := List.drop_eq_getElem_cons hi
      rw [if_pos (dlt hi), idx_at hi, Option.bind_some, hd]
      show _ = some ((c + ((if (l[i]).Kind = 1 then 1 else 0) + cnt (l.drop (i + 1))) : Nat) : Int)
      by_cases hk : (l[i]).Kind = 1
      · rw [if_pos (decide_eq_true hk), chk, if_pos (by unfold inR; omega), chk, if_pos (by unfold inR; omega), if_pos hk]
        have := saves_l (N := N) hl m (i + 1) (c + 1) (by omega) (by omega) (by omega)
        refine Eq.trans this ?_
        rw [Nat.add_assoc]
      · rw [if_neg (by simpa using hk), chk, if_pos (by unfold inR; omega), if_neg hk, Nat.zero_add]
        exact saves_l (N := N) hl m (i + 1) c (by omega) (by omega) (by omega)
    · rw [if_neg (dge (by omega)), List.drop_eq_nil_of_le (by omega)]
      rfl
theorem saves_eq {N : Nat} {l : List Item} (hl : l.length ≤ 100000) (hN : 200000 < N) : ref14_saves N l = some (cnt l : Int) := by
  have h : ref14_saves_l1 N l N 0 0 = _ := saves_l (N := N) hl N 0 0 (by omega) (by omega) (by omega)
  unfold ref14_saves
  rw [h, Option.bind_some, Nat.zero_add, List.drop_zero]
theorem before_eq {N : Nat} {l : List Item} {i : Nat} {c : Int} (hl : l.length ≤ 100000) (hi : i ≤ l.length) (hN : 200000 < N) : ref14_before N l (i : Int) c = some (decide ((cnt (l.take i) : Int) < c)) := by
  unfold ref14_before cut
  rw [if_pos ⟨by omega, by omega, by omega⟩, Option.bind_some]
  have : (List.drop (0 : Int).toNat (List.take (i : Int).toNat l)) = l.take i := by rw [Int.toNat_natCast]; rfl
  rw [this, saves_eq (by rw [List.length_take]; omega) hN, Option.bind_some]
/-- Where something is, if anywhere. -/
def placeR (o : Option Ev) : Sum Unit (Int × Int) := match o with
  | none => .inl ()
  | some e => .inr ((e.p : Int), (e.i : Int))
theorem place_l2 {N : Nat} {h : List (List Item)} {p : Nat} (hp : p < h.length) (k no : Int) (hl : h[p].length ≤ 100000) : ∀ (m i s : Nat), i ≤ h[p].length → h[p].length < i + m →
    ref14_place_l2 N h k no (p : Int) m (i : Int) = some (placeR (look (evl p (h[p].drop i) i s) k no))
  | 0, i, s, h1, h2 => by omega
  | m + 1, i, s, h1, h2 => by
    rw [ref14_place_l2.eq_2, idx_at hp, Option.bind_some]
    by_cases hi : i < h[p].length
    · have hd : h[p].drop i = h[p][i] :: h[p].drop (i + 1) := List.drop_eq_getElem_cons hi
      rw [if_pos (dlt hi), Option.bind_some, idx_at hi, Option.bind_some, hd]
      have hlk : look (evl p (h[p][i] :: h[p].drop (i + 1)) i s) k no = if isE k no ⟨p, i, h[p][i], s⟩ then some ⟨p, i, h[p][i], s⟩ else look (evl p (h[p].drop (i + 1)) (i + 1) (if (h[p][i]).Kind = 1 then s + 1 else s)) k no := by
        show List.find? _ (_ :: _) = _
        cases hc : isE k no ⟨p, i, h[p][i], s⟩ with
        | true => rw [List.find?_cons_of_pos hc]; rfl
        | false => rw [List.find?_cons_of_neg (by rw [hc]; exact Bool.false_ne_true)]; rfl
      rw [hlk]
      have hev : isE k no ⟨p, i, h[p][i], s⟩ = (decide ((h[p][i]).Kind = k) && decide ((h[p][i]).No = no)) := rfl
      rw [hev]
      by_cases hk : (h[p][i]).Kind = k
      · rw [if_pos (decide_eq_true hk), Option.bind_some, idx_at hi, Option.bind_some, Option.bind_some, decide_eq_true hk, Bool.true_and]
        dsimp only
        by_cases hno : (h[p][i]).No = no
        · rw [decide_eq_true hno]; rfl
        · rw [decide_eq_false hno, if_neg Bool.false_ne_true, if_neg Bool.false_ne_true, chk, if_pos (by unfold inR; omega)]
          exact place_l2 hp k no hl m (i + 1) _ (by omega) (by omega)
      · rw [if_neg (by simpa using hk), Option.bind_some, decide_eq_false hk, Bool.false_and]
        dsimp only
        rw [if_neg Bool.false_ne_true, if_neg Bool.false_ne_true, chk, if_pos (by unfold inR; omega)]
        exact place_l2 hp k no hl m (i + 1) _ (by omega) (by omega)
    · rw [if_neg (dge (by omega)), List.drop_eq_nil_of_le (by omega)]
      rfl
theorem look_append (a b : List Ev) (k no : Int) : look (a ++ b) k no = (look a k no).or (look b k no) := List.find?_append
theorem place_l1 {N : Nat} {h : List (List Item)} (hh : h.length ≤ 1000) (k no : Int) (hl : ∀ l, l ∈ h → l.length ≤ 100000) (hN : 200000 < N) : ∀ (m p : Nat), p ≤ h.length → h.length < p + m →
    ref14_place_l1 N h k no m (p : Int) = some (placeR (look (evs p (h.drop p)) k no))
  | 0, p, h1, h2 => by omega
  | m + 1, p, h1, h2 => by
    rw [ref14_place_l1.eq_2]
    by_cases hp : p < h.length
    · have hd : h.drop p = h[p] :: h.drop (p + 1) := List.drop_eq_getElem_cons hp
      have hlp := hl _ (List.getElem_mem hp)
      have hI := place_l2 (N := N) hp k no hlp N 0 0 (by omega) (by omega)
      have hI : ref14_place_l2 N h k no (p : Int) N 0 = _ := hI
      rw [if_pos (dlt hp), hI, Option.bind_some, hd]
      show (match placeR (look (evl p (h[p].drop 0) 0 0) k no) with | .inl () => _ | .inr r => some (.inr r)) = some (placeR (look (evl p h[p] 0 0 ++ evs (p + 1) (h.drop (p + 1))) k no))
      rw [look_append, List.drop_zero]
      cases hc : look (evl p h[p] 0 0) k no with
      | some e => rfl
      | none =>
        show chk (inR ((p : Int) + 1)) _ = _
        rw [chk, if_pos (by unfold inR; omega), Option.none_or]
        exact place_l1 hh k no hl hN m (p + 1) (by omega) (by omega)
    · rw [if_neg (dge (by omega)), List.drop_eq_nil_of_le (by omega)]
      rfl
theorem place_eq {N : Nat} {h : List (List Item)} (hh : h.length ≤ 1000) (k no : Int) (hl : ∀ l, l ∈ h → l.length ≤ 100000) (hN : 200000 < N) :
    ref14_place N h k no = some (match look (evs 0 h) k no with | none => (-1, 0) | some e => ((e.p : Int), (e.i : Int))) := by
  have h1 := place_l1 hh k no hl hN N 0 (by omega) (by omega)
  have h1 : ref14_place_l1 N h k no N 0 = _ := h1
  unfold ref14_place
  rw [h1, Option.bind_some, List.drop_zero]
  cases look (evs 0 h) k no <;> rfl
theorem items_l2 {N : Nat} {h : List (List Item)} {p : Nat} (hp : p < h.length) (hl : h[p].length ≤ 100000) : ∀ (m i : Nat), i ≤ h[p].length → h[p].length < i + m →
    law14_items_l2 N h (p : Int) m (h[p].take i) (i : Int) = some h[p]
  | 0, i, h1, h2 => by omega
  | m + 1, i, h1, h2 => by
    have hmax : 2 ^ 60 ≤ maxLen := by decide
    rw [law14_items_l2.eq_2, idx_at hp, Option.bind_some]
    by_cases hi : i < h[p].length
    · have ht : h[p].take i ++ [h[p][i]] = h[p].take (i + 1) := List.take_append_getElem hi
      have hlen : (h[p].take i).length = i := by rw [List.length_take]; omega
      rw [if_pos (dlt hi), Option.bind_some, idx_at hi, Option.bind_some, Option.bind_some, idx_at hi, Option.bind_some, chk, if_pos ⟨by rw [hlen]; simp only [List.length_singleton]; omega, by rw [hlen]; simp only [List.length_singleton]; omega⟩, chk, if_pos (by unfold inR; omega)]
      have he : ([(⟨(h[p][i]).Kind, (h[p][i]).No⟩ : Item)] : List Item) = [h[p][i]] := rfl
      rw [he, ht]
      exact items_l2 hp hl m (i + 1) (by omega) (by omega)
    · rw [if_neg (dge (by omega)), List.take_of_length_le (by omega)]
theorem items_l1 {N : Nat} {h : List (List Item)} (hh : h.length ≤ 1000) (hl : ∀ l, l ∈ h → l.length ≤ 100000) (hN : 200000 < N) : ∀ (m p : Nat), p ≤ h.length → h.length < p + m →
    law14_items_l1 N h m (h.take p) (p : Int) = some h
  | 0, p, h1, h2 => by omega
  | m + 1, p, h1, h2 => by
    have hmax : 2 ^ 60 ≤ maxLen := by decide
    rw [law14_items_l1.eq_2]
    by_cases hp : p < h.length
    · have hlp := hl _ (List.getElem_mem hp)
      have hI := items_l2 (N := N) hp hlp N 0 (by omega) (by omega)
      have hI : law14_items_l2 N h (p : Int) N [] 0 = _ := hI
      have ht : h.take p ++ [h[p]] = h.take (p + 1) := List.take_append_getElem hp
      have hlen : (h.take p).length = p := by rw [List.length_take]; omega
      rw [if_pos (dlt hp), hI, Option.bind_some, chk, if_pos ⟨by rw [hlen]; simp only [List.length_singleton]; omega, by rw [hlen]; simp only [List.length_singleton]; omega⟩, chk, if_pos (by unfold inR; omega), ht]
      exact items_l1 hh hl hN m (p + 1) (by omega) (by omega)
    · rw [if_neg (dge (by omega)), List.take_of_length_le (by omega)]
theorem items_eq {N : Nat} {h : List (List Item)} (hh : h.length ≤ 1000) (hl : ∀ l, l ∈ h → l.length ≤ 100000) (hN : 200000 < N) : law14_items N h = some h := by
  have h1 := items_l1 hh hl hN N 0 (by omega) (by omega)
  have h1 : law14_items_l1 N h N [] 0 = _ := h1
  unfold law14_items
  rw [h1, Option.bind_some]
/-! Where events lie. -/
theorem evl_mem {p : Nat} {e : Ev} : ∀ {l : List Item} {i s : Nat}, e ∈ evl p l i s → ∃ k, ∃ hk : k < l.length, e = ⟨p, i + k, l[k], s + cnt (l.take k)⟩
  | [], i, s, h => by cases h
  | x :: l, i, s, h => by
    rcases List.mem_cons.1 h with rfl | h
    · exact ⟨0, by simp, rfl⟩
    · obtain ⟨k, hk, rfl⟩ := evl_mem h
      refine ⟨k + 1, by simp; omega, ?_⟩
      have h1 : cnt ((x :: l).take (k + 1)) = (if x.Kind = 1 then 1 else 0) + cnt (l.take k) := rfl
      rw [h1]
      have h2 : (if x.Kind = 1 then s + 1 else s) + cnt (l.take k) = s + ((if x.Kind = 1 then 1 else 0) + cnt (l.take k)) := by split <;> omega
      rw [h2, show i + 1 + k = i + (k + 1) by omega]
      rfl
theorem evl_at {p : Nat} : ∀ {l : List Item} {i s k : Nat} (hk : k < l.length), (⟨p, i + k, l[k], s + cnt (l.take k)⟩ : Ev) ∈ evl p l i s
  | x :: l, i, s, 0, _ => List.mem_cons_self ..
  | x :: l, i, s, k + 1, hk => by
    refine List.mem_cons_of_mem _ ?_
    have := evl_at (p := p) (l := l) (i := i + 1) (s := if x.Kind = 1 then s + 1 else s) (k := k) (by simpa using hk)
    have h1 : cnt ((x :: l).take (k + 1)) = (if x.Kind = 1 then 1 else 0) + cnt (l.take k) := rfl
    have h2 : (if x.Kind = 1 then s + 1 else s) + cnt (l.take k) = s + ((if x.Kind = 1 then 1 else 0) + cnt (l.take k)) := by split <;> omega
    rw [h2, show i + 1 + k = i + (k + 1) by omega] at this
    rw [h1]
    exact this
theorem evs_mem {e : Ev} : ∀ {h : List (List Item)} {p : Nat}, e ∈ evs p h → ∃ j, ∃ hj : j < h.length, ∃ k, ∃ hk : k < h[j].length, e = ⟨p + j, k, h[j][k], cnt (h[j].take k)⟩
  | [], p, he => by cases he
  | l :: h, p, he => by
    rcases List.mem_append.1 he with he | he
    · obtain ⟨k, hk, rfl⟩ := evl_mem he
      exact ⟨0, by simp, k, hk, by rw [Nat.zero_add, Nat.zero_add]; rfl⟩
    · obtain ⟨j, hj, k, hk, rfl⟩ := evs_mem he
      exact ⟨j + 1, by simp; omega, k, hk, by rw [show p + 1 + j = p + (j + 1) by omega]; rfl⟩
theorem evs_at : ∀ {h : List (List Item)} {p j k : Nat} (hj : j < h.length) (hk : k < h[j].length), (⟨p + j, k, h[j][k], cnt (h[j].take k)⟩ : Ev) ∈ evs p h
  | l :: h, p, 0, k, hj, hk => by
    refine List.mem_append_left _ ?_
    have := evl_at (p := p) (l := l) (i := 0) (s := 0) hk
    rw [Nat.zero_add, Nat.zero_add] at this
    exact this
  | l :: h, p, j + 1, k, hj, hk => by
    refine List.mem_append_right _ ?_
    have := evs_at (h := h) (p := p + 1) (j := j) (k := k) (by simpa using hj) hk
    rw [show p + 1 + j = p + (j + 1) by omega] at this
    exact this
end Go.Arm
namespace Go.Arm
open Go Go.RowKit

theorem evl_nodup {p : Nat} : ∀ {l : List Item} {i s : Nat}, (evl p l i s).Nodup
  | [], _, _ => List.nodup_nil
  | x :: l, i, s => by
    refine List.nodup_cons.2 ⟨fun h => ?_, evl_nodup⟩
    obtain ⟨k, hk, he⟩ := evl_mem h
    have := congrArg Ev.i he
    simp only at this
    omega
theorem evs_nodup : ∀ {h : List (List Item)} {p : Nat}, (evs p h).Nodup
  | [], _ => List.nodup_nil
  | l :: h, p => by
    refine List.nodup_append.2 ⟨evl_nodup, evs_nodup, fun a ha b hb e => ?_⟩
    subst e
    obtain ⟨k, hk, he⟩ := evl_mem ha
    obtain ⟨j, hj, k', hk', he'⟩ := evs_mem hb
    have h1 := congrArg Ev.p he
    have h2 := congrArg Ev.p he'
    simp only at h1 h2
    omega
/-- What is asked of an event. -/
def okE (E : List Ev) (e : Ev) : Prop := saveX e.x = true ∨ (badX e.x = false ∧ look E e.x.Kind e.x.No = some e)
theorem look_cons_self (e : Ev) (R : List Ev) : look (e :: R) e.x.Kind e.x.No = some e := List.find?_cons_of_pos isE_self
theorem look_mem {E : List Ev} {k no : Int} {e : Ev} (h : look E k no = some e) : e ∈ E ∧ e.x.Kind = k ∧ e.x.No = no := by
  refine ⟨List.mem_of_find?_eq_some h, ?_⟩
  have := List.find?_some h
  unfold isE at this
  rw [Bool.and_eq_true] at this
  exact ⟨of_decide_eq_true this.1, of_decide_eq_true this.2⟩
theorem val_all : ∀ (R D : List Ev), (D ++ R).Nodup → (val D R ↔ ∀ e, e ∈ R → okE (D ++ R) e)
  | [], D, _ => ⟨(fun _ e he => by cases he), fun _ => trivial⟩
  | e :: R, D, hn => by
    have happ : D ++ e :: R = (D ++ [e]) ++ R := by simp
    have ih := val_all R (D ++ [e]) (by rw [← happ]; exact hn)
    have hl : look (D ++ e :: R) e.x.Kind e.x.No = (look D e.x.Kind e.x.No).or (some e) := by rw [look_append, look_cons_self]
    refine ⟨fun h e' he' => ?_, fun h => ⟨?_, ?_⟩⟩
    · rcases List.mem_cons.1 he' with rfl | he'
      · rcases h.1 with h1 | ⟨h1, h2⟩
        · exact .inl h1
        · refine .inr ⟨h1, ?_⟩
          rw [hl, h2]; rfl
      · rw [happ]
        exact ih.1 h.2 e' he'
    · rcases h e (List.mem_cons_self ..) with h1 | ⟨h1, h2⟩
      · exact .inl h1
      · refine .inr ⟨h1, ?_⟩
        cases hd : look D e.x.Kind e.x.No with
        | none => rfl
        | some z =>
          rw [hl, hd] at h2
          have hz : z = e := by simpa using h2
          subst hz
          have := (List.nodup_append.1 hn).2.2 z (look_mem hd).1 z (List.mem_cons_self ..)
          exact absurd rfl this
    · refine ih.2 fun e' he' => ?_
      rw [← happ]
      exact h e' (List.mem_cons_of_mem _ he')
theorem condI (x : Item) : (if decide (x.Kind < 1) then
  (some (true))
  else
  (if decide (3 < x.Kind) then
  (some (true))
  else
  (if decide (x.Kind = 1) then
  (if !decide (x.No = 0) then
  (some (true))
  else
  (some (decide (x.No < 0))))
  else
  (some (decide (x.No < 0)))))) = some (!(saveX x || !badX x)) := by
  unfold saveX badX
  by_cases h1 : x.Kind < 1
  · rw [if_pos (decide_eq_true h1), decide_eq_false (show ¬ x.Kind = 1 by omega), decide_eq_false (show ¬ x.Kind = 2 by omega), decide_eq_false (show ¬ x.Kind = 3 by omega)]; rfl
  · rw [if_neg (by simpa using h1)]
    by_cases h2 : 3 < x.Kind
    · rw [if_pos (decide_eq_true h2), decide_eq_false (show ¬ x.Kind = 1 by omega), decide_eq_false (show ¬ x.Kind = 2 by omega), decide_eq_false (show ¬ x.Kind = 3 by omega)]; rfl
    · rw [if_neg (by simpa using h2)]
      by_cases h3 : x.Kind = 1
      · rw [if_pos (decide_eq_true h3), decide_eq_true h3, decide_eq_false (show ¬ x.Kind = 2 by omega), decide_eq_false (show ¬ x.Kind = 3 by omega)]
        by_cases h4 : x.No = 0
        · rw [decide_eq_true h4, decide_eq_false (show ¬ x.No < 0 by omega)]; rfl
        · rw [decide_eq_false h4]; rfl
      · rw [if_neg (by simpa using h3), decide_eq_false h3]
        have h5 : ((!decide (x.Kind = 2)) && (!decide (x.Kind = 3))) = false := by
          by_cases h6 : x.Kind = 2
          · rw [decide_eq_true h6]; rfl
          · rw [decide_eq_true (show x.Kind = 3 by omega), Bool.and_comm]; rfl
        rw [h5]
        simp
/-- The event at a place. -/
def evt (h : List (List Item)) (p i : Nat) (hp : p < h.length) (hi : i < h[p].length) : Ev := ⟨p, i, h[p][i], cnt (h[p].take i)⟩
theorem evt_mem {h : List (List Item)} {p i : Nat} (hp : p < h.length) (hi : i < h[p].length) : evt h p i hp hi ∈ evs 0 h := by
  have := evs_at (h := h) (p := 0) hp hi
  rw [Nat.zero_add] at this
  exact this
theorem evt_of {h : List (List Item)} {e : Ev} (he : e ∈ evs 0 h) : ∃ p i, ∃ (hp : p < h.length) (hi : i < h[p].length), e = evt h p i hp hi := by
  obtain ⟨j, hj, k, hk, rfl⟩ := evs_mem he
  exact ⟨j, k, hj, hk, by rw [Nat.zero_add]; rfl⟩
theorem evt_inj {h : List (List Item)} {e : Ev} {p i : Nat} (hp : p < h.length) (hi : i < h[p].length) (he : e ∈ evs 0 h) (h1 : e.p = p) (h2 : e.i = i) : e = evt h p i hp hi := by
  obtain ⟨p', i', hp', hi', rfl⟩ := evt_of he
  obtain rfl : p' = p := h1
  obtain rfl : i' = i := h2
  rfl
theorem place_ex {N : Nat} {h : List (List Item)} (hh : h.length ≤ 1000) (k no : Int) (hl : ∀ l, l ∈ h → l.length ≤ 100000) (hN : 200000 < N) :
    ∃ pl : Int × Int, ref14_place N h k no = some pl ∧ ((look (evs 0 h) k no = none ∧ pl.1 = -1) ∨ ∃ e, look (evs 0 h) k no = some e ∧ pl.1 = (e.p : Int) ∧ pl.2 = (e.i : Int)) := by
  refine ⟨_, place_eq hh k no hl hN, ?_⟩
  cases h1 : look (evs 0 h) k no with
  | none => exact .inl ⟨rfl, rfl⟩
  | some e => exact .inr ⟨e, rfl, rfl, rfl⟩
theorem hist_l3 {N : Nat} {h : List (List Item)} (hh : h.length ≤ 1000) (hl : ∀ l, l ∈ h → l.length ≤ 100000) (hN : 200000 < N) {p : Nat} (hp : p < h.length) : ∀ (m i : Nat), i ≤ h[p].length → h[p].length < i + m →
    ((∀ k (hk : k < h[p].length), i ≤ k → okE (evs 0 h) (evt h p k hp hk)) ∧ ref14_history_l3 N h (p : Int) m (i : Int) = some (.inl ())) ∨ ((∃ e, e ∈ evs 0 h ∧ ¬ okE (evs 0 h) e) ∧ ref14_history_l3 N h (p : Int) m (i : Int) = some (.inr 2))
  | 0, i, h1, h2 => by omega
  | m + 1, i, h1, h2 => by
    have hlp := hl _ (List.getElem_mem hp)
    rw [ref14_history_l3.eq_2, idx_at hp, Option.bind_some]
    by_cases hi : i < h[p].length
    · rw [if_pos (dlt hi), Option.bind_some, idx_at hi, Option.bind_some, condI, Option.bind_some]
      dsimp only
      by_cases hok : (saveX h[p][i] || !badX h[p][i]) = true
      · obtain ⟨pl, hpl, hcase⟩ := place_ex hh (h[p][i]).Kind (h[p][i]).No hl hN
        rw [hok, if_neg (by decide), hpl, Option.bind_some]
        have step : ∀ (hE : okE (evs 0 h) (evt h p i hp hi)), ((∀ k (hk : k < h[p].length), i ≤ k → okE (evs 0 h) (evt h p k hp hk)) ∧ (chk (inR ((i : Int) + 1)) <| ref14_history_l3 N h (p : Int) m ((i : Int) + 1)) = some (.inl ())) ∨ ((∃ e, e ∈ evs 0 h ∧ ¬ okE (evs 0 h) e) ∧ (chk (inR ((i : Int) + 1)) <| ref14_history_l3 N h (p : Int) m ((i : Int) + 1)) = some (.inr 2)) := fun hE => by
          rw [chk, if_pos (by unfold inR; omega)]
          rcases hist_l3 hh hl hN hp m (i + 1) (by omega) (by omega) with ⟨a, b⟩ | ⟨a, b⟩
          · refine .inl ⟨fun k hk hik => ?_, b⟩
            by_cases e : k = i
            · subst e; exact hE
            · exact a k hk (by omega)
          · exact .inr ⟨a, b⟩
        by_cases hk : (h[p][i]).Kind = 1
        · have hs : saveX h[p][i] = true := by
            rw [Bool.or_eq_true] at hok
            rcases hok with h3 | h3
            · exact h3
            · rw [Bool.not_eq_true'] at h3
              rcases badX_kind h3 with h4 | h4 <;> omega
          rw [if_neg (show ¬ ((!decide ((h[p][i]).Kind = 1)) = true) by simp [hk]), Option.bind_some]
          try dsimp only
          rw [if_neg Bool.false_ne_true]
          exact step (.inl hs)
        · have hb : badX h[p][i] = false := by
            rw [Bool.or_eq_true] at hok
            rcases hok with h3 | h3
            · exact absurd (saveX_kind h3) hk
            · simpa using h3
          rw [if_pos (show (!decide ((h[p][i]).Kind = 1)) = true by simp [hk])]
          rcases hcase with ⟨hlk, _⟩ | ⟨e, hlk, hp1, hp2⟩
          · exfalso
            have := List.find?_eq_none.1 hlk _ (evt_mem hp hi)
            exact this isE_self
          · have hem := (look_mem hlk).1
            by_cases h3 : e.p = p
            · rw [if_neg (show ¬ ((!decide (pl.1 = (p : Int))) = true) by rw [hp1]; simp [h3])]
              by_cases h4 : e.i = i
              · have he := evt_inj hp hi hem h3 h4
                rw [decide_eq_true (show pl.2 = (i : Int) by rw [hp2, h4]), Option.bind_some]
                try dsimp only
                rw [if_neg (by decide)]
                have hlk2 : look (evs 0 h) (evt h p i hp hi).x.Kind (evt h p i hp hi).x.No = some (evt h p i hp hi) := by rw [← he]; rw [he]; exact hlk.trans (by rw [he])
                exact step (.inr ⟨hb, hlk2⟩)
              · rw [decide_eq_false (show ¬ (pl.2 = (i : Int)) by omega), Option.bind_some]
                refine .inr ⟨⟨_, evt_mem hp hi, fun hE => ?_⟩, rfl⟩
                rcases hE with hE | ⟨_, hE⟩
                · exact hk (saveX_kind hE)
                · have : some e = some (evt h p i hp hi) := hlk.symm.trans hE
                  cases this
                  exact h4 rfl
            · rw [if_pos (show (!decide (pl.1 = (p : Int))) = true by rw [hp1]; simp; omega), Option.bind_some]
              refine .inr ⟨⟨_, evt_mem hp hi, fun hE => ?_⟩, rfl⟩
              rcases hE with hE | ⟨_, hE⟩
              · exact hk (saveX_kind hE)
              · have : some e = some (evt h p i hp hi) := hlk.symm.trans hE
                cases this
                exact h3 rfl
      · have hok' : (saveX h[p][i] || !badX h[p][i]) = false := by simpa using hok
        rw [hok']
        refine .inr ⟨⟨_, evt_mem hp hi, fun hE => ?_⟩, rfl⟩
        rw [Bool.or_eq_false_iff] at hok'
        rcases hE with hE | ⟨hE, _⟩
        · have : saveX h[p][i] = true := hE
          rw [this] at hok'; cases hok'.1
        · have : badX h[p][i] = false := hE
          rw [this] at hok'; cases hok'.2
    · rw [if_neg (dge (by omega))]
      exact .inl ⟨fun k hk hik => by omega, rfl⟩
theorem hist_l2 {N : Nat} {h : List (List Item)} (hh : h.length ≤ 1000) (hl : ∀ l, l ∈ h → l.length ≤ 100000) (hN : 200000 < N) : ∀ (m p : Nat), p ≤ h.length → h.length < p + m →
    ((∀ j k (hj : j < h.length) (hk : k < h[j].length), p ≤ j → okE (evs 0 h) (evt h j k hj hk)) ∧ ref14_history_l2 N h m (p : Int) = some (.inl ())) ∨ ((∃ e, e ∈ evs 0 h ∧ ¬ okE (evs 0 h) e) ∧ ref14_history_l2 N h m (p : Int) = some (.inr 2))
  | 0, p, h1, h2 => by omega
  | m + 1, p, h1, h2 => by
    rw [ref14_history_l2.eq_2]
    by_cases hp : p < h.length
    · have hlp := hl _ (List.getElem_mem hp)
      rw [if_pos (dlt hp)]
      rcases hist_l3 hh hl hN hp N 0 (by omega) (by omega) with ⟨a, b⟩ | ⟨a, b⟩
      · have b : ref14_history_l3 N h (p : Int) N 0 = _ := b
        rw [b, Option.bind_some]
        dsimp only
        rw [chk, if_pos (by unfold inR; omega)]
        rcases hist_l2 hh hl hN m (p + 1) (by omega) (by omega) with ⟨c, d⟩ | ⟨c, d⟩
        · refine .inl ⟨fun j k hj hk hjp => ?_, d⟩
          by_cases e : j = p
          · subst e; exact a k hk (by omega)
          · exact c j k hj hk (by omega)
        · exact .inr ⟨c, d⟩
      · have b : ref14_history_l3 N h (p : Int) N 0 = _ := b
        rw [b, Option.bind_some]
        exact .inr ⟨a, rfl⟩
    · rw [if_neg (dge (by omega))]
      exact .inl ⟨fun j k hj hk hjp => by omega, rfl⟩
end Go.Arm
namespace Go.Arm
open Go Go.RowKit

/-- What is asked of a message that was received. -/
def okR (E : List Ev) (e : Ev) : Prop := e.x.Kind = 3 → ∃ z, look E 2 e.x.No = some z ∧ z.p ≠ e.p
theorem hist_l5 {N : Nat} {h : List (List Item)} (hh : h.length ≤ 1000) (hl : ∀ l, l ∈ h → l.length ≤ 100000) (hN : 200000 < N) {p : Nat} (hp : p < h.length) : ∀ (m i : Nat), i ≤ h[p].length → h[p].length < i + m →
    ((∀ k (hk : k < h[p].length), i ≤ k → okR (evs 0 h) (evt h p k hp hk)) ∧ ref14_history_l5 N h (p : Int) m (i : Int) = some (.inl ())) ∨ ((∃ e, e ∈ evs 0 h ∧ ¬ okR (evs 0 h) e) ∧ ref14_history_l5 N h (p : Int) m (i : Int) = some (.inr 2))
  | 0, i, h1, h2 => by omega
  | m + 1, i, h1, h2 => by
    have hlp := hl _ (List.getElem_mem hp)
    rw [ref14_history_l5.eq_2, idx_at hp, Option.bind_some]
    by_cases hi : i < h[p].length
    · rw [if_pos (dlt hi), Option.bind_some, idx_at hi, Option.bind_some]
      have step : ∀ (hE : okR (evs 0 h) (evt h p i hp hi)), ((∀ k (hk : k < h[p].length), i ≤ k → okR (evs 0 h) (evt h p k hp hk)) ∧ (chk (inR ((i : Int) + 1)) <| ref14_history_l5 N h (p : Int) m ((i : Int) + 1)) = some (.inl ())) ∨ ((∃ e, e ∈ evs 0 h ∧ ¬ okR (evs 0 h) e) ∧ (chk (inR ((i : Int) + 1)) <| ref14_history_l5 N h (p : Int) m ((i : Int) + 1)) = some (.inr 2)) := fun hE => by
        rw [chk, if_pos (by unfold inR; omega)]
        rcases hist_l5 hh hl hN hp m (i + 1) (by omega) (by omega) with ⟨a, b⟩ | ⟨a, b⟩
        · refine .inl ⟨fun k hk hik => ?_, b⟩
          by_cases e : k = i
          · subst e; exact hE
          · exact a k hk (by omega)
        · exact .inr ⟨a, b⟩
      by_cases hk : (h[p][i]).Kind = 3
      · obtain ⟨pl, hpl, hcase⟩ := place_ex hh 2 (h[p][i]).No hl hN
        rw [if_pos (decide_eq_true hk), Option.bind_some, idx_at hi, Option.bind_some, hpl, Option.bind_some]
        rcases hcase with ⟨hlk, hp1⟩ | ⟨e, hlk, hp1, _⟩
        · rw [if_pos (decide_eq_true (show pl.1 < 0 by omega)), Option.bind_some]
          refine .inr ⟨⟨_, evt_mem hp hi, fun hE => ?_⟩, rfl⟩
          obtain ⟨z, hz, _⟩ := hE hk
          have hz : look (evs 0 h) 2 (h[p][i]).No = some z := hz
          rw [hlk] at hz; cases hz
        · rw [if_neg (by simp; omega), Option.bind_some]
          by_cases h3 : e.p = p
          · rw [decide_eq_true (show pl.1 = (p : Int) by rw [hp1, h3])]
            refine .inr ⟨⟨_, evt_mem hp hi, fun hE => ?_⟩, rfl⟩
            obtain ⟨z, hz, hne⟩ := hE hk
            have hz : look (evs 0 h) 2 (h[p][i]).No = some z := hz
            rw [hlk] at hz; cases hz
            exact hne h3
          · rw [decide_eq_false (show ¬ pl.1 = (p : Int) by omega), if_neg Bool.false_ne_true]
            exact step fun _ => ⟨e, hlk, h3⟩
      · rw [if_neg (by simpa using hk)]
        exact step fun h3 => absurd h3 hk
    · rw [if_neg (dge (by omega))]
      exact .inl ⟨fun k hk hik => by omega, rfl⟩
theorem hist_l4 {N : Nat} {h : List (List Item)} (hh : h.length ≤ 1000) (hl : ∀ l, l ∈ h → l.length ≤ 100000) (hN : 200000 < N) : ∀ (m p : Nat), p ≤ h.length → h.length < p + m →
    ((∀ j k (hj : j < h.length) (hk : k < h[j].length), p ≤ j → okR (evs 0 h) (evt h j k hj hk)) ∧ ref14_history_l4 N h m (p : Int) = some (.inl ())) ∨ ((∃ e, e ∈ evs 0 h ∧ ¬ okR (evs 0 h) e) ∧ ref14_history_l4 N h m (p : Int) = some (.inr 2))
  | 0, p, h1, h2 => by omega
  | m + 1, p, h1, h2 => by
    rw [ref14_history_l4.eq_2]
    by_cases hp : p < h.length
    · have hlp := hl _ (List.getElem_mem hp)
      rw [if_pos (dlt hp)]
      rcases hist_l5 hh hl hN hp N 0 (by omega) (by omega) with ⟨a, b⟩ | ⟨a, b⟩
      · have b : ref14_history_l5 N h (p : Int) N 0 = _ := b
        rw [b, Option.bind_some]
        dsimp only
        rw [chk, if_pos (by unfold inR; omega)]
        rcases hist_l4 hh hl hN m (p + 1) (by omega) (by omega) with ⟨c, d⟩ | ⟨c, d⟩
        · refine .inl ⟨fun j k hj hk hjp => ?_, d⟩
          by_cases e : j = p
          · subst e; exact a k hk (by omega)
          · exact c j k hj hk (by omega)
        · exact .inr ⟨c, d⟩
      · have b : ref14_history_l5 N h (p : Int) N 0 = _ := b
        rw [b, Option.bind_some]
        exact .inr ⟨a, rfl⟩
    · rw [if_neg (dge (by omega))]
      exact .inl ⟨fun j k hj hk hjp => by omega, rfl⟩
theorem hist_l1 {N : Nat} {h : List (List Item)} (hh : h.length ≤ 1000) : ∀ (m p : Nat), p ≤ h.length → h.length < p + m →
    ((∀ j (hj : j < h.length), p ≤ j → h[j].length ≤ 100) ∧ ref14_history_l1 N h m (p : Int) = some (.inl ())) ∨ ((∃ l, l ∈ h ∧ 100 < l.length) ∧ ref14_history_l1 N h m (p : Int) = some (.inr 9))
  | 0, p, h1, h2 => by omega
  | m + 1, p, h1, h2 => by
    rw [ref14_history_l1.eq_2]
    by_cases hp : p < h.length
    · rw [if_pos (dlt hp), idx_at hp, Option.bind_some]
      by_cases hlp : 100 < h[p].length
      · rw [if_pos (by simp; omega)]
        exact .inr ⟨⟨_, List.getElem_mem hp, hlp⟩, rfl⟩
      · rw [if_neg (by simp; omega), chk, if_pos (by unfold inR; omega)]
        rcases hist_l1 hh m (p + 1) (by omega) (by omega) with ⟨c, d⟩ | ⟨c, d⟩
        · refine .inl ⟨fun j hj hjp => ?_, d⟩
          by_cases e : j = p
          · subst e; omega
          · exact c j hj (by omega)
        · exact .inr ⟨c, d⟩
    · rw [if_neg (dge (by omega))]
      exact .inl ⟨fun j hj hjp => by omega, rfl⟩
theorem cont_l {N : Nat} {h : List (List Item)} (hh : h.length ≤ 1000) : ∀ (m p : Nat), p ≤ h.length → h.length < p + m →
    ((∀ j (hj : j < h.length), p ≤ j → h[j].length ≤ 100) ∧ slices_IndexFunc_LLcheck_Item_Lcheck_Item_l1 N h (check_passages_1 N) m (p : Int) = some (.inl ())) ∨ ((∃ l, l ∈ h ∧ 100 < l.length) ∧ ∃ j : Nat, slices_IndexFunc_LLcheck_Item_Lcheck_Item_l1 N h (check_passages_1 N) m (p : Int) = some (.inr (j : Int)))
  | 0, p, h1, h2 => by omega
  | m + 1, p, h1, h2 => by
    rw [slices_IndexFunc_LLcheck_Item_Lcheck_Item_l1.eq_2]
    by_cases hp : p < h.length
    · have h1 : check_passages_1 N h[p] = some (decide (100 < (h[p].length : Int))) := rfl
      rw [if_pos (dlt hp), idx_at hp, Option.bind_some, h1, Option.bind_some]
      by_cases hlp : 100 < h[p].length
      · rw [if_pos (by simp; omega)]
        exact .inr ⟨⟨_, List.getElem_mem hp, hlp⟩, p, rfl⟩
      · rw [if_neg (by simp; omega), chk, if_pos (by unfold inR; omega)]
        rcases cont_l hh m (p + 1) (by omega) (by omega) with ⟨c, d⟩ | ⟨c, d⟩
        · refine .inl ⟨fun j hj hjp => ?_, d⟩
          by_cases e : j = p
          · subst e; omega
          · exact c j hj (by omega)
        · exact .inr ⟨c, d⟩
    · rw [if_neg (dge (by omega))]
      exact .inl ⟨fun j hj hjp => by omega, rfl⟩
theorem cont_eq {N : Nat} {h : List (List Item)} (hh : h.length ≤ 1000) (hN : 200000 < N) : ((∀ l, l ∈ h → l.length ≤ 100) ∧ slices_ContainsFunc_LLcheck_Item_Lcheck_Item N h (check_passages_1 N) = some false) ∨ ((∃ l, l ∈ h ∧ 100 < l.length) ∧ slices_ContainsFunc_LLcheck_Item_Lcheck_Item N h (check_passages_1 N) = some true) := by
  rcases cont_l hh N 0 (by omega) (by omega) with ⟨a, b⟩ | ⟨a, j, b⟩
  · have b : slices_IndexFunc_LLcheck_Item_Lcheck_Item_l1 N h (check_passages_1 N) N 0 = _ := b
    refine .inl ⟨fun l hl => ?_, ?_⟩
    · obtain ⟨j, hj, rfl⟩ := List.getElem_of_mem hl
      exact a j hj (by omega)
    · unfold slices_ContainsFunc_LLcheck_Item_Lcheck_Item slices_IndexFunc_LLcheck_Item_Lcheck_Item
      rw [b]; rfl
  · have b : slices_IndexFunc_LLcheck_Item_Lcheck_Item_l1 N h (check_passages_1 N) N 0 = _ := b
    refine .inr ⟨a, ?_⟩
    unfold slices_ContainsFunc_LLcheck_Item_Lcheck_Item slices_IndexFunc_LLcheck_Item_Lcheck_Item
    rw [b]
    show some (decide ((0 : Int) ≤ (j : Int))) = some true
    rw [decide_eq_true (by omega)]
theorem mget_of_mem {β : Type} {l : List (Int × β)} {k : Int} {y : β} (hn : (l.map (·.1)).Nodup) (h : (k, y) ∈ l) : mget l k = some y := by
  cases hg : mget l k with
  | none =>
    have := List.any_eq_false.1 (mget_none hg) _ h
    simp at this
  | some z =>
    have := nodup_inj (g := fun e : Int × β => e.1) hn (mget_mem hg) h rfl
    cases this; rfl
theorem inv_mem {E : List Ev} {ps : List (Int × Psg)} (hi : Inv E ps) {no : Int} {m : Psg} (h : (no, m) ∈ ps) : m = ⟨spots E 2 no, spots E 3 no⟩ := by
  have h1 := hi.get no
  rw [mget_of_mem hi.keys h] at h1
  exact h1
theorem bad_iff {E : List Ev} {ps : List (Int × Psg)} (hi : Inv E ps) (hok : ∀ e, e ∈ E → okE E e) : (ps.any fun e => badP e.2) = true ↔ ∃ e, e ∈ E ∧ ¬ okR E e := by
  rw [List.any_eq_true]
  constructor
  · rintro ⟨⟨no, m⟩, hm, hb⟩
    have hb : badP m = true := hb
    rw [inv_mem hi hm] at hb
    unfold badP spots at hb
    cases h3 : look E 3 no with
    | none => rw [h3] at hb; cases hb
    | some e =>
      obtain ⟨he, hk, hno⟩ := look_mem h3
      refine ⟨e, he, fun hR => ?_⟩
      obtain ⟨z, hz, hne⟩ := hR hk
      rw [hno] at hz
      rw [h3, hz] at hb
      have : decide ((z.p : Int) = (e.p : Int)) = true := hb
      have := of_decide_eq_true this
      omega
  · rintro ⟨e, he, hR⟩
    have hk : e.x.Kind = 3 := Classical.byContradiction fun hk => hR fun h3 => absurd h3 hk
    have h3 : look E 3 e.x.No = some e := by
      rcases hok e he with h | ⟨_, h⟩
      · have := saveX_kind h; omega
      · rw [hk] at h; exact h
    have hs := hi.has e.x.No
    rw [h3] at hs
    cases hg : mget ps e.x.No with
    | none => rw [hg] at hs; simp at hs
    | some m =>
      refine ⟨(e.x.No, m), mget_mem hg, ?_⟩
      show badP m = true
      rw [inv_mem hi (mget_mem hg)]
      unfold badP spots
      rw [h3]
      cases h2 : look E 2 e.x.No with
      | none => rfl
      | some z =>
        show decide ((z.p : Int) = (e.p : Int)) = true
        refine decide_eq_true ?_
        refine Classical.byContradiction fun hne => hR fun _ => ⟨z, h2, fun h => hne (by rw [h])⟩
end Go.Arm
namespace Go.Arm
open Go Go.RowKit

theorem mset_len {β : Type} (l : List (Int × β)) (k : Int) (y : β) : (mset l k y).length ≤ l.length + 1 := by
  unfold mset
  split
  · rw [List.length_map]; omega
  · rw [List.length_append]; simp
theorem fold_len : ∀ {R : List Ev} {ps ps' : List (Int × Psg)}, foldS R ps = some ps' → ps'.length ≤ ps.length + R.length
  | [], ps, ps', h => by cases h; simp
  | e :: R, ps, ps', h => by
    have hstep : foldS (e :: R) ps = match stepE ps e with | none => none | some ps' => foldS R ps' := rfl
    rw [hstep] at h
    cases hs : stepE ps e with
    | none => rw [hs] at h; cases h
    | some q =>
      rw [hs] at h
      have h1 := fold_len (R := R) h
      have h2 : q.length ≤ ps.length + 1 := by
        rw [stepE_eq] at hs
        split at hs
        · cases hs; omega
        · split at hs
          · cases hs
          · split at hs
            · cases hs
            · cases hs; exact mset_len _ _ _
      rw [List.length_cons]; omega
theorem evl_len {p : Nat} : ∀ {l : List Item} {i s : Nat}, (evl p l i s).length = l.length
  | [], _, _ => rfl
  | x :: l, i, s => by show (evl p l _ _).length + 1 = l.length + 1; rw [evl_len]
theorem evs_len : ∀ {h : List (List Item)} {p : Nat}, (∀ l, l ∈ h → l.length ≤ 100) → (evs p h).length ≤ 100 * h.length
  | [], _, _ => by simp [evs]
  | l :: h, p, hl => by
    have h1 := evs_len (h := h) (p := p + 1) fun l' hl' => hl l' (List.mem_cons_of_mem _ hl')
    have h2 := hl l (List.mem_cons_self ..)
    show (evl p l 0 0 ++ evs (p + 1) h).length ≤ 100 * (h.length + 1)
    rw [List.length_append, evl_len]; omega
/-- A good history. -/
structure Good2 (h : List (List Item)) (ps : List (Int × Psg)) : Prop where
  inv : Inv (evs 0 h) ps
  ok : ∀ e, e ∈ evs 0 h → okE (evs 0 h) e
  okr : ∀ e, e ∈ evs 0 h → okR (evs 0 h) e
  le : ∀ l, l ∈ h → l.length ≤ 100
  few : h.length ≤ 64
  len : ps.length ≤ 6400
theorem pass_hist {N : Nat} {h : List (List Item)} (hh : h.length ≤ 1000) (hl : ∀ l, l ∈ h → l.length ≤ 100000) (hN : 200000 < N) :
    (∃ ps, check_passages N h = some (ps, h.map (fun l => (cnt l : Int)), 0) ∧ ref14_history N h = some 0 ∧ Good2 h ps) ∨ (∃ er, er ≠ 0 ∧ check_passages N h = some ([], [], er) ∧ ref14_history N h = some er) := by
  unfold check_passages ref14_history
  by_cases h1 : h.length < 1
  · rw [if_pos (decide_eq_true (show (h.length : Int) < 1 by omega)), Option.bind_some, Option.bind_some]
    exact .inr ⟨3, by decide, rfl, rfl⟩
  rw [if_neg (show ¬ decide ((h.length : Int) < 1) = true by simp; omega), Option.bind_some, Option.bind_some]
  by_cases h2 : 64 < h.length
  · rw [decide_eq_true (show (64 : Int) < (h.length : Int) by omega)]
    exact .inr ⟨3, by decide, rfl, rfl⟩
  rw [decide_eq_false (show ¬ (64 : Int) < (h.length : Int) by omega)]
  rw [if_neg Bool.false_ne_true]
  have hI := psgP_eq hN hh hl N 0 [] (List.replicate h.length 0) (by omega) (by omega) (by simp) (fun j _ hj => by rw [List.getElem?_replicate, if_pos hj])
  have hI : psgP N h N 0 [] (List.replicate h.length 0) = _ := hI
  rw [List.take_zero, List.nil_append, List.drop_zero] at hI
  rcases hist_l1 (N := N) hh N 0 (by omega) (by omega) with ⟨a1, b1⟩ | ⟨a1, b1⟩
  case inr =>
    have b1 : ref14_history_l1 N h N 0 = _ := b1
    rcases cont_eq (N := N) hh hN with ⟨c, _⟩ | ⟨_, d⟩
    · obtain ⟨l, hl1, hl2⟩ := a1
      have := c l hl1
      omega
    · rw [d, Option.bind_some, if_pos rfl]
      refine .inr ⟨9, by decide, rfl, ?_⟩
      show (if false = true then _ else _) = _
      rw [if_neg Bool.false_ne_true, b1]; rfl
  have b1 : ref14_history_l1 N h N 0 = _ := b1
  have hle : ∀ l, l ∈ h → l.length ≤ 100 := fun l hl => by
    obtain ⟨j, hj, rfl⟩ := List.getElem_of_mem hl
    exact a1 j hj (by omega)
  rcases cont_eq (N := N) hh hN with ⟨_, d⟩ | ⟨c, _⟩
  case inr =>
    obtain ⟨l, hl1, hl2⟩ := c
    have := hle l hl1
    omega
  rw [d, Option.bind_some, if_neg Bool.false_ne_true, hI, Option.bind_some]
  show (∃ ps, _ ∧ (if false = true then _ else _) = _ ∧ _) ∨ (∃ er, _ ∧ _ ∧ (if false = true then _ else _) = _)
  rw [if_neg Bool.false_ne_true, b1, Option.bind_some]
  dsimp only
  have hva := val_all (evs 0 h) [] (by rw [List.nil_append]; exact evs_nodup)
  rw [List.nil_append] at hva
  have i0 : Inv [] [] := ⟨List.nodup_nil, fun _ => rfl, fun _ => rfl⟩
  rcases hist_l2 (N := N) hh hl hN N 0 (by omega) (by omega) with ⟨a2, b2⟩ | ⟨a2, b2⟩
  case inr =>
    have b2 : ref14_history_l2 N h N 0 = _ := b2
    rw [b2, Option.bind_some]
    rcases fold_spec (evs 0 h) [] [] i0 with ⟨ps, _, _, hv⟩ | ⟨hf, _⟩
    · obtain ⟨e, he, hne⟩ := a2
      exact absurd (hva.1 hv e he) hne
    · rw [hf]
      exact .inr ⟨2, by decide, rfl, rfl⟩
  have b2 : ref14_history_l2 N h N 0 = _ := b2
  rw [b2, Option.bind_some]
  have hok : ∀ e, e ∈ evs 0 h → okE (evs 0 h) e := fun e he => by
    obtain ⟨p, i, hp, hi, rfl⟩ := evt_of he
    exact a2 p i hp hi (by omega)
  rcases fold_spec (evs 0 h) [] [] i0 with ⟨ps, hf, hinv, _⟩ | ⟨_, hv⟩
  case inr => exact absurd (hva.2 hok) hv
  rw [List.nil_append] at hinv
  rw [hf]
  dsimp only [Option.map_some]
  have hbad := bad_iff hinv hok
  have hlen : ps.length ≤ 6400 := by
    have h3 := fold_len hf
    have h4 := evs_len (p := 0) hle
    simp only [List.length_nil] at h3
    omega
  rcases hist_l4 (N := N) hh hl hN N 0 (by omega) (by omega) with ⟨a3, b3⟩ | ⟨a3, b3⟩
  · have b3 : ref14_history_l4 N h N 0 = _ := b3
    have hokr : ∀ e, e ∈ evs 0 h → okR (evs 0 h) e := fun e he => by
      obtain ⟨p, i, hp, hi, rfl⟩ := evt_of he
      exact a3 p i hp hi (by omega)
    rw [b3, Option.bind_some, if_neg (fun hb => by obtain ⟨e, he, hne⟩ := hbad.1 hb; exact hne (hokr e he))]
    exact .inl ⟨ps, rfl, rfl, hinv, hok, hokr, hle, by omega, hlen⟩
  · have b3 : ref14_history_l4 N h N 0 = _ := b3
    rw [b3, Option.bind_some, if_pos (hbad.2 a3)]
    exact .inr ⟨2, by decide, rfl, rfl⟩
theorem spots_ok {h : List (List Item)} {k no : Int} : OkS h.length (spots (evs 0 h) k no).x := by
  intro sp hsp
  unfold spots at hsp
  obtain ⟨e, he, rfl⟩ := Option.map_eq_some_iff.1 hsp
  obtain ⟨p, i, hp, hi, rfl⟩ := evt_of (look_mem he).1
  refine ⟨?_, ?_, ?_⟩
  · show (0 : Int) ≤ (p : Int); omega
  · show (p : Int) < (h.length : Int); omega
  · show (0 : Int) ≤ ((cnt (h[p].take i) : Nat) : Int); omega
theorem okM_of {h : List (List Item)} {ps : List (Int × Psg)} (hi : Inv (evs 0 h) ps) : OkM h.length ps := fun e he => by
  have := inv_mem hi (no := e.1) (m := e.2) he
  rw [this]
  exact ⟨spots_ok, spots_ok⟩
end Go.Arm
namespace Go.Arm
open Go Go.RowKit

theorem have_eq {N : Nat} {h : List (List Item)} {hv : List Int} (hh : h.length ≤ 1000) (hl : ∀ l, l ∈ h → l.length ≤ 100000) (hN : 200000 < N) (hlen : hv.length = h.length) : ∀ (m p : Nat), p ≤ h.length → h.length < p + m →
    ((∀ j x (hj : j < h.length), p ≤ j → hv[j]? = some x → 0 ≤ x ∧ x ≤ (cnt h[j] : Int)) ∧ haveL hv (h.map fun l => (cnt l : Int)) m (p : Int) = some (.inl ()) ∧ ref14_Line_l1 N h hv m (p : Int) = some (.inl ())) ∨ (haveL hv (h.map fun l => (cnt l : Int)) m (p : Int) = some (.inr ()) ∧ ref14_Line_l1 N h hv m (p : Int) = some (.inr ([], [], 3)))
  | 0, p, h1, h2 => by omega
  | m + 1, p, h1, h2 => by
    rw [haveL, ref14_Line_l1.eq_2]
    by_cases hp : p < h.length
    · have hpv : p < hv.length := by omega
      have hlp := hl _ (List.getElem_mem hp)
      have hsv : idx (h.map fun l => (cnt l : Int)) (p : Int) = some (cnt h[p] : Int) := by rw [idx_at (by rw [List.length_map]; exact hp), List.getElem_map]
      have hvv : hv[p]? = some hv[p] := List.getElem?_eq_getElem hpv
      rw [if_pos (show decide ((p : Int) < (hv.length : Int)) = true by simp; exact hpv), if_pos (dlt hp), idx_at hpv, Option.bind_some, Option.bind_some]
      by_cases h0 : hv[p] < 0
      · rw [if_pos (decide_eq_true h0), if_pos (decide_eq_true h0), Option.bind_some, Option.bind_some]
        exact .inr ⟨rfl, rfl⟩
      · rw [if_neg (by simpa using h0), if_neg (by simpa using h0), hsv, Option.bind_some, Option.bind_some, Option.bind_some, idx_at hp, Option.bind_some, saves_eq hlp hN, Option.bind_some, Option.bind_some]
        by_cases hc : (cnt h[p] : Int) < hv[p]
        · rw [decide_eq_true hc]
          exact .inr ⟨rfl, rfl⟩
        · rw [decide_eq_false hc, if_neg Bool.false_ne_true]
          try dsimp only
          rw [if_neg Bool.false_ne_true, chk, if_pos (by unfold inR; omega), chk, if_pos (by unfold inR; omega)]
          rcases have_eq hh hl hN hlen m (p + 1) (by omega) (by omega) with ⟨a, b⟩ | b
          · refine .inl ⟨fun j x hj hjp hx => ?_, b⟩
            by_cases e : j = p
            · subst e
              rw [hvv] at hx
              cases hx
              omega
            · exact a j x hj (by omega) hx
          · exact .inr b
    · rw [if_neg (show ¬ decide ((p : Int) < (hv.length : Int)) = true by simp; omega), if_neg (dge (by omega))]
      exact .inl ⟨fun j x hj hjp => by omega, rfl, rfl⟩
theorem bef_at {e : Ev} {line : List Int} {c : Int} (hc : line[e.p]? = some c) : bef (some (spotOf e)) line = decide ((e.s : Int) < c) := by
  have : idx line (e.p : Int) = some c := by
    show (if (0 : Int) ≤ (e.p : Int) then line[((e.p : Int)).toNat]? else none) = _
    rw [if_pos (by omega), Int.toNat_natCast]; exact hc
  unfold bef spotOf
  simp only [this]
/-- A received message does not come before it was sent. -/
def conE (E : List Ev) (line : List Int) (e : Ev) : Prop := e.x.Kind = 3 → bef (some (spotOf e)) line = true → ∃ z, look E 2 e.x.No = some z ∧ bef (some (spotOf z)) line = true
theorem l4_eq {N : Nat} {h : List (List Item)} {ps : List (Int × Psg)} {hv : List Int} (hG : Good2 h ps) (hN : 200000 < N) (hlen : hv.length = h.length) {p : Nat} (hp : p < h.length) : ∀ (m i : Nat) (ch : Bool) (line : List Int), i ≤ h[p].length → h[p].length < i + m → LeL line hv → Top ps hv line →
    ∃ ch' line', ref14_Line_l4 N h (p : Int) m ch (i : Int) line = some (ch', line') ∧ LeL line' hv ∧ Top ps hv line' ∧ (ch' = false → ch = false ∧ line' = line ∧ ∀ k (hk : k < h[p].length), i ≤ k → conE (evs 0 h) line (evt h p k hp hk)) ∧ (ch' = true → ch = true ∧ line' = line ∨ tot line' < tot line)
  | 0, i, ch, line, h1, h2, _, _ => by omega
  | m + 1, i, ch, line, h1, h2, hle, htop => by
    have hl : ∀ l, l ∈ h → l.length ≤ 100000 := fun l hl => Nat.le_trans (hG.le l hl) (by decide)
    have hh : h.length ≤ 1000 := Nat.le_trans hG.few (by decide)
    have hlp := hl _ (List.getElem_mem hp)
    have hll : line.length = h.length := by rw [← hlen]; exact hle.1
    rw [ref14_Line_l4.eq_2, idx_at hp, Option.bind_some]
    by_cases hi : i < h[p].length
    · have hcp : line[p]? = some (line[p]'(by omega)) := List.getElem?_eq_getElem (by omega)
      generalize hcc : (line[p]'(by omega)) = c at hcp
      have hic : idx line (p : Int) = some c := by
        show (if (0 : Int) ≤ (p : Int) then line[((p : Int)).toNat]? else none) = _
        rw [if_pos (by omega), Int.toNat_natCast]; exact hcp
      have hbe : bef (some (spotOf (evt h p i hp hi))) line = decide ((cnt (h[p].take i) : Int) < c) := bef_at hcp
      have skip : ∀ (hE : conE (evs 0 h) line (evt h p i hp hi)), ∃ ch' line', (chk (inR ((i : Int) + 1)) <| ref14_Line_l4 N h (p : Int) m ch ((i : Int) + 1) line) = some (ch', line') ∧ LeL line' hv ∧ Top ps hv line' ∧ (ch' = false → ch = false ∧ line' = line ∧ ∀ k (hk : k < h[p].length), i ≤ k → conE (evs 0 h) line (evt h p k hp hk)) ∧ (ch' = true → ch = true ∧ line' = line ∨ tot line' < tot line) := fun hE => by
        rw [chk, if_pos (by unfold inR; omega)]
        obtain ⟨ch', line', a, b, c, d, e⟩ := l4_eq hG hN hlen hp m (i + 1) ch line (by omega) (by omega) hle htop
        refine ⟨ch', line', a, b, c, fun hf => ?_, e⟩
        obtain ⟨d1, d2, d3⟩ := d hf
        refine ⟨d1, d2, fun k hk hik => ?_⟩
        by_cases e : k = i
        · subst e; exact hE
        · exact d3 k hk (by omega)
      rw [if_pos (dlt hi), Option.bind_some, idx_at hi, Option.bind_some]
      by_cases hk : (h[p][i]).Kind = 3
      · rw [if_neg (show ¬ ((!decide ((h[p][i]).Kind = 3)) = true) by simp [hk]), Option.bind_some, hic, Option.bind_some, before_eq hlp (by omega) hN, Option.bind_some, Option.bind_some]
        by_cases hb : (cnt (h[p].take i) : Int) < c
        · rw [decide_eq_true hb]
          try dsimp only
          rw [if_neg (by decide), Option.bind_some, idx_at hi, Option.bind_some]
          obtain ⟨z, hz, hne⟩ := hG.okr _ (evt_mem hp hi) hk
          have hz : look (evs 0 h) 2 (h[p][i]).No = some z := hz
          obtain ⟨pl, hpl, hcase⟩ := place_ex (N := N) hh 2 (h[p][i]).No hl hN
          rcases hcase with ⟨hlk, _⟩ | ⟨z', hlk, hp1, hp2⟩
          · rw [hz] at hlk; cases hlk
          rw [hz] at hlk
          cases hlk
          obtain ⟨pz, iz, hpz, hiz, rfl⟩ := evt_of (look_mem hz).1
          have hcz : line[pz]? = some (line[pz]'(by omega)) := List.getElem?_eq_getElem (by omega)
          generalize hcc2 : (line[pz]'(by omega)) = cz at hcz
          have hicz : idx line (pz : Int) = some cz := by
            show (if (0 : Int) ≤ (pz : Int) then line[((pz : Int)).toNat]? else none) = _
            rw [if_pos (by omega), Int.toNat_natCast]; exact hcz
          have hbz : bef (some (spotOf (evt h pz iz hpz hiz))) line = decide ((cnt (h[pz].take iz) : Int) < cz) := bef_at hcz
          have hp1 : pl.1 = (pz : Int) := hp1
          have hp2 : pl.2 = (iz : Int) := hp2
          rw [hpl, Option.bind_some, hp1, hp2, idx_at hpz, Option.bind_some, hicz, Option.bind_some, before_eq (hl _ (List.getElem_mem hpz)) (by omega) hN, Option.bind_some]
          by_cases hbb : (cnt (h[pz].take iz) : Int) < cz
          · rw [decide_eq_true hbb, if_neg (by decide)]
            exact skip fun _ _ => ⟨_, hz, by rw [hbz]; exact decide_eq_true hbb⟩
          · rw [decide_eq_false hbb, if_pos (by decide)]
            have hcut : cut h[p] 0 (i : Int) = some (h[p].take i) := by
              unfold cut
              rw [if_pos ⟨by omega, by omega, by omega⟩, Int.toNat_natCast]; rfl
            rw [Option.bind_some, hcut, Option.bind_some, saves_eq (by rw [List.length_take]; omega) hN, Option.bind_some, Option.bind_some, chk, if_pos (by unfold inR; omega), Int.toNat_natCast]
            -- the message
            have h3 : look (evs 0 h) 3 (h[p][i]).No = some (evt h p i hp hi) := by
              rcases hG.ok _ (evt_mem hp hi) with hq | ⟨_, hq⟩
              · have : (h[p][i]).Kind = 1 := saveX_kind hq
                omega
              · have hk' : (evt h p i hp hi).x.Kind = 3 := hk
                rw [hk'] at hq; exact hq
            have hs := hG.inv.has (h[p][i]).No
            rw [h3, hz] at hs
            cases hg : mget ps (h[p][i]).No with
            | none => rw [hg] at hs; simp at hs
            | some mm =>
              have hmm := inv_mem hG.inv (mget_mem hg)
              have hr : mm.recv.x = some (spotOf (evt h p i hp hi)) := by rw [hmm]; unfold spots; rw [h3]; rfl
              have hsx : bef mm.sent.x line = false := by
                rw [hmm]; unfold spots; rw [hz]
                show bef (some (spotOf (evt h pz iz hpz hiz))) line = false
                rw [hbz]; exact decide_eq_false hbb
              have ht2 : Top ps hv (line.set p ((cnt (h[p].take i) : Nat) : Int)) := top_step (rc := spotOf (evt h p i hp hi)) htop (mget_mem hg) hr hsx (by show (0 : Int) ≤ (p : Int); omega)
              have hle2 := le_set hle hcp hb
              have hdec := tot_set hcp (show (0 : Int) ≤ ((cnt (h[p].take i) : Nat) : Int) by omega) hb
              obtain ⟨ch', line', a, b, c, d, e⟩ := l4_eq hG hN hlen hp m (i + 1) true (line.set p ((cnt (h[p].take i) : Nat) : Int)) (by omega) (by omega) hle2 ht2
              refine ⟨ch', line', a, b, c, fun hf => ?_, fun ht => ?_⟩
              · have := (d hf).1; cases this
              · rcases e ht with ⟨_, e⟩ | e
                · rw [e]; exact .inr hdec
                · exact .inr (Nat.lt_trans e hdec)
        · rw [decide_eq_false hb]
          try dsimp only
          rw [if_pos (by decide)]
          exact skip fun _ hB => by rw [hbe, decide_eq_false hb] at hB; cases hB
      · rw [if_pos (show (!decide ((h[p][i]).Kind = 3)) = true by simp [hk]), Option.bind_some]
        try dsimp only
        rw [if_pos rfl]
        exact skip fun h3 => absurd h3 hk
    · rw [if_neg (dge (by omega))]
      exact ⟨ch, line, rfl, hle, htop, fun hf => ⟨hf, rfl, fun k hk hik => by omega⟩, fun ht => .inl ⟨ht, rfl⟩⟩
theorem l3_eq {N : Nat} {h : List (List Item)} {ps : List (Int × Psg)} {hv : List Int} (hG : Good2 h ps) (hN : 200000 < N) (hlen : hv.length = h.length) : ∀ (m p : Nat) (ch : Bool) (line : List Int), p ≤ h.length → h.length < p + m → LeL line hv → Top ps hv line →
    ∃ ch' line', ref14_Line_l3 N h m ch (p : Int) line = some (ch', line') ∧ LeL line' hv ∧ Top ps hv line' ∧ (ch' = false → ch = false ∧ line' = line ∧ ∀ j k (hj : j < h.length) (hk : k < h[j].length), p ≤ j → conE (evs 0 h) line (evt h j k hj hk)) ∧ (ch' = true → ch = true ∧ line' = line ∨ tot line' < tot line)
  | 0, p, ch, line, h1, h2, _, _ => by omega
  | m + 1, p, ch, line, h1, h2, hle, htop => by
    have hh : h.length ≤ 1000 := Nat.le_trans hG.few (by decide)
    rw [ref14_Line_l3.eq_2]
    by_cases hp : p < h.length
    · have hlp := hG.le _ (List.getElem_mem hp)
      obtain ⟨c1, l1, a, b, c, d, e⟩ := l4_eq hG hN hlen hp N 0 ch line (by omega) (by omega) hle htop
      have a : ref14_Line_l4 N h (p : Int) N ch 0 line = _ := a
      rw [if_pos (dlt hp), a, Option.bind_some]
      dsimp only
      rw [chk, if_pos (by unfold inR; omega)]
      obtain ⟨c2, l2, a2, b2, c2', d2, e2⟩ := l3_eq hG hN hlen m (p + 1) c1 l1 (by omega) (by omega) b c
      refine ⟨c2, l2, a2, b2, c2', fun hf => ?_, fun ht => ?_⟩
      · obtain ⟨f1, f2, f3⟩ := d2 hf
        obtain ⟨g1, g2, g3⟩ := d f1
        subst g2
        refine ⟨g1, f2, fun j k hj hk hpj => ?_⟩
        by_cases ej : j = p
        · subst ej; exact g3 k hk (by omega)
        · exact f3 j k hj hk (by omega)
      · rcases e2 ht with ⟨f1, f2⟩ | f2
        · subst f2
          exact e f1
        · cases c1 with
          | true =>
            rcases e rfl with ⟨_, g2⟩ | g2
            · subst g2; exact .inr f2
            · exact .inr (Nat.lt_trans f2 g2)
          | false =>
            obtain ⟨_, g2, _⟩ := d rfl
            subst g2; exact .inr f2
    · rw [if_neg (dge (by omega))]
      exact ⟨ch, line, rfl, hle, htop, fun hf => ⟨hf, rfl, fun j k hj hk hpj => by omega⟩, fun ht => .inl ⟨ht, rfl⟩⟩
theorem cons_of {h : List (List Item)} {ps : List (Int × Psg)} {line : List Int} (hG : Good2 h ps) (hc : ∀ e, e ∈ evs 0 h → conE (evs 0 h) line e) : Cons ps line := fun m hm hb => by
  have hmm := inv_mem hG.inv (no := m.1) (m := m.2) hm
  rw [hmm] at hb
  rw [hmm]
  unfold spots at hb ⊢
  cases h3 : look (evs 0 h) 3 m.1 with
  | none => rw [h3] at hb; cases hb
  | some e =>
    rw [h3] at hb
    obtain ⟨he, hk, hno⟩ := look_mem h3
    obtain ⟨z, hz, hbz⟩ := hc e he hk hb
    rw [hno] at hz
    show bef ((look (evs 0 h) 2 m.1).map spotOf) line = true
    rw [hz]; exact hbz
theorem l2_eq {N : Nat} {h : List (List Item)} {ps : List (Int × Psg)} {hv : List Int} (hG : Good2 h ps) (hN : 200000 < N) (hlen : hv.length = h.length) : ∀ (m : Nat) (ch : Bool) (line : List Int), (if ch then tot line + 2 else 1) ≤ m → LeL line hv → Top ps hv line → (ch = false → Cons ps line) →
    ∃ line', ref14_Line_l2 N h m ch line = some line' ∧ IsLine ps hv line'
  | 0, ch, line, h1, _, _, _ => by cases ch <;> simp at h1
  | m + 1, ch, line, h1, hle, htop, hcon => by
    have hh : h.length ≤ 1000 := Nat.le_trans hG.few (by decide)
    rw [ref14_Line_l2.eq_2]
    cases ch with
    | false => exact ⟨line, rfl, hle, hcon rfl, htop⟩
    | true =>
      obtain ⟨c1, l1, a, b, c, d, e⟩ := l3_eq hG hN hlen N 0 false line (by omega) (by omega) hle htop
      have a : ref14_Line_l3 N h N false 0 line = _ := a
      rw [if_pos rfl, a, Option.bind_some]
      dsimp only
      have h1 : tot line + 2 ≤ m + 1 := h1
      refine l2_eq hG hN hlen m c1 l1 ?_ b c fun hf => ?_
      · cases c1 with
        | true =>
          rcases e rfl with ⟨f, _⟩ | f
          · cases f
          · show tot l1 + 2 ≤ m
            omega
        | false => show 1 ≤ m; omega
      · obtain ⟨_, g2, g3⟩ := d hf
        subst g2
        exact cons_of hG fun e he => by
          obtain ⟨p, i, hp, hi, rfl⟩ := evt_of he
          exact g3 p i hp hi (by omega)
end Go.Arm
namespace Go.Arm
open Go Go.RowKit

def Asc (l : List Int) : Prop := l.Pairwise fun a b => a ≤ b
theorem ins_l {N : Nat} {l : List Int} {n : Int} (hl : l.length ≤ 100000) : ∀ (m i : Nat), i ≤ l.length → l.length < i + m → (∀ x, x ∈ l.take i → x < n) →
    ∃ j : Nat, j ≤ l.length ∧ ref14_inserted_l1 N l n m (i : Int) = some (j : Int) ∧ (∀ x, x ∈ l.take j → x < n) ∧ (∀ y, l[j]? = some y → n ≤ y)
  | 0, i, h1, h2, _ => by omega
  | m + 1, i, h1, h2, ht => by
    rw [ref14_inserted_l1.eq_2]
    by_cases hi : i < l.length
    · rw [if_pos (dlt hi), idx_at hi, Option.bind_some, Option.bind_some]
      try dsimp only
      by_cases hn : l[i] < n
      · rw [if_pos (decide_eq_true hn), chk, if_pos (by unfold inR; omega)]
        refine ins_l hl m (i + 1) (by omega) (by omega) fun x hx => ?_
        rw [← List.take_append_getElem hi] at hx
        rcases List.mem_append.1 hx with hx | hx
        · exact ht x hx
        · rw [List.mem_singleton.1 hx]; exact hn
      · rw [if_neg (by simpa using hn)]
        refine ⟨i, h1, rfl, ht, fun y hy => ?_⟩
        rw [List.getElem?_eq_getElem hi] at hy
        cases hy
        omega
    · rw [if_neg (dge (by omega)), Option.bind_some]
      try dsimp only
      rw [if_neg Bool.false_ne_true]
      exact ⟨i, h1, rfl, ht, fun y hy => by rw [List.getElem?_eq_none (by omega)] at hy; cases hy⟩
theorem ins_eq {N : Nat} {l : List Int} {n : Int} (hl : l.length ≤ 100000) (hN : 200000 < N) (ha : Asc l) : ∃ l', ref14_inserted N l n = some l' ∧ Asc l' ∧ l'.Perm (l ++ [n]) := by
  have hmax : 2 ^ 60 ≤ maxLen := by decide
  obtain ⟨j, hj, h1, h2, h3⟩ := ins_l (N := N) (n := n) hl N 0 (by omega) (by omega) (fun x hx => by cases hx)
  have h1 : ref14_inserted_l1 N l n N 0 = _ := h1
  have hc1 : cut l 0 (j : Int) = some (l.take j) := by
    unfold cut
    rw [if_pos ⟨by omega, by omega, by omega⟩, Int.toNat_natCast]; rfl
  have hc2 : cut l (j : Int) (l.length : Int) = some (l.drop j) := by
    unfold cut
    rw [if_pos ⟨by omega, by omega, by omega⟩, Int.toNat_natCast, Int.toNat_natCast, List.take_length]
  have ht : (l.take j).length = j := by rw [List.length_take]; omega
  have hd : (l.drop j).length = l.length - j := List.length_drop
  refine ⟨([] ++ l.take j ++ [n]) ++ l.drop j, ?_, ?_, ?_⟩
  · unfold ref14_inserted
    rw [h1, Option.bind_some]
    dsimp only
    rw [hc1, Option.bind_some, chk, if_pos ⟨by simp only [List.length_nil]; omega, by simp only [List.length_nil]; omega⟩, chk, if_pos ⟨by simp only [List.nil_append, List.length_singleton]; omega, by simp only [List.nil_append, List.length_singleton]; omega⟩, hc2, Option.bind_some, chk, if_pos ⟨by simp only [List.nil_append, List.length_append, List.length_singleton]; omega, by simp only [List.nil_append, List.length_append, List.length_singleton]; omega⟩]
  · have hsp := ha
    unfold Asc at hsp ⊢
    rw [← List.take_append_drop j l, List.pairwise_append] at hsp
    obtain ⟨p1, p2, p3⟩ := hsp
    have hn : ∀ y, y ∈ l.drop j → n ≤ y := fun y hy => by
      cases hdj : l.drop j with
      | nil => rw [hdj] at hy; cases hy
      | cons z t =>
        have hz : l[j]? = some z := by
          have := congrArg (fun q : List Int => q[0]?) hdj
          simpa [List.getElem?_drop] using this
        have h4 := h3 z hz
        rw [hdj] at hy p2
        rcases List.mem_cons.1 hy with rfl | hy
        · exact h4
        · exact Int.le_trans h4 ((List.pairwise_cons.1 p2).1 y hy)
    rw [List.nil_append, List.append_assoc, List.pairwise_append]
    refine ⟨p1, List.pairwise_append.2 ⟨List.pairwise_singleton _ _, p2, fun a ha b hb => ?_⟩, fun a ha b hb => ?_⟩
    · rw [List.mem_singleton.1 ha]; exact hn b hb
    · rcases List.mem_append.1 hb with hb | hb
      · rw [List.mem_singleton.1 hb]; exact Int.le_of_lt (h2 a ha)
      · exact p3 a ha b hb
  · rw [List.nil_append, List.append_assoc]
    have e1 : (l.take j ++ ([n] ++ l.drop j)).Perm (l.take j ++ (l.drop j ++ [n])) := List.Perm.append_left _ List.perm_append_comm
    refine e1.trans ?_
    rw [← List.append_assoc, List.take_append_drop]
/-- Whether an event sends something that is under way. -/
def undE (E : List Ev) (line : List Int) (e : Ev) : Bool := decide (e.x.Kind = 2) && (bef (some (spotOf e)) line && !bef ((look E 3 e.x.No).map spotOf) line)
def undN (E : List Ev) (line : List Int) (l : List Ev) : List Int := (l.filter (undE E line)).map fun e => e.x.No
theorem undN_cons {E : List Ev} {line : List Int} {e : Ev} {l : List Ev} : undN E line (e :: l) = (if undE E line e then [e.x.No] else []) ++ undN E line l := by
  unfold undN
  cases hc : undE E line e with
  | true => rw [List.filter_cons_of_pos hc]; rfl
  | false => rw [List.filter_cons_of_neg (by rw [hc]; exact Bool.false_ne_true)]; rfl
theorem cnt_take {l : List Item} {i : Nat} (hi : i < l.length) : cnt (l.take (i + 1)) = if (l[i]).Kind = 1 then cnt (l.take i) + 1 else cnt (l.take i) := by
  induction l generalizing i with
  | nil => simp at hi
  | cons x l ih =>
    cases i with
    | zero =>
      show (if x.Kind = 1 then 1 else 0) + cnt (l.take 0) = if x.Kind = 1 then 0 + 1 else 0
      show (if x.Kind = 1 then 1 else 0) + 0 = _
      split <;> rfl
    | succ i =>
      have := ih (i := i) (by simpa using hi)
      show (if x.Kind = 1 then 1 else 0) + cnt (l.take (i + 1)) = if (l[i]'(by simpa using hi)).Kind = 1 then ((if x.Kind = 1 then 1 else 0) + cnt (l.take i)) + 1 else ((if x.Kind = 1 then 1 else 0) + cnt (l.take i))
      rw [this]
      by_cases hy : (l[i]'(by simpa using hi)).Kind = 1
      · rw [if_pos hy, if_pos hy]; omega
      · rw [if_neg hy, if_neg hy]
theorem l6_eq {N : Nat} {h : List (List Item)} {ps : List (Int × Psg)} {line : List Int} (hG : Good2 h ps) (hN : 200000 < N) (hlen : line.length = h.length) {p : Nat} (hp : p < h.length) : ∀ (m i : Nat) (un : List Int), i ≤ h[p].length → h[p].length < i + m → Asc un → un.length + (h[p].length - i) ≤ 100000 →
    ∃ un', ref14_Line_l6 N h line (p : Int) m un (i : Int) = some un' ∧ Asc un' ∧ un'.Perm (un ++ undN (evs 0 h) line (evl p (h[p].drop i) i (cnt (h[p].take i))))
  | 0, i, un, h1, h2, _, _ => by omega
  | m + 1, i, un, h1, h2, ha, hsz => by
    have hl : ∀ l, l ∈ h → l.length ≤ 100000 := fun l hl => Nat.le_trans (hG.le l hl) (by decide)
    have hh : h.length ≤ 1000 := Nat.le_trans hG.few (by decide)
    have hlp := hl _ (List.getElem_mem hp)
    rw [ref14_Line_l6.eq_2, idx_at hp, Option.bind_some]
    by_cases hi : i < h[p].length
    · have hd : h[p].drop i = h[p][i] :: h[p].drop (i + 1) := List.drop_eq_getElem_cons hi
      have hev : evl p (h[p].drop i) i (cnt (h[p].take i)) = evt h p i hp hi :: evl p (h[p].drop (i + 1)) (i + 1) (cnt (h[p].take (i + 1))) := by
        rw [hd, cnt_take hi]; rfl
      rw [hev, undN_cons]
      have hcp : line[p]? = some (line[p]'(by omega)) := List.getElem?_eq_getElem (by omega)
      generalize hcc : (line[p]'(by omega)) = c at hcp
      have hic : idx line (p : Int) = some c := by
        show (if (0 : Int) ≤ (p : Int) then line[((p : Int)).toNat]? else none) = _
        rw [if_pos (by omega), Int.toNat_natCast]; exact hcp
      have hbe : bef (some (spotOf (evt h p i hp hi))) line = decide ((cnt (h[p].take i) : Int) < c) := bef_at hcp
      have skip : ∀ (hU : undE (evs 0 h) line (evt h p i hp hi) = false), ∃ un', (chk (inR ((i : Int) + 1)) <| ref14_Line_l6 N h line (p : Int) m un ((i : Int) + 1)) = some un' ∧ Asc un' ∧ un'.Perm (un ++ ((if undE (evs 0 h) line (evt h p i hp hi) then [(evt h p i hp hi).x.No] else []) ++ undN (evs 0 h) line (evl p (h[p].drop (i + 1)) (i + 1) (cnt (h[p].take (i + 1)))))) := fun hU => by
        rw [chk, if_pos (by unfold inR; omega), hU]
        exact l6_eq hG hN hlen hp m (i + 1) un (by omega) (by omega) ha (by omega)
      rw [if_pos (dlt hi), Option.bind_some, idx_at hi, Option.bind_some]
      by_cases hk : (h[p][i]).Kind = 2
      · rw [if_neg (show ¬ ((!decide ((h[p][i]).Kind = 2)) = true) by simp [hk]), Option.bind_some, hic, Option.bind_some, before_eq hlp (by omega) hN, Option.bind_some, Option.bind_some]
        have hk' : decide ((evt h p i hp hi).x.Kind = 2) = true := decide_eq_true hk
        by_cases hb : (cnt (h[p].take i) : Int) < c
        · rw [decide_eq_true hb] at hbe ⊢
          try dsimp only
          rw [if_neg (by decide), Option.bind_some, idx_at hi, Option.bind_some]
          obtain ⟨pl, hpl, hcase⟩ := place_ex (N := N) hh 3 (h[p][i]).No hl hN
          have take_ : ∀ (hU : undE (evs 0 h) line (evt h p i hp hi) = true), ∃ un', (Option.bind (idx h (p : Int)) fun y1906 => Option.bind (idx y1906 (i : Int)) fun y1912 => Option.bind (ref14_inserted N un y1912.No) fun y1918 => chk (inR ((i : Int) + 1)) <| ref14_Line_l6 N h line (p : Int) m y1918 ((i : Int) + 1)) = some un' ∧ Asc un' ∧ un'.Perm (un ++ ((if undE (evs 0 h) line (evt h p i hp hi) then [(evt h p i hp hi).x.No] else []) ++ undN (evs 0 h) line (evl p (h[p].drop (i + 1)) (i + 1) (cnt (h[p].take (i + 1)))))) := fun hU => by
            obtain ⟨l', q1, q2, q3⟩ := ins_eq (N := N) (n := (h[p][i]).No) (l := un) (by omega) hN ha
            have q4 := q3.length_eq
            rw [List.length_append, List.length_singleton] at q4
            rw [idx_at hp, Option.bind_some, idx_at hi, Option.bind_some, q1, Option.bind_some, chk, if_pos (by unfold inR; omega), hU]
            obtain ⟨un', r1, r2, r3⟩ := l6_eq hG hN hlen hp m (i + 1) l' (by omega) (by omega) q2 (by omega)
            refine ⟨un', r1, r2, r3.trans ?_⟩
            rw [← List.append_assoc]
            exact List.Perm.append_right _ q3
          rw [hpl, Option.bind_some]
          have hun : undE (evs 0 h) line (evt h p i hp hi) = !bef ((look (evs 0 h) 3 (h[p][i]).No).map spotOf) line := by
            unfold undE
            rw [hk', hbe, Bool.true_and, Bool.true_and]; rfl
          rcases hcase with ⟨hlk, hp1⟩ | ⟨z', hlk, hp1, hp2⟩
          · rw [if_pos (decide_eq_true (show pl.1 < 0 by omega)), Option.bind_some]
            try dsimp only
            rw [if_pos rfl]
            have hp' := take_ (by rw [hun, hlk]; rfl)
            rw [idx_at hp, Option.bind_some] at hp'
            exact hp'
          · obtain ⟨pz, iz, hpz, hiz, rfl⟩ := evt_of (look_mem hlk).1
            have hcz : line[pz]? = some (line[pz]'(by omega)) := List.getElem?_eq_getElem (by omega)
            generalize hcc2 : (line[pz]'(by omega)) = cz at hcz
            have hicz : idx line (pz : Int) = some cz := by
              show (if (0 : Int) ≤ (pz : Int) then line[((pz : Int)).toNat]? else none) = _
              rw [if_pos (by omega), Int.toNat_natCast]; exact hcz
            have hbz : bef (some (spotOf (evt h pz iz hpz hiz))) line = decide ((cnt (h[pz].take iz) : Int) < cz) := bef_at hcz
            have hp1 : pl.1 = (pz : Int) := hp1
            have hp2 : pl.2 = (iz : Int) := hp2
            rw [if_neg (show ¬ decide (pl.1 < 0) = true by simp; omega), hp1, hp2, idx_at hpz, Option.bind_some, hicz, Option.bind_some, before_eq (hl _ (List.getElem_mem hpz)) (by omega) hN, Option.bind_some, Option.bind_some]
            try dsimp only
            by_cases hbb : (cnt (h[pz].take iz) : Int) < cz
            · rw [decide_eq_true hbb] at hbz ⊢
              rw [if_neg (by decide)]
              exact skip (by rw [hun, hlk]; show (!bef (some (spotOf (evt h pz iz hpz hiz))) line) = false; rw [hbz]; rfl)
            · rw [decide_eq_false hbb] at hbz ⊢
              rw [if_pos (by decide)]
              have hp' := take_ (by rw [hun, hlk]; show (!bef (some (spotOf (evt h pz iz hpz hiz))) line) = true; rw [hbz]; rfl)
              rw [idx_at hp, Option.bind_some] at hp'
              exact hp'
        · rw [decide_eq_false hb] at hbe ⊢
          try dsimp only
          rw [if_pos (by decide)]
          exact skip (by unfold undE; rw [hbe, Bool.false_and, Bool.and_false])
      · rw [if_pos (show (!decide ((h[p][i]).Kind = 2)) = true by simp [hk]), Option.bind_some]
        try dsimp only
        rw [if_pos rfl]
        exact skip (by unfold undE; rw [decide_eq_false (show ¬ (evt h p i hp hi).x.Kind = 2 from hk), Bool.false_and])
    · rw [if_neg (dge (by omega)), List.drop_eq_nil_of_le (by omega)]
      exact ⟨un, rfl, ha, by show un.Perm (un ++ []); rw [List.append_nil]⟩
end Go.Arm
namespace Go.Arm
open Go Go.RowKit

theorem undN_append {E : List Ev} {line : List Int} (a b : List Ev) : undN E line (a ++ b) = undN E line a ++ undN E line b := by unfold undN; rw [List.filter_append, List.map_append]
theorem undN_len {E : List Ev} {line : List Int} (a : List Ev) : (undN E line a).length ≤ a.length := by unfold undN; rw [List.length_map]; exact List.length_filter_le _ _
theorem l5_eq {N : Nat} {h : List (List Item)} {ps : List (Int × Psg)} {line : List Int} (hG : Good2 h ps) (hN : 200000 < N) (hlen : line.length = h.length) : ∀ (m p : Nat) (un : List Int), p ≤ h.length → h.length < p + m → Asc un → un.length + 100 * (h.length - p) ≤ 90000 →
    ∃ un', ref14_Line_l5 N h line m un (p : Int) = some un' ∧ Asc un' ∧ un'.Perm (un ++ undN (evs 0 h) line (evs p (h.drop p)))
  | 0, p, un, h1, h2, _, _ => by omega
  | m + 1, p, un, h1, h2, ha, hsz => by
    have hh : h.length ≤ 1000 := Nat.le_trans hG.few (by decide)
    rw [ref14_Line_l5.eq_2]
    by_cases hp : p < h.length
    · have hlp := hG.le _ (List.getElem_mem hp)
      have hd : h.drop p = h[p] :: h.drop (p + 1) := List.drop_eq_getElem_cons hp
      obtain ⟨u1, a, b, c⟩ := l6_eq hG hN hlen hp N 0 un (by omega) (by omega) ha (by omega)
      have a : ref14_Line_l6 N h line (p : Int) N un 0 = _ := a
      have c : u1.Perm (un ++ undN (evs 0 h) line (evl p h[p] 0 0)) := c
      have cl := c.length_eq
      have hul := undN_len (E := evs 0 h) (line := line) (evl p h[p] 0 0)
      rw [evl_len] at hul
      rw [List.length_append] at cl
      rw [if_pos (dlt hp), a, Option.bind_some]
      dsimp only
      rw [chk, if_pos (by unfold inR; omega)]
      obtain ⟨u2, a2, b2, c2⟩ := l5_eq hG hN hlen m (p + 1) u1 (by omega) (by omega) b (by omega)
      refine ⟨u2, a2, b2, c2.trans ?_⟩
      rw [hd]
      have hee : evs p (h[p] :: h.drop (p + 1)) = evl p h[p] 0 0 ++ evs (p + 1) (h.drop (p + 1)) := rfl
      rw [hee, undN_append, ← List.append_assoc]
      exact List.Perm.append_right _ c
    · rw [if_neg (dge (by omega)), List.drop_eq_nil_of_le (by omega)]
      exact ⟨un, rfl, ha, by show un.Perm (un ++ []); rw [List.append_nil]⟩
theorem nodup_map {β δ : Type} {f : β → δ} : ∀ {l : List β}, l.Nodup → (∀ x y, x ∈ l → y ∈ l → f x = f y → x = y) → (l.map f).Nodup
  | [], _, _ => List.nodup_nil
  | a :: l, hn, hi => by
    rw [List.nodup_cons] at hn
    rw [List.map_cons, List.nodup_cons]
    refine ⟨fun h => ?_, nodup_map hn.2 fun x y hx hy => hi x y (List.mem_cons_of_mem _ hx) (List.mem_cons_of_mem _ hy)⟩
    obtain ⟨y, hy, e⟩ := List.mem_map.1 h
    have := hi y a (List.mem_cons_of_mem _ hy) (List.mem_cons_self ..) e
    subst this
    exact hn.1 hy
theorem send_look {h : List (List Item)} {ps : List (Int × Psg)} (hG : Good2 h ps) {e : Ev} (he : e ∈ evs 0 h) (hk : e.x.Kind = 2) : look (evs 0 h) 2 e.x.No = some e := by
  rcases hG.ok e he with hq | ⟨_, hq⟩
  · have := saveX_kind hq; omega
  · rw [hk] at hq; exact hq
theorem und_perm {h : List (List Item)} {ps : List (Int × Psg)} (line : List Int) (hG : Good2 h ps) : (undN (evs 0 h) line (evs 0 h)).Perm (undW line (rP ps)) := by
  refine (List.perm_ext_iff_of_nodup ?_ ?_).2 fun no => ?_
  · unfold undN
    refine nodup_map (evs_nodup.filter _) fun x y hx hy e => ?_
    rw [List.mem_filter] at hx hy
    have kx : x.x.Kind = 2 := by
      have := hx.2
      unfold undE at this
      rw [Bool.and_eq_true] at this
      exact of_decide_eq_true this.1
    have ky : y.x.Kind = 2 := by
      have := hy.2
      unfold undE at this
      rw [Bool.and_eq_true] at this
      exact of_decide_eq_true this.1
    have h1 := send_look hG hx.1 kx
    have h2 := send_look hG hy.1 ky
    rw [e] at h1
    rw [h1] at h2
    cases h2; rfl
  · unfold undW
    have h1 : ((rP ps).map (·.1)).Nodup := by unfold rP; rw [List.map_map]; exact hG.inv.keys
    exact h1.sublist (List.Sublist.map _ List.filter_sublist)
  · unfold undN undW
    constructor
    · intro hm
      obtain ⟨e, he, hno⟩ := List.mem_map.1 hm
      rw [List.mem_filter] at he
      obtain ⟨he, hu⟩ := he
      subst hno
      unfold undE at hu
      rw [Bool.and_eq_true] at hu
      have hk : e.x.Kind = 2 := of_decide_eq_true hu.1
      have h2 := send_look hG he hk
      have hs := hG.inv.has e.x.No
      rw [h2] at hs
      cases hg : mget ps e.x.No with
      | none => rw [hg] at hs; simp at hs
      | some mm =>
        have hmm := inv_mem hG.inv (mget_mem hg)
        refine List.mem_map.2 ⟨(e.x.No, ⟨mm⟩), List.mem_filter.2 ⟨?_, ?_⟩, rfl⟩
        · unfold rP
          exact List.mem_map.2 ⟨(e.x.No, mm), mget_mem hg, rfl⟩
        · show (bef mm.sent.x line && !bef mm.recv.x line) = true
          rw [hmm]
          unfold spots
          rw [h2]
          exact hu.2
    · intro hm
      obtain ⟨⟨no', mm⟩, he, hno⟩ := List.mem_map.1 hm
      have hno : no' = no := hno
      subst hno
      rw [List.mem_filter] at he
      obtain ⟨he, hu⟩ := he
      unfold rP at he
      obtain ⟨⟨k, m2⟩, hk, hke⟩ := List.mem_map.1 he
      cases hke
      have hmm := inv_mem hG.inv hk
      have hu : (bef m2.sent.x line && !bef m2.recv.x line) = true := hu
      rw [hmm] at hu
      unfold spots at hu
      cases h2 : look (evs 0 h) 2 k with
      | none => rw [h2] at hu; cases hu
      | some e =>
        obtain ⟨hem, hek, hen⟩ := look_mem h2
        refine List.mem_map.2 ⟨e, List.mem_filter.2 ⟨hem, ?_⟩, hen⟩
        unfold undE
        rw [hek, hen]
        rw [h2] at hu
        exact hu
theorem same_l {N : Nat} {L : List Int} (hL : L.length ≤ 100000) : ∀ (n i : Nat), L.length < i + n → i ≤ L.length → ref01_SameInts_l1 N L L n (i : Int) = some (.inl ())
  | 0, i, h0, h1 => by omega
  | n + 1, i, h0, h1 => by
    rw [ref01_SameInts_l1.eq_2]
    by_cases h : i < L.length
    · have c2 : ∀ x : Int, ¬ ((!decide (x = x)) = true) := fun x => by simp
      rw [if_pos (dlt h), idx_at h, Option.bind_some, Option.bind_some, if_neg (c2 _), chk, if_pos (by unfold inR; omega)]
      exact same_l hL n (i + 1) (by omega) (by omega)
    · rw [if_neg (dge (by omega))]
theorem same_self {N : Nat} {L : List Int} (hL : L.length ≤ 100000) (hN : 200000 < N) : ref01_SameInts N L L = some true := by
  have h : ref01_SameInts_l1 N L L N 0 = _ := same_l (N := N) hL N 0 (by omega) (by omega)
  unfold ref01_SameInts
  have c : ¬ ((!decide ((L.length : Int) = (L.length : Int))) = true) := by simp
  rw [if_neg c, h]
  rfl
/-- Program and reference return the same. -/
theorem line_same {N : Nat} {h : List (List Item)} {hv : List Int} (hh : h.length ≤ 1000) (hl : ∀ l, l ∈ h → l.length ≤ 100000) (hN : 200000 + tot hv + 2 < N) (_ : hv.length ≤ 1000) :
    ∃ a b c, check_Line N h hv = some (a, b, c) ∧ ref14_Line N h hv = some (a, b, c) ∧ a.length ≤ 100000 ∧ b.length ≤ 100000 := by
  have hmax : 2 ^ 60 ≤ maxLen := by decide
  unfold check_Line ref14_Line
  rcases pass_hist (N := N) hh hl (by omega) with ⟨ps, p1, p2, hG⟩ | ⟨er, h0, p1, p2⟩
  · rw [p1, p2, Option.bind_some, Option.bind_some]
    dsimp only
    have hc0 : ¬ ((!decide ((0 : Int) = 0)) = true) := by decide
    rw [if_neg hc0, if_neg hc0]
    by_cases hlen : hv.length = h.length
    · have hc1 : ¬ ((!decide ((hv.length : Int) = (h.length : Int))) = true) := by simp [hlen]
      rw [if_neg hc1, if_neg hc1]
      rcases have_eq (N := N) hh hl (by omega) hlen N 0 (by omega) (by omega) with ⟨_, q1, q2⟩ | ⟨q1, q2⟩
      · have q1 : haveL hv (h.map fun l => (cnt l : Int)) N 0 = _ := q1
        have q2 : ref14_Line_l1 N h hv N 0 = _ := q2
        have hcl : slices_Clone_Lint_int N hv = some hv := by
          unfold slices_Clone_Lint_int
          rw [chk, if_pos ⟨by simp only [List.length_nil]; omega, by simp only [List.length_nil]; omega⟩]; rfl
        have hlen2 := hG.len
        have hcond : OkM hv.length ps ∧ (ps.length + 1) * 8 ≤ 140737488355328 ∧ ps.length + 1 ≤ maxLen := ⟨by rw [hlen]; exact okM_of hG.inv, by omega, by omega⟩
        rw [q1, q2, Option.bind_some, Option.bind_some]
        dsimp only
        rw [hcl, Option.bind_some, if_pos hcond, chk, if_pos ⟨by simp only [List.length_nil]; omega, by simp only [List.length_nil]; omega⟩]
        obtain ⟨line, r1, hline⟩ := l2_eq (N := N) hG (by omega) hlen N true hv (by show tot hv + 2 ≤ N; omega) (LeL.refl _) (fun _ h _ => h) (fun h => by cases h)
        have hll : line.length = h.length := by rw [← hlen]; exact hline.le.1
        obtain ⟨un, s1, s2, s3⟩ := l5_eq (N := N) (line := line) hG (by omega) hll N 0 [] (by omega) (by omega) List.Pairwise.nil (by have := hG.few; simp; omega)
        have s1 : ref14_Line_l5 N h line N [] 0 = _ := s1
        have s3 : un.Perm (undN (evs 0 h) line (evs 0 h)) := s3
        rw [List.nil_append, r1, Option.bind_some, s1, lineOf_eq hline]
        have hun : ((undW line (rP ps)).mergeSort fun x y => decide (x ≤ y)) = un := by
          have tr : ∀ a b c : Int, decide (a ≤ b) = true → decide (b ≤ c) = true → decide (a ≤ c) = true := fun a b c h1 h2 => by simp only [decide_eq_true_eq] at *; omega
          have to : ∀ a b : Int, (decide (a ≤ b) || decide (b ≤ a)) = true := fun a b => by simp only [Bool.or_eq_true, decide_eq_true_eq]; omega
          refine List.Perm.eq_of_pairwise (le := fun a b => a ≤ b) (fun a b _ _ h1 h2 => Int.le_antisymm h1 h2) ((List.pairwise_mergeSort tr to _).imp fun h => of_decide_eq_true h) s2 ?_
          exact ((List.mergeSort_perm _ _).trans (und_perm line hG).symm).trans s3.symm
        refine ⟨line, un, 0, by rw [hun], rfl, by omega, ?_⟩
        have h4 := s3.length_eq
        have h5 := undN_len (E := evs 0 h) (line := line) (evs 0 h)
        have h6 := evs_len (p := 0) hG.le
        have h7 := hG.few
        omega
      · have q1 : haveL hv (h.map fun l => (cnt l : Int)) N 0 = _ := q1
        have q2 : ref14_Line_l1 N h hv N 0 = _ := q2
        rw [q1, q2]
        exact ⟨[], [], 3, rfl, rfl, by simp, by simp⟩
    · have hc1 : (!decide ((hv.length : Int) = (h.length : Int))) = true := by simp; omega
      rw [if_pos hc1, if_pos hc1]
      exact ⟨[], [], 26, rfl, rfl, by simp, by simp⟩
  · rw [p1, p2, Option.bind_some, Option.bind_some]
    dsimp only
    have hc1 : (!decide (er = 0)) = true := by simpa using h0
    rw [if_pos hc1, if_pos hc1]
    exact ⟨[], [], er, rfl, rfl, by simp, by simp⟩
end Go.Arm
namespace Go.Arm
open Go Go.RowKit

theorem law_l1 {N : Nat} {h : List (List Item)} (hh : h.length ≤ 1000) : ∀ (m p : Nat), p ≤ h.length → h.length < p + m →
    ((∀ j (hj : j < h.length), p ≤ j → h[j].length ≤ 110) ∧ law14_CheckLines_l1 N h m (p : Int) = some (.inl ())) ∨ law14_CheckLines_l1 N h m (p : Int) = some (.inr true)
  | 0, p, h1, h2 => by omega
  | m + 1, p, h1, h2 => by
    have hw : law14_works N = some true := rfl
    rw [law14_CheckLines_l1.eq_2]
    by_cases hp : p < h.length
    · have hcase : (Option.bind (idx h (p : Int)) fun y36 =>
  if decide (30 < (y36.length : Int)) then
  (Option.bind (idx h (p : Int)) fun y43 =>
  if decide ((y43.length : Int) ≤ 100) then
  (some (true))
  else
  (Option.bind (idx h (p : Int)) fun y50 =>
  some (decide (110 < (y50.length : Int)))))
  else
  (Option.bind (idx h (p : Int)) fun y56 =>
  some (decide (110 < (y56.length : Int))))) = some true ∨ ((Option.bind (idx h (p : Int)) fun y36 =>
  if decide (30 < (y36.length : Int)) then
  (Option.bind (idx h (p : Int)) fun y43 =>
  if decide ((y43.length : Int) ≤ 100) then
  (some (true))
  else
  (Option.bind (idx h (p : Int)) fun y50 =>
  some (decide (110 < (y50.length : Int)))))
  else
  (Option.bind (idx h (p : Int)) fun y56 =>
  some (decide (110 < (y56.length : Int))))) = some false ∧ h[p].length ≤ 110) := by
        rw [idx_at hp, Option.bind_some, Option.bind_some, Option.bind_some]
        by_cases h3 : 30 < h[p].length
        · rw [if_pos (show decide ((30 : Int) < (h[p].length : Int)) = true by simp; omega)]
          by_cases h4 : h[p].length ≤ 100
          · rw [if_pos (show decide ((h[p].length : Int) ≤ 100) = true by simp; omega)]
            exact .inl rfl
          · rw [if_neg (show ¬ decide ((h[p].length : Int) ≤ 100) = true by simp; omega)]
            by_cases h5 : 110 < h[p].length
            · rw [decide_eq_true (show (110 : Int) < (h[p].length : Int) by omega)]
              exact .inl rfl
            · rw [decide_eq_false (show ¬ (110 : Int) < (h[p].length : Int) by omega)]
              exact .inr ⟨rfl, by omega⟩
        · rw [if_neg (show ¬ decide ((30 : Int) < (h[p].length : Int)) = true by simp; omega), decide_eq_false (show ¬ (110 : Int) < (h[p].length : Int) by omega)]
          exact .inr ⟨rfl, by omega⟩
      rw [if_pos (dlt hp)]
      rcases hcase with h3 | ⟨h3, h4⟩
      · rw [h3, Option.bind_some]
        dsimp only
        rw [if_pos rfl, hw]
        exact .inr rfl
      · rw [h3, Option.bind_some]
        dsimp only
        rw [if_neg Bool.false_ne_true, chk, if_pos (by unfold inR; omega)]
        rcases law_l1 hh m (p + 1) (by omega) (by omega) with ⟨c, d⟩ | d
        · refine .inl ⟨fun j hj hjp => ?_, d⟩
          by_cases e : j = p
          · subst e; exact h4
          · exact c j hj (by omega)
        · exact .inr d
    · rw [if_neg (dge (by omega))]
      exact .inl ⟨fun j hj hjp => by omega, rfl⟩
theorem lawL (a0 : List (List Item)) (_k0 : a0.length ≤ maxLen ∧ ∀ x ∈ a0, x.length ≤ maxLen ∧ ∀ y ∈ x, True) (a1 : List Int) (_k1 : a1.length ≤ maxLen ∧ ∀ x ∈ a1, (Lit.int .i64 x).wf = true) : ∃ N, law14_CheckLines N a0 a1 = some true := by
  refine ⟨300003 + tot a1, ?_⟩
  generalize hN' : 300003 + tot a1 = N
  have hN : 200000 + tot a1 + 2 < N := by omega
  clear hN'
  have hw : law14_works N = some true := rfl
  unfold law14_CheckLines
  have hfirst : (if decide (8 < (a0.length : Int)) then
  (if decide ((a0.length : Int) ≤ 64) then
  (some (true))
  else
  (if decide (80 < (a0.length : Int)) then
  (some (true))
  else
  (some (decide (100 < (a1.length : Int))))))
  else
  (if decide (80 < (a0.length : Int)) then
  (some (true))
  else
  (some (decide (100 < (a1.length : Int)))))) = some true ∨ ((if decide (8 < (a0.length : Int)) then
  (if decide ((a0.length : Int) ≤ 64) then
  (some (true))
  else
  (if decide (80 < (a0.length : Int)) then
  (some (true))
  else
  (some (decide (100 < (a1.length : Int))))))
  else
  (if decide (80 < (a0.length : Int)) then
  (some (true))
  else
  (some (decide (100 < (a1.length : Int)))))) = some false ∧ a0.length ≤ 80 ∧ a1.length ≤ 100) := by
    have hlast : (if decide (80 < (a0.length : Int)) then (some (true)) else (some (decide (100 < (a1.length : Int))))) = some true ∨ ((if decide (80 < (a0.length : Int)) then (some (true)) else (some (decide (100 < (a1.length : Int))))) = some false ∧ a0.length ≤ 80 ∧ a1.length ≤ 100) := by
      by_cases h1 : 80 < a0.length
      · rw [if_pos (show decide ((80 : Int) < (a0.length : Int)) = true by simp; omega)]; exact .inl rfl
      · rw [if_neg (show ¬ decide ((80 : Int) < (a0.length : Int)) = true by simp; omega)]
        by_cases h2 : 100 < a1.length
        · rw [decide_eq_true (show (100 : Int) < (a1.length : Int) by omega)]; exact .inl rfl
        · rw [decide_eq_false (show ¬ (100 : Int) < (a1.length : Int) by omega)]; exact .inr ⟨rfl, by omega, by omega⟩
    by_cases h1 : decide (8 < (a0.length : Int)) = true
    · rw [if_pos h1]
      by_cases h2 : decide ((a0.length : Int) ≤ 64) = true
      · rw [if_pos h2]; exact .inl rfl
      · rw [if_neg h2]; exact hlast
    · rw [if_neg h1]; exact hlast
  rcases hfirst with hf | ⟨hf, hh, hv⟩
  · rw [hf, Option.bind_some]
    dsimp only
    rw [if_pos rfl, hw]; rfl
  · rw [hf, Option.bind_some]
    dsimp only
    rw [if_neg Bool.false_ne_true]
    rcases law_l1 (N := N) (h := a0) (by omega) N 0 (by omega) (by omega) with ⟨hc, hd⟩ | hd
    · have hd : law14_CheckLines_l1 N a0 N 0 = _ := hd
      have hl : ∀ l, l ∈ a0 → l.length ≤ 100000 := fun l hl => by
        obtain ⟨j, hj, rfl⟩ := List.getElem_of_mem hl
        have := hc j hj (by omega)
        omega
      obtain ⟨a, b, c, r1, r2, r3, r4⟩ := line_same (N := N) (h := a0) (hv := a1) (by omega) hl hN (by omega)
      rw [hd, Option.bind_some]
      dsimp only
      rw [items_eq (by omega) hl (by omega), Option.bind_some, r1, Option.bind_some, r2, Option.bind_some]
      dsimp only
      rw [same_self r3 (by omega), Option.bind_some, if_pos rfl, same_self r4 (by omega), Option.bind_some, if_pos rfl, if_pos (decide_eq_true rfl), hw]
      rfl
    · have hd : law14_CheckLines_l1 N a0 N 0 = _ := hd
      rw [hd]; rfl
end Go.Arm
