/- A part of the proof. -/
import Derived.Test.YtdaedcoolcicoaaHandR
namespace Go.Arm
open Go Go.RowKit

/-- Something that a process did: its place, and how many states were saved before it. -/
structure Ev where
  p : Nat
  i : Nat
  x : Item
  s : Nat
def evl (p : Nat) : List Item → Nat → Nat → List Ev
  | [], _, _ => []
  | x :: l, i, s => ⟨p, i, x, s⟩ :: evl p l (i + 1) (if x.Kind = 1 then s + 1 else s)
def evs (p : Nat) : List (List Item) → List Ev
  | [] => []
  | l :: h => evl p l 0 0 ++ evs (p + 1) h
def cnt : List Item → Nat
  | [] => 0
  | x :: l => (if x.Kind = 1 then 1 else 0) + cnt l
def badX (x : Item) : Bool := ((!decide (x.Kind = 2)) && (!decide (x.Kind = 3))) || decide (x.No < 0)
def saveX (x : Item) : Bool := decide (x.Kind = 1) && decide (x.No = 0)
def stepE (ps : List (Int × Psg)) (e : Ev) : Option (List (Int × Psg)) :=
  if saveX e.x then some ps
  else if badX e.x then none
  else if (if decide (e.x.Kind = 3) then ((mget ps e.x.No).getD ⟨⟨none⟩, ⟨none⟩⟩).recv.x.isSome else ((mget ps e.x.No).getD ⟨⟨none⟩, ⟨none⟩⟩).sent.x.isSome) then none
  else some (mset ps e.x.No (if decide (e.x.Kind = 3) then ⟨((mget ps e.x.No).getD ⟨⟨none⟩, ⟨none⟩⟩).sent, ⟨some ⟨(e.p : Int), (e.s : Int)⟩⟩⟩ else ⟨⟨some ⟨(e.p : Int), (e.s : Int)⟩⟩, ((mget ps e.x.No).getD ⟨⟨none⟩, ⟨none⟩⟩).recv⟩))
def foldS : List Ev → List (Int × Psg) → Option (List (Int × Psg))
  | [], ps => some ps
  | e :: l, ps => match stepE ps e with
    | none => none
    | some ps' => foldS l ps'
theorem foldS_append (a b : List Ev) (ps : List (Int × Psg)) : foldS (a ++ b) ps = (foldS a ps).bind fun ps' => foldS b ps' := by
  induction a generalizing ps with
  | nil => rfl
  | cons e a ih =>
    show (match stepE ps e with | none => none | some ps' => foldS (a ++ b) ps') = (match stepE ps e with | none => none | some ps' => foldS a ps').bind _
    cases h : stepE ps e with
    | none => rfl
    | some ps' => exact ih ps'
def dupX (ps : List (Int × Psg)) (x : Item) : Bool := if decide (x.Kind = 3) then ((mget ps x.No).getD ⟨⟨none⟩, ⟨none⟩⟩).recv.x.isSome else ((mget ps x.No).getD ⟨⟨none⟩, ⟨none⟩⟩).sent.x.isSome
def putX (ps : List (Int × Psg)) (x : Item) (sp : Spot) : List (Int × Psg) := mset ps x.No (if decide (x.Kind = 3) then ⟨((mget ps x.No).getD ⟨⟨none⟩, ⟨none⟩⟩).sent, ⟨some sp⟩⟩ else ⟨⟨some sp⟩, ((mget ps x.No).getD ⟨⟨none⟩, ⟨none⟩⟩).recv⟩)
theorem stepE_eq (ps : List (Int × Psg)) (e : Ev) : stepE ps e = if saveX e.x then some ps else if badX e.x then none else if dupX ps e.x then none else some (putX ps e.x ⟨(e.p : Int), (e.s : Int)⟩) := rfl
theorem item_eq {p s : Nat} {i : Nat} {x : Item} {ps : List (Int × Psg)} {sv : List Int} (hp : sv[p]? = some (s : Int)) (hs : s ≤ 100000) :
    psgItem (p : Int) x ps sv = some ((stepE ps ⟨p, i, x, s⟩).map fun ps' => (ps', if saveX x then sv.set p ((s : Int) + 1) else sv)) := by
  have hi : idx sv (p : Int) = some (s : Int) := by
    show (if (0 : Int) ≤ (p : Int) then sv[((p : Int)).toNat]? else none) = _
    rw [if_pos (by omega), Int.toNat_natCast]; exact hp
  have hps : psgItem (p : Int) x ps sv = if saveX x then (Option.bind (idx sv (p : Int)) fun c => chk (inR (c + 1)) <| some (some (ps, sv.set (p : Int).toNat (c + 1)))) else if badX x then some none else if dupX ps x then some none else (Option.bind (idx sv (p : Int)) fun c => some (some (putX ps x ⟨(p : Int), c⟩, sv))) := rfl
  rw [hps, stepE_eq, hi, Option.bind_some, Option.bind_some]
  by_cases h1 : saveX x = true
  · rw [h1, if_pos rfl, chk, if_pos (by unfold inR; omega), Int.toNat_natCast]; rfl
  · have h1' : saveX x = false := by simpa using h1
    rw [h1']
    by_cases h2 : badX x = true
    · rw [h2]; rfl
    · have h2' : badX x = false := by simpa using h2
      rw [h2']
      by_cases h3 : dupX ps x = true
      · rw [h3]; rfl
      · have h3' : dupX ps x = false := by simpa using h3
        rw [h3']; rfl
theorem psgI_eq {p : Nat} {l : List Item} (hl : l.length ≤ 100000) : ∀ (m i s : Nat) (ps : List (Int × Psg)) (sv : List Int), i ≤ l.length → l.length < i + m → sv[p]? = some (s : Int) → s ≤ i →
    psgI (p : Int) l m (i : Int) ps sv = some ((foldS (evl p (l.drop i) i s) ps).map fun ps' => (ps', sv.set p ((s + cnt (l.drop i) : Nat) : Int)))
  | 0, i, s, ps, sv, h1, h2, _, _ => by omega
  | m + 1, i, s, ps, sv, h1, h2, hp, hs => by
    rw [psgI]
    by_cases hi : i < l.length
    · have hd : l.drop i = l[i] :: l.drop (i + 1) := List.drop_eq_getElem_cons hi
      have hix : idx l (i : Int) = some l[i] := by
        show (if (0 : Int) ≤ (i : Int) then l[((i : Int)).toNat]? else none) = _
        rw [if_pos (by omega), Int.toNat_natCast]; exact List.getElem?_eq_getElem hi
      rw [if_pos (show decide ((i : Int) < (l.length : Int)) = true by simp; exact hi), hix, Option.bind_some, item_eq (i := i) hp (by omega), Option.bind_some, hd]
      show (match (stepE ps ⟨p, i, l[i], s⟩).map fun ps' => (ps', if saveX l[i] then sv.set p ((s : Int) + 1) else sv) with | none => some none | some q => chk (inR ((i : Int) + 1)) <| psgI (p : Int) l m ((i : Int) + 1) q.1 q.2) = some ((match stepE ps ⟨p, i, l[i], s⟩ with | none => none | some ps' => foldS (evl p (l.drop (i + 1)) (i + 1) (if (l[i]).Kind = 1 then s + 1 else s)) ps').map _)
      cases hst : stepE ps ⟨p, i, l[i], s⟩ with
      | none => rfl
      | some ps' =>
        rw [Option.map_some]
        dsimp only
        rw [chk, if_pos (show inR ((i : Int) + 1) by unfold inR; omega)]
        have hpl : p < sv.length := (List.getElem?_eq_some_iff.1 hp).1
        by_cases h1 : saveX l[i] = true
        · have hk : (l[i]).Kind = 1 := by
            unfold saveX at h1
            rw [Bool.and_eq_true] at h1
            exact of_decide_eq_true h1.1
          rw [h1, if_pos rfl, if_pos hk]
          have := psgI_eq hl m (i + 1) (s + 1) ps' (sv.set p ((s : Int) + 1)) (by omega) (by omega) (by rw [List.getElem?_set_self hpl]; rfl) (by omega)
          refine Eq.trans this ?_
          rw [List.set_set]
          show _ = some (Option.map (fun ps' => (ps', sv.set p ((s + ((if (l[i]).Kind = 1 then 1 else 0) + cnt (l.drop (i + 1))) : Nat) : Int))) _)
          rw [if_pos hk, Nat.add_assoc]
        · have hk : ¬ (l[i]).Kind = 1 := fun hk => by
            have h1' : saveX l[i] = false := by simpa using h1
            have : stepE ps ⟨p, i, l[i], s⟩ = none := by
              rw [stepE_eq]
              show (if saveX l[i] then _ else if badX l[i] then _ else _) = _
              rw [h1']
              have : badX l[i] = true := by unfold badX; rw [hk]; rfl
              rw [this]; rfl
            rw [this] at hst; cases hst
          rw [if_neg h1, if_neg hk]
          have := psgI_eq hl m (i + 1) s ps' sv (by omega) (by omega) hp (by omega)
          refine Eq.trans this ?_
          show _ = some (Option.map (fun ps' => (ps', sv.set p ((s + ((if (l[i]).Kind = 1 then 1 else 0) + cnt (l.drop (i + 1))) : Nat) : Int))) _)
          rw [if_neg hk, Nat.zero_add]
    · have hd : l.drop i = [] := List.drop_eq_nil_of_le (by omega)
      rw [if_neg (show ¬ decide ((i : Int) < (l.length : Int)) = true by simp; omega), hd]
      have he : sv.set p ((s + 0 : Nat) : Int) = sv := by
        refine List.ext_getElem? fun j => ?_
        rw [List.getElem?_set]
        split
        · rename_i e; subst e; rw [hp]; split
          · rfl
          · rename_i h; rw [List.getElem?_eq_none (by omega)] at hp; cases hp
        · rfl
      show some (some (ps, sv)) = some (some (ps, sv.set p ((s + 0 : Nat) : Int)))
      rw [he]
theorem psgP_eq {N : Nat} (hN : 200000 < N) {h : List (List Item)} (hh : h.length ≤ 1000) (hl : ∀ l, l ∈ h → l.length ≤ 100000) : ∀ (m p : Nat) (ps : List (Int × Psg)) (sv : List Int), p ≤ h.length → h.length < p + m → sv.length = h.length → (∀ j, p ≤ j → j < h.length → sv[j]? = some 0) →
    psgP N h m (p : Int) ps sv = some ((foldS (evs p (h.drop p)) ps).map fun ps' => (ps', sv.take p ++ (h.drop p).map fun l => (cnt l : Int)))
  | 0, p, ps, sv, h1, h2, _, _ => by omega
  | m + 1, p, ps, sv, h1, h2, hsl, hz => by
    rw [psgP]
    by_cases hp : p < h.length
    · have hd : h.drop p = h[p] :: h.drop (p + 1) := List.drop_eq_getElem_cons hp
      have hix : idx h (p : Int) = some h[p] := by
        show (if (0 : Int) ≤ (p : Int) then h[((p : Int)).toNat]? else none) = _
        rw [if_pos (by omega), Int.toNat_natCast]; exact List.getElem?_eq_getElem hp
      have hlp := hl h[p] (List.getElem_mem hp)
      have hI := psgI_eq (p := p) hlp N 0 0 ps sv (by omega) (by omega) (hz p (Nat.le_refl _) hp) (Nat.le_refl _)
      have hI : psgI (p : Int) h[p] N 0 ps sv = _ := hI
      rw [if_pos (show decide ((p : Int) < (h.length : Int)) = true by simp; exact hp), hix, Option.bind_some, hI, Option.bind_some, hd]
      show (match (foldS (evl p (h[p].drop 0) 0 0) ps).map fun ps' => (ps', sv.set p ((0 + cnt (h[p].drop 0) : Nat) : Int)) with | none => some none | some q => chk (inR ((p : Int) + 1)) <| psgP N h m ((p : Int) + 1) q.1 q.2) = some ((foldS (evl p h[p] 0 0 ++ evs (p + 1) (h.drop (p + 1))) ps).map _)
      rw [List.drop_zero, foldS_append, Nat.zero_add]
      cases hf : foldS (evl p h[p] 0 0) ps with
      | none => rfl
      | some ps' =>
        rw [Option.map_some, Option.bind_some]
        dsimp only
        rw [chk, if_pos (show inR ((p : Int) + 1) by unfold inR; omega)]
        have := psgP_eq hN hh hl m (p + 1) ps' (sv.set p ((cnt h[p] : Nat) : Int)) (by omega) (by omega) (by rw [List.length_set]; exact hsl) (fun j hj hj2 => by rw [List.getElem?_set_ne (by omega)]; exact hz j (by omega) hj2)
        refine Eq.trans this ?_
        have ht : (sv.set p ((cnt h[p] : Nat) : Int)).take (p + 1) = sv.take p ++ [((cnt h[p] : Nat) : Int)] := by
          refine List.ext_getElem? fun j => ?_
          have hps : p < sv.length := by omega
          rcases Nat.lt_trichotomy j p with hj | hj | hj
          · rw [List.getElem?_take_of_lt (by omega), List.getElem?_set_ne (by omega), List.getElem?_append_left (by rw [List.length_take]; omega), List.getElem?_take_of_lt hj]
          · subst hj
            rw [List.getElem?_take_of_lt (by omega), List.getElem?_set_self hps, List.getElem?_append_right (by rw [List.length_take]; omega), List.length_take, Nat.min_eq_left (by omega), Nat.sub_self]; rfl
          · rw [List.getElem?_eq_none (by rw [List.length_take, List.length_set]; omega), List.getElem?_eq_none (by rw [List.length_append, List.length_take, List.length_singleton]; omega)]
        rw [ht, List.map_cons, List.append_assoc]
        rfl
    · have hd : h.drop p = [] := List.drop_eq_nil_of_le (by omega)
      rw [if_neg (show ¬ decide ((p : Int) < (h.length : Int)) = true by simp; omega), hd, List.map_nil, List.append_nil, List.take_of_length_le (by omega)]
      rfl
end Go.Arm
namespace Go.Arm
open Go Go.RowKit

theorem mget_mset {β : Type} {l : List (Int × β)} {k k' : Int} {y : β} : mget (mset l k y) k' = if k' = k then some y else mget l k' := by
  unfold mset
  by_cases ha : l.any (fun e => e.1 == k) = true
  · rw [if_pos ha]
    unfold mget
    rw [List.find?_map]
    have hp : ((fun e : Int × β => e.1 == k') ∘ fun e => if e.1 == k then (k, y) else e) = fun e => e.1 == k' := by
      funext e
      simp only [Function.comp]
      split
      · rename_i h
        have h' : e.1 = k := by simpa using h
        show (k == k') = (e.1 == k')
        rw [h']
      · rfl
    rw [hp, Option.map_map]
    by_cases hk : k' = k
    · subst hk
      rw [if_pos rfl]
      obtain ⟨e, he, hek⟩ := List.any_eq_true.1 ha
      cases hf : l.find? (fun e => e.1 == k') with
      | none => exact absurd hek (by simpa using List.find?_eq_none.1 hf e he)
      | some x =>
        have hx := List.find?_some hf
        rw [Option.map_some]
        simp only [Function.comp]
        rw [if_pos hx]
    · rw [if_neg hk]
      cases hf : l.find? (fun e => e.1 == k') with
      | none => rfl
      | some x =>
        have hx : x.1 = k' := by simpa using List.find?_some hf
        rw [Option.map_some, Option.map_some]
        simp only [Function.comp]
        rw [if_neg (by rw [hx]; simpa using hk)]
  · rw [if_neg ha]
    unfold mget
    rw [List.find?_append]
    by_cases hk : k' = k
    · subst hk
      rw [if_pos rfl]
      have : l.find? (fun e => e.1 == k') = none := List.find?_eq_none.2 fun e he h => ha (List.any_eq_true.2 ⟨e, he, h⟩)
      rw [this]
      simp
    · rw [if_neg hk]
      have : ([(k, y)] : List (Int × β)).find? (fun e => e.1 == k') = none := by
        rw [List.find?_cons_of_neg (by simpa using fun h => hk h.symm)]; rfl
      rw [this, Option.or_none]
def isE (k no : Int) (e : Ev) : Bool := decide (e.x.Kind = k) && decide (e.x.No = no)
/-- The first event of a kind with a number. -/
def look (E : List Ev) (k no : Int) : Option Ev := E.find? (isE k no)
def spotOf (e : Ev) : Spot := ⟨(e.p : Int), (e.s : Int)⟩
def spots (E : List Ev) (k no : Int) : NRef Spot := ⟨(look E k no).map spotOf⟩
structure Inv (E : List Ev) (ps : List (Int × Psg)) : Prop where
  keys : (ps.map (·.1)).Nodup
  get : ∀ no, (mget ps no).getD ⟨⟨none⟩, ⟨none⟩⟩ = ⟨spots E 2 no, spots E 3 no⟩
  has : ∀ no, (mget ps no).isSome = ((look E 2 no).isSome || (look E 3 no).isSome)
theorem look_snoc (E : List Ev) (e : Ev) (k no : Int) : look (E ++ [e]) k no = (look E k no).or (if isE k no e then some e else none) := by
  unfold look
  rw [List.find?_append]
  congr 1
  cases h : isE k no e with
  | true => rw [List.find?_cons_of_pos h]; rfl
  | false => rw [List.find?_cons_of_neg (by rw [h]; exact Bool.false_ne_true)]; rfl
theorem isE_kind {k no : Int} {e : Ev} (h : e.x.Kind ≠ k) : isE k no e = false := by unfold isE; rw [decide_eq_false h]; rfl
theorem isE_no {k no : Int} {e : Ev} (h : e.x.No ≠ no) : isE k no e = false := by unfold isE; rw [decide_eq_false h, Bool.and_false]
theorem isE_self {e : Ev} : isE e.x.Kind e.x.No e = true := by unfold isE; simp
def val : List Ev → List Ev → Prop
  | _, [] => True
  | D, e :: R => (saveX e.x = true ∨ (badX e.x = false ∧ look D e.x.Kind e.x.No = none)) ∧ val (D ++ [e]) R
theorem badX_kind {x : Item} (h : badX x = false) : x.Kind = 2 ∨ x.Kind = 3 := by
  unfold badX at h
  simp only [Bool.or_eq_false_iff, Bool.and_eq_false_iff, Bool.not_eq_eq_eq_not, Bool.not_false, decide_eq_true_eq] at h
  exact h.1
theorem saveX_kind {x : Item} (h : saveX x = true) : x.Kind = 1 := by
  unfold saveX at h
  rw [Bool.and_eq_true] at h
  exact of_decide_eq_true h.1
theorem inv_save {D : List Ev} {e : Ev} {ps : List (Int × Psg)} (h : Inv D ps) (hs : e.x.Kind = 1) : Inv (D ++ [e]) ps := by
  have l2 : ∀ no, look (D ++ [e]) 2 no = look D 2 no := fun no => by rw [look_snoc, isE_kind (by omega)]; simp
  have l3 : ∀ no, look (D ++ [e]) 3 no = look D 3 no := fun no => by rw [look_snoc, isE_kind (by omega)]; simp
  refine ⟨h.keys, fun no => ?_, fun no => ?_⟩
  · rw [h.get no]; unfold spots; rw [l2, l3]
  · rw [h.has no, l2, l3]
theorem dup_eq {D : List Ev} {x : Item} {ps : List (Int × Psg)} (h : Inv D ps) (hk : x.Kind = 2 ∨ x.Kind = 3) : dupX ps x = (look D x.Kind x.No).isSome := by
  unfold dupX
  rw [h.get]
  rcases hk with hk | hk
  · rw [hk, if_neg (by decide)]
    show ((look D 2 x.No).map spotOf).isSome = _
    rw [Option.isSome_map]
  · rw [hk, if_pos (by decide)]
    show ((look D 3 x.No).map spotOf).isSome = _
    rw [Option.isSome_map]
theorem inv_put {D : List Ev} {e : Ev} {ps : List (Int × Psg)} (h : Inv D ps) (hk : e.x.Kind = 2 ∨ e.x.Kind = 3) (hn : look D e.x.Kind e.x.No = none) : Inv (D ++ [e]) (putX ps e.x (spotOf e)) := by
  refine ⟨mset_keys _ _ _ h.keys, fun no => ?_, fun no => ?_⟩
  · unfold putX
    rw [mget_mset]
    by_cases hno : no = e.x.No
    · subst hno
      rw [if_pos rfl, Option.getD_some, h.get]
      unfold spots
      rw [look_snoc, look_snoc]
      rcases hk with hk | hk
      · have e3 : isE 3 e.x.No e = false := isE_kind (by omega)
        have e2 : isE 2 e.x.No e = true := by rw [← hk]; exact isE_self
        rw [hk] at hn
        rw [hk, if_neg (by decide), e3, e2, hn]
        simp
      · have e2 : isE 2 e.x.No e = false := isE_kind (by omega)
        have e3 : isE 3 e.x.No e = true := by rw [← hk]; exact isE_self
        rw [hk] at hn
        rw [hk, if_pos (by decide), e3, e2, hn]
        simp
    · rw [if_neg hno, h.get]
      unfold spots
      rw [look_snoc, look_snoc, isE_no (fun h => hno h.symm), isE_no (fun h => hno h.symm)]
      simp
  · unfold putX
    rw [mget_mset, look_snoc, look_snoc]
    by_cases hno : no = e.x.No
    · subst hno
      rw [if_pos rfl]
      rcases hk with hk | hk
      · have e2 : isE 2 e.x.No e = true := by rw [← hk]; exact isE_self
        rw [e2]; simp
      · have e3 : isE 3 e.x.No e = true := by rw [← hk]; exact isE_self
        rw [e3]; simp
    · rw [if_neg hno, h.has, isE_no (fun h => hno h.symm), isE_no (fun h => hno h.symm)]
      simp
theorem fold_spec : ∀ (R D : List Ev) (ps : List (Int × Psg)), Inv D ps → (∃ ps', foldS R ps = some ps' ∧ Inv (D ++ R) ps' ∧ val D R) ∨ (foldS R ps = none ∧ ¬ val D R)
  | [], D, ps, h => .inl ⟨ps, rfl, by rw [List.append_nil]; exact h, trivial⟩
  | e :: R, D, ps, h => by
    have hstep : foldS (e :: R) ps = match stepE ps e with | none => none | some ps' => foldS R ps' := rfl
    have happ : D ++ e :: R = (D ++ [e]) ++ R := by simp
    rw [hstep, stepE_eq, happ]
    by_cases hs : saveX e.x = true
    · rw [hs, if_pos rfl]
      rcases fold_spec R (D ++ [e]) ps (inv_save h (saveX_kind hs)) with ⟨ps', a, b, c⟩ | ⟨a, b⟩
      · exact .inl ⟨ps', a, b, .inl hs, c⟩
      · exact .inr ⟨a, fun x => b x.2⟩
    · have hs' : saveX e.x = false := by simpa using hs
      rw [hs']
      by_cases hb : badX e.x = true
      · rw [hb]
        refine .inr ⟨rfl, fun x => ?_⟩
        rcases x.1 with x | ⟨x, _⟩
        · exact hs x
        · rw [hb] at x; cases x
      · have hb' : badX e.x = false := by simpa using hb
        have hk := badX_kind hb'
        rw [hb', dup_eq h hk]
        cases hl : look D e.x.Kind e.x.No with
        | some z =>
          refine .inr ⟨rfl, fun x => ?_⟩
          rcases x.1 with x | ⟨_, x⟩
          · exact hs x
          · rw [hl] at x; cases x
        | none =>
          rcases fold_spec R (D ++ [e]) (putX ps e.x (spotOf e)) (inv_put h hk hl) with ⟨ps', a, b, c⟩ | ⟨a, b⟩
          · exact .inl ⟨ps', a, b, .inr ⟨hb', hl⟩, c⟩
          · exact .inr ⟨a, fun x => b x.2⟩
end Go.Arm
namespace Go.Arm
open Go Go.RowKit

theorem idx_at {α : Type} {l : List α} {i : Nat} (h : i < l.length) : idx l (i : Int) = some l[i] := by
  show (if (0 : Int) ≤ (i : Int) then l[((i : Int)).toNat]? else none) = _
  rw [if_pos (by omega), Int.toNat_natCast]; exact List.getElem?_eq_getElem h
theorem dlt {a b : Nat} (h : a < b) : decide ((a : Int) < (b : Int)) = true := by simp; exact h
theorem dge {a b : Nat} (h : b ≤ a) : ¬ decide ((a : Int) < (b : Int)) = true := by simp; omega
theorem cnt_le : ∀ l : List Item, cnt l ≤ l.length
  | [] => Nat.le_refl _
  | x :: l => by
    have := cnt_le l
    show (if x.Kind = 1 then 1 else 0) + cnt l ≤ l.length + 1
    split <;> omega
theorem look_append (a b : List Ev) (k no : Int) : look (a ++ b) k no = (look a k no).or (look b k no) := List.find?_append
theorem evl_mem {p : Nat} {e : Ev} : ∀ {l : List Item} {i s : Nat}, e ∈ evl p l i s → ∃ k, ∃ hk : k < l.length, e = ⟨p, i + k, l[k], s + cnt (l.take k)⟩
  | [], i, s, h => by cases h
  | x :: l, i, s, h => by
    rcases List.mem_cons.1 h with rfl | h
    · exact ⟨0, by simp, rfl⟩
    · obtain ⟨k, hk, rfl⟩ := evl_mem h
      refine ⟨k + 1, by simp; omega, ?_⟩
      have h1 : cnt ((x :: l).take (k + 1)) = (if x.Kind = 1 then 1 else 0) + cnt (l.take k) := rfl
      rw [h1]
      have h2 : (if x.Kind = 1 then s + 1 else s) + cnt (l.take k) = s + ((if x.Kind = 1 then 1 else 0) + cnt (l.take k)) := by split <;> omega
      rw [h2, show i + 1 + k = i + (k + 1) by omega]
      rfl
theorem evl_at {p : Nat} : ∀ {l : List Item} {i s k : Nat} (hk : k < l.length), (⟨p, i + k, l[k], s + cnt (l.take k)⟩ : Ev) ∈ evl p l i s
  | x :: l, i, s, 0, _ => List.mem_cons_self ..
  | x :: l, i, s, k + 1, hk => by
    refine List.mem_cons_of_mem _ ?_
    have := evl_at (p := p) (l := l) (i := i + 1) (s := if x.Kind = 1 then s + 1 else s) (k := k) (by simpa using hk)
    have h1 : cnt ((x :: l).take (k + 1)) = (if x.Kind = 1 then 1 else 0) + cnt (l.take k) := rfl
    have h2 : (if x.Kind = 1 then s + 1 else s) + cnt (l.take k) = s + ((if x.Kind = 1 then 1 else 0) + cnt (l.take k)) := by split <;> omega
    rw [h2, show i + 1 + k = i + (k + 1) by omega] at this
    rw [h1]
    exact this
theorem evs_mem {e : Ev} : ∀ {h : List (List Item)} {p : Nat}, e ∈ evs p h → ∃ j, ∃ hj : j < h.length, ∃ k, ∃ hk : k < h[j].length, e = ⟨p + j, k, h[j][k], cnt (h[j].take k)⟩
  | [], p, he => by cases he
  | l :: h, p, he => by
    rcases List.mem_append.1 he with he | he
    · obtain ⟨k, hk, rfl⟩ := evl_mem he
      exact ⟨0, by simp, k, hk, by rw [Nat.zero_add, Nat.zero_add]; rfl⟩
    · obtain ⟨j, hj, k, hk, rfl⟩ := evs_mem he
      exact ⟨j + 1, by simp; omega, k, hk, by rw [show p + 1 + j = p + (j + 1) by omega]; rfl⟩
theorem evs_at : ∀ {h : List (List Item)} {p j k : Nat} (hj : j < h.length) (hk : k < h[j].length), (⟨p + j, k, h[j][k], cnt (h[j].take k)⟩ : Ev) ∈ evs p h
  | l :: h, p, 0, k, hj, hk => by
    refine List.mem_append_left _ ?_
    have := evl_at (p := p) (l := l) (i := 0) (s := 0) hk
    rw [Nat.zero_add, Nat.zero_add] at this
    exact this
  | l :: h, p, j + 1, k, hj, hk => by
    refine List.mem_append_right _ ?_
    have := evs_at (h := h) (p := p + 1) (j := j) (k := k) (by simpa using hj) hk
    rw [show p + 1 + j = p + (j + 1) by omega] at this
    exact this
theorem evl_nodup {p : Nat} : ∀ {l : List Item} {i s : Nat}, (evl p l i s).Nodup
  | [], _, _ => List.nodup_nil
  | x :: l, i, s => by
    refine List.nodup_cons.2 ⟨fun h => ?_, evl_nodup⟩
    obtain ⟨k, hk, he⟩ := evl_mem h
    have := congrArg Ev.i he
    simp only at this
    omega
theorem evs_nodup : ∀ {h : List (List Item)} {p : Nat}, (evs p h).Nodup
  | [], _ => List.nodup_nil
  | l :: h, p => by
    refine List.nodup_append.2 ⟨evl_nodup, evs_nodup, fun a ha b hb e => ?_⟩
    subst e
    obtain ⟨k, hk, he⟩ := evl_mem ha
    obtain ⟨j, hj, k', hk', he'⟩ := evs_mem hb
    have h1 := congrArg Ev.p he
    have h2 := congrArg Ev.p he'
    simp only at h1 h2
    omega
def okE (E : List Ev) (e : Ev) : Prop := saveX e.x = true ∨ (badX e.x = false ∧ look E e.x.Kind e.x.No = some e)
theorem look_cons_self (e : Ev) (R : List Ev) : look (e :: R) e.x.Kind e.x.No = some e := List.find?_cons_of_pos isE_self
theorem look_mem {E : List Ev} {k no : Int} {e : Ev} (h : look E k no = some e) : e ∈ E ∧ e.x.Kind = k ∧ e.x.No = no := by
  refine ⟨List.mem_of_find?_eq_some h, ?_⟩
  have := List.find?_some h
  unfold isE at this
  rw [Bool.and_eq_true] at this
  exact ⟨of_decide_eq_true this.1, of_decide_eq_true this.2⟩
theorem val_all : ∀ (R D : List Ev), (D ++ R).Nodup → (val D R ↔ ∀ e, e ∈ R → okE (D ++ R) e)
  | [], D, _ => ⟨(fun _ e he => by cases he), fun _ => trivial⟩
  | e :: R, D, hn => by
    have happ : D ++ e :: R = (D ++ [e]) ++ R := by simp
    have ih := val_all R (D ++ [e]) (by rw [← happ]; exact hn)
    have hl : look (D ++ e :: R) e.x.Kind e.x.No = (look D e.x.Kind e.x.No).or (some e) := by rw [look_append, look_cons_self]
    refine ⟨fun h e' he' => ?_, fun h => ⟨?_, ?_⟩⟩
    · rcases List.mem_cons.1 he' with rfl | he'
      · rcases h.1 with h1 | ⟨h1, h2⟩
        · exact .inl h1
        · refine .inr ⟨h1, ?_⟩
          rw [hl, h2]; rfl
      · rw [happ]
        exact ih.1 h.2 e' he'
    · rcases h e (List.mem_cons_self ..) with h1 | ⟨h1, h2⟩
      · exact .inl h1
      · refine .inr ⟨h1, ?_⟩
        cases hd : look D e.x.Kind e.x.No with
        | none => rfl
        | some z =>
          rw [hl, hd] at h2
          have hz : z = e := by simpa using h2
          subst hz
          have := (List.nodup_append.1 hn).2.2 z (look_mem hd).1 z (List.mem_cons_self ..)
          exact absurd rfl this
    · refine ih.2 fun e' he' => ?_
      rw [← happ]
      exact h e' (List.mem_cons_of_mem _ he')
def evt (h : List (List Item)) (p i : Nat) (hp : p < h.length) (hi : i < h[p].length) : Ev := ⟨p, i, h[p][i], cnt (h[p].take i)⟩
theorem evt_mem {h : List (List Item)} {p i : Nat} (hp : p < h.length) (hi : i < h[p].length) : evt h p i hp hi ∈ evs 0 h := by
  have := evs_at (h := h) (p := 0) hp hi
  rw [Nat.zero_add] at this
  exact this
theorem evt_of {h : List (List Item)} {e : Ev} (he : e ∈ evs 0 h) : ∃ p i, ∃ (hp : p < h.length) (hi : i < h[p].length), e = evt h p i hp hi := by
  obtain ⟨j, hj, k, hk, rfl⟩ := evs_mem he
  exact ⟨j, k, hj, hk, by rw [Nat.zero_add]; rfl⟩
def okR (E : List Ev) (e : Ev) : Prop := e.x.Kind = 3 → ∃ z, look E 2 e.x.No = some z ∧ z.p ≠ e.p
theorem cont_l {N : Nat} {h : List (List Item)} (hh : h.length ≤ 1000) : ∀ (m p : Nat), p ≤ h.length → h.length < p + m →
    ((∀ j (hj : j < h.length), p ≤ j → h[j].length ≤ 100) ∧ slices_IndexFunc_LLcheck_Item_Lcheck_Item_l1 N h (check_passages_1 N) m (p : Int) = some (.inl ())) ∨ ((∃ l, l ∈ h ∧ 100 < l.length) ∧ ∃ j : Nat, slices_IndexFunc_LLcheck_Item_Lcheck_Item_l1 N h (check_passages_1 N) m (p : Int) = some (.inr (j : Int)))
  | 0, p, h1, h2 => by omega
  | m + 1, p, h1, h2 => by
    rw [slices_IndexFunc_LLcheck_Item_Lcheck_Item_l1.eq_2]
    by_cases hp : p < h.length
    · have h1 : check_passages_1 N h[p] = some (decide (100 < (h[p].length : Int))) := rfl
      rw [if_pos (dlt hp), idx_at hp, Option.bind_some, h1, Option.bind_some]
      by_cases hlp : 100 < h[p].length
      · rw [if_pos (by simp; omega)]
        exact .inr ⟨⟨_, List.getElem_mem hp, hlp⟩, p, rfl⟩
      · rw [if_neg (by simp; omega), chk, if_pos (by unfold inR; omega)]
        rcases cont_l hh m (p + 1) (by omega) (by omega) with ⟨c, d⟩ | ⟨c, d⟩
        · refine .inl ⟨fun j hj hjp => ?_, d⟩
          by_cases e : j = p
          · subst e; omega
          · exact c j hj (by omega)
        · exact .inr ⟨c, d⟩
    · rw [if_neg (dge (by omega))]
      exact .inl ⟨fun j hj hjp => by omega, rfl⟩
theorem cont_eq {N : Nat} {h : List (List Item)} (hh : h.length ≤ 1000) (hN : 200000 < N) : ((∀ l, l ∈ h → l.length ≤ 100) ∧ slices_ContainsFunc_LLcheck_Item_Lcheck_Item N h (check_passages_1 N) = some false) ∨ ((∃ l, l ∈ h ∧ 100 < l.length) ∧ slices_ContainsFunc_LLcheck_Item_Lcheck_Item N h (check_passages_1 N) = some true) := by
  rcases cont_l hh N 0 (by omega) (by omega) with ⟨a, b⟩ | ⟨a, j, b⟩
  · have b : slices_IndexFunc_LLcheck_Item_Lcheck_Item_l1 N h (check_passages_1 N) N 0 = _ := b
    refine .inl ⟨fun l hl => ?_, ?_⟩
    · obtain ⟨j, hj, rfl⟩ := List.getElem_of_mem hl
      exact a j hj (by omega)
    · unfold slices_ContainsFunc_LLcheck_Item_Lcheck_Item slices_IndexFunc_LLcheck_Item_Lcheck_Item
      rw [b]; rfl
  · have b : slices_IndexFunc_LLcheck_Item_Lcheck_Item_l1 N h (check_passages_1 N) N 0 = _ := b
    refine .inr ⟨a, ?_⟩
    unfold slices_ContainsFunc_LLcheck_Item_Lcheck_Item slices_IndexFunc_LLcheck_Item_Lcheck_Item
    rw [b]
    show some (decide ((0 : Int) ≤ (j : Int))) = some true
    rw [decide_eq_true (by omega)]
theorem mget_of_mem {β : Type} {l : List (Int × β)} {k : Int} {y : β} (hn : (l.map (·.1)).Nodup) (h : (k, y) ∈ l) : mget l k = some y := by
  cases hg : mget l k with
  | none =>
    have := List.any_eq_false.1 (mget_none hg) _ h
    simp at this
  | some z =>
    have := nodup_inj (g := fun e : Int × β => e.1) hn (mget_mem hg) h rfl
    cases this; rfl
theorem inv_mem {E : List Ev} {ps : List (Int × Psg)} (hi : Inv E ps) {no : Int} {m : Psg} (h : (no, m) ∈ ps) : m = ⟨spots E 2 no, spots E 3 no⟩ := by
  have h1 := hi.get no
  rw [mget_of_mem hi.keys h] at h1
  exact h1
theorem bad_iff {E : List Ev} {ps : List (Int × Psg)} (hi : Inv E ps) (hok : ∀ e, e ∈ E → okE E e) : (ps.any fun e => badP e.2) = true ↔ ∃ e, e ∈ E ∧ ¬ okR E e := by
  rw [List.any_eq_true]
  constructor
  · rintro ⟨⟨no, m⟩, hm, hb⟩
    have hb : badP m = true := hb
    rw [inv_mem hi hm] at hb
    unfold badP spots at hb
    cases h3 : look E 3 no with
    | none => rw [h3] at hb; cases hb
    | some e =>
      obtain ⟨he, hk, hno⟩ := look_mem h3
      refine ⟨e, he, fun hR => ?_⟩
      obtain ⟨z, hz, hne⟩ := hR hk
      rw [hno] at hz
      rw [h3, hz] at hb
      have : decide ((z.p : Int) = (e.p : Int)) = true := hb
      have := of_decide_eq_true this
      omega
  · rintro ⟨e, he, hR⟩
    have hk : e.x.Kind = 3 := Classical.byContradiction fun hk => hR fun h3 => absurd h3 hk
    have h3 : look E 3 e.x.No = some e := by
      rcases hok e he with h | ⟨_, h⟩
      · have := saveX_kind h; omega
      · rw [hk] at h; exact h
    have hs := hi.has e.x.No
    rw [h3] at hs
    cases hg : mget ps e.x.No with
    | none => rw [hg] at hs; simp at hs
    | some m =>
      refine ⟨(e.x.No, m), mget_mem hg, ?_⟩
      show badP m = true
      rw [inv_mem hi (mget_mem hg)]
      unfold badP spots
      rw [h3]
      cases h2 : look E 2 e.x.No with
      | none => rfl
      | some z =>
        show decide ((z.p : Int) = (e.p : Int)) = true
        refine decide_eq_true ?_
        refine Classical.byContradiction fun hne => hR fun _ => ⟨z, h2, fun h => hne (by rw [h])⟩
theorem mset_len {β : Type} (l : List (Int × β)) (k : Int) (y : β) : (mset l k y).length ≤ l.length + 1 := by
  unfold mset
  split
  · rw [List.length_map]; omega
  · rw [List.length_append]; simp
theorem fold_len : ∀ {R : List Ev} {ps ps' : List (Int × Psg)}, foldS R ps = some ps' → ps'.length ≤ ps.length + R.length
  | [], ps, ps', h => by cases h; simp
  | e :: R, ps, ps', h => by
    have hstep : foldS (e :: R) ps = match stepE ps e with | none => none | some ps' => foldS R ps' := rfl
    rw [hstep] at h
    cases hs : stepE ps e with
    | none => rw [hs] at h; cases h
    | some q =>
      rw [hs] at h
      have h1 := fold_len (R := R) h
      have h2 : q.length ≤ ps.length + 1 := by
        rw [stepE_eq] at hs
        split at hs
        · cases hs; omega
        · split at hs
          · cases hs
          · split at hs
            · cases hs
            · cases hs; exact mset_len _ _ _
      rw [List.length_cons]; omega
theorem evl_len {p : Nat} : ∀ {l : List Item} {i s : Nat}, (evl p l i s).length = l.length
  | [], _, _ => rfl
  | x :: l, i, s => by show (evl p l _ _).length + 1 = l.length + 1; rw [evl_len]
theorem evs_len : ∀ {h : List (List Item)} {p : Nat}, (∀ l, l ∈ h → l.length ≤ 100) → (evs p h).length ≤ 100 * h.length
  | [], _, _ => by simp [evs]
  | l :: h, p, hl => by
    have h1 := evs_len (h := h) (p := p + 1) fun l' hl' => hl l' (List.mem_cons_of_mem _ hl')
    have h2 := hl l (List.mem_cons_self ..)
    show (evl p l 0 0 ++ evs (p + 1) h).length ≤ 100 * (h.length + 1)
    rw [List.length_append, evl_len]; omega
structure Good2 (h : List (List Item)) (ps : List (Int × Psg)) : Prop where
  inv : Inv (evs 0 h) ps
  ok : ∀ e, e ∈ evs 0 h → okE (evs 0 h) e
  okr : ∀ e, e ∈ evs 0 h → okR (evs 0 h) e
  le : ∀ l, l ∈ h → l.length ≤ 100
  few : h.length ≤ 64
  len : ps.length ≤ 6400
theorem spots_ok {h : List (List Item)} {k no : Int} : OkS h.length (spots (evs 0 h) k no).x := by
  intro sp hsp
  unfold spots at hsp
  obtain ⟨e, he, rfl⟩ := Option.map_eq_some_iff.1 hsp
  obtain ⟨p, i, hp, hi, rfl⟩ := evt_of (look_mem he).1
  refine ⟨?_, ?_, ?_⟩
  · show (0 : Int) ≤ (p : Int); omega
  · show (p : Int) < (h.length : Int); omega
  · show (0 : Int) ≤ ((cnt (h[p].take i) : Nat) : Int); omega
theorem okM_of {h : List (List Item)} {ps : List (Int × Psg)} (hi : Inv (evs 0 h) ps) : OkM h.length ps := fun e he => by
  have := inv_mem hi (no := e.1) (m := e.2) he
  rw [this]
  exact ⟨spots_ok, spots_ok⟩
theorem bef_at {e : Ev} {line : List Int} {c : Int} (hc : line[e.p]? = some c) : bef (some (spotOf e)) line = decide ((e.s : Int) < c) := by
  have : idx line (e.p : Int) = some c := by
    show (if (0 : Int) ≤ (e.p : Int) then line[((e.p : Int)).toNat]? else none) = _
    rw [if_pos (by omega), Int.toNat_natCast]; exact hc
  unfold bef spotOf
  simp only [this]
def conE (E : List Ev) (line : List Int) (e : Ev) : Prop := e.x.Kind = 3 → bef (some (spotOf e)) line = true → ∃ z, look E 2 e.x.No = some z ∧ bef (some (spotOf z)) line = true
theorem cons_of {h : List (List Item)} {ps : List (Int × Psg)} {line : List Int} (hG : Good2 h ps) (hc : ∀ e, e ∈ evs 0 h → conE (evs 0 h) line e) : Cons ps line := fun m hm hb => by
  have hmm := inv_mem hG.inv (no := m.1) (m := m.2) hm
  rw [hmm] at hb
  rw [hmm]
  unfold spots at hb ⊢
  cases h3 : look (evs 0 h) 3 m.1 with
  | none => rw [h3] at hb; cases hb
  | some e =>
    rw [h3] at hb
    obtain ⟨he, hk, hno⟩ := look_mem h3
    obtain ⟨z, hz, hbz⟩ := hc e he hk hb
    rw [hno] at hz
    show bef ((look (evs 0 h) 2 m.1).map spotOf) line = true
    rw [hz]; exact hbz
def Asc (l : List Int) : Prop := l.Pairwise fun a b => a ≤ b
def undE (E : List Ev) (line : List Int) (e : Ev) : Bool := decide (e.x.Kind = 2) && (bef (some (spotOf e)) line && !bef ((look E 3 e.x.No).map spotOf) line)
def undN (E : List Ev) (line : List Int) (l : List Ev) : List Int := (l.filter (undE E line)).map fun e => e.x.No
theorem undN_cons {E : List Ev} {line : List Int} {e : Ev} {l : List Ev} : undN E line (e :: l) = (if undE E line e then [e.x.No] else []) ++ undN E line l := by
  unfold undN
  cases hc : undE E line e with
  | true => rw [List.filter_cons_of_pos hc]; rfl
  | false => rw [List.filter_cons_of_neg (by rw [hc]; exact Bool.false_ne_true)]; rfl
theorem cnt_take {l : List Item} {i : Nat} (hi : i < l.length) : cnt (l.take (i + 1)) = if (l[i]).Kind = 1 then cnt (l.take i) + 1 else cnt (l.take i) := by
  induction l generalizing i with
  | nil => simp at hi
  | cons x l ih =>
    cases i with
    | zero =>
      show (if x.Kind = 1 then 1 else 0) + cnt (l.take 0) = if x.Kind = 1 then 0 + 1 else 0
      show (if x.Kind = 1 then 1 else 0) + 0 = _
      split <;> rfl
    | succ i =>
      have := ih (i := i) (by simpa using hi)
      show (if x.Kind = 1 then 1 else 0) + cnt (l.take (i + 1)) = if (l[i]'(by simpa using hi)).Kind = 1 then ((if x.Kind = 1 then 1 else 0) + cnt (l.take i)) + 1 else ((if x.Kind = 1 then 1 else 0) + cnt (l.take i))
      rw [this]
      by_cases hy : (l[i]'(by simpa using hi)).Kind = 1
      · rw [if_pos hy, if_pos hy]; omega
      · rw [if_neg hy, if_neg hy]
theorem undN_append {E : List Ev} {line : List Int} (a b : List Ev) : undN E line (a ++ b) = undN E line a ++ undN E line b := by unfold undN; rw [List.filter_append, List.map_append]
theorem undN_len {E : List Ev} {line : List Int} (a : List Ev) : (undN E line a).length ≤ a.length := by unfold undN; rw [List.length_map]; exact List.length_filter_le _ _
theorem nodup_map {β δ : Type} {f : β → δ} : ∀ {l : List β}, l.Nodup → (∀ x y, x ∈ l → y ∈ l → f x = f y → x = y) → (l.map f).Nodup
  | [], _, _ => List.nodup_nil
  | a :: l, hn, hi => by
    rw [List.nodup_cons] at hn
    rw [List.map_cons, List.nodup_cons]
    refine ⟨fun h => ?_, nodup_map hn.2 fun x y hx hy => hi x y (List.mem_cons_of_mem _ hx) (List.mem_cons_of_mem _ hy)⟩
    obtain ⟨y, hy, e⟩ := List.mem_map.1 h
    have := hi y a (List.mem_cons_of_mem _ hy) (List.mem_cons_self ..) e
    subst this
    exact hn.1 hy
theorem send_look {h : List (List Item)} {ps : List (Int × Psg)} (hG : Good2 h ps) {e : Ev} (he : e ∈ evs 0 h) (hk : e.x.Kind = 2) : look (evs 0 h) 2 e.x.No = some e := by
  rcases hG.ok e he with hq | ⟨_, hq⟩
  · have := saveX_kind hq; omega
  · rw [hk] at hq; exact hq
theorem und_perm {h : List (List Item)} {ps : List (Int × Psg)} (line : List Int) (hG : Good2 h ps) : (undN (evs 0 h) line (evs 0 h)).Perm (undW line (rP ps)) := by
  refine (List.perm_ext_iff_of_nodup ?_ ?_).2 fun no => ?_
  · unfold undN
    refine nodup_map (evs_nodup.filter _) fun x y hx hy e => ?_
    rw [List.mem_filter] at hx hy
    have kx : x.x.Kind = 2 := by
      have := hx.2
      unfold undE at this
      rw [Bool.and_eq_true] at this
      exact of_decide_eq_true this.1
    have ky : y.x.Kind = 2 := by
      have := hy.2
      unfold undE at this
      rw [Bool.and_eq_true] at this
      exact of_decide_eq_true this.1
    have h1 := send_look hG hx.1 kx
    have h2 := send_look hG hy.1 ky
    rw [e] at h1
    rw [h1] at h2
    cases h2; rfl
  · unfold undW
    have h1 : ((rP ps).map (·.1)).Nodup := by unfold rP; rw [List.map_map]; exact hG.inv.keys
    exact h1.sublist (List.Sublist.map _ List.filter_sublist)
  · unfold undN undW
    constructor
    · intro hm
      obtain ⟨e, he, hno⟩ := List.mem_map.1 hm
      rw [List.mem_filter] at he
      obtain ⟨he, hu⟩ := he
      subst hno
      unfold undE at hu
      rw [Bool.and_eq_true] at hu
      have hk : e.x.Kind = 2 := of_decide_eq_true hu.1
      have h2 := send_look hG he hk
      have hs := hG.inv.has e.x.No
      rw [h2] at hs
      cases hg : mget ps e.x.No with
      | none => rw [hg] at hs; simp at hs
      | some mm =>
        have hmm := inv_mem hG.inv (mget_mem hg)
        refine List.mem_map.2 ⟨(e.x.No, ⟨mm⟩), List.mem_filter.2 ⟨?_, ?_⟩, rfl⟩
        · unfold rP
          exact List.mem_map.2 ⟨(e.x.No, mm), mget_mem hg, rfl⟩
        · show (bef mm.sent.x line && !bef mm.recv.x line) = true
          rw [hmm]
          unfold spots
          rw [h2]
          exact hu.2
    · intro hm
      obtain ⟨⟨no', mm⟩, he, hno⟩ := List.mem_map.1 hm
      have hno : no' = no := hno
      subst hno
      rw [List.mem_filter] at he
      obtain ⟨he, hu⟩ := he
      unfold rP at he
      obtain ⟨⟨k, m2⟩, hk, hke⟩ := List.mem_map.1 he
      cases hke
      have hmm := inv_mem hG.inv hk
      have hu : (bef m2.sent.x line && !bef m2.recv.x line) = true := hu
      rw [hmm] at hu
      unfold spots at hu
      cases h2 : look (evs 0 h) 2 k with
      | none => rw [h2] at hu; cases hu
      | some e =>
        obtain ⟨hem, hek, hen⟩ := look_mem h2
        refine List.mem_map.2 ⟨e, List.mem_filter.2 ⟨hem, ?_⟩, hen⟩
        unfold undE
        rw [hek, hen]
        rw [h2] at hu
        exact hu
end Go.Arm
namespace Go.Arm
open Go Go.RowKit

theorem pass_T {N : Nat} {h : List (List Item)} (hh : h.length ≤ 1000) (hl : ∀ l, l ∈ h → l.length ≤ 100000) (hN : 200000 < N) :
    (∃ ps, check_passages N h = some (ps, h.map (fun l => (cnt l : Int)), 0) ∧ Good2 h ps) ∨ (∃ er, er ≠ 0 ∧ check_passages N h = some ([], [], er)) := by
  unfold check_passages
  by_cases h1 : h.length < 1
  · rw [if_pos (decide_eq_true (show (h.length : Int) < 1 by omega)), Option.bind_some]
    exact .inr ⟨3, by decide, rfl⟩
  rw [if_neg (show ¬ decide ((h.length : Int) < 1) = true by simp; omega), Option.bind_some]
  by_cases h2 : 64 < h.length
  · rw [decide_eq_true (show (64 : Int) < (h.length : Int) by omega)]
    exact .inr ⟨3, by decide, rfl⟩
  rw [decide_eq_false (show ¬ (64 : Int) < (h.length : Int) by omega)]
  rw [if_neg Bool.false_ne_true]
  have hI := psgP_eq hN hh hl N 0 [] (List.replicate h.length 0) (by omega) (by omega) (by simp) (fun j _ hj => by rw [List.getElem?_replicate, if_pos hj])
  have hI : psgP N h N 0 [] (List.replicate h.length 0) = _ := hI
  rw [List.take_zero, List.nil_append, List.drop_zero] at hI
  rcases cont_eq (N := N) hh hN with ⟨hle, d⟩ | ⟨_, d⟩
  case inr =>
    rw [d, Option.bind_some, if_pos rfl]
    exact .inr ⟨9, by decide, rfl⟩
  rw [d, Option.bind_some, if_neg Bool.false_ne_true, hI, Option.bind_some]
  have hva := val_all (evs 0 h) [] (by rw [List.nil_append]; exact evs_nodup)
  rw [List.nil_append] at hva
  have i0 : Inv [] [] := ⟨List.nodup_nil, fun _ => rfl, fun _ => rfl⟩
  rcases fold_spec (evs 0 h) [] [] i0 with ⟨ps, hf, hinv, hv⟩ | ⟨hf, _⟩
  case inr =>
    rw [hf]
    exact .inr ⟨2, by decide, rfl⟩
  have hok := hva.1 hv
  rw [List.nil_append] at hinv
  rw [hf]
  dsimp only [Option.map_some]
  have hbad := bad_iff hinv hok
  have hlen : ps.length ≤ 6400 := by
    have h3 := fold_len hf
    have h4 := evs_len (p := 0) hle
    simp only [List.length_nil] at h3
    omega
  by_cases hb : (ps.any fun e => badP e.2) = true
  · rw [if_pos hb]
    exact .inr ⟨2, by decide, rfl⟩
  · rw [if_neg hb]
    refine .inl ⟨ps, rfl, hinv, hok, fun e he => ?_, hle, by omega, hlen⟩
    exact Classical.byContradiction fun hne => hb (hbad.2 ⟨e, he, hne⟩)

theorem past_l {N : Nat} {l : List Item} {i : Nat} (hl : l.length ≤ 100000) (hi : i ≤ l.length) : ∀ (m j c : Nat), j ≤ i → i < j + m → c ≤ j → law14_past_l1 N l (i : Int) m (c : Int) (j : Int) = some ((c + cnt ((l.take i).drop j) : Nat) : Int)
  | 0, j, c, h1, h2, _ => by omega
  | m + 1, j, c, h1, h2, hc => by
    rw [law14_past_l1.eq_2]
    by_cases hj : j < i
    · have hjl : j < l.length := by omega
      have hjt : j < (l.take i).length := by rw [List.length_take]; omega
      have hd : (l.take i).drop j = l[j] :: (l.take i).drop (j + 1) := by
        rw [List.drop_eq_getElem_cons hjt, List.getElem_take]
      rw [if_pos (dlt hj), idx_at hjl, Option.bind_some, hd]
      show _ = some ((c + ((if (l[j]).Kind = 1 then 1 else 0) + cnt ((l.take i).drop (j + 1))) : Nat) : Int)
      by_cases hk : (l[j]).Kind = 1
      · rw [if_pos (decide_eq_true hk), chk, if_pos (by unfold inR; omega), chk, if_pos (by unfold inR; omega), if_pos hk]
        have := past_l (N := N) hl hi m (j + 1) (c + 1) (by omega) (by omega) (by omega)
        refine Eq.trans this ?_
        rw [Nat.add_assoc]
      · rw [if_neg (by simpa using hk), chk, if_pos (by unfold inR; omega), if_neg hk, Nat.zero_add]
        exact past_l (N := N) hl hi m (j + 1) c (by omega) (by omega) (by omega)
    · have e : j = i := by omega
      subst e
      rw [if_neg (dge (by omega)), List.drop_eq_nil_of_le (by rw [List.length_take]; omega)]
      rfl
theorem past_eq {N : Nat} {l : List Item} {i : Nat} {c : Int} (hl : l.length ≤ 100000) (hi : i ≤ l.length) (hN : 200000 < N) : law14_past N l (i : Int) c = some (decide ((cnt (l.take i) : Int) < c)) := by
  have h : law14_past_l1 N l (i : Int) N 0 0 = _ := past_l (N := N) hl hi N 0 0 (by omega) (by omega) (by omega)
  unfold law14_past
  rw [h, Option.bind_some, Nat.zero_add, List.drop_zero]

/-- Where something is, if anywhere. -/
def atR (o : Option Ev) : Sum Unit (Int × Int × Bool) := match o with
  | none => .inl ()
  | some e => .inr ((e.p : Int), (e.i : Int), true)
theorem at_l2 {N : Nat} {p : Nat} {l : List Item} (k no : Int) (hl : l.length ≤ 100000) : ∀ (m i s : Nat), i ≤ l.length → l.length < i + m →
    law14_at_l2 N k no (p : Int) l m (i : Int) = some (atR (look (evl p (l.drop i) i s) k no))
  | 0, i, s, h1, h2 => by omega
  | m + 1, i, s, h1, h2 => by
    rw [law14_at_l2.eq_2]
    by_cases hi : i < l.length
    · have hd : l.drop i = l[i] :: l.drop (i + 1) := List.drop_eq_getElem_cons hi
      rw [if_pos (dlt hi), idx_at hi, Option.bind_some, hd]
      have hlk : look (evl p (l[i] :: l.drop (i + 1)) i s) k no = if isE k no ⟨p, i, l[i], s⟩ then some ⟨p, i, l[i], s⟩ else look (evl p (l.drop (i + 1)) (i + 1) (if (l[i]).Kind = 1 then s + 1 else s)) k no := by
        show List.find? _ (_ :: _) = _
        cases hc : isE k no ⟨p, i, l[i], s⟩ with
        | true => rw [List.find?_cons_of_pos hc]; rfl
        | false => rw [List.find?_cons_of_neg (by rw [hc]; exact Bool.false_ne_true)]; rfl
      rw [hlk]
      have hev : isE k no ⟨p, i, l[i], s⟩ = (decide ((l[i]).Kind = k) && decide ((l[i]).No = no)) := rfl
      rw [hev]
      by_cases hk : (l[i]).Kind = k
      · rw [if_pos (decide_eq_true hk), Option.bind_some, decide_eq_true hk, Bool.true_and]
        dsimp only
        by_cases hno : (l[i]).No = no
        · rw [decide_eq_true hno]; rfl
        · rw [decide_eq_false hno, if_neg Bool.false_ne_true, if_neg Bool.false_ne_true, chk, if_pos (by unfold inR; omega)]
          exact at_l2 k no hl m (i + 1) _ (by omega) (by omega)
      · rw [if_neg (by simpa using hk), Option.bind_some, decide_eq_false hk, Bool.false_and]
        dsimp only
        rw [if_neg Bool.false_ne_true, if_neg Bool.false_ne_true, chk, if_pos (by unfold inR; omega)]
        exact at_l2 k no hl m (i + 1) _ (by omega) (by omega)
    · rw [if_neg (dge (by omega)), List.drop_eq_nil_of_le (by omega)]
      rfl
theorem at_l1 {N : Nat} {h : List (List Item)} (hh : h.length ≤ 1000) (k no : Int) (hl : ∀ l, l ∈ h → l.length ≤ 100000) (hN : 200000 < N) : ∀ (m p : Nat), p ≤ h.length → h.length < p + m →
    law14_at_l1 N h k no m (p : Int) = some (atR (look (evs p (h.drop p)) k no))
  | 0, p, h1, h2 => by omega
  | m + 1, p, h1, h2 => by
    rw [law14_at_l1.eq_2]
    by_cases hp : p < h.length
    · have hd : h.drop p = h[p] :: h.drop (p + 1) := List.drop_eq_getElem_cons hp
      have hlp := hl _ (List.getElem_mem hp)
      have hI := at_l2 (N := N) (p := p) k no hlp N 0 0 (by omega) (by omega)
      have hI : law14_at_l2 N k no (p : Int) h[p] N 0 = _ := hI
      rw [if_pos (dlt hp), idx_at hp, Option.bind_some, hI, Option.bind_some, hd]
      show (match atR (look (evl p (h[p].drop 0) 0 0) k no) with | .inl () => _ | .inr r => some (.inr r)) = some (atR (look (evl p h[p] 0 0 ++ evs (p + 1) (h.drop (p + 1))) k no))
      rw [look_append, List.drop_zero]
      cases hc : look (evl p h[p] 0 0) k no with
      | some e => rfl
      | none =>
        show chk (inR ((p : Int) + 1)) _ = _
        rw [chk, if_pos (by unfold inR; omega), Option.none_or]
        exact at_l1 hh k no hl hN m (p + 1) (by omega) (by omega)
    · rw [if_neg (dge (by omega)), List.drop_eq_nil_of_le (by omega)]
      rfl
theorem at_eq {N : Nat} {h : List (List Item)} (hh : h.length ≤ 1000) (k no : Int) (hl : ∀ l, l ∈ h → l.length ≤ 100000) (hN : 200000 < N) :
    law14_at N h k no = some (match look (evs 0 h) k no with | none => (0, 0, false) | some e => ((e.p : Int), (e.i : Int), true)) := by
  have h1 := at_l1 hh k no hl hN N 0 (by omega) (by omega)
  have h1 : law14_at_l1 N h k no N 0 = _ := h1
  unfold law14_at
  rw [h1, Option.bind_some, List.drop_zero]
  cases look (evs 0 h) k no <;> rfl
theorem at_ex {N : Nat} {h : List (List Item)} (hh : h.length ≤ 1000) (k no : Int) (hl : ∀ l, l ∈ h → l.length ≤ 100000) (hN : 200000 < N) :
    (look (evs 0 h) k no = none ∧ law14_at N h k no = some (0, 0, false)) ∨ ∃ e, look (evs 0 h) k no = some e ∧ law14_at N h k no = some ((e.p : Int), (e.i : Int), true) := by
  rw [at_eq hh k no hl hN]
  cases look (evs 0 h) k no with
  | none => exact .inl ⟨rfl, rfl⟩
  | some e => exact .inr ⟨e, rfl, rfl⟩

theorem idx_of {l : List Int} {p : Nat} {c : Int} (hc : l[p]? = some c) : idx l (p : Int) = some c := by
  show (if (0 : Int) ≤ (p : Int) then l[((p : Int)).toNat]? else none) = _
  rw [if_pos (by omega), Int.toNat_natCast]; exact hc
open Classical in
/-- Whether nothing was received before a line that was not sent before it. -/
theorem cons_l2 {N : Nat} {h : List (List Item)} {line : List Int} (hh : h.length ≤ 1000) (hl : ∀ l, l ∈ h → l.length ≤ 100000) (hN : 200000 < N) (hlen : line.length = h.length) {p : Nat} (hp : p < h.length) : ∀ (m i : Nat), i ≤ h[p].length → h[p].length < i + m →
    ((∀ k (hk : k < h[p].length), i ≤ k → conE (evs 0 h) line (evt h p k hp hk)) ∧ law14_consistent_l2 N h line (p : Int) h[p] m (i : Int) = some (.inl ())) ∨ ((∃ e, e ∈ evs 0 h ∧ ¬ conE (evs 0 h) line e) ∧ law14_consistent_l2 N h line (p : Int) h[p] m (i : Int) = some (.inr false))
  | 0, i, h1, h2 => by omega
  | m + 1, i, h1, h2 => by
    have hlp := hl _ (List.getElem_mem hp)
    rw [law14_consistent_l2.eq_2]
    by_cases hi : i < h[p].length
    · have hcp : line[p]? = some (line[p]'(by omega)) := List.getElem?_eq_getElem (by omega)
      generalize hcc : (line[p]'(by omega)) = c at hcp
      have hbe : bef (some (spotOf (evt h p i hp hi))) line = decide ((cnt (h[p].take i) : Int) < c) := bef_at hcp
      have skip : ∀ (hE : conE (evs 0 h) line (evt h p i hp hi)), ((∀ k (hk : k < h[p].length), i ≤ k → conE (evs 0 h) line (evt h p k hp hk)) ∧ (chk (inR ((i : Int) + 1)) <| law14_consistent_l2 N h line (p : Int) h[p] m ((i : Int) + 1)) = some (.inl ())) ∨ ((∃ e, e ∈ evs 0 h ∧ ¬ conE (evs 0 h) line e) ∧ (chk (inR ((i : Int) + 1)) <| law14_consistent_l2 N h line (p : Int) h[p] m ((i : Int) + 1)) = some (.inr false)) := fun hE => by
        rw [chk, if_pos (by unfold inR; omega)]
        rcases cons_l2 hh hl hN hlen hp m (i + 1) (by omega) (by omega) with ⟨a, b⟩ | b
        · refine .inl ⟨fun k hk hik => ?_, b⟩
          by_cases e : k = i
          · subst e; exact hE
          · exact a k hk (by omega)
        · exact .inr b
      rw [if_pos (dlt hi), idx_at hi, Option.bind_some]
      by_cases hk : (h[p][i]).Kind = 3
      · rw [if_neg (show ¬ ((!decide ((h[p][i]).Kind = 3)) = true) by simp [hk]), idx_of hcp, Option.bind_some, past_eq hlp (by omega) hN, Option.bind_some, Option.bind_some]
        by_cases hb : (cnt (h[p].take i) : Int) < c
        · rw [decide_eq_true hb] at hbe ⊢
          try dsimp only
          rw [if_neg (by decide)]
          rcases at_ex (N := N) hh 2 (h[p][i]).No hl hN with ⟨hlk, ha⟩ | ⟨z, hlk, ha⟩
          · rw [ha, Option.bind_some]
            try dsimp only
            rw [if_pos (by decide), Option.bind_some]
            try dsimp only
            rw [if_pos rfl]
            refine .inr ⟨⟨_, evt_mem hp hi, fun hc => ?_⟩, rfl⟩
            obtain ⟨z, hz, _⟩ := hc hk hbe
            have hz : look (evs 0 h) 2 (h[p][i]).No = some z := hz
            rw [hlk] at hz; cases hz
          · obtain ⟨pz, iz, hpz, hiz, rfl⟩ := evt_of (look_mem hlk).1
            have hcz : line[pz]? = some (line[pz]'(by omega)) := List.getElem?_eq_getElem (by omega)
            generalize hcc2 : (line[pz]'(by omega)) = cz at hcz
            have hbz : bef (some (spotOf (evt h pz iz hpz hiz))) line = decide ((cnt (h[pz].take iz) : Int) < cz) := bef_at hcz
            have ha : law14_at N h 2 (h[p][i]).No = some ((pz : Int), (iz : Int), true) := ha
            rw [ha, Option.bind_some]
            try dsimp only
            rw [if_neg (by decide), idx_at hpz, Option.bind_some, idx_of hcz, Option.bind_some, past_eq (hl _ (List.getElem_mem hpz)) (by omega) hN, Option.bind_some, Option.bind_some]
            try dsimp only
            by_cases hbb : (cnt (h[pz].take iz) : Int) < cz
            · rw [decide_eq_true hbb] at hbz ⊢
              rw [if_neg (by decide)]
              exact skip fun _ _ => ⟨_, hlk, hbz⟩
            · rw [decide_eq_false hbb] at hbz ⊢
              rw [if_pos (by decide)]
              refine .inr ⟨⟨_, evt_mem hp hi, fun hc => ?_⟩, rfl⟩
              obtain ⟨z, hz, hz2⟩ := hc hk hbe
              have hz : look (evs 0 h) 2 (h[p][i]).No = some z := hz
              rw [hlk] at hz
              cases hz
              rw [hbz] at hz2; cases hz2
        · rw [decide_eq_false hb] at hbe ⊢
          try dsimp only
          rw [if_pos (by decide)]
          exact skip fun _ hB => by rw [hbe] at hB; cases hB
      · rw [if_pos (show (!decide ((h[p][i]).Kind = 3)) = true by simp [hk]), Option.bind_some]
        try dsimp only
        rw [if_pos rfl]
        exact skip fun h3 => absurd h3 hk
    · rw [if_neg (dge (by omega))]
      exact .inl ⟨fun k hk hik => by omega, rfl⟩
theorem cons_l1 {N : Nat} {h : List (List Item)} {line : List Int} (hh : h.length ≤ 1000) (hl : ∀ l, l ∈ h → l.length ≤ 100000) (hN : 200000 < N) (hlen : line.length = h.length) : ∀ (m p : Nat), p ≤ h.length → h.length < p + m →
    ((∀ j k (hj : j < h.length) (hk : k < h[j].length), p ≤ j → conE (evs 0 h) line (evt h j k hj hk)) ∧ law14_consistent_l1 N h line m (p : Int) = some (.inl ())) ∨ ((∃ e, e ∈ evs 0 h ∧ ¬ conE (evs 0 h) line e) ∧ law14_consistent_l1 N h line m (p : Int) = some (.inr false))
  | 0, p, h1, h2 => by omega
  | m + 1, p, h1, h2 => by
    rw [law14_consistent_l1.eq_2]
    by_cases hp : p < h.length
    · rw [if_pos (dlt hp), idx_at hp, Option.bind_some]
      have hlp := hl _ (List.getElem_mem hp)
      rcases cons_l2 hh hl hN hlen hp N 0 (by omega) (by omega) with ⟨a, b⟩ | ⟨a, b⟩
      · have b : law14_consistent_l2 N h line (p : Int) h[p] N 0 = _ := b
        rw [b, Option.bind_some]
        try dsimp only
        rw [chk, if_pos (by unfold inR; omega)]
        rcases cons_l1 hh hl hN hlen m (p + 1) (by omega) (by omega) with ⟨c, d⟩ | d
        · refine .inl ⟨fun j k hj hk hpj => ?_, d⟩
          by_cases e : j = p
          · subst e; exact a k hk (by omega)
          · exact c j k hj hk (by omega)
        · exact .inr d
      · have b : law14_consistent_l2 N h line (p : Int) h[p] N 0 = _ := b
        rw [b, Option.bind_some]
        exact .inr ⟨a, rfl⟩
    · rw [if_neg (dge (by omega))]
      exact .inl ⟨fun j k hj hk hpj => by omega, rfl⟩
/-- A line that is consistent for the messages is so for the events. -/
theorem con_of {h : List (List Item)} {ps : List (Int × Psg)} {line : List Int} (hG : Good2 h ps) (hc : Cons ps line) : ∀ e, e ∈ evs 0 h → conE (evs 0 h) line e := fun e he hk hb => by
  obtain ⟨z, hz, _⟩ := hG.okr e he hk
  refine ⟨z, hz, ?_⟩
  have h3 : look (evs 0 h) 3 e.x.No = some e := by
    rcases hG.ok e he with hq | ⟨_, hq⟩
    · have := saveX_kind hq; omega
    · rw [hk] at hq; exact hq
  have hs := hG.inv.has e.x.No
  rw [h3, hz] at hs
  cases hg : mget ps e.x.No with
  | none => rw [hg] at hs; simp at hs
  | some mm =>
    have hmm := inv_mem hG.inv (mget_mem hg)
    have h4 := hc (e.x.No, mm) (mget_mem hg)
    rw [hmm] at h4
    unfold spots at h4
    rw [h3, hz] at h4
    exact h4 hb
/-- What consistent of the law says. -/
theorem consistent_eq {N : Nat} {h : List (List Item)} {ps : List (Int × Psg)} {line : List Int} (hG : Good2 h ps) (hN : 200000 < N) (hlen : line.length = h.length) :
    (Cons ps line ∧ law14_consistent N h line = some true) ∨ (¬ Cons ps line ∧ law14_consistent N h line = some false) := by
  have hl : ∀ l, l ∈ h → l.length ≤ 100000 := fun l hl => Nat.le_trans (hG.le l hl) (by decide)
  have hh : h.length ≤ 1000 := Nat.le_trans hG.few (by decide)
  unfold law14_consistent
  rcases cons_l1 (N := N) (line := line) hh hl hN hlen N 0 (by omega) (by omega) with ⟨a, b⟩ | ⟨⟨e, he, hne⟩, b⟩
  · have b : law14_consistent_l1 N h line N 0 = _ := b
    rw [b]
    refine .inl ⟨cons_of hG fun e he => ?_, rfl⟩
    obtain ⟨p, i, hp, hi, rfl⟩ := evt_of he
    exact a p i hp hi (by omega)
  · have b : law14_consistent_l1 N h line N 0 = _ := b
    rw [b]
    exact .inr ⟨fun hc => hne (con_of hG hc e he), rfl⟩
end Go.Arm
namespace Go.Arm
open Go Go.RowKit

theorem line_ex {ps : List (Int × Psg)} {hv : List Int} {n : Nat} (hok : OkM n ps) : ∀ (k : Nat) (line : List Int), tot line ≤ k → LeL line hv → Top ps hv line → ∃ l, IsLine ps hv l := by
  intro k
  induction k with
  | zero =>
    intro line hk hle htop
    by_cases hc : Cons ps line
    · exact ⟨line, hle, hc, htop⟩
    · obtain ⟨e, he⟩ := Classical.not_forall.1 hc
      obtain ⟨he, hx⟩ := Classical.not_forall.1 he
      obtain ⟨hr, hs⟩ := Classical.not_forall.1 hx
      obtain ⟨rc, c, hrc, hci, hlt⟩ := bef_iff.1 hr
      have := tot_set (idx_nat hci).2 ((hok e he).2 rc hrc).2.2 hlt
      omega
  | succ k ih =>
    intro line hk hle htop
    by_cases hc : Cons ps line
    · exact ⟨line, hle, hc, htop⟩
    · obtain ⟨e, he⟩ := Classical.not_forall.1 hc
      obtain ⟨he, hx⟩ := Classical.not_forall.1 he
      obtain ⟨hr, hs⟩ := Classical.not_forall.1 hx
      obtain ⟨rc, c, hrc, hci, hlt⟩ := bef_iff.1 hr
      have h0 := (hok e he).2 rc hrc
      have := tot_set (idx_nat hci).2 h0.2.2 hlt
      exact ih _ (by omega) (le_set hle (idx_nat hci).2 hlt) (top_step htop he hrc (by simpa using hs) h0.1)
/-- Numbers of states that were saved. -/
def InS (h : List (List Item)) (hv : List Int) : Prop := ∀ (j : Nat) (x : Int) (hj : j < h.length), hv[j]? = some x → 0 ≤ x ∧ x ≤ (cnt h[j] : Int)
theorem have_T {h : List (List Item)} {hv : List Int} (hh : h.length ≤ 1000) (hlen : hv.length = h.length) : ∀ (m p : Nat), p ≤ h.length → h.length < p + m →
    ((∀ j x (hj : j < h.length), p ≤ j → hv[j]? = some x → 0 ≤ x ∧ x ≤ (cnt h[j] : Int)) ∧ haveL hv (h.map fun l => (cnt l : Int)) m (p : Int) = some (.inl ())) ∨ (¬ InS h hv ∧ haveL hv (h.map fun l => (cnt l : Int)) m (p : Int) = some (.inr ()))
  | 0, p, h1, h2 => by omega
  | m + 1, p, h1, h2 => by
    rw [haveL]
    by_cases hp : p < h.length
    · have hpv : p < hv.length := by omega
      have hsv : idx (h.map fun l => (cnt l : Int)) (p : Int) = some (cnt h[p] : Int) := by rw [idx_at (by rw [List.length_map]; exact hp), List.getElem_map]
      have hvv : hv[p]? = some hv[p] := List.getElem?_eq_getElem hpv
      rw [if_pos (show decide ((p : Int) < (hv.length : Int)) = true by simp; exact hpv), idx_at hpv, Option.bind_some]
      by_cases h0 : hv[p] < 0
      · rw [if_pos (decide_eq_true h0), Option.bind_some]
        refine .inr ⟨fun hI => ?_, rfl⟩
        have := (hI p _ hp hvv).1
        omega
      · rw [if_neg (by simpa using h0), hsv, Option.bind_some, Option.bind_some]
        by_cases hc : (cnt h[p] : Int) < hv[p]
        · rw [decide_eq_true hc]
          refine .inr ⟨fun hI => ?_, rfl⟩
          have := (hI p _ hp hvv).2
          omega
        · rw [decide_eq_false hc, if_neg Bool.false_ne_true, chk, if_pos (by unfold inR; omega)]
          rcases have_T hh hlen m (p + 1) (by omega) (by omega) with ⟨a, b⟩ | b
          · refine .inl ⟨fun j x hj hjp hx => ?_, b⟩
            by_cases e : j = p
            · subst e
              rw [hvv] at hx
              cases hx
              omega
            · exact a j x hj (by omega) hx
          · exact .inr b
    · rw [if_neg (show ¬ decide ((p : Int) < (hv.length : Int)) = true by simp; omega)]
      exact .inl ⟨fun j x hj hjp => by omega, rfl⟩
/-- What check.Line returns for a good history. -/
theorem line_T {N : Nat} {h : List (List Item)} {ps : List (Int × Psg)} {hv : List Int} (hG : Good2 h ps) (hp : check_passages N h = some (ps, h.map (fun l => (cnt l : Int)), 0)) (hN : 200000 < N) (hlen : hv.length = h.length) :
    (InS h hv ∧ ∃ line, IsLine ps hv line ∧ check_Line N h hv = some (line, (undW line (rP ps)).mergeSort (fun x y => decide (x ≤ y)), 0)) ∨ (¬ InS h hv ∧ check_Line N h hv = some ([], [], 3)) := by
  have hmax : 2 ^ 60 ≤ maxLen := by decide
  have hh : h.length ≤ 1000 := Nat.le_trans hG.few (by decide)
  unfold check_Line
  rw [hp, Option.bind_some]
  dsimp only
  have hc0 : ¬ ((!decide ((0 : Int) = 0)) = true) := by decide
  have hc1 : ¬ ((!decide ((hv.length : Int) = (h.length : Int))) = true) := by simp [hlen]
  rw [if_neg hc0, if_neg hc1]
  rcases have_T hh hlen N 0 (by omega) (by omega) with ⟨a, b⟩ | ⟨a, b⟩
  · have b : haveL hv (h.map fun l => (cnt l : Int)) N 0 = _ := b
    have hcl : slices_Clone_Lint_int N hv = some hv := by
      unfold slices_Clone_Lint_int
      rw [chk, if_pos ⟨by simp only [List.length_nil]; omega, by simp only [List.length_nil]; omega⟩]; rfl
    have hlen2 := hG.len
    have hcond : OkM hv.length ps ∧ (ps.length + 1) * 8 ≤ 140737488355328 ∧ ps.length + 1 ≤ maxLen := ⟨by rw [hlen]; exact okM_of hG.inv, by omega, by omega⟩
    obtain ⟨line, hline⟩ := line_ex (hv := hv) hcond.1 (tot hv) hv (Nat.le_refl _) (LeL.refl _) (fun _ h _ => h)
    rw [b, Option.bind_some]
    dsimp only
    rw [hcl, Option.bind_some, if_pos hcond, lineOf_eq hline]
    exact .inl ⟨fun j x hj hx => a j x hj (Nat.zero_le _) hx, line, hline, rfl⟩
  · have b : haveL hv (h.map fun l => (cnt l : Int)) N 0 = _ := b
    rw [b]
    exact .inr ⟨a, rfl⟩
theorem line_nonneg {h : List (List Item)} {ps : List (Int × Psg)} {hv line : List Int} (hG : Good2 h ps) (hlen : hv.length = h.length) (hI : InS h hv) (hl : IsLine ps hv line) : ∀ (j : Nat) (x : Int), line[j]? = some x → 0 ≤ x := by
  intro j x hx
  have hz : LeL (List.replicate hv.length 0) hv := by
    refine ⟨by simp, fun i a b ha hb => ?_⟩
    rw [List.getElem?_replicate] at ha
    split at ha
    · rename_i hi
      cases ha
      exact (hI i b (by omega) hb).1
    · cases ha
  have hc : Cons ps (List.replicate hv.length 0) := fun e he hb => by
    obtain ⟨sp, c, h1, h2, h3⟩ := bef_iff.1 hb
    have h4 := ((okM_of hG.inv) e he).2 sp h1
    have h5 := (idx_nat h2).2
    rw [List.getElem?_replicate] at h5
    split at h5
    · cases h5; omega
    · cases h5
  have ht := hl.top _ hz hc
  have hj : j < hv.length := by
    have := (List.getElem?_eq_some_iff.1 hx).1
    rw [← hl.le.1]; exact this
  exact ht.2 j 0 x (by rw [List.getElem?_replicate, if_pos hj]) hx
end Go.Arm
namespace Go.Arm
open Go Go.RowKit

theorem u8_in {y : U8} (h : (Lit.int .u8 y.n).wf = true) : 0 ≤ y.n ∧ y.n ≤ 255 := by
  have a1 : IntKind.u8.min = 0 := by decide
  have a2 : IntKind.u8.max = 255 := by decide
  simp only [Lit.wf, a1, a2, Bool.and_eq_true, decide_eq_true_eq] at h
  omega
theorem tmod_nat (a b : Nat) : Int.tmod (a : Int) (b : Int) = ((a % b : Nat) : Int) := by
  rw [Int.tmod_eq_emod_of_nonneg (by omega)]
  exact (Int.natCast_emod a b).symm
/-- Lists whose first numbers are within the limits. -/
def RgL (hv l : List Int) (p : Nat) : Prop := l.length = hv.length ∧ ∀ (j : Nat) (x y : Int), j < p → l[j]? = some x → hv[j]? = some y → 0 ≤ x ∧ x ≤ y
theorem rg_set {hv l : List Int} {p : Nat} {c v : Int} (h : RgL hv l p) (hc : hv[p]? = some c) (h0 : 0 ≤ v) (h1 : v ≤ c) : RgL hv (l.set p v) (p + 1) := by
  refine ⟨by rw [List.length_set]; exact h.1, fun j x y hj hx hy => ?_⟩
  rw [List.getElem?_set] at hx
  split at hx
  · rename_i e
    split at hx
    · cases hx
      subst e
      rw [hc] at hy
      cases hy
      exact ⟨h0, h1⟩
    · cases hx
  · exact h.2 j x y (by omega) hx hy
theorem cc_l1 {N : Nat} {h : List (List Item)} (hh : h.length ≤ 1000) : ∀ (m p : Nat), p ≤ h.length → h.length < p + m →
    ((∀ j (hj : j < h.length), p ≤ j → h[j].length ≤ 20) ∧ law14_CheckConsistent_l1 N h m (p : Int) = some (.inl ())) ∨ law14_CheckConsistent_l1 N h m (p : Int) = some (.inr true)
  | 0, p, h1, h2 => by omega
  | m + 1, p, h1, h2 => by
    have hw : law14_works N = some true := rfl
    rw [law14_CheckConsistent_l1.eq_2]
    by_cases hp : p < h.length
    · rw [if_pos (dlt hp), idx_at hp, Option.bind_some]
      by_cases h3 : 20 < h[p].length
      · rw [if_pos (decide_eq_true (show (20 : Int) < (h[p].length : Int) by omega)), hw]
        exact .inr rfl
      · rw [if_neg (show ¬ decide ((20 : Int) < (h[p].length : Int)) = true by simp; omega), chk, if_pos (by unfold inR; omega)]
        rcases cc_l1 hh m (p + 1) (by omega) (by omega) with ⟨c, d⟩ | d
        · refine .inl ⟨fun j hj hjp => ?_, d⟩
          by_cases e : j = p
          · subst e; omega
          · exact c j hj (by omega)
        · exact .inr d
    · rw [if_neg (dge (by omega))]
      exact .inl ⟨fun j hj hjp => by omega, rfl⟩
theorem cc_l2 {N : Nat} {h : List (List Item)} {hv : List Int} {ot : List U8} {line un : List Int} {ps : List (Int × Psg)} (hG : Good2 h ps) (hlen : hv.length = h.length) (hI : InS h hv) (hl : IsLine ps hv line) (ho : ∀ x ∈ ot, (Lit.int .u8 x.n).wf = true) : ∀ (m p : Nat) (lo an : List Int), p ≤ h.length → h.length < p + m → RgL hv lo p → RgL hv an p →
    ∃ lo' an', law14_CheckConsistent_l2 N h hv ot (line, un, 0) m (p : Int) lo an = some (.inl (lo', an')) ∧ RgL hv lo' h.length ∧ RgL hv an' h.length
  | 0, p, lo, an, h1, h2, _, _ => by omega
  | m + 1, p, lo, an, h1, h2, hlo, han => by
    have hh := hG.few
    rw [law14_CheckConsistent_l2.eq_2]
    by_cases hp : p < h.length
    · have hpl : p < line.length := by rw [hl.le.1]; omega
      have hpv : p < hv.length := by omega
      have e1 : line[p]? = some line[p] := List.getElem?_eq_getElem hpl
      have e2 : hv[p]? = some hv[p] := List.getElem?_eq_getElem hpv
      have i3 : idx lo (p : Int) = some (lo[p]'(by have := hlo.1; omega)) := idx_at (by have := hlo.1; omega)
      have i4 : idx an (p : Int) = some (an[p]'(by have := han.1; omega)) := idx_at (by have := han.1; omega)
      have r1 := line_nonneg hG hlen hI hl p _ e1
      have r2 := hl.le.2 p _ _ e1 e2
      have r3 := hI p _ hp e2
      have r4 := cnt_le h[p]
      have r5 := hG.le _ (List.getElem_mem hp)
      have cont : ∀ v w : Int, 0 ≤ v → v ≤ hv[p] → 0 ≤ w → w ≤ hv[p] → ∃ lo' an', law14_CheckConsistent_l2 N h hv ot (line, un, 0) m ((p : Int) + 1) (lo.set ((p : Int)).toNat v) (an.set ((p : Int)).toNat w) = some (.inl (lo', an')) ∧ RgL hv lo' h.length ∧ RgL hv an' h.length := fun v w v0 v1 w0 w1 => by
        rw [Int.toNat_natCast]
        exact cc_l2 hG hlen hI hl ho m (p + 1) _ _ (by omega) (by omega) (rg_set hlo e2 v0 v1) (rg_set han e2 w0 w1)
      rw [if_pos (dlt hp)]
      dsimp only
      rw [idx_at hpl, Option.bind_some, if_neg (show ¬ decide (line[p] < 0) = true by simp; omega), Option.bind_some, idx_at hpv, Option.bind_some, decide_eq_false (show ¬ hv[p] < line[p] by omega), Option.bind_some]
      try dsimp only
      rw [if_neg Bool.false_ne_true]
      by_cases hot : 0 < ot.length
      · have hm : p % ot.length < ot.length := Nat.mod_lt _ hot
        have hu := u8_in (ho _ (List.getElem_mem hm))
        rw [if_pos (show decide ((0 : Int) < (ot.length : Int)) = true by simp; omega), chk, if_pos (by omega), tmod_nat, idx_at hm, Option.bind_some]
        generalize ot[p % ot.length] = d at hu
        have t1 : 0 ≤ Int.tmod d.n 3 := Int.tmod_nonneg _ hu.1
        have t2 : Int.tmod d.n 3 ≤ d.n := by rw [Int.tmod_eq_emod_of_nonneg hu.1]; omega
        have t3 : 0 ≤ Int.tmod d.n (hv[p] + 1) := Int.tmod_nonneg _ hu.1
        have t4 : Int.tmod d.n (hv[p] + 1) < hv[p] + 1 := Int.tmod_lt_of_pos _ (by omega)
        rw [chk, if_pos (by unfold inR; omega), Option.bind_some, chk, if_pos (by decide), chk, if_pos (by unfold inR; omega), Option.bind_some, chk, if_pos (by unfold inR; omega), chk, if_pos (by omega), i3, Option.bind_some, i4, Option.bind_some, chk, if_pos (by unfold inR; omega)]
        exact cont _ _ (by omega) (by omega) t3 (by omega)
      · rw [if_neg (fun e => hot (by have := of_decide_eq_true e; omega)), Option.bind_some]
        have z1 : Int.tmod 0 3 = 0 := rfl
        have z2 : Int.tmod 0 (hv[p] + 1) = 0 := Int.zero_tmod _
        rw [z1, chk, if_pos (by decide), chk, if_pos (by unfold inR; omega), Option.bind_some, z2, chk, if_pos (by unfold inR; omega), chk, if_pos (by omega), i3, Option.bind_some, i4, Option.bind_some, chk, if_pos (by unfold inR; omega)]
        exact cont _ _ (by omega) (by omega) (by omega) (by omega)
    · have e : p = h.length := by omega
      subst e
      rw [if_neg (dge (by omega))]
      exact ⟨lo, an, rfl, hlo, han⟩
theorem cc_l3 {N : Nat} {h : List (List Item)} {hv lo an : List Int} {line un small un2 : List Int} {ps : List (Int × Psg)} (hG : Good2 h ps) (hN : 200000 < N) (hlen : hv.length = h.length) (hl : IsLine ps hv line) (hlo : RgL hv lo h.length) (han : RgL hv an h.length) (hs : IsLine ps lo small) : ∀ (m p : Nat), p ≤ h.length → h.length < p + m →
    law14_CheckConsistent_l3 N h (line, un, 0) an (small, un2, 0) m (p : Int) = some (.inl ())
  | 0, p, h1, h2 => by omega
  | m + 1, p, h1, h2 => by
    have hh := hG.few
    have lea : ∀ l, RgL hv l h.length → LeL l hv := fun l hl => ⟨hl.1, fun i x y hx hy => (hl.2 i x y (by have := (List.getElem?_eq_some_iff.1 hy).1; omega) hx hy).2⟩
    have hsl : LeL small line := hl.top small ⟨hs.le.1.trans hlo.1, fun i x y hx hy => by
      have hi : i < lo.length := by rw [← hs.le.1]; exact (List.getElem?_eq_some_iff.1 hx).1
      have e := List.getElem?_eq_getElem hi
      exact Int.le_trans (hs.le.2 i _ _ hx e) ((lea lo hlo).2 i _ _ e hy)⟩ hs.con
    rw [law14_CheckConsistent_l3.eq_2]
    by_cases hp : p < h.length
    · have hpl : p < line.length := by rw [hl.le.1]; omega
      have hps : p < small.length := by rw [hs.le.1, hlo.1]; omega
      have hpa : p < an.length := by rw [han.1]; omega
      have e1 : line[p]? = some line[p] := List.getElem?_eq_getElem hpl
      have e2 : small[p]? = some small[p] := List.getElem?_eq_getElem hps
      have e3 : an[p]? = some an[p] := List.getElem?_eq_getElem hpa
      have r1 := hsl.2 p _ _ e2 e1
      rw [if_pos (dlt hp)]
      dsimp only
      rw [idx_at hps, Option.bind_some, idx_at hpl, Option.bind_some, if_neg (show ¬ decide (line[p] < small[p]) = true by simp; omega)]
      rcases consistent_eq (N := N) (line := an) hG hN (han.1.trans hlen) with ⟨a, b⟩ | ⟨a, b⟩
      · have r2 := (hl.top an (lea an han) a).2 p _ _ e3 e1
        rw [b, Option.bind_some, if_pos rfl, idx_at hpa, Option.bind_some, Option.bind_some, decide_eq_false (show ¬ line[p] < an[p] by omega), Option.bind_some]
        try dsimp only
        rw [if_neg Bool.false_ne_true, chk, if_pos (by unfold inR; omega)]
        exact cc_l3 hG hN hlen hl hlo han hs m (p + 1) (by omega) (by omega)
      · rw [b, Option.bind_some, if_neg Bool.false_ne_true, Option.bind_some]
        try dsimp only
        rw [if_neg Bool.false_ne_true, chk, if_pos (by unfold inR; omega)]
        exact cc_l3 hG hN hlen hl hlo han hs m (p + 1) (by omega) (by omega)
    · rw [if_neg (dge (by omega))]
end Go.Arm
namespace Go.Arm
open Go Go.RowKit

theorem among_l {N : Nat} {l : List Int} {x : Int} (hl : l.length ≤ 100000) : ∀ (m i : Nat), i ≤ l.length → l.length < i + m → x ∈ l.drop i → law14_among_l1 N l x m (i : Int) = some (.inr true)
  | 0, i, h1, h2, _ => by omega
  | m + 1, i, h1, h2, hx => by
    rw [law14_among_l1.eq_2]
    by_cases hi : i < l.length
    · rw [if_pos (dlt hi), idx_at hi, Option.bind_some]
      by_cases e : l[i] = x
      · rw [if_pos (decide_eq_true e)]
      · rw [if_neg (by simpa using e), chk, if_pos (by unfold inR; omega)]
        refine among_l hl m (i + 1) (by omega) (by omega) ?_
        rw [List.drop_eq_getElem_cons hi] at hx
        rcases List.mem_cons.1 hx with h | h
        · exact absurd h.symm e
        · exact h
    · rw [List.drop_eq_nil_of_le (by omega)] at hx; cases hx
theorem among_eq {N : Nat} {l : List Int} {x : Int} (hl : l.length ≤ 100000) (hN : 200000 < N) (hx : x ∈ l) : law14_among N l x = some true := by
  have h : law14_among_l1 N l x N 0 = _ := among_l (N := N) hl N 0 (by omega) (by omega) hx
  unfold law14_among
  rw [h]; rfl
theorem cc_l5 {N : Nat} {h : List (List Item)} {ps : List (Int × Psg)} {line un : List Int} (hG : Good2 h ps) (hN : 200000 < N) (hlen : line.length = h.length) (hun : un.length ≤ 100000) (hin : ∀ e, e ∈ evs 0 h → undE (evs 0 h) line e = true → e.x.No ∈ un) {p : Nat} (hp : p < h.length) : ∀ (m i n : Nat), i ≤ h[p].length → h[p].length < i + m →
    n + (undN (evs 0 h) line (evl p (h[p].drop i) i (cnt (h[p].take i)))).length ≤ un.length →
    law14_CheckConsistent_l5 N h (line, un, 0) (p : Int) h[p] m (n : Int) (i : Int) = some (.inl ((n + (undN (evs 0 h) line (evl p (h[p].drop i) i (cnt (h[p].take i)))).length : Nat) : Int))
  | 0, i, n, h1, h2, _ => by omega
  | m + 1, i, n, h1, h2, hsz => by
    have hl : ∀ l, l ∈ h → l.length ≤ 100000 := fun l hl => Nat.le_trans (hG.le l hl) (by decide)
    have hh : h.length ≤ 1000 := Nat.le_trans hG.few (by decide)
    have hlp := hl _ (List.getElem_mem hp)
    rw [law14_CheckConsistent_l5.eq_2]
    by_cases hi : i < h[p].length
    · have hd : h[p].drop i = h[p][i] :: h[p].drop (i + 1) := List.drop_eq_getElem_cons hi
      have hev : evl p (h[p].drop i) i (cnt (h[p].take i)) = evt h p i hp hi :: evl p (h[p].drop (i + 1)) (i + 1) (cnt (h[p].take (i + 1))) := by
        rw [hd, cnt_take hi]; rfl
      rw [hev, undN_cons] at hsz ⊢
      have hcp : line[p]? = some (line[p]'(by omega)) := List.getElem?_eq_getElem (by omega)
      generalize hcc : (line[p]'(by omega)) = c at hcp
      have hbe : bef (some (spotOf (evt h p i hp hi))) line = decide ((cnt (h[p].take i) : Int) < c) := bef_at hcp
      have skip : ∀ (hU : undE (evs 0 h) line (evt h p i hp hi) = false), (chk (inR ((i : Int) + 1)) <| law14_CheckConsistent_l5 N h (line, un, 0) (p : Int) h[p] m (n : Int) ((i : Int) + 1)) = some (.inl ((n + ((if undE (evs 0 h) line (evt h p i hp hi) then [(evt h p i hp hi).x.No] else []) ++ undN (evs 0 h) line (evl p (h[p].drop (i + 1)) (i + 1) (cnt (h[p].take (i + 1))))).length : Nat) : Int)) := fun hU => by
        rw [hU] at hsz ⊢
        rw [chk, if_pos (by unfold inR; omega)]
        exact cc_l5 hG hN hlen hun hin hp m (i + 1) n (by omega) (by omega) hsz
      have take_ : ∀ (hU : undE (evs 0 h) line (evt h p i hp hi) = true), (Option.bind (if decide ((un.length : Int) ≤ (n : Int)) then some true else Option.bind (law14_among N un (h[p][i]).No) fun y => some (!y)) fun o => match o with
          | x => if x then some (Sum.inr false) else chk (inR ((n : Int) + 1)) <| chk (inR ((i : Int) + 1)) <| law14_CheckConsistent_l5 N h (line, un, 0) (p : Int) h[p] m ((n : Int) + 1) ((i : Int) + 1)) = some (.inl ((n + ((if undE (evs 0 h) line (evt h p i hp hi) then [(evt h p i hp hi).x.No] else []) ++ undN (evs 0 h) line (evl p (h[p].drop (i + 1)) (i + 1) (cnt (h[p].take (i + 1))))).length : Nat) : Int)) := fun hU => by
        have hmem : (h[p][i]).No ∈ un := hin _ (evt_mem hp hi) hU
        rw [hU] at hsz ⊢
        rw [if_pos rfl, List.length_append, List.length_singleton] at hsz ⊢
        rw [if_neg (show ¬ decide ((un.length : Int) ≤ (n : Int)) = true by simp; omega), among_eq hun hN hmem, Option.bind_some, Option.bind_some]
        dsimp only
        rw [if_neg (by decide), chk, if_pos (by unfold inR; omega), chk, if_pos (by unfold inR; omega)]
        have := cc_l5 hG hN hlen hun hin hp m (i + 1) (n + 1) (by omega) (by omega) (by omega)
        refine Eq.trans this ?_
        rw [Nat.add_assoc]
      rw [if_pos (dlt hi), idx_at hi, Option.bind_some]
      by_cases hk : (h[p][i]).Kind = 2
      · rw [if_neg (show ¬ ((!decide ((h[p][i]).Kind = 2)) = true) by simp [hk])]
        dsimp only
        rw [idx_of hcp, Option.bind_some, past_eq hlp (by omega) hN, Option.bind_some, Option.bind_some]
        have hk' : decide ((evt h p i hp hi).x.Kind = 2) = true := decide_eq_true hk
        by_cases hb : (cnt (h[p].take i) : Int) < c
        · rw [decide_eq_true hb] at hbe ⊢
          try dsimp only
          rw [if_neg (by decide)]
          have hue : undE (evs 0 h) line (evt h p i hp hi) = !bef ((look (evs 0 h) 3 (h[p][i]).No).map spotOf) line := by
            unfold undE
            rw [hk', hbe, Bool.true_and, Bool.true_and]; rfl
          rcases at_ex (N := N) hh 3 (h[p][i]).No hl hN with ⟨hlk, ha⟩ | ⟨z, hlk, ha⟩
          · rw [ha, Option.bind_some]
            try dsimp only
            rw [if_neg (by decide), Option.bind_some]
            try dsimp only
            rw [if_neg (by decide)]
            exact take_ (by rw [hue, hlk]; rfl)
          · obtain ⟨pz, iz, hpz, hiz, rfl⟩ := evt_of (look_mem hlk).1
            have hcz : line[pz]? = some (line[pz]'(by omega)) := List.getElem?_eq_getElem (by omega)
            generalize hcc2 : (line[pz]'(by omega)) = cz at hcz
            have hbz : bef (some (spotOf (evt h pz iz hpz hiz))) line = decide ((cnt (h[pz].take iz) : Int) < cz) := bef_at hcz
            have ha : law14_at N h 3 (h[p][i]).No = some ((pz : Int), (iz : Int), true) := ha
            rw [ha, Option.bind_some]
            try dsimp only
            rw [if_pos rfl, idx_at hpz, Option.bind_some, idx_of hcz, Option.bind_some, past_eq (hl _ (List.getElem_mem hpz)) (by omega) hN, Option.bind_some, Option.bind_some]
            try dsimp only
            by_cases hbb : (cnt (h[pz].take iz) : Int) < cz
            · rw [decide_eq_true hbb] at hbz ⊢
              rw [if_pos rfl]
              exact skip (by rw [hue, hlk]; show (!bef (some (spotOf (evt h pz iz hpz hiz))) line) = false; rw [hbz]; rfl)
            · rw [decide_eq_false hbb] at hbz ⊢
              rw [if_neg Bool.false_ne_true]
              exact take_ (by rw [hue, hlk]; show (!bef (some (spotOf (evt h pz iz hpz hiz))) line) = true; rw [hbz]; rfl)
        · rw [decide_eq_false hb] at hbe ⊢
          try dsimp only
          rw [if_pos (by decide)]
          exact skip (by unfold undE; rw [hbe, Bool.false_and, Bool.and_false])
      · rw [if_pos (show (!decide ((h[p][i]).Kind = 2)) = true by simp [hk]), Option.bind_some]
        try dsimp only
        rw [if_pos rfl]
        exact skip (by unfold undE; rw [decide_eq_false (show ¬ (evt h p i hp hi).x.Kind = 2 from hk), Bool.false_and])
    · rw [if_neg (dge (by omega)), List.drop_eq_nil_of_le (by omega)]
      rfl
theorem cc_l4 {N : Nat} {h : List (List Item)} {ps : List (Int × Psg)} {line un : List Int} (hG : Good2 h ps) (hN : 200000 < N) (hlen : line.length = h.length) (hun : un.length ≤ 100000) (hin : ∀ e, e ∈ evs 0 h → undE (evs 0 h) line e = true → e.x.No ∈ un) : ∀ (m p n : Nat), p ≤ h.length → h.length < p + m →
    n + (undN (evs 0 h) line (evs p (h.drop p))).length ≤ un.length →
    law14_CheckConsistent_l4 N h (line, un, 0) m (n : Int) (p : Int) = some (.inl ((n + (undN (evs 0 h) line (evs p (h.drop p))).length : Nat) : Int))
  | 0, p, n, h1, h2, _ => by omega
  | m + 1, p, n, h1, h2, hsz => by
    have hh := hG.few
    rw [law14_CheckConsistent_l4.eq_2]
    by_cases hp : p < h.length
    · have hd : h.drop p = h[p] :: h.drop (p + 1) := List.drop_eq_getElem_cons hp
      have hee : evs p (h[p] :: h.drop (p + 1)) = evl p h[p] 0 0 ++ evs (p + 1) (h.drop (p + 1)) := rfl
      rw [hd, hee, undN_append, List.length_append] at hsz ⊢
      have hlp := hG.le _ (List.getElem_mem hp)
      have a := cc_l5 hG hN hlen hun hin hp N 0 n (by omega) (by omega) (by show n + (undN (evs 0 h) line (evl p h[p] 0 0)).length ≤ _; omega)
      have a : law14_CheckConsistent_l5 N h (line, un, 0) (p : Int) h[p] N (n : Int) 0 = some (.inl ((n + (undN (evs 0 h) line (evl p h[p] 0 0)).length : Nat) : Int)) := a
      rw [if_pos (dlt hp), idx_at hp, Option.bind_some, a, Option.bind_some]
      dsimp only
      rw [chk, if_pos (by unfold inR; omega)]
      have b := cc_l4 hG hN hlen hun hin m (p + 1) (n + (undN (evs 0 h) line (evl p h[p] 0 0)).length) (by omega) (by omega) (by omega)
      refine Eq.trans b ?_
      rw [Nat.add_assoc]
    · rw [if_neg (dge (by omega)), List.drop_eq_nil_of_le (by omega)]
      rfl
theorem cc_l6 {N : Nat} {line un : List Int} (hun : un.length ≤ 100000) (ha : un.Pairwise fun a b => a < b) : ∀ (m i : Nat), 1 ≤ i → (i ≤ un.length ∨ i = 1) → un.length + 1 < i + m → law14_CheckConsistent_l6 N (line, un, 0) m (i : Int) = some (.inl ())
  | 0, i, h0, h1, h2 => by
    rcases h1 with h1 | h1
    · omega
    · omega
  | m + 1, i, h0, h1, h2 => by
    rw [law14_CheckConsistent_l6.eq_2]
    dsimp only
    by_cases hi : i < un.length
    · have e : (i : Int) - 1 = ((i - 1 : Nat) : Int) := by omega
      have hlt := List.pairwise_iff_getElem.1 ha (i - 1) i (by omega) hi (by omega)
      rw [if_pos (dlt hi), chk, if_pos (by unfold inR; omega), e, idx_at (by omega), Option.bind_some, idx_at hi, Option.bind_some, if_neg (show ¬ decide (un[i] ≤ un[i - 1]) = true by simp; omega), chk, if_pos (by unfold inR; omega)]
      exact cc_l6 hun ha m (i + 1) (by omega) (.inl (by omega)) (by omega)
    · rw [if_neg (dge (by omega))]
theorem lawC (a0 : List (List Item)) (_k0 : a0.length ≤ maxLen ∧ ∀ x ∈ a0, x.length ≤ maxLen ∧ ∀ y ∈ x, True) (a1 : List Int) (_k1 : a1.length ≤ maxLen ∧ ∀ x ∈ a1, (Lit.int .i64 x).wf = true)
    (a2 : List U8) (k2 : a2.length ≤ maxLen ∧ ∀ x ∈ a2, (Lit.int .u8 x.n).wf = true) : ∃ N, law14_CheckConsistent N a0 a1 a2 = some true := by
  refine ⟨300000, ?_⟩
  generalize hN' : (300000 : Nat) = N
  have hN : 200000 < N := by omega
  clear hN'
  have hw : law14_works N = some true := rfl
  have hmax : 2 ^ 60 ≤ maxLen := by decide
  unfold law14_CheckConsistent
  by_cases h5 : 5 < a0.length
  · rw [if_pos (decide_eq_true (show (5 : Int) < (a0.length : Int) by omega)), Option.bind_some]
    try dsimp only
    rw [if_pos rfl, hw]; rfl
  rw [if_neg (show ¬ decide ((5 : Int) < (a0.length : Int)) = true by simp; omega), Option.bind_some]
  try dsimp only
  by_cases hlen : a1.length = a0.length
  case neg =>
    rw [if_pos (show (!decide ((a1.length : Int) = (a0.length : Int))) = true by simp; omega), hw]; rfl
  rw [if_neg (show ¬ (!decide ((a1.length : Int) = (a0.length : Int))) = true by simp [hlen])]
  rcases cc_l1 (N := N) (h := a0) (by omega) N 0 (by omega) (by omega) with ⟨hc, hd⟩ | hd
  case inr =>
    have hd : law14_CheckConsistent_l1 N a0 N 0 = _ := hd
    rw [hd]; rfl
  have hd : law14_CheckConsistent_l1 N a0 N 0 = _ := hd
  have hl : ∀ l, l ∈ a0 → l.length ≤ 100000 := fun l hl => by
    obtain ⟨j, hj, rfl⟩ := List.getElem_of_mem hl
    have := hc j hj (by omega)
    omega
  rw [hd, Option.bind_some]
  dsimp only
  rcases pass_T (N := N) (h := a0) (by omega) hl hN with ⟨ps, hp, hG⟩ | ⟨er, h0, hp⟩
  case inr =>
    have e : check_Line N a0 a1 = some ([], [], er) := by
      unfold check_Line
      rw [hp, Option.bind_some]
      dsimp only
      rw [if_pos (show (!decide (er = 0)) = true by simpa using h0)]
    rw [e, Option.bind_some, if_pos (show (!decide (er = 0)) = true by simpa using h0), hw]; rfl
  rcases line_T hG hp hN hlen with ⟨hI, line, hline, e⟩ | ⟨_, e⟩
  case inr => rw [e, Option.bind_some, if_pos (by decide), hw]; rfl
  have hll : line.length = a0.length := hline.le.1.trans hlen
  generalize hune : (undW line (rP ps)).mergeSort (fun x y => decide (x ≤ y)) = un at e
  have hperm : un.Perm (undN (evs 0 a0) line (evs 0 a0)) := by
    rw [← hune]
    exact (List.mergeSort_perm _ _).trans (und_perm line hG).symm
  have hnd : (undN (evs 0 a0) line (evs 0 a0)).Nodup := by
    refine (und_perm line hG).nodup_iff.2 ?_
    unfold undW
    have h1 : ((rP ps).map (·.1)).Nodup := by unfold rP; rw [List.map_map]; exact hG.inv.keys
    exact h1.sublist (List.Sublist.map _ List.filter_sublist)
  have hul : un.length = (undN (evs 0 a0) line (evs 0 a0)).length := hperm.length_eq
  have hun : un.length ≤ 100000 := by
    have h5 := undN_len (E := evs 0 a0) (line := line) (evs 0 a0)
    have h6 := evs_len (p := 0) hG.le
    have h7 := hG.few
    omega
  have hasc : un.Pairwise fun a b => a < b := by
    have tr : ∀ a b c : Int, decide (a ≤ b) = true → decide (b ≤ c) = true → decide (a ≤ c) = true := fun a b c h1 h2 => by simp only [decide_eq_true_eq] at *; omega
    have to : ∀ a b : Int, (decide (a ≤ b) || decide (b ≤ a)) = true := fun a b => by simp only [Bool.or_eq_true, decide_eq_true_eq]; omega
    have p1 : un.Pairwise fun a b => a ≤ b := by
      rw [← hune]
      exact (List.pairwise_mergeSort tr to _).imp fun h => of_decide_eq_true h
    have p2 : un.Pairwise fun a b => a ≠ b := hperm.nodup_iff.2 hnd
    exact (p1.and p2).imp fun h => by have := h.1; have := h.2; omega
  have hin : ∀ e, e ∈ evs 0 a0 → undE (evs 0 a0) line e = true → e.x.No ∈ un := fun e he hu => by
    refine hperm.mem_iff.2 ?_
    unfold undN
    exact List.mem_map.2 ⟨e, List.mem_filter.2 ⟨he, hu⟩, rfl⟩
  have hz : ¬ ((!decide ((0 : Int) = 0)) = true) := by decide
  rw [e, Option.bind_some]
  dsimp only
  rw [if_neg hz]
  rw [if_neg (show ¬ (!decide ((line.length : Int) = (a0.length : Int))) = true by simp [hll])]
  rcases consistent_eq (N := N) (line := line) hG hN hll with ⟨_, b⟩ | ⟨a, _⟩
  case inr => exact absurd hline.con a
  rw [b, Option.bind_some, Option.bind_some]
  try dsimp only
  rw [if_neg (by decide), chk, if_pos ⟨by omega, by omega, by omega⟩, chk, if_pos ⟨by omega, by omega, by omega⟩, Int.toNat_natCast]
  have hr0 : RgL a1 (List.replicate a0.length 0) 0 := ⟨by simp [hlen], fun j x y hj => by omega⟩
  obtain ⟨lo, an, q1, hlo, han⟩ := cc_l2 (N := N) (ot := a2) (un := un) hG hlen hI hline k2.2 N 0 _ _ (by omega) (by omega) hr0 hr0
  have q1 : law14_CheckConsistent_l2 N a0 a1 a2 (line, un, 0) N 0 _ _ = _ := q1
  rw [q1, Option.bind_some]
  dsimp only
  have hlo2 : InS a0 lo := fun j x hj hx => by
    have hj1 : j < a1.length := by omega
    have e1 := List.getElem?_eq_getElem hj1
    have h1 := hlo.2 j x _ hj hx e1
    have h2 := hI j _ hj e1
    omega
  rcases line_T hG hp hN (hlo.1.trans hlen) with ⟨_, small, hsmall, e2⟩ | ⟨hno, _⟩
  case inr => exact absurd hlo2 hno
  generalize (undW small (rP ps)).mergeSort (fun x y => decide (x ≤ y)) = un2 at e2
  have hsl : small.length = a0.length := hsmall.le.1.trans (hlo.1.trans hlen)
  rw [e2, Option.bind_some]
  dsimp only
  rw [if_neg hz]
  rw [Option.bind_some]
  try dsimp only
  rw [if_neg (show ¬ (!decide ((small.length : Int) = (a0.length : Int))) = true by simp [hsl])]
  have q3 := cc_l3 (N := N) (un := un) (un2 := un2) hG hN hlen hline hlo han hsmall N 0 (by omega) (by omega)
  have q3 : law14_CheckConsistent_l3 N a0 (line, un, 0) an (small, un2, 0) N 0 = _ := q3
  have q4 := cc_l4 (N := N) hG hN hll hun hin N 0 0 (by omega) (by omega) (by rw [List.drop_zero, hul]; omega)
  rw [List.drop_zero, Nat.zero_add, ← hul] at q4
  have q4 : law14_CheckConsistent_l4 N a0 (line, un, 0) N 0 0 = some (.inl (un.length : Int)) := q4
  have q6 := cc_l6 (N := N) (line := line) hun hasc N 1 (by omega) (.inr rfl) (by omega)
  have q6 : law14_CheckConsistent_l6 N (line, un, 0) N 1 = _ := q6
  rw [q3, Option.bind_some]
  dsimp only
  rw [q4, Option.bind_some]
  dsimp only
  rw [q6, Option.bind_some]
  dsimp only
  rw [if_pos (decide_eq_true rfl), hw]; rfl
end Go.Arm
