/- Plain laws. -/
import Derived.Test.YtmojccilbgjngaaPl4
namespace Go.Arm
open Go

theorem works_ok : law08_works 1300 = some true := by decide +kernel

theorem law_l4 (p : Int) (d x : Deed) (s : Int) (y : List Deed) (hy : y.length ≤ 200) (h : ∀ m ∈ y, d.Peer = -1 → hits p d m = true → x.Peer = s) : law08_DeadNarrow_l4 1300 p d x s y 1300 0 = some (.inl ()) := by
  have hl := loop_ret0 (F := law08_DeadNarrow_l4 1300 p d x s y) (len := y.length) (m := 1300) (fun _ => (none : Option Bool)) (by omega)
    (fun m k hk => by rw [law08_DeadNarrow_l4, if_neg (by simpa using hk)])
    (fun m k hk => by
      have hR : inR ((k : Int) + 1) := inR_small (by omega) (by omega)
      rw [law08_DeadNarrow_l4, if_pos (by simpa using hk), idx_nat, List.getElem?_eq_getElem hk, Option.bind_some]
      have hm := h y[k] (List.getElem_mem hk)
      generalize y[k] = w at hm
      have e1 : (if decide (w.Kind = 1) = true then if decide (w.Peer = p) = true then if decide (d.Tag = -1) = true then some true else some (decide (d.Tag = w.Tag)) else some false
          else if decide (w.Kind = 3) = true then if decide (w.Peer = p) = true then if decide (d.Tag = -1) = true then some true else some (decide (d.Tag = w.Tag)) else some false else some false) = some (hits p d w) := by
        unfold hits sendsS fitsS
        by_cases h1 : w.Kind = 1 <;> by_cases h2 : w.Kind = 3 <;> by_cases h3 : w.Peer = p <;> by_cases h4 : d.Tag = -1 <;> simp [h1, h2, h3, h4]
      rw [e1, Option.bind_some]
      dsimp only
      have e2 : (if decide (d.Peer = -1) = true then if hits p d w = true then some (!decide (x.Peer = s)) else some false else some false) = some false := by
        by_cases h1 : d.Peer = -1
        · cases h2 : hits p d w
          · simp
          · simp [h1, hm h1 h2]
        · simp [h1]
      rw [e2, Option.bind_some]
      rw [if_neg (by simp), chk_t hR]; rfl)
  rcases hl with ⟨e, _⟩ | ⟨k, r, hk, hg, e, _⟩
  · exact e
  · cases hg
theorem law_l3 {c : List (List Deed)} (hc : CheckOk c) (p : Int) (d x : Deed) (h : ∀ (s : Nat) (y : List Deed) (m : Deed), c[s]? = some y → m ∈ y → d.Peer = -1 → hits p d m = true → x.Peer = (s : Int)) : law08_DeadNarrow_l3 1300 c p d x 1300 0 = some (.inl ()) := by
  have hmost := hc.most
  have hl := loop_ret0 (F := law08_DeadNarrow_l3 1300 c p d x) (len := c.length) (m := 1300) (fun _ => (none : Option Bool)) (by omega)
    (fun m k hk => by rw [law08_DeadNarrow_l3, if_neg (by simpa using hk)])
    (fun m k hk => by
      have hR : inR ((k : Int) + 1) := inR_small (by omega) (by omega)
      rw [law08_DeadNarrow_l3, if_pos (by simpa using hk), idx_nat, List.getElem?_eq_getElem hk, Option.bind_some, law_l4 p d x (k : Int) c[k] (hc.rows _ (List.getElem_mem hk)) (fun m hm => h k c[k] m (List.getElem?_eq_getElem hk) hm), Option.bind_some]
      dsimp only
      rw [chk_t hR]; rfl)
  rcases hl with ⟨e, _⟩ | ⟨k, r, hk, hg, e, _⟩
  · exact e
  · cases hg
theorem law_l2 {c l : List (List Deed)} (hc : CheckOk c) (hn : NarOk c l) (b : Bool) (e0 : Int) {p : Nat} (hp : p < c.length) : law08_DeadNarrow_l2 1300 c (l, b, e0) (p : Int) c[p] 1300 0 = some (.inl ()) := by
  have hlen := hn.len
  have hpl : p < l.length := by omega
  have hmem := List.getElem_mem hp
  have hrow := hc.rows _ hmem
  have hA := hn.row p c[p] l[p] (List.getElem?_eq_getElem hp) (List.getElem?_eq_getElem hpl)
  have hl := loop_ret0 (F := law08_DeadNarrow_l2 1300 c (l, b, e0) (p : Int) c[p]) (len := c[p].length) (m := 1300) (fun _ => (none : Option Bool)) (by omega)
    (fun m k hk => by rw [law08_DeadNarrow_l2, if_neg (by simpa using hk)])
    (fun m k hk => by
      have hR : inR ((k : Int) + 1) := inR_small (by omega) (by omega)
      have hkl : k < l[p].length := by rw [← hA.len]; exact hk
      have hNar := hA.rel k c[p][k] l[p][k] (List.getElem?_eq_getElem hk) (List.getElem?_eq_getElem hkl)
      have hG := hc.good c[p] hmem k c[p][k] (List.getElem?_eq_getElem hk)
      rw [law08_DeadNarrow_l2, if_pos (by simpa using hk), idx_nat, List.getElem?_eq_getElem hk, Option.bind_some]
      dsimp only
      rw [idx_nat, List.getElem?_eq_getElem hpl, Option.bind_some, idx_nat, List.getElem?_eq_getElem hkl, Option.bind_some]
      generalize c[p][k] = d at hNar hG
      generalize l[p][k] = x at hNar
      have hopen : d.Peer = -1 → openS d = true := by
        intro h
        unfold openS receivesS
        unfold Good at hG
        have : d.Kind = 2 ∨ d.Kind = 4 := by omega
        simp [h, this]
      have hx1 : ¬ x.Peer = -1 := by
        rcases hNar with ⟨ho, rfl⟩ | ⟨_, fr, _, rfl⟩
        · intro h; rw [hopen h] at ho; cases ho
        · show ¬ max 0 fr = -1
          omega
      have hx2 : ¬ d.Peer = -1 → x = d := by
        intro h
        rcases hNar with ⟨_, e⟩ | ⟨ho, _⟩
        · exact e
        · unfold openS at ho; simp [h] at ho
      have e1 : (if decide (x.Peer = -1) = true then some true else if (!decide (d.Peer = -1)) = true then some (!decide (x = d)) else some false) = some false := by
        by_cases h : d.Peer = -1
        · simp [hx1, h]
        · simp [h, hx2 h]
      rw [e1, Option.bind_some]
      rw [if_neg (by simp), law_l3 hc (p : Int) d x (by
        intro s y m hs hm hd hh
        rcases hNar with ⟨ho, _⟩ | ⟨_, fr, hO, rfl⟩
        · rw [hopen hd] at ho; cases ho
        · have hsl := (List.getElem?_eq_some_iff.1 hs).1
          have hat : hitAt c (p : Int) d s = true := by unfold hitAt; rw [hs]; exact List.any_eq_true.2 ⟨m, hm, hh⟩
          show max 0 fr = (s : Int)
          rcases hO with ⟨_, h2⟩ | ⟨j0, _, h2, h3⟩
          · rw [h2 s hsl] at hat; cases hat
          · have := h3 s hsl hat
            omega), Option.bind_some]
      dsimp only
      rw [chk_t hR]; rfl)
  rcases hl with ⟨e, _⟩ | ⟨k, r, hk, hg, e, _⟩
  · exact e
  · cases hg
theorem law_l1 {c l : List (List Deed)} (hc : CheckOk c) (hn : NarOk c l) (b : Bool) (e0 : Int) : law08_DeadNarrow_l1 1300 c (l, b, e0) 1300 0 = some (.inl ()) ∨ law08_DeadNarrow_l1 1300 c (l, b, e0) 1300 0 = some (.inr true) := by
  have hmost := hc.most
  have hlen := hn.len
  have hl := loop_ret0 (F := law08_DeadNarrow_l1 1300 c (l, b, e0)) (len := c.length) (m := 1300) (fun k => if 20 < ((c[k]?.getD []).length : Int) then some true else none) (by omega)
    (fun m k hk => by rw [law08_DeadNarrow_l1, if_neg (by simpa using hk)])
    (fun m k hk => by
      have hR : inR ((k : Int) + 1) := inR_small (by omega) (by omega)
      have hkl : k < l.length := by omega
      have hA := hn.row k c[k] l[k] (List.getElem?_eq_getElem hk) (List.getElem?_eq_getElem hkl)
      have hlk := hA.len
      have hl2 := law_l2 hc hn b e0 hk
      rw [law08_DeadNarrow_l1, if_pos (by simpa using hk), idx_nat, List.getElem?_eq_getElem hk, Option.bind_some]
      by_cases h20 : 20 < (c[k].length : Int)
      · rw [if_pos (by simpa using h20), works_ok, Option.bind_some, if_pos (by simpa using h20)]
      · rw [if_neg (by simpa using h20), if_neg (by simpa using h20)]
        dsimp only
        rw [idx_nat, List.getElem?_eq_getElem hkl, Option.bind_some, Option.bind_some, if_neg (by simp; omega), Option.bind_some, hl2, Option.bind_some]
        dsimp only
        rw [chk_t hR]; rfl)
  rcases hl with ⟨e, _⟩ | ⟨k, r, hk, hg, e, _⟩
  · exact Or.inl e
  · right
    rw [e]
    split at hg
    · cases hg; rfl
    · cases hg
theorem Decide_congr {N : Nat} {a b : List (List Deed)} (h : dead_Narrow N a = dead_Narrow N b) : dead_Decide N a = dead_Decide N b := by
  unfold dead_Decide; rw [h]
theorem law_narrow (c : List (List Deed)) : law08_DeadNarrow 1300 c = some true := by
  have hN : 1300 ≤ 1300 := Nat.le_refl _
  unfold law08_DeadNarrow
  rw [works_ok]
  by_cases h6 : 6 < c.length
  · have h6' : 6 < (c.length : Int) := by omega
    rw [if_pos (by simpa using h6'), Option.bind_some]; rfl
  have h6' : ¬ 6 < (c.length : Int) := by omega
  obtain ⟨e, he, heq⟩ := check_eq 1300 c hN
  rw [if_neg (by simpa using h6'), he, Option.bind_some, Option.bind_some]
  dsimp only
  by_cases h0 : e = 0
  · have hc := heq.1 h0
    rw [if_neg (by simp [h0])]
    obtain ⟨o, hn, _, hk⟩ := Narrow_ok hN hc
    cases o with
    | none =>
      rw [hn, Option.bind_some, Decide_un hn]
      rfl
    | some l =>
      have hno := hk l rfl
      have hcase := hno.case hc (by omega)
      dsimp only at hn
      obtain ⟨v, hv, h4⟩ := Decide_ok hN hn hcase
      have hself := Narrow_self hN hcase
      have hv2 : dead_Decide 1300 l = some (v, 0) := by rw [← hv]; exact Decide_congr (by rw [hself, hn])
      have hlen := hno.len
      rw [hn, Option.bind_some, hv, Option.bind_some]
      dsimp only
      have e1 : (if (!decide ((0 : Int) = 0)) = true then some true else if (!decide ((0 : Int) = 0)) = true then some true else some (true == decide (v.Kind = 4))) = some false := by simp [h4]
      rw [e1, Option.bind_some]
      rw [if_neg (by simp), if_neg (by simp)]
      have e2 : (!decide ((l.length : Int) = (c.length : Int))) = false := by simp [hlen]
      rw [e2, if_neg (by simp), check_0 hN hcase.chk, Option.bind_some, Option.bind_some]
      try dsimp only
      rw [if_neg (by simp)]
      rcases law_l1 hc hno true 0 with e3 | e3
      · rw [e3, Option.bind_some]
        dsimp only
        rw [hv2, Option.bind_some]
        simp
      · rw [e3]; rfl
  · rw [if_pos (by simp [h0])]; rfl

end Go.Arm
