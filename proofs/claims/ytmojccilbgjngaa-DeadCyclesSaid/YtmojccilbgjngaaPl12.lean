/- Plain laws. -/
import Derived.Test.YtmojccilbgjngaaPl9
namespace Go.Arm
open Go

/-- The deed for which a process waits. -/
def deedS (c : List (List Deed)) (p : Nat) (d : Deed) : Deed := if d.Kind = 5 then ((rowS c p)[reqS (rowS c p) d.Req]?).getD d else d
def forS (c : List (List Deed)) (f : Nat → Nat) (p : Nat) (d : Deed) : List Int := if (deedS c p d).Kind = 6 then (lateS c f p).map (fun q : Nat => (q : Int)) else [(deedS c p d).Peer]
def blkF (c : List (List Deed)) (f : Nat → Nat) (p : Nat) : Option Block := ((rowS c p)[f p]?).map fun d => ⟨(p : Int), (f p : Int), forS c f p d⟩
def blkS (c : List (List Deed)) (f : Nat → Nat) (k : Nat) : List Block := (List.range k).filterMap (blkF c f)
theorem blkS_succ (c : List (List Deed)) (f : Nat → Nat) (k : Nat) : blkS c f (k + 1) = blkS c f k ++ (blkF c f k).toList := by
  unfold blkS
  rw [List.range_succ, List.filterMap_append]
  cases h : blkF c f k <;> simp [h]
theorem blkS_len (c : List (List Deed)) (f : Nat → Nat) (k : Nat) : (blkS c f k).length ≤ k := by
  unfold blkS
  exact Nat.le_trans (List.length_filterMap_le _ _) (by simp)
section
variable {N : Nat} {c : List (List Deed)}
theorem blocks_l1 (hN : 1300 ≤ N) {room : Int} {av : List Int} (a0 out : List Int) (hr : RunOk ⟨c, room, av⟩) : ∀ (m k : Nat), c.length - k < m → k ≤ c.length →
    dead_Blocks_l1 N c ⟨c, room, a0⟩ (out, av) m (blkS c (fN av) k) (k : Int) = some (blkS c (fN av) c.length) := by
  have hlen : av.length = c.length := hr.len
  have hmost : c.length ≤ 64 := hr.chk.most
  have ew : Run.with_at_ (⟨c, room, a0⟩ : Run) av = ⟨c, room, av⟩ := rfl
  intro m
  induction m with
  | zero => intro k h; omega
  | succ m ih =>
    intro k h hk
    rw [dead_Blocks_l1]
    dsimp only
    rw [ew]
    dsimp only
    by_cases hkl : k < c.length
    · have hR : inR ((k : Int) + 1) := inR_small (by omega) (by omega)
      have e : (k : Int) + 1 = ((k + 1 : Nat) : Int) := rfl
      have hat : av[k]? = some (fN av k : Int) := hr.at hkl
      have hle : fN av k ≤ (rowS c k).length := hr.lt hkl
      have hp := List.getElem?_eq_getElem hkl
      have hrow := rowS_eq hp
      have hgo := ih (k + 1) (by omega) (by omega)
      have hbl := blkS_len c (fN av) k
      rw [blkS_succ] at hgo
      unfold blkF at hgo
      rw [hrow] at hle hgo
      rw [if_pos (by simp; omega), idx_nat, hat, Option.bind_some, idx_nat, hp, Option.bind_some]
      by_cases hE : fN av k = c[k].length
      · rw [if_pos (by simp [hE]), chk_t hR, e]
        rw [List.getElem?_eq_none (by omega)] at hgo
        simpa using hgo
      · have hlt : fN av k < c[k].length := by omega
        rw [if_neg (by simp; omega), Option.bind_some, idx_nat, List.getElem?_eq_getElem hlt, Option.bind_some]
        have hk2 := List.getElem?_eq_getElem hlt
        rw [hk2, Option.map_some, Option.toList_some] at hgo
        generalize c[k][fN av k] = d at hk2 hgo
        have hc : ∀ b : Block, ((blkS c (fN av) k).length + ([b] : List Block).length) * 40 ≤ 140737488355328 ∧ (blkS c (fN av) k).length + ([b] : List Block).length ≤ maxLen := by
          intro b
          rw [List.length_singleton]
          exact ⟨by omega, small_len (by omega)⟩
        by_cases h5 : d.Kind = 5
        · obtain ⟨j, x, e1, hx, hja, hbx, _⟩ := req_ok hr.chk hp hk2 h5
          have hreq : dead_run_request N ⟨c, room, av⟩ (k : Int) d.Req = some ((reqS c[k] d.Req : Nat) : Int) := request_eq hN hr hp hk2 h5
          have hx6 : ¬ x.Kind = 6 := by
            unfold beginsS at hbx
            simp at hbx
            omega
          have hfor : forS c (fN av) k d = [x.Peer] := by
            unfold forS deedS
            rw [if_pos h5, hrow, e1, hx]
            simp [hx6]
          rw [hfor] at hgo
          rw [if_pos (by simpa using h5), hreq, Option.bind_some, Option.bind_some, e1, idx_nat, hx, Option.bind_some, if_neg (by simpa using hx6), chk_t (hc _), chk_t hR, e]
          exact hgo
        · rw [if_neg (by simpa using h5)]
          by_cases h6 : d.Kind = 6
          · have hlate : dead_run_late N ⟨c, room, av⟩ (k : Int) = some ((lateS c (fN av) k).map (fun q : Nat => (q : Int))) := late_eq hN hr hkl
            have hfor : forS c (fN av) k d = (lateS c (fN av) k).map (fun q : Nat => (q : Int)) := by
              unfold forS deedS
              rw [if_neg h5, if_pos h6]
            rw [hfor] at hgo
            rw [if_pos (by simpa using h6), hlate, Option.bind_some, chk_t (hc _), chk_t hR, e]
            exact hgo
          · have hfor : forS c (fN av) k d = [d.Peer] := by
              unfold forS deedS
              rw [if_neg h5, if_neg h6]
            rw [hfor] at hgo
            rw [if_neg (by simpa using h6), chk_t (hc _), chk_t hR, e]
            exact hgo
    · rw [if_neg (by simp; omega), show k = c.length by omega]
theorem Blocks_eq (hN : 1300 ≤ N) (h : CaseOk c) {room : Int} (h0 : 0 ≤ room) {out av : List Int} (hf : dead_run_finish N ⟨c, room, List.replicate c.length 0⟩ = some (out, av)) (hE : EndOk c room out av) : dead_Blocks N c room = some (blkS c (fN av) c.length, 0) := by
  have h6 := h.six
  have hl := blocks_l1 hN (List.replicate c.length 0) out hE.run N 0 (by omega) (by omega)
  rw [show ((0 : Nat) : Int) = 0 from rfl, show blkS c (fN av) 0 = [] from rfl] at hl
  unfold dead_Blocks
  rw [(newRun_eq hN h h0).1, Option.bind_some, if_neg (by simp), Option.bind_some, show Run.with_at_ (⟨c, room, List.replicate c.length 0⟩ : Run) (⟨c, room, List.replicate c.length 0⟩ : Run).at_ = ⟨c, room, List.replicate c.length 0⟩ from rfl, hf, Option.bind_some, hl]
  rfl
end

/-- What is known of a blocked process. -/
structure Blk (c : List (List Deed)) (f : Nat → Nat) (b : Block) (p : Nat) : Prop where
  proc : b.Proc = (p : Int)
  lt : p < c.length
  att : b.At = (f p : Int)
  len : f p < (rowS c p).length
  some : b.For ≠ []
  rng : ∀ q ∈ b.For, 0 ≤ q ∧ q < c.length
theorem blk_ok {c : List (List Deed)} (hc : CaseOk c) {room : Int} {f : Nat → Nat} (ht : TermS c room f) {p : Nat} (hp : p < c.length) {b : Block} (hb : blkF c f p = some b) : Blk c f b p := by
  unfold blkF at hb
  cases hd : (rowS c p)[f p]? with
  | none => rw [hd] at hb; cases hb
  | some d =>
    rw [hd] at hb
    simp only [Option.map_some, Option.some.injEq] at hb
    subst hb
    have hrow := rowS_eq (List.getElem?_eq_getElem hp)
    have hmem := List.getElem_mem hp
    have hlt := (List.getElem?_eq_some_iff.1 hd).1
    have hcan := ht p hp
    have hrng : ∀ (j : Nat) (x : Deed), c[p][j]? = some x → x.Kind ≠ 5 → x.Kind ≠ 6 → 0 ≤ x.Peer ∧ x.Peer < c.length := by
      intro j x hx h5 h6
      have hG := hc.chk.good _ hmem j x hx
      have ho := hc.shut _ hmem x (List.mem_of_getElem? hx)
      cases hs : sendsS x
      · have hrec : receivesS x = true := by
          unfold sendsS at hs; unfold receivesS
          simp at hs ⊢
          unfold Good at hG
          omega
        obtain ⟨q, hq, hql⟩ := peerR hG ho hrec
        omega
      · obtain ⟨q, hq, hql⟩ := peerS hG hs
        omega
    have hfor : (forS c f p d ≠ []) ∧ ∀ q ∈ forS c f p d, 0 ≤ q ∧ q < c.length := by
      rw [hrow] at hd
      by_cases h5 : d.Kind = 5
      · obtain ⟨j, x, e1, hx, hja, hbx, _⟩ := req_ok hc.chk (List.getElem?_eq_getElem hp) hd h5
        have hx56 : x.Kind ≠ 5 ∧ x.Kind ≠ 6 := by
          unfold beginsS at hbx
          simp at hbx
          omega
        have hfor : forS c f p d = [x.Peer] := by
          unfold forS deedS
          rw [if_pos h5, hrow, e1, hx]
          simp [hx56.2]
        rw [hfor]
        have := hrng j x hx hx56.1 hx56.2
        exact ⟨by simp, by simpa using this⟩
      · by_cases h6 : d.Kind = 6
        · have hfor : forS c f p d = (lateS c f p).map (fun q : Nat => (q : Int)) := by
            unfold forS deedS
            rw [if_neg h5, if_pos h6]
          rw [hfor]
          refine ⟨?_, ?_⟩
          · intro he
            unfold canS at hcan
            rw [hrow, hd] at hcan
            have : lateS c f p = [] := by simpa using he
            simp [h6, this] at hcan
          · intro q hq
            rw [List.mem_map] at hq
            obtain ⟨q', hq', rfl⟩ := hq
            unfold lateS at hq'
            rw [List.mem_filter, List.mem_range] at hq'
            omega
        · have hfor : forS c f p d = [d.Peer] := by
            unfold forS deedS
            rw [if_neg h5, if_neg h6]
          rw [hfor]
          have := hrng (f p) d hd h5 h6
          exact ⟨by simp, by simpa using this⟩
    exact ⟨rfl, hp, rfl, hlt, hfor.1, hfor.2⟩

/-- The blocked processes, in order. -/
structure Blks (c : List (List Deed)) (f : Nat → Nat) (l : List Block) : Prop where
  blk : ∀ b ∈ l, ∃ p, Blk c f b p
  all : ∀ p, p < c.length → f p < (rowS c p).length → ∃ b ∈ l, b.Proc = (p : Int)
  inc : ∀ (i : Nat) (a b : Block), l[i]? = some a → l[i + 1]? = some b → a.Proc < b.Proc
  nodup : (l.map (·.Proc)).Nodup
  cnt : l.length + (List.range c.length).countP (fun p => decide (f p = (rowS c p).length)) = c.length
theorem blks_sorted {c : List (List Deed)} {f : Nat → Nat} : ∀ k, ((blkS c f k).map (·.Proc)).Pairwise (· < ·) ∧ ∀ b ∈ blkS c f k, b.Proc < (k : Int) := by
  intro k
  induction k with
  | zero => exact ⟨List.Pairwise.nil, fun b hb => by simp [blkS] at hb⟩
  | succ k ih =>
    rw [blkS_succ]
    cases h : blkF c f k with
    | none =>
      refine ⟨by simpa using ih.1, fun b hb => ?_⟩
      have := ih.2 b (by simpa using hb)
      omega
    | some x =>
      have hx : x.Proc = (k : Int) := by
        unfold blkF at h
        cases hd : (rowS c k)[f k]? with
        | none => rw [hd] at h; cases h
        | some d => rw [hd] at h; simp at h; rw [← h]
      refine ⟨?_, fun b hb => ?_⟩
      · rw [List.map_append, List.pairwise_append]
        refine ⟨ih.1, by simp, fun a ha b hb => ?_⟩
        rw [List.mem_map] at ha
        obtain ⟨a', ha', rfl⟩ := ha
        simp at hb
        have := ih.2 a' ha'
        omega
      · rw [List.mem_append] at hb
        rcases hb with hb | hb
        · have := ih.2 b hb; omega
        · simp at hb; rw [hb, hx]; omega
theorem blks_ok {c : List (List Deed)} (hc : CaseOk c) {room : Int} {f : Nat → Nat} (ht : TermS c room f) (hle : ∀ p, p < c.length → f p ≤ (rowS c p).length) : Blks c f (blkS c f c.length) := by
  have hs := blks_sorted (c := c) (f := f) c.length
  refine ⟨fun b hb => ?_, fun p hp hlt => ?_, fun i a b ha hb => ?_, ?_, ?_⟩
  · unfold blkS at hb
    rw [List.mem_filterMap] at hb
    obtain ⟨p, hp, hb⟩ := hb
    exact ⟨p, blk_ok hc ht (List.mem_range.1 hp) hb⟩
  · refine ⟨⟨(p : Int), (f p : Int), forS c f p (rowS c p)[f p]⟩, ?_, rfl⟩
    unfold blkS
    rw [List.mem_filterMap]
    refine ⟨p, List.mem_range.2 hp, ?_⟩
    unfold blkF
    rw [List.getElem?_eq_getElem hlt]
    rfl
  · have h1 := List.pairwise_iff_getElem.1 hs.1
    obtain ⟨ha1, ha2⟩ := List.getElem?_eq_some_iff.1 ha
    obtain ⟨hb1, hb2⟩ := List.getElem?_eq_some_iff.1 hb
    have := h1 i (i + 1) (by simpa using ha1) (by simpa using hb1) (by omega)
    simp only [List.getElem_map, ha2, hb2] at this
    exact this
  · exact hs.1.imp (fun h => by omega)
  · unfold blkS
    rw [List.length_filterMap_eq_countP]
    have h1 := List.length_eq_countP_add_countP (fun a => (blkF c f a).isSome) (l := List.range c.length)
    rw [List.length_range] at h1
    have h2 : (List.range c.length).countP (fun p => decide (f p = (rowS c p).length)) = (List.range c.length).countP (fun a => decide ¬ (blkF c f a).isSome = true) := by
      refine List.countP_congr fun p hp => ?_
      have := hle p (List.mem_range.1 hp)
      unfold blkF
      rw [Option.isSome_map]
      simp
      omega
    omega
end Go.Arm
