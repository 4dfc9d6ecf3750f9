/- A part of the proof. -/
import Derived.Test.YtdaedcoolcicoaaCoreU
namespace Go.Arm
open Go Go.RowKit
structure Level where
  Cost : Int
  Mean : Int
  deriving DecidableEq

instance : Rep Level where
  size := 2
  agg := true
  rel s cs x := ∃ c0 c1, cs = c0 ++ (c1) ∧ Rep.rel s c0 x.Cost ∧ Rep.rel s c1 x.Mean
  len := by
    rintro s cs x ⟨c0, c1, rfl, h0, h1⟩
    simp only [List.length_append, Rep.len h0, Rep.len h1]; rfl
  mono := by
    rintro s t cs x l ⟨c0, c1, e, h0, h1⟩
    exact ⟨c0, c1, e, Rep.mono l h0, Rep.mono l h1⟩
  one := by
    rintro s cs x ⟨c0, c1, rfl, h0, h1⟩ v hv
    simp only [List.mem_append] at hv
    rcases hv with hv | hv
    · exact Rep.one h0 v hv
    · exact Rep.one h1 v hv
  single h := by cases h

def Level.with_Cost (x : Level) (y : Int) : Level := ⟨y, x.Mean⟩
def Level.with_Mean (x : Level) (y : Int) : Level := ⟨x.Cost, y⟩
theorem Level.mk_V {s : St} {v0 v1 : Value} {x : Level} (h0 : V s v0 x.Cost) (h1 : V s v1 x.Mean) : V s (.agg #[v0, v1]) x :=
  ⟨_, ⟨[v0], [v1], rfl, h0.one rfl, h1.one rfl⟩, rfl⟩
theorem Level.val {s : St} {v : Value} {x : Level} (h : V s v x) : v = .agg #[.int .i64 x.Cost, .int .i64 x.Mean] := by
  obtain ⟨cs, ⟨c0, c1, rfl, h0, h1⟩, rfl⟩ := h
  rw [h0, h1]; rfl
theorem Level.zero_rel (s : St) : Rep.rel s [.int .i64 0, .int .i64 0] ((⟨0, 0⟩) : Level) :=
  ⟨[.int .i64 0], [.int .i64 0], rfl, rfl, rfl⟩

structure Loss where
  Num : Int
  Den : Int
  deriving DecidableEq

instance : Rep Loss where
  size := 2
  agg := true
  rel s cs x := ∃ c0 c1, cs = c0 ++ (c1) ∧ Rep.rel s c0 x.Num ∧ Rep.rel s c1 x.Den
  len := by
    rintro s cs x ⟨c0, c1, rfl, h0, h1⟩
    simp only [List.length_append, Rep.len h0, Rep.len h1]; rfl
  mono := by
    rintro s t cs x l ⟨c0, c1, e, h0, h1⟩
    exact ⟨c0, c1, e, Rep.mono l h0, Rep.mono l h1⟩
  one := by
    rintro s cs x ⟨c0, c1, rfl, h0, h1⟩ v hv
    simp only [List.mem_append] at hv
    rcases hv with hv | hv
    · exact Rep.one h0 v hv
    · exact Rep.one h1 v hv
  single h := by cases h

def Loss.with_Num (x : Loss) (y : Int) : Loss := ⟨y, x.Den⟩
def Loss.with_Den (x : Loss) (y : Int) : Loss := ⟨x.Num, y⟩
theorem Loss.mk_V {s : St} {v0 v1 : Value} {x : Loss} (h0 : V s v0 x.Num) (h1 : V s v1 x.Den) : V s (.agg #[v0, v1]) x :=
  ⟨_, ⟨[v0], [v1], rfl, h0.one rfl, h1.one rfl⟩, rfl⟩
theorem Loss.val {s : St} {v : Value} {x : Loss} (h : V s v x) : v = .agg #[.int .i64 x.Num, .int .i64 x.Den] := by
  obtain ⟨cs, ⟨c0, c1, rfl, h0, h1⟩, rfl⟩ := h
  rw [h0, h1]; rfl
theorem Loss.zero_rel (s : St) : Rep.rel s [.int .i64 0, .int .i64 0] ((⟨0, 0⟩) : Loss) :=
  ⟨[.int .i64 0], [.int .i64 0], rfl, rfl, rfl⟩

structure Item where
  Kind : Int
  No : Int
  deriving DecidableEq

instance : Rep Item where
  size := 2
  agg := true
  rel s cs x := ∃ c0 c1, cs = c0 ++ (c1) ∧ Rep.rel s c0 x.Kind ∧ Rep.rel s c1 x.No
  len := by
    rintro s cs x ⟨c0, c1, rfl, h0, h1⟩
    simp only [List.length_append, Rep.len h0, Rep.len h1]; rfl
  mono := by
    rintro s t cs x l ⟨c0, c1, e, h0, h1⟩
    exact ⟨c0, c1, e, Rep.mono l h0, Rep.mono l h1⟩
  one := by
    rintro s cs x ⟨c0, c1, rfl, h0, h1⟩ v hv
    simp only [List.mem_append] at hv
    rcases hv with hv | hv
    · exact Rep.one h0 v hv
    · exact Rep.one h1 v hv
  single h := by cases h

theorem Item.of_Kind : FieldOf (fun x : Item => x.Kind) 0 := by
  rintro s cs x ⟨c0, c1, rfl, h0, h1⟩
  refine ⟨c0, h0, fun j hj => ?_⟩
  rw [Nat.zero_add]
  exact get_here hj
def Item.with_Kind (x : Item) (y : Int) : Item := ⟨y, x.No⟩
theorem Item.of_No : FieldOf (fun x : Item => x.No) 1 := by
  rintro s cs x ⟨c0, c1, rfl, h0, h1⟩
  refine ⟨c1, h1, fun j hj => ?_⟩
  rw [show 1 + j = 1 + j by omega, get_skip (show c0.length = 1 from Rep.len h0)]
  exact List.getElem?_eq_getElem hj
def Item.with_No (x : Item) (y : Int) : Item := ⟨x.Kind, y⟩
theorem Item.mk_V {s : St} {v0 v1 : Value} {x : Item} (h0 : V s v0 x.Kind) (h1 : V s v1 x.No) : V s (.agg #[v0, v1]) x :=
  ⟨_, ⟨[v0], [v1], rfl, h0.one rfl, h1.one rfl⟩, rfl⟩
theorem Item.val {s : St} {v : Value} {x : Item} (h : V s v x) : v = .agg #[.int .i64 x.Kind, .int .i64 x.No] := by
  obtain ⟨cs, ⟨c0, c1, rfl, h0, h1⟩, rfl⟩ := h
  rw [h0, h1]; rfl
theorem Item.zero_rel (s : St) : Rep.rel s [.int .i64 0, .int .i64 0] ((⟨0, 0⟩) : Item) :=
  ⟨[.int .i64 0], [.int .i64 0], rfl, rfl, rfl⟩

structure Field where
  power : AV 510 U8
  log : AV 256 Int
  deriving DecidableEq

instance : Rep Field where
  size := 766
  agg := true
  rel s cs x := ∃ c0 c1, cs = c0 ++ (c1) ∧ Rep.rel s c0 x.power ∧ Rep.rel s c1 x.log
  len := by
    rintro s cs x ⟨c0, c1, rfl, h0, h1⟩
    simp only [List.length_append, Rep.len h0, Rep.len h1]; rfl
  mono := by
    rintro s t cs x l ⟨c0, c1, e, h0, h1⟩
    exact ⟨c0, c1, e, Rep.mono l h0, Rep.mono l h1⟩
  one := by
    rintro s cs x ⟨c0, c1, rfl, h0, h1⟩ v hv
    simp only [List.mem_append] at hv
    rcases hv with hv | hv
    · exact Rep.one h0 v hv
    · exact Rep.one h1 v hv
  single h := by cases h

def Field.with_power (x : Field) (y : AV 510 U8) : Field := ⟨y, x.log⟩
def Field.with_log (x : Field) (y : AV 256 Int) : Field := ⟨x.power, y⟩
end Go.Arm
