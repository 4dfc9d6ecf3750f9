/- A part of the proof. -/
import Derived.Test.YtdaedcoolcicoaaGreatCoreU
namespace Go.Arm
open Go Go.RowKit
structure Level where
  Cost : Int
  Mean : Int
  deriving DecidableEq

instance : Rep Level where
  size := 2
  agg := true
  rel s cs x := ∃ c0 c1, cs = c0 ++ (c1) ∧ Rep.rel s c0 x.Cost ∧ Rep.rel s c1 x.Mean
  len := by
    rintro s cs x ⟨c0, c1, rfl, h0, h1⟩
    simp only [List.length_append, Rep.len h0, Rep.len h1]; rfl
  mono := by
    rintro s t cs x l ⟨c0, c1, e, h0, h1⟩
    exact ⟨c0, c1, e, Rep.mono l h0, Rep.mono l h1⟩
  one := by
    rintro s cs x ⟨c0, c1, rfl, h0, h1⟩ v hv
    simp only [List.mem_append] at hv
    rcases hv with hv | hv
    · exact Rep.one h0 v hv
    · exact Rep.one h1 v hv
  single h := by cases h

def Level.with_Cost (x : Level) (y : Int) : Level := ⟨y, x.Mean⟩
def Level.with_Mean (x : Level) (y : Int) : Level := ⟨x.Cost, y⟩
theorem Level.mk_V {s : St} {v0 v1 : Value} {x : Level} (h0 : V s v0 x.Cost) (h1 : V s v1 x.Mean) : V s (.agg #[v0, v1]) x :=
  ⟨_, ⟨[v0], [v1], rfl, h0.one rfl, h1.one rfl⟩, rfl⟩
theorem Level.val {s : St} {v : Value} {x : Level} (h : V s v x) : v = .agg #[.int .i64 x.Cost, .int .i64 x.Mean] := by
  obtain ⟨cs, ⟨c0, c1, rfl, h0, h1⟩, rfl⟩ := h
  rw [h0, h1]; rfl
theorem Level.zero_rel (s : St) : Rep.rel s [.int .i64 0, .int .i64 0] ((⟨0, 0⟩) : Level) :=
  ⟨[.int .i64 0], [.int .i64 0], rfl, rfl, rfl⟩

structure Loss where
  Num : Int
  Den : Int
  deriving DecidableEq

instance : Rep Loss where
  size := 2
  agg := true
  rel s cs x := ∃ c0 c1, cs = c0 ++ (c1) ∧ Rep.rel s c0 x.Num ∧ Rep.rel s c1 x.Den
  len := by
    rintro s cs x ⟨c0, c1, rfl, h0, h1⟩
    simp only [List.length_append, Rep.len h0, Rep.len h1]; rfl
  mono := by
    rintro s t cs x l ⟨c0, c1, e, h0, h1⟩
    exact ⟨c0, c1, e, Rep.mono l h0, Rep.mono l h1⟩
  one := by
    rintro s cs x ⟨c0, c1, rfl, h0, h1⟩ v hv
    simp only [List.mem_append] at hv
    rcases hv with hv | hv
    · exact Rep.one h0 v hv
    · exact Rep.one h1 v hv
  single h := by cases h

def Loss.with_Num (x : Loss) (y : Int) : Loss := ⟨y, x.Den⟩
def Loss.with_Den (x : Loss) (y : Int) : Loss := ⟨x.Num, y⟩
theorem Loss.mk_V {s : St} {v0 v1 : Value} {x : Loss} (h0 : V s v0 x.Num) (h1 : V s v1 x.Den) : V s (.agg #[v0, v1]) x :=
  ⟨_, ⟨[v0], [v1], rfl, h0.one rfl, h1.one rfl⟩, rfl⟩
theorem Loss.val {s : St} {v : Value} {x : Loss} (h : V s v x) : v = .agg #[.int .i64 x.Num, .int .i64 x.Den] := by
  obtain ⟨cs, ⟨c0, c1, rfl, h0, h1⟩, rfl⟩ := h
  rw [h0, h1]; rfl
theorem Loss.zero_rel (s : St) : Rep.rel s [.int .i64 0, .int .i64 0] ((⟨0, 0⟩) : Loss) :=
  ⟨[.int .i64 0], [.int .i64 0], rfl, rfl, rfl⟩

structure Item where
  Kind : Int
  No : Int
  deriving DecidableEq

instance : Rep Item where
  size := 2
  agg := true
  rel s cs x := ∃ c0 c1, cs = c0 ++ (c1) ∧ Rep.rel s c0 x.Kind ∧ Rep.rel s c1 x.No
  len := by
    rintro s cs x ⟨c0, c1, rfl, h0, h1⟩
    simp only [List.length_append, Rep.len h0, Rep.len h1]; rfl
  mono := by
    rintro s t cs x l ⟨c0, c1, e, h0, h1⟩
    exact ⟨c0, c1, e, Rep.mono l h0, Rep.mono l h1⟩
  one := by
    rintro s cs x ⟨c0, c1, rfl, h0, h1⟩ v hv
    simp only [List.mem_append] at hv
    rcases hv with hv | hv
    · exact Rep.one h0 v hv
    · exact Rep.one h1 v hv
  single h := by cases h

theorem Item.of_Kind : FieldOf (fun x : Item => x.Kind) 0 := by
  rintro s cs x ⟨c0, c1, rfl, h0, h1⟩
  refine ⟨c0, h0, fun j hj => ?_⟩
  rw [Nat.zero_add]
  exact get_here hj
def Item.with_Kind (x : Item) (y : Int) : Item := ⟨y, x.No⟩
theorem Item.of_No : FieldOf (fun x : Item => x.No) 1 := by
  rintro s cs x ⟨c0, c1, rfl, h0, h1⟩
  refine ⟨c1, h1, fun j hj => ?_⟩
  rw [show 1 + j = 1 + j by omega, get_skip (show c0.length = 1 from Rep.len h0)]
  exact List.getElem?_eq_getElem hj
def Item.with_No (x : Item) (y : Int) : Item := ⟨x.Kind, y⟩
theorem Item.mk_V {s : St} {v0 v1 : Value} {x : Item} (h0 : V s v0 x.Kind) (h1 : V s v1 x.No) : V s (.agg #[v0, v1]) x :=
  ⟨_, ⟨[v0], [v1], rfl, h0.one rfl, h1.one rfl⟩, rfl⟩
theorem Item.val {s : St} {v : Value} {x : Item} (h : V s v x) : v = .agg #[.int .i64 x.Kind, .int .i64 x.No] := by
  obtain ⟨cs, ⟨c0, c1, rfl, h0, h1⟩, rfl⟩ := h
  rw [h0, h1]; rfl
theorem Item.zero_rel (s : St) : Rep.rel s [.int .i64 0, .int .i64 0] ((⟨0, 0⟩) : Item) :=
  ⟨[.int .i64 0], [.int .i64 0], rfl, rfl, rfl⟩

structure Field where
  power : AV 510 U8
  log : AV 256 Int
  deriving DecidableEq

instance : Rep Field where
  size := 766
  agg := true
  rel s cs x := ∃ c0 c1, cs = c0 ++ (c1) ∧ Rep.rel s c0 x.power ∧ Rep.rel s c1 x.log
  len := by
    rintro s cs x ⟨c0, c1, rfl, h0, h1⟩
    simp only [List.length_append, Rep.len h0, Rep.len h1]; rfl
  mono := by
    rintro s t cs x l ⟨c0, c1, e, h0, h1⟩
    exact ⟨c0, c1, e, Rep.mono l h0, Rep.mono l h1⟩
  one := by
    rintro s cs x ⟨c0, c1, rfl, h0, h1⟩ v hv
    simp only [List.mem_append] at hv
    rcases hv with hv | hv
    · exact Rep.one h0 v hv
    · exact Rep.one h1 v hv
  single h := by cases h

def Field.with_power (x : Field) (y : AV 510 U8) : Field := ⟨y, x.log⟩
def Field.with_log (x : Field) (y : AV 256 Int) : Field := ⟨x.power, y⟩
structure Thing where
  Mark : Bool
  N : Int
  deriving DecidableEq

instance : Rep Thing where
  size := 2
  agg := true
  rel s cs x := ∃ c0 c1, cs = c0 ++ (c1) ∧ Rep.rel s c0 x.Mark ∧ Rep.rel s c1 x.N
  len := by
    rintro s cs x ⟨c0, c1, rfl, h0, h1⟩
    simp only [List.length_append, Rep.len h0, Rep.len h1]; rfl
  mono := by
    rintro s t cs x l ⟨c0, c1, e, h0, h1⟩
    exact ⟨c0, c1, e, Rep.mono l h0, Rep.mono l h1⟩
  one := by
    rintro s cs x ⟨c0, c1, rfl, h0, h1⟩ v hv
    simp only [List.mem_append] at hv
    rcases hv with hv | hv
    · exact Rep.one h0 v hv
    · exact Rep.one h1 v hv
  single h := by cases h

def Thing.with_Mark (x : Thing) (y : Bool) : Thing := ⟨y, x.N⟩
def Thing.with_N (x : Thing) (y : Int) : Thing := ⟨x.Mark, y⟩
theorem Thing.mk_V {s : St} {v0 v1 : Value} {x : Thing} (h0 : V s v0 x.Mark) (h1 : V s v1 x.N) : V s (.agg #[v0, v1]) x :=
  ⟨_, ⟨[v0], [v1], rfl, h0.one rfl, h1.one rfl⟩, rfl⟩
theorem Thing.val {s : St} {v : Value} {x : Thing} (h : V s v x) : v = .agg #[.bool x.Mark, .int .i64 x.N] := by
  obtain ⟨cs, ⟨c0, c1, rfl, h0, h1⟩, rfl⟩ := h
  rw [h0, h1]; rfl
theorem Thing.zero_rel (s : St) : Rep.rel s [.bool false, .int .i64 0] ((⟨false, 0⟩) : Thing) :=
  ⟨[.bool false], [.int .i64 0], rfl, rfl, rfl⟩

structure Flow2 where
  States : List Int
  Ways : List (List (List Thing))
  Begun : Bool
  Recorded : List Bool
  Shots : List Int
  Open : List (List Bool)
  Contents : List (List (List Int))
  deriving DecidableEq

instance : Rep Flow2 where
  size := 7
  agg := true
  rel s cs x := ∃ c0 c1 c2 c3 c4 c5 c6, cs = c0 ++ (c1 ++ (c2 ++ (c3 ++ (c4 ++ (c5 ++ (c6)))))) ∧ Rep.rel s c0 x.States ∧ Rep.rel s c1 x.Ways ∧ Rep.rel s c2 x.Begun ∧ Rep.rel s c3 x.Recorded ∧ Rep.rel s c4 x.Shots ∧ Rep.rel s c5 x.Open ∧ Rep.rel s c6 x.Contents
  len := by
    rintro s cs x ⟨c0, c1, c2, c3, c4, c5, c6, rfl, h0, h1, h2, h3, h4, h5, h6⟩
    simp only [List.length_append, Rep.len h0, Rep.len h1, Rep.len h2, Rep.len h3, Rep.len h4, Rep.len h5, Rep.len h6]; rfl
  mono := by
    rintro s t cs x l ⟨c0, c1, c2, c3, c4, c5, c6, e, h0, h1, h2, h3, h4, h5, h6⟩
    exact ⟨c0, c1, c2, c3, c4, c5, c6, e, Rep.mono l h0, Rep.mono l h1, Rep.mono l h2, Rep.mono l h3, Rep.mono l h4, Rep.mono l h5, Rep.mono l h6⟩
  one := by
    rintro s cs x ⟨c0, c1, c2, c3, c4, c5, c6, rfl, h0, h1, h2, h3, h4, h5, h6⟩ v hv
    simp only [List.mem_append] at hv
    rcases hv with hv | hv | hv | hv | hv | hv | hv
    · exact Rep.one h0 v hv
    · exact Rep.one h1 v hv
    · exact Rep.one h2 v hv
    · exact Rep.one h3 v hv
    · exact Rep.one h4 v hv
    · exact Rep.one h5 v hv
    · exact Rep.one h6 v hv
  single h := by cases h

def Flow2.with_States (x : Flow2) (y : List Int) : Flow2 := ⟨y, x.Ways, x.Begun, x.Recorded, x.Shots, x.Open, x.Contents⟩
def Flow2.with_Ways (x : Flow2) (y : List (List (List Thing))) : Flow2 := ⟨x.States, y, x.Begun, x.Recorded, x.Shots, x.Open, x.Contents⟩
def Flow2.with_Begun (x : Flow2) (y : Bool) : Flow2 := ⟨x.States, x.Ways, y, x.Recorded, x.Shots, x.Open, x.Contents⟩
def Flow2.with_Recorded (x : Flow2) (y : List Bool) : Flow2 := ⟨x.States, x.Ways, x.Begun, y, x.Shots, x.Open, x.Contents⟩
def Flow2.with_Shots (x : Flow2) (y : List Int) : Flow2 := ⟨x.States, x.Ways, x.Begun, x.Recorded, y, x.Open, x.Contents⟩
def Flow2.with_Open (x : Flow2) (y : List (List Bool)) : Flow2 := ⟨x.States, x.Ways, x.Begun, x.Recorded, x.Shots, y, x.Contents⟩
def Flow2.with_Contents (x : Flow2) (y : List (List (List Int))) : Flow2 := ⟨x.States, x.Ways, x.Begun, x.Recorded, x.Shots, x.Open, y⟩
theorem Flow2.mk_V {s : St} {v0 v1 v2 v3 v4 v5 v6 : Value} {x : Flow2} (h0 : V s v0 x.States) (h1 : V s v1 x.Ways) (h2 : V s v2 x.Begun) (h3 : V s v3 x.Recorded) (h4 : V s v4 x.Shots) (h5 : V s v5 x.Open) (h6 : V s v6 x.Contents) : V s (.agg #[v0, v1, v2, v3, v4, v5, v6]) x :=
  ⟨_, ⟨[v0], [v1], [v2], [v3], [v4], [v5], [v6], rfl, h0.one rfl, h1.one rfl, h2.one rfl, h3.one rfl, h4.one rfl, h5.one rfl, h6.one rfl⟩, rfl⟩
theorem Flow2.zero_rel (s : St) : Rep.rel s [.slice none 0 0, .slice none 0 0, .bool false, .slice none 0 0, .slice none 0 0, .slice none 0 0, .slice none 0 0] ((⟨[], [], false, [], [], [], []⟩) : Flow2) :=
  ⟨[.slice none 0 0], [.slice none 0 0], [.bool false], [.slice none 0 0], [.slice none 0 0], [.slice none 0 0], [.slice none 0 0], rfl, ⟨none, 0, rfl, Nat.le_refl _, fun h => (h rfl).elim⟩, ⟨none, 0, rfl, Nat.le_refl _, fun h => (h rfl).elim⟩, rfl, ⟨none, 0, rfl, Nat.le_refl _, fun h => (h rfl).elim⟩, ⟨none, 0, rfl, Nat.le_refl _, fun h => (h rfl).elim⟩, ⟨none, 0, rfl, Nat.le_refl _, fun h => (h rfl).elim⟩, ⟨none, 0, rfl, Nat.le_refl _, fun h => (h rfl).elim⟩⟩

end Go.Arm
