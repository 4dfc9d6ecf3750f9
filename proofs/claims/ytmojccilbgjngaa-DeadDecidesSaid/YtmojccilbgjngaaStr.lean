/- The structs of the program as data. -/
import Derived.Test.YtmojccilbgjngaaCoreL
namespace Go.Arm
open Go Go.RowKit
structure Deed where
 Kind : Int
 Peer : Int
 Tag : Int
 Req : Int
 Sync : Bool
 deriving DecidableEq

instance : Rep Deed where
 size := 5
 agg := true
 rel s cs x := ∃ c0 c1 c2 c3 c4, cs = c0 ++ (c1 ++ (c2 ++ (c3 ++ (c4)))) ∧ Rep.rel s c0 x.Kind ∧ Rep.rel s c1 x.Peer ∧ Rep.rel s c2 x.Tag ∧ Rep.rel s c3 x.Req ∧ Rep.rel s c4 x.Sync
 len := by
  rintro s cs x ⟨c0, c1, c2, c3, c4, rfl, h0, h1, h2, h3, h4⟩
  simp only [List.length_append, Rep.len h0, Rep.len h1, Rep.len h2, Rep.len h3, Rep.len h4]; rfl
 mono := by
  rintro s t cs x l ⟨c0, c1, c2, c3, c4, e, h0, h1, h2, h3, h4⟩
  exact ⟨c0, c1, c2, c3, c4, e, Rep.mono l h0, Rep.mono l h1, Rep.mono l h2, Rep.mono l h3, Rep.mono l h4⟩
 one := by
  rintro s cs x ⟨c0, c1, c2, c3, c4, rfl, h0, h1, h2, h3, h4⟩ v hv
  simp only [List.mem_append] at hv
  rcases hv with hv | hv | hv | hv | hv
  ·exact Rep.one h0 v hv
  ·exact Rep.one h1 v hv
  ·exact Rep.one h2 v hv
  ·exact Rep.one h3 v hv
  ·exact Rep.one h4 v hv
 single h := by cases h

theorem Deed.of_Kind : FieldOf (fun x : Deed => x.Kind) 0 := by
 rintro s cs x ⟨c0, c1, c2, c3, c4, rfl, h0, h1, h2, h3, h4⟩
 refine ⟨c0, h0, fun j hj => ?_⟩
 rw [Nat.zero_add]
 exact get_here hj
def Deed.with_Kind (x : Deed) (y : Int) : Deed := ⟨y, x.Peer, x.Tag, x.Req, x.Sync⟩
theorem Deed.of_Peer : FieldOf (fun x : Deed => x.Peer) 1 := by
 rintro s cs x ⟨c0, c1, c2, c3, c4, rfl, h0, h1, h2, h3, h4⟩
 refine ⟨c1, h1, fun j hj => ?_⟩
 rw [show 1 + j = 1 + j by omega, get_skip (show c0.length = 1 from Rep.len h0)]
 exact get_here hj
def Deed.with_Peer (x : Deed) (y : Int) : Deed := ⟨x.Kind, y, x.Tag, x.Req, x.Sync⟩
theorem Deed.set_Peer : FieldSet Deed.with_Peer 1 := by
 rintro s cs ks x y ⟨c0, c1, c2, c3, c4, rfl, h0, h1, h2, h3, h4⟩ hk
 have l0 : c0.length = 1 := Rep.len h0
 have l1 : c1.length = 1 := Rep.len h1
 have l2 : c2.length = 1 := Rep.len h2
 have l3 : c3.length = 1 := Rep.len h3
 have l4 : c4.length = 1 := Rep.len h4
 have lk : ks.length = 1 := Rep.len hk
 refine ⟨⟨c0, ks, c2, c3, c4, ?_, h0, hk, h2, h3, h4⟩, ?_⟩
 ·refine splice_fields (a := [c0]) (b := c1) (c := [c2, c3, c4]) ?_ (by omega) ?_ ?_
  ·simp <;> omega
  ·simp
  ·simp
 ·simp <;> omega
theorem Deed.of_Tag : FieldOf (fun x : Deed => x.Tag) 2 := by
 rintro s cs x ⟨c0, c1, c2, c3, c4, rfl, h0, h1, h2, h3, h4⟩
 refine ⟨c2, h2, fun j hj => ?_⟩
 rw [show 2 + j = 1 + (1 + j) by omega, get_skip (show c0.length = 1 from Rep.len h0), get_skip (show c1.length = 1 from Rep.len h1)]
 exact get_here hj
def Deed.with_Tag (x : Deed) (y : Int) : Deed := ⟨x.Kind, x.Peer, y, x.Req, x.Sync⟩
theorem Deed.set_Tag : FieldSet Deed.with_Tag 2 := by
 rintro s cs ks x y ⟨c0, c1, c2, c3, c4, rfl, h0, h1, h2, h3, h4⟩ hk
 have l0 : c0.length = 1 := Rep.len h0
 have l1 : c1.length = 1 := Rep.len h1
 have l2 : c2.length = 1 := Rep.len h2
 have l3 : c3.length = 1 := Rep.len h3
 have l4 : c4.length = 1 := Rep.len h4
 have lk : ks.length = 1 := Rep.len hk
 refine ⟨⟨c0, c1, ks, c3, c4, ?_, h0, h1, hk, h3, h4⟩, ?_⟩
 ·refine splice_fields (a := [c0, c1]) (b := c2) (c := [c3, c4]) ?_ (by omega) ?_ ?_
  ·simp <;> omega
  ·simp
  ·simp
 ·simp <;> omega
theorem Deed.of_Req : FieldOf (fun x : Deed => x.Req) 3 := by
 rintro s cs x ⟨c0, c1, c2, c3, c4, rfl, h0, h1, h2, h3, h4⟩
 refine ⟨c3, h3, fun j hj => ?_⟩
 rw [show 3 + j = 1 + (1 + (1 + j)) by omega, get_skip (show c0.length = 1 from Rep.len h0), get_skip (show c1.length = 1 from Rep.len h1), get_skip (show c2.length = 1 from Rep.len h2)]
 exact get_here hj
def Deed.with_Req (x : Deed) (y : Int) : Deed := ⟨x.Kind, x.Peer, x.Tag, y, x.Sync⟩
theorem Deed.set_Req : FieldSet Deed.with_Req 3 := by
 rintro s cs ks x y ⟨c0, c1, c2, c3, c4, rfl, h0, h1, h2, h3, h4⟩ hk
 have l0 : c0.length = 1 := Rep.len h0
 have l1 : c1.length = 1 := Rep.len h1
 have l2 : c2.length = 1 := Rep.len h2
 have l3 : c3.length = 1 := Rep.len h3
 have l4 : c4.length = 1 := Rep.len h4
 have lk : ks.length = 1 := Rep.len hk
 refine ⟨⟨c0, c1, c2, ks, c4, ?_, h0, h1, h2, hk, h4⟩, ?_⟩
 ·refine splice_fields (a := [c0, c1, c2]) (b := c3) (c := [c4]) ?_ (by omega) ?_ ?_
  ·simp <;> omega
  ·simp
  ·simp
 ·simp <;> omega
theorem Deed.of_Sync : FieldOf (fun x : Deed => x.Sync) 4 := by
 rintro s cs x ⟨c0, c1, c2, c3, c4, rfl, h0, h1, h2, h3, h4⟩
 refine ⟨c4, h4, fun j hj => ?_⟩
 rw [show 4 + j = 1 + (1 + (1 + (1 + j))) by omega, get_skip (show c0.length = 1 from Rep.len h0), get_skip (show c1.length = 1 from Rep.len h1), get_skip (show c2.length = 1 from Rep.len h2), get_skip (show c3.length = 1 from Rep.len h3)]
 exact List.getElem?_eq_getElem hj
def Deed.with_Sync (x : Deed) (y : Bool) : Deed := ⟨x.Kind, x.Peer, x.Tag, x.Req, y⟩
theorem Deed.set_Sync : FieldSet Deed.with_Sync 4 := by
 rintro s cs ks x y ⟨c0, c1, c2, c3, c4, rfl, h0, h1, h2, h3, h4⟩ hk
 have l0 : c0.length = 1 := Rep.len h0
 have l1 : c1.length = 1 := Rep.len h1
 have l2 : c2.length = 1 := Rep.len h2
 have l3 : c3.length = 1 := Rep.len h3
 have l4 : c4.length = 1 := Rep.len h4
 have lk : ks.length = 1 := Rep.len hk
 refine ⟨⟨c0, c1, c2, c3, ks, ?_, h0, h1, h2, h3, hk⟩, ?_⟩
 ·refine splice_fields (a := [c0, c1, c2, c3]) (b := c4) (c := []) ?_ (by omega) ?_ ?_
  ·simp <;> omega
  ·simp
  ·simp
 ·simp <;> omega
theorem Deed.mk_V {s : St} {v0 v1 v2 v3 v4 : Value} {x : Deed} (h0 : V s v0 x.Kind) (h1 : V s v1 x.Peer) (h2 : V s v2 x.Tag) (h3 : V s v3 x.Req) (h4 : V s v4 x.Sync) : V s (.agg #[v0, v1, v2, v3, v4]) x :=
 ⟨_, ⟨[v0], [v1], [v2], [v3], [v4], rfl, h0.one rfl, h1.one rfl, h2.one rfl, h3.one rfl, h4.one rfl⟩, rfl⟩
theorem Deed.val {s : St} {v : Value} {x : Deed} (h : V s v x) : v = .agg #[.int .i64 x.Kind, .int .i64 x.Peer, .int .i64 x.Tag, .int .i64 x.Req, .bool x.Sync] := by
 obtain ⟨cs, ⟨c0, c1, c2, c3, c4, rfl, h0, h1, h2, h3, h4⟩, rfl⟩ := h
 rw [h0, h1, h2, h3, h4]; rfl
theorem Deed.zero_rel (s : St) : Rep.rel s [.int .i64 0, .int .i64 0, .int .i64 0, .int .i64 0, .bool false] ((⟨0, 0, 0, 0, false⟩) : Deed) :=
 ⟨[.int .i64 0], [.int .i64 0], [.int .i64 0], [.int .i64 0], [.bool false], rfl, rfl, rfl, rfl, rfl, rfl⟩

structure Verdict where
 Kind : Int
 Room : Int
 deriving DecidableEq

instance : Rep Verdict where
 size := 2
 agg := true
 rel s cs x := ∃ c0 c1, cs = c0 ++ (c1) ∧ Rep.rel s c0 x.Kind ∧ Rep.rel s c1 x.Room
 len := by
  rintro s cs x ⟨c0, c1, rfl, h0, h1⟩
  simp only [List.length_append, Rep.len h0, Rep.len h1]; rfl
 mono := by
  rintro s t cs x l ⟨c0, c1, e, h0, h1⟩
  exact ⟨c0, c1, e, Rep.mono l h0, Rep.mono l h1⟩
 one := by
  rintro s cs x ⟨c0, c1, rfl, h0, h1⟩ v hv
  simp only [List.mem_append] at hv
  rcases hv with hv | hv
  ·exact Rep.one h0 v hv
  ·exact Rep.one h1 v hv
 single h := by cases h

theorem Verdict.of_Kind : FieldOf (fun x : Verdict => x.Kind) 0 := by
 rintro s cs x ⟨c0, c1, rfl, h0, h1⟩
 refine ⟨c0, h0, fun j hj => ?_⟩
 rw [Nat.zero_add]
 exact get_here hj
def Verdict.with_Kind (x : Verdict) (y : Int) : Verdict := ⟨y, x.Room⟩
theorem Verdict.of_Room : FieldOf (fun x : Verdict => x.Room) 1 := by
 rintro s cs x ⟨c0, c1, rfl, h0, h1⟩
 refine ⟨c1, h1, fun j hj => ?_⟩
 rw [show 1 + j = 1 + j by omega, get_skip (show c0.length = 1 from Rep.len h0)]
 exact List.getElem?_eq_getElem hj
def Verdict.with_Room (x : Verdict) (y : Int) : Verdict := ⟨x.Kind, y⟩
theorem Verdict.mk_V {s : St} {v0 v1 : Value} {x : Verdict} (h0 : V s v0 x.Kind) (h1 : V s v1 x.Room) : V s (.agg #[v0, v1]) x :=
 ⟨_, ⟨[v0], [v1], rfl, h0.one rfl, h1.one rfl⟩, rfl⟩
theorem Verdict.val {s : St} {v : Value} {x : Verdict} (h : V s v x) : v = .agg #[.int .i64 x.Kind, .int .i64 x.Room] := by
 obtain ⟨cs, ⟨c0, c1, rfl, h0, h1⟩, rfl⟩ := h
 rw [h0, h1]; rfl
theorem Verdict.zero_rel (s : St) : Rep.rel s [.int .i64 0, .int .i64 0] ((⟨0, 0⟩) : Verdict) :=
 ⟨[.int .i64 0], [.int .i64 0], rfl, rfl, rfl⟩

structure Block where
 Proc : Int
 At : Int
 For : List Int
 deriving DecidableEq

instance : Rep Block where
 size := 3
 agg := true
 rel s cs x := ∃ c0 c1 c2, cs = c0 ++ (c1 ++ (c2)) ∧ Rep.rel s c0 x.Proc ∧ Rep.rel s c1 x.At ∧ Rep.rel s c2 x.For
 len := by
  rintro s cs x ⟨c0, c1, c2, rfl, h0, h1, h2⟩
  simp only [List.length_append, Rep.len h0, Rep.len h1, Rep.len h2]; rfl
 mono := by
  rintro s t cs x l ⟨c0, c1, c2, e, h0, h1, h2⟩
  exact ⟨c0, c1, c2, e, Rep.mono l h0, Rep.mono l h1, Rep.mono l h2⟩
 one := by
  rintro s cs x ⟨c0, c1, c2, rfl, h0, h1, h2⟩ v hv
  simp only [List.mem_append] at hv
  rcases hv with hv | hv | hv
  ·exact Rep.one h0 v hv
  ·exact Rep.one h1 v hv
  ·exact Rep.one h2 v hv
 single h := by cases h

theorem Block.of_Process : FieldOf (fun x : Block => x.Proc) 0 := by
 rintro s cs x ⟨c0, c1, c2, rfl, h0, h1, h2⟩
 refine ⟨c0, h0, fun j hj => ?_⟩
 rw [Nat.zero_add]
 exact get_here hj
def Block.with_Process (x : Block) (y : Int) : Block := ⟨y, x.At, x.For⟩
theorem Block.of_At : FieldOf (fun x : Block => x.At) 1 := by
 rintro s cs x ⟨c0, c1, c2, rfl, h0, h1, h2⟩
 refine ⟨c1, h1, fun j hj => ?_⟩
 rw [show 1 + j = 1 + j by omega, get_skip (show c0.length = 1 from Rep.len h0)]
 exact get_here hj
def Block.with_At (x : Block) (y : Int) : Block := ⟨x.Proc, y, x.For⟩
theorem Block.of_For : FieldOf (fun x : Block => x.For) 2 := by
 rintro s cs x ⟨c0, c1, c2, rfl, h0, h1, h2⟩
 refine ⟨c2, h2, fun j hj => ?_⟩
 rw [show 2 + j = 1 + (1 + j) by omega, get_skip (show c0.length = 1 from Rep.len h0), get_skip (show c1.length = 1 from Rep.len h1)]
 exact List.getElem?_eq_getElem hj
def Block.with_For (x : Block) (y : List Int) : Block := ⟨x.Proc, x.At, y⟩
theorem Block.set_For : FieldSet Block.with_For 2 := by
 rintro s cs ks x y ⟨c0, c1, c2, rfl, h0, h1, h2⟩ hk
 have l0 : c0.length = 1 := Rep.len h0
 have l1 : c1.length = 1 := Rep.len h1
 have l2 : c2.length = 1 := Rep.len h2
 have lk : ks.length = 1 := Rep.len hk
 refine ⟨⟨c0, c1, ks, ?_, h0, h1, hk⟩, ?_⟩
 ·refine splice_fields (a := [c0, c1]) (b := c2) (c := []) ?_ (by omega) ?_ ?_
  ·simp <;> omega
  ·simp
  ·simp
 ·simp <;> omega
theorem Block.mk_V {s : St} {v0 v1 v2 : Value} {x : Block} (h0 : V s v0 x.Proc) (h1 : V s v1 x.At) (h2 : V s v2 x.For) : V s (.agg #[v0, v1, v2]) x :=
 ⟨_, ⟨[v0], [v1], [v2], rfl, h0.one rfl, h1.one rfl, h2.one rfl⟩, rfl⟩
theorem Block.zero_rel (s : St) : Rep.rel s [.int .i64 0, .int .i64 0, .slice none 0 0] ((⟨0, 0, []⟩) : Block) :=
 ⟨[.int .i64 0], [.int .i64 0], [.slice none 0 0], rfl, rfl, rfl, ⟨none, 0, rfl, Nat.le_refl _, fun h => (h rfl).elim⟩⟩

structure Run where
 c : List (List Deed)
 room : Int
 at_ : List Int
 deriving DecidableEq

instance : Rep Run where
 size := 3
 agg := true
 rel s cs x := ∃ c0 c1 c2, cs = c0 ++ (c1 ++ (c2)) ∧ Rep.rel s c0 x.c ∧ Rep.rel s c1 x.room ∧ Rep.rel s c2 x.at_
 len := by
  rintro s cs x ⟨c0, c1, c2, rfl, h0, h1, h2⟩
  simp only [List.length_append, Rep.len h0, Rep.len h1, Rep.len h2]; rfl
 mono := by
  rintro s t cs x l ⟨c0, c1, c2, e, h0, h1, h2⟩
  exact ⟨c0, c1, c2, e, Rep.mono l h0, Rep.mono l h1, Rep.mono l h2⟩
 one := by
  rintro s cs x ⟨c0, c1, c2, rfl, h0, h1, h2⟩ v hv
  simp only [List.mem_append] at hv
  rcases hv with hv | hv | hv
  ·exact Rep.one h0 v hv
  ·exact Rep.one h1 v hv
  ·exact Rep.one h2 v hv
 single h := by cases h

theorem Run.of_c : FieldOf (fun x : Run => x.c) 0 := by
 rintro s cs x ⟨c0, c1, c2, rfl, h0, h1, h2⟩
 refine ⟨c0, h0, fun j hj => ?_⟩
 rw [Nat.zero_add]
 exact get_here hj
def Run.with_c (x : Run) (y : List (List Deed)) : Run := ⟨y, x.room, x.at_⟩
theorem Run.of_room : FieldOf (fun x : Run => x.room) 1 := by
 rintro s cs x ⟨c0, c1, c2, rfl, h0, h1, h2⟩
 refine ⟨c1, h1, fun j hj => ?_⟩
 rw [show 1 + j = 1 + j by omega, get_skip (show c0.length = 1 from Rep.len h0)]
 exact get_here hj
def Run.with_room (x : Run) (y : Int) : Run := ⟨x.c, y, x.at_⟩
theorem Run.of_at_ : FieldOf (fun x : Run => x.at_) 2 := by
 rintro s cs x ⟨c0, c1, c2, rfl, h0, h1, h2⟩
 refine ⟨c2, h2, fun j hj => ?_⟩
 rw [show 2 + j = 1 + (1 + j) by omega, get_skip (show c0.length = 1 from Rep.len h0), get_skip (show c1.length = 1 from Rep.len h1)]
 exact List.getElem?_eq_getElem hj
def Run.with_at_ (x : Run) (y : List Int) : Run := ⟨x.c, x.room, y⟩
theorem Run.mk_V {s : St} {v0 v1 v2 : Value} {x : Run} (h0 : V s v0 x.c) (h1 : V s v1 x.room) (h2 : V s v2 x.at_) : V s (.agg #[v0, v1, v2]) x :=
 ⟨_, ⟨[v0], [v1], [v2], rfl, h0.one rfl, h1.one rfl, h2.one rfl⟩, rfl⟩
theorem Run.shell {s : St} {b bat len : Nat} {v0 v1 : Value} {x : Run} (h : AtRO s b 0 [v0, v1, .slice (some ⟨bat, 0, none⟩) len len]) (h0 : V s v0 x.c) (h1 : V s v1 x.room) : Shell Run.with_at_ 2 s (.pointer (some ⟨b, 0, none⟩)) bat len x :=
 ⟨b, _, rfl, h, rfl, fun s t l hv => ⟨[v0], [v1], [.slice (some ⟨bat, 0, none⟩) len len], rfl, (h0.mono l).one rfl, (h1.mono l).one rfl, hv.one rfl⟩⟩
theorem Run.zero_rel (s : St) : Rep.rel s [.slice none 0 0, .int .i64 0, .slice none 0 0] ((⟨[], 0, []⟩) : Run) :=
 ⟨[.slice none 0 0], [.int .i64 0], [.slice none 0 0], rfl, ⟨none, 0, rfl, Nat.le_refl _, fun h => (h rfl).elim⟩, rfl, ⟨none, 0, rfl, Nat.le_refl _, fun h => (h rfl).elim⟩⟩

structure Case where
 C : List (List Deed)
 Room : Int
 At : List Int
 deriving DecidableEq

instance : Rep Case where
 size := 3
 agg := true
 rel s cs x := ∃ c0 c1 c2, cs = c0 ++ (c1 ++ (c2)) ∧ Rep.rel s c0 x.C ∧ Rep.rel s c1 x.Room ∧ Rep.rel s c2 x.At
 len := by
  rintro s cs x ⟨c0, c1, c2, rfl, h0, h1, h2⟩
  simp only [List.length_append, Rep.len h0, Rep.len h1, Rep.len h2]; rfl
 mono := by
  rintro s t cs x l ⟨c0, c1, c2, e, h0, h1, h2⟩
  exact ⟨c0, c1, c2, e, Rep.mono l h0, Rep.mono l h1, Rep.mono l h2⟩
 one := by
  rintro s cs x ⟨c0, c1, c2, rfl, h0, h1, h2⟩ v hv
  simp only [List.mem_append] at hv
  rcases hv with hv | hv | hv
  ·exact Rep.one h0 v hv
  ·exact Rep.one h1 v hv
  ·exact Rep.one h2 v hv
 single h := by cases h

theorem Case.of_C : FieldOf (fun x : Case => x.C) 0 := by
 rintro s cs x ⟨c0, c1, c2, rfl, h0, h1, h2⟩
 refine ⟨c0, h0, fun j hj => ?_⟩
 rw [Nat.zero_add]
 exact get_here hj
def Case.with_C (x : Case) (y : List (List Deed)) : Case := ⟨y, x.Room, x.At⟩
theorem Case.of_Room : FieldOf (fun x : Case => x.Room) 1 := by
 rintro s cs x ⟨c0, c1, c2, rfl, h0, h1, h2⟩
 refine ⟨c1, h1, fun j hj => ?_⟩
 rw [show 1 + j = 1 + j by omega, get_skip (show c0.length = 1 from Rep.len h0)]
 exact get_here hj
def Case.with_Room (x : Case) (y : Int) : Case := ⟨x.C, y, x.At⟩
theorem Case.of_At : FieldOf (fun x : Case => x.At) 2 := by
 rintro s cs x ⟨c0, c1, c2, rfl, h0, h1, h2⟩
 refine ⟨c2, h2, fun j hj => ?_⟩
 rw [show 2 + j = 1 + (1 + j) by omega, get_skip (show c0.length = 1 from Rep.len h0), get_skip (show c1.length = 1 from Rep.len h1)]
 exact List.getElem?_eq_getElem hj
def Case.with_At (x : Case) (y : List Int) : Case := ⟨x.C, x.Room, y⟩
theorem Case.mk_V {s : St} {v0 v1 v2 : Value} {x : Case} (h0 : V s v0 x.C) (h1 : V s v1 x.Room) (h2 : V s v2 x.At) : V s (.agg #[v0, v1, v2]) x :=
 ⟨_, ⟨[v0], [v1], [v2], rfl, h0.one rfl, h1.one rfl, h2.one rfl⟩, rfl⟩
theorem Case.shell {s : St} {b bat len : Nat} {v0 v1 : Value} {x : Case} (h : AtRO s b 0 [v0, v1, .slice (some ⟨bat, 0, none⟩) len len]) (h0 : V s v0 x.C) (h1 : V s v1 x.Room) : Shell Case.with_At 2 s (.pointer (some ⟨b, 0, none⟩)) bat len x :=
 ⟨b, _, rfl, h, rfl, fun s t l hv => ⟨[v0], [v1], [.slice (some ⟨bat, 0, none⟩) len len], rfl, (h0.mono l).one rfl, (h1.mono l).one rfl, hv.one rfl⟩⟩
theorem Case.zero_rel (s : St) : Rep.rel s [.slice none 0 0, .int .i64 0, .slice none 0 0] ((⟨[], 0, []⟩) : Case) :=
 ⟨[.slice none 0 0], [.int .i64 0], [.slice none 0 0], rfl, ⟨none, 0, rfl, Nat.le_refl _, fun h => (h rfl).elim⟩, rfl, ⟨none, 0, rfl, Nat.le_refl _, fun h => (h rfl).elim⟩⟩

end Go.Arm
