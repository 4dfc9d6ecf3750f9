/- A part of the proof. -/
import Derived.Test.YtdaedcoolcicoaaZm
namespace Go.Proofs.Ytdaedcoolcicoaa
noncomputable section
open Go Go.X Go.Arm
theorem u76 : Try.prog.underlying 76 = some (.slice 77) := by kernel_rfl
theorem s77 : szOf Try.prog 77 = some 1 := by kernel_rfl
theorem d77 : Try.prog.underlying 77 = some (.int .u16) := by kernel_rfl
theorem d2 : Try.prog.underlying 2 = some (.int .i64) := by kernel_rfl
def uv (x : Int) : Value := .int .u16 x
theorem rem_eq {xo yo : Operand} {h : AH} (a b : Int) : aBin Try.prog .rem 3 xo yo (.int .i64 a) (.int .i64 b) h = aPure Try.prog (Op.intDiv .rem .i64 a b) := by kernel_rfl
theorem ev_rem {n : Nat} {f : Fr} {h : AH} {x y : Operand} {a b : Nat} (hx : ev n f x = some (.int .i64 (a : Nat))) (hy : ev n f y = some (.int .i64 (b : Nat))) (hb : 0 < b) : evVal Try.prog n f h (.binOp .rem 3 x y 3) = some (.int .i64 ((a % b : Nat) : Int)) := by
  simp only [evVal, hx, hy]
  rw [rem_eq]
  unfold Op.intDiv
  rw [if_neg (by omega)]
  show aPure Try.prog (Sem.pure (.int .i64 (Int.tmod (a : Int) (b : Int)))) = _
  rw [Int.tmod_eq_emod_of_nonneg (by omega), ← Int.natCast_emod]
  rfl
theorem sElem {h : AH} {v : Value} {l : List Int} {i : Nat} (H : Sd h 1 v l.length (l.map iv)) (hi : i < l.length) : ∃ pa, aIndex Try.prog 64 v (.int .i64 i) = some (.pointer (some pa)) ∧ aLoad Try.prog 2 pa h = some (iv ((l[i]?).getD 0)) := by
  obtain ⟨b, o, x, _, e2, e3, e4⟩ := H.load1 u64 s2 d2 rfl hi .i64
  have ex : x = iv ((l[i]?).getD 0) := by
    rw [List.getElem?_map, List.getElem?_eq_getElem hi] at e2
    rw [List.getElem?_eq_getElem hi]
    exact (Option.some.inj e2).symm
  subst ex
  exact ⟨_, e3, e4⟩
theorem mElem {h : AH} {v : Value} {l : List Int} {i : Nat} (H : Sd h 1 v l.length (l.map uv)) (hi : i < l.length) : ∃ pa x, x ∈ l ∧ aIndex Try.prog 76 v (.int .i64 i) = some (.pointer (some pa)) ∧ aLoad Try.prog 77 pa h = some (.int .u16 x) := by
  obtain ⟨b, o, x, _, e2, e3, e4⟩ := H.load1 u76 s77 d77 rfl hi .i64
  rw [List.getElem?_map, List.getElem?_eq_getElem hi] at e2
  have ex : x = uv l[i] := (Option.some.inj e2).symm
  subst ex
  exact ⟨_, _, List.getElem_mem hi, e3, e4⟩
theorem u16nat {x : Int} (hx : 0 ≤ x ∧ x < 65536) : IntKind.i64.wrap x = ((x.toNat : Nat) : Int) := by rw [IntKind.wrap_i64]; omega
theorem quo5 {x : Int} (hx : 0 ≤ x ∧ x < 65536) : IntKind.i64.wrap (Int.tdiv (IntKind.i64.wrap x) 5) = ((x.toNat / 5 : Nat) : Int) := by
  rw [u16nat hx, Int.tdiv_eq_ediv_of_nonneg (by omega), IntKind.wrap_i64, Int.natCast_ediv]
  have := Int.ediv_nonneg (a := ((x.toNat : Nat) : Int)) (b := 5) (by omega) (by omega)
  have h2 : ((x.toNat : Nat) : Int) / 5 ≤ ((x.toNat : Nat) : Int) := Int.ediv_le_self _ (by omega)
  omega
theorem FR.off2 {h : AH} {f : Nat} {fp : List Nat} {m : Fl} (H : FR h f fp m) (hs : m.sh = none) :
    Arm.Calls Try.prog 28 [ptr f] h (fun r => r.1 = .tuple ⟨[.agg ⟨[Value.slice none 0 0, Value.slice none 0 0]⟩, .bool false, .int .i64 6]⟩ ∧ Sm Nix h r.2) := by
  cases H with
  | off _ H => exact taken_off H
  | on hs' H _ _ => rw [hs] at hs'; cases hs'
theorem take_sum {l : List Int} {k : Nat} (hk : k < l.length) : (l.take (k + 1)).sum = (l.take k).sum + (l[k]?).getD 0 := by
  rw [List.take_succ_eq_append_getElem hk, List.sum_append, List.getElem?_eq_getElem hk]; simp
theorem wr_val (a x : Int) : Value.int .i64 (IntKind.i64.wrap (Fl.wr a + x)) = .int .i64 (Fl.wr (a + x)) := by
  show Value.int .i64 (Fl.wr (Fl.wr a + x)) = _
  rw [Fl.wr_add]
end
end Go.Proofs.Ytdaedcoolcicoaa
