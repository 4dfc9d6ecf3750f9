/- Copies of maps. -/
import Derived.Test.YtdaedcoolcicoaaGreatZh
import Derived.WalkKit
import Derived.ProofKit
import Derived.Shelf.SlMaps.Clone
import Derived.Test.YtdaedcoolcicoaaGreatZi
namespace Go.Proofs.YtdaedcoolcicoaaGreat
noncomputable section
open Go Go.RowKit Go.Proofs Go.Shelf Go.X
def ren86 : Ren := ⟨fun | 5 => 86 | 7 => 128 | n => n, fun | 4 => 4 | 20 => 20 | 23 => 92 | 25 => 163 | 3 => 166 | n => n, fun n => n⟩
theorem lays86 : SlLaysW.n5 Tryz.prog ren86 where
  mixed := by kernel_rfl
  f5 := ⟨Tryz.f86.name, by decide +kernel, Tryz.func86.trans (congrArg some (by kernel_rfl))⟩
  f7 := Tryz.func128.trans (congrArg some (by kernel_rfl))
  t4 := Tryz.underlying4
  a4 := Tryz.isAgg4
  z4 := Tryz.sizeOf4
  v4 := Tryz.zeroValue4
  t20 := Tryz.underlying20
  a20 := Tryz.isAgg20
  z20 := Tryz.sizeOf20
  v20 := Tryz.zeroValue20
  t23 := Tryz.underlying92
  a23 := Tryz.isAgg92
  z23 := Tryz.sizeOf92
  v23 := Tryz.zeroValue92
def ren87 : Ren := ⟨fun | 5 => 87 | 7 => 128 | n => n, fun | 4 => 4 | 20 => 20 | 23 => 167 | 25 => 3 | 3 => 2 | n => n, fun n => n⟩
theorem lays87 : SlLaysW.n5 Tryz.prog ren87 where
  mixed := by kernel_rfl
  f5 := ⟨Tryz.f87.name, by decide +kernel, Tryz.func87.trans (congrArg some (by kernel_rfl))⟩
  f7 := Tryz.func128.trans (congrArg some (by kernel_rfl))
  t4 := Tryz.underlying4
  a4 := Tryz.isAgg4
  z4 := Tryz.sizeOf4
  v4 := Tryz.zeroValue4
  t20 := Tryz.underlying20
  a20 := Tryz.isAgg20
  z20 := Tryz.sizeOf20
  v20 := Tryz.zeroValue20
  t23 := Tryz.underlying167
  a23 := Tryz.isAgg167
  z23 := Tryz.sizeOf167
  v23 := Tryz.zeroValue167
def ren88 : Ren := ⟨fun | 5 => 88 | 7 => 128 | n => n, fun | 4 => 4 | 20 => 20 | 23 => 169 | 25 => 163 | 3 => 175 | n => n, fun n => n⟩
theorem lays88 : SlLaysW.n5 Tryz.prog ren88 where
  mixed := by kernel_rfl
  f5 := ⟨Tryz.f88.name, by decide +kernel, Tryz.func88.trans (congrArg some (by kernel_rfl))⟩
  f7 := Tryz.func128.trans (congrArg some (by kernel_rfl))
  t4 := Tryz.underlying4
  a4 := Tryz.isAgg4
  z4 := Tryz.sizeOf4
  v4 := Tryz.zeroValue4
  t20 := Tryz.underlying20
  a20 := Tryz.isAgg20
  z20 := Tryz.sizeOf20
  v20 := Tryz.zeroValue20
  t23 := Tryz.underlying169
  a23 := Tryz.isAgg169
  z23 := Tryz.sizeOf169
  v23 := Tryz.zeroValue169
def ren89 : Ren := ⟨fun | 5 => 89 | 7 => 128 | n => n, fun | 4 => 4 | 20 => 20 | 23 => 170 | 25 => 163 | 3 => 4 | n => n, fun n => n⟩
theorem lays89 : SlLaysW.n5 Tryz.prog ren89 where
  mixed := by kernel_rfl
  f5 := ⟨Tryz.f89.name, by decide +kernel, Tryz.func89.trans (congrArg some (by kernel_rfl))⟩
  f7 := Tryz.func128.trans (congrArg some (by kernel_rfl))
  t4 := Tryz.underlying4
  a4 := Tryz.isAgg4
  z4 := Tryz.sizeOf4
  v4 := Tryz.zeroValue4
  t20 := Tryz.underlying20
  a20 := Tryz.isAgg20
  z20 := Tryz.sizeOf20
  v20 := Tryz.zeroValue20
  t23 := Tryz.underlying170
  a23 := Tryz.isAgg170
  z23 := Tryz.sizeOf170
  v23 := Tryz.zeroValue170
/-- What is known of copies of maps. -/
noncomputable def cloneG (k : FuncId) (args : List Value) (h : AH) : Option (List (Value × AH)) := match k with
  | 86 | 87 | 88 | 89 => (match args with
    | [.map (some b)] => (match h.m.get b with
      | some (.map es cl _) => some [((.map (some h.next) : Value), (⟨h.m.set h.next (some (.map es cl false)), h.next + 1⟩ : AH))]
      | _ => none)
    | _ => none)
  | _ => none
theorem cloneG_ok (k : FuncId) (args : List Value) (h : AH) (l : List (Value × AH)) (hs : cloneG k args h = some l) (w0 : World) (φ : Phi) (w : World) (args' : List Value) (hr : R w0 φ h w) (ha : LR φ args args') :
    Calls Tryz.prog k ⟨args'⟩ w (fun e w' => ∃ v', e = .returned v' ∧ ∃ v h', (v, h') ∈ l ∧ ∃ φ', Nx φ φ' h h' ∧ R w0 φ' h' w' ∧ VR φ' v v') := by
  unfold cloneG at hs
  split at hs
  · split at hs
    · split at hs
      · rename_i hb
        cases hs
        exact clone_ok (k := 86) (fun b es clock w hw => AnyW.maps_Clone lays86 b es clock w hw) hb hr ha
      · cases hs
    · cases hs
  · split at hs
    · split at hs
      · rename_i hb
        cases hs
        exact clone_ok (k := 87) (fun b es clock w hw => AnyW.maps_Clone lays87 b es clock w hw) hb hr ha
      · cases hs
    · cases hs
  · split at hs
    · split at hs
      · rename_i hb
        cases hs
        exact clone_ok (k := 88) (fun b es clock w hw => AnyW.maps_Clone lays88 b es clock w hw) hb hr ha
      · cases hs
    · cases hs
  · split at hs
    · split at hs
      · rename_i hb
        cases hs
        exact clone_ok (k := 89) (fun b es clock w hw => AnyW.maps_Clone lays89 b es clock w hw) hb hr ha
      · cases hs
    · cases hs
  · cases hs
instance kn : Kn Tryz.prog := ⟨some 11, fun g e W => by cases e; exact worksYes W, cloneG, cloneG_ok⟩
end
end Go.Proofs.YtdaedcoolcicoaaGreat
