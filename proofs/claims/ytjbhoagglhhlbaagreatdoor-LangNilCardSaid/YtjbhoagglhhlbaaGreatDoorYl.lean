/- A part of the row of LangNil. -/
import Derived.Test.YtjbhoagglhhlbaaGreatDoorYk
import Derived.Test.YtjbhoagglhhlbaaGreatDoorRows
import Derived.Test.YtjbhoagglhhlbaaGreatDoorCards
import Derived.Test.YtjbhoagglhhlbaaGreatDoorTie
import Derived.Test.YtjbhoagglhhlbaaGreatDoorChecked
import Derived.WalkKit
import Derived.ProofKit
import Derived.OpenShut
import Derived.Deep.Slices
import Derived.Carry
import Derived.LaidLaws
import Derived.LaidHandle
import Derived.Lay
import Derived.MakeChecks
import Derived.SevenTiedAt
namespace Go.Proofs.YtjbhoagglhhlbaaGreatDoor
open Go Go.ChangeShapes Go.WideShapes Go.ChangeAt Go.RowKit
theorem own : ownKnob Tryz.prog.godebug = none := by kernel_rfl
noncomputable def callN : Go.X.Call1 := Go.X.aRunW (Go.X.known 18) Tryz.prog 1000 60
theorem callN_ok (w0 : World) : Go.X.CallsOk w0 Tryz.prog callN := Go.X.runW_callsOk noCount mixed 1000 (fun _ hc => Go.X.known_ok worksYes hc) 60
set_option maxRecDepth 100000 in
theorem evaluated (n0 n1 : Int) (s : ByteArray) : Go.X.allYes (Go.X.aFun Tryz.prog 1000 callN (.enter 3 [.int .i64 n0, .int .i64 n1, .string s]) Go.X.ah0) = true := by kernel_rfl
end Go.Proofs.YtjbhoagglhhlbaaGreatDoor
