/- Plain laws. -/
import Derived.Test.YtmojccilbgjngaaPl8
namespace Go.Arm
open Go

section
variable {N : Nat} {c : List (List Deed)}
theorem run_ext {room : Int} {a b : List Int} (ha : RunOk ⟨c, room, a⟩) (hb : RunOk ⟨c, room, b⟩) (h : fN a = fN b) : a = b := by
 have la : a.length = c.length := ha.len
 have lb : b.length = c.length := hb.len
 apply List.ext_getElem (by omega)
 intro i h1 h2
 have h3 : a[i]? = some (fN a i : Int) := ha.at (show i < c.length by omega)
 have h4 : b[i]? = some (fN b i : Int) := hb.at (show i < c.length by omega)
 rw [List.getElem?_eq_getElem h1] at h3
 rw [List.getElem?_eq_getElem h2] at h4
 rw [h] at h3
 rw [Option.some.inj h3, Option.some.inj h4]
end

end Go.Arm
