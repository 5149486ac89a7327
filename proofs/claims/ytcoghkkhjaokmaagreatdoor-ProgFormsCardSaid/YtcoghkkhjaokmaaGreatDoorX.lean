/-
  The functions of this seat's program that have no text and that the small machine knows.
-/
import Derived.Test.YtcoghkkhjaokmaaGreatDoorRows
import Derived.Test.YtcoghkkhjaokmaaGreatDoorVmExt
set_option maxRecDepth 100000
namespace Go.Proofs.YtcoghkkhjaokmaaGreatDoor
open Go.Vm
def exts : List (Nat × Ek) := []
theorem extsOk : ∀ x, x ∈ exts → IsExt Tryz.prog x := by
  intro x hx
  unfold exts at hx
  cases hx
end Go.Proofs.YtcoghkkhjaokmaaGreatDoor
