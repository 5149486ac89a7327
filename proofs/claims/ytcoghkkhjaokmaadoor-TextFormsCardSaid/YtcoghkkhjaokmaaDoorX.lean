/-
  The functions of this seat's program that have no text and that the small machine knows.
-/
import Derived.Test.YtcoghkkhjaokmaaDoorRows
import Derived.Test.YtcoghkkhjaokmaaDoorVmExt
set_option maxRecDepth 100000
namespace Go.Proofs.YtcoghkkhjaokmaaDoor
open Go.Vm
def exts : List (Nat × Ek) := []
theorem extsOk : ∀ x, x ∈ exts → IsExt Tryd.prog x := by
  intro x hx
  unfold exts at hx
  cases hx
end Go.Proofs.YtcoghkkhjaokmaaDoor
