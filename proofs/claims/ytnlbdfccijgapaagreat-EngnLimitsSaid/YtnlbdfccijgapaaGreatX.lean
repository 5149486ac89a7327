/-
  The functions of this seat's program that have no text and that the small machine knows.
-/
import Derived.Test.YtnlbdfccijgapaaGreatRows
import Derived.Test.YtnlbdfccijgapaaGreatVmExt
set_option maxRecDepth 100000
namespace Go.Proofs.YtnlbdfccijgapaaGreat
open Go.Vm
theorem x282 : IsExt Tryz.prog (282, .add64) := ⟨_, Tryz.func282, by kernel_rfl, by kernel_rfl, by kernel_rfl, by kernel_rfl⟩
theorem x286 : IsExt Tryz.prog (286, .cmp) := ⟨_, Tryz.func286, by kernel_rfl, by kernel_rfl, by kernel_rfl, by kernel_rfl⟩
def exts : List (Nat × Ek) := [(282, .add64), (286, .cmp)]
theorem extsOk : ∀ x, x ∈ exts → IsExt Tryz.prog x := by
  intro x hx
  unfold exts at hx
  rcases List.mem_cons.1 hx with rfl | hx
  · exact x282
  rcases List.mem_cons.1 hx with rfl | hx
  · exact x286
  cases hx
end Go.Proofs.YtnlbdfccijgapaaGreat
