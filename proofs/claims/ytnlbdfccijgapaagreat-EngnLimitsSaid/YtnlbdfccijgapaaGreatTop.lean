/-
  The library's functions that the small machine is told of at this seat (ext0), and the functions 'awake', which come to true from no heap: so from any (ext1).
-/
import Derived.Test.YtnlbdfccijgapaaGreatM
import Derived.Test.YtnlbdfccijgapaaGreatX
import Derived.Test.YtnlbdfccijgapaaGreatIter
import Derived.Test.YtnlbdfccijgapaaGreatVmFast
namespace Go.Proofs.YtnlbdfccijgapaaGreat
open Go.Vm

theorem mixed : Tryz.prog.follows .mixedOrders = true := by kernel_rfl

def ext0 : Ext := orX (sortedX 64 164) (orX (valuesX 162 128) (extBy exts))
theorem ext0_rises : Rises ext0 := orX_rises (sortedX_rises _ _) (orX_rises (valuesX_rises _ _) (extBy_rises _))
theorem ext0_ok {env : Env} : CallOk Tryz.prog env ext0 := orX_ok (sorted_ok keysSorted) (orX_ok (values_ok valuesApp) (extBy_ok extsOk))

theorem awake19 : runs (mach []) ext0 1000000 19 [] Tryz.prog.globals.size = true := runs_of (by decide +kernel)
theorem awake27 : runs (mach []) ext0 1000000 27 [] Tryz.prog.globals.size = true := runs_of (by decide +kernel)
theorem awake44 : runs (mach []) ext0 1000000 44 [] Tryz.prog.globals.size = true := runs_of (by decide +kernel)
theorem awake50 : runs (mach []) ext0 1000000 50 [] Tryz.prog.globals.size = true := runs_of (by decide +kernel)

def awakes : List Nat := [19, 27, 44, 50]
theorem awakesOk : ∀ f, f ∈ awakes → entered Tryz.prog f = true ∧ runs (mach []) ext0 1000000 f [] Tryz.prog.globals.size = true := by
  intro f hf
  unfold awakes at hf
  rcases List.mem_cons.1 hf with rfl | hf
  · exact ⟨by kernel_rfl, awake19⟩
  rcases List.mem_cons.1 hf with rfl | hf
  · exact ⟨by kernel_rfl, awake27⟩
  rcases List.mem_cons.1 hf with rfl | hf
  · exact ⟨by kernel_rfl, awake44⟩
  rcases List.mem_cons.1 hf with rfl | hf
  · exact ⟨by kernel_rfl, awake50⟩
  cases hf

def ext1 : Ext := orX (constX awakes) ext0
theorem ext1_rises : Rises ext1 := orX_rises (constX_rises _) ext0_rises
theorem ext1_ok {env : Env} : CallOk Tryz.prog env ext1 := orX_ok (constX_ok mixed (valid []) ext0_rises ext0_ok rfl intsOk awakesOk) ext0_ok

end Go.Proofs.YtnlbdfccijgapaaGreat
