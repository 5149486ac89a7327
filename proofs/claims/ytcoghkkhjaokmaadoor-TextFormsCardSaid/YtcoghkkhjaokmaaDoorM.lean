/-
  The functions of this seat's program as the small machine's: the table.
-/
import Derived.Test.YtcoghkkhjaokmaaDoorM0
set_option maxRecDepth 100000
namespace Go.Proofs.YtcoghkkhjaokmaaDoor
open Go.Vm
def funs : T Fun := (.node (.node (.node (.node (.node (.node .leaf (some m31) (.node .leaf (some m95) .leaf)) (some m15) .leaf) none .leaf) none (.node .leaf none (.node .leaf none (.node .leaf (some m59) .leaf)))) none (.node (.node .leaf none (.node (.node (.node .leaf (some m73) .leaf) none .leaf) (some m25) .leaf)) (some m5) (.node (.node (.node .leaf (some m37) .leaf) (some m21) .leaf) none (.node (.node .leaf (some m45) .leaf) (some m29) .leaf)))) none (.node (.node (.node .leaf none (.node (.node .leaf (some m40) .leaf) (some m24) .leaf)) none (.node .leaf (some m12) .leaf)) none (.node (.node (.node (.node .leaf (some m34) .leaf) none .leaf) none (.node (.node (.node .leaf (some m74) .leaf) none .leaf) (some m26) (.node .leaf (some m58) .leaf))) none (.node (.node (.node .leaf (some m38) .leaf) (some m22) (.node .leaf (some m54) .leaf)) (some m14) (.node (.node (.node .leaf (some m78) .leaf) (some m46) .leaf) (some m30) .leaf)))))
def ints : List Nat := [2,3,5,6,12,21,22,26,103,104,130,156,157,159,160]
theorem intsOk : IntsOk Tryd.prog ints := ints_of (by kernel_rfl)
def mach (tab : Tab) : Vm.Prog := { funs := funs, env := ⟨tab, ints⟩ }
theorem valid (tab : Tab) : Valid Tryd.prog (mach tab) := valid_of (show AllT (IsFun Tryd.prog) 1 0 funs from ⟨trivial, ⟨trivial, ⟨trivial, ⟨trivial, ⟨v15, ⟨v31, trivial, ⟨v95, trivial, trivial⟩⟩, trivial⟩, trivial⟩, ⟨trivial, trivial, ⟨trivial, trivial, ⟨v59, trivial, trivial⟩⟩⟩⟩, ⟨v5, ⟨trivial, trivial, ⟨v25, ⟨trivial, ⟨v73, trivial, trivial⟩, trivial⟩, trivial⟩⟩, ⟨trivial, ⟨v21, ⟨v37, trivial, trivial⟩, trivial⟩, ⟨v29, ⟨v45, trivial, trivial⟩, trivial⟩⟩⟩⟩, ⟨trivial, ⟨trivial, ⟨trivial, trivial, ⟨v24, ⟨v40, trivial, trivial⟩, trivial⟩⟩, ⟨v12, trivial, trivial⟩⟩, ⟨trivial, ⟨trivial, ⟨trivial, ⟨v34, trivial, trivial⟩, trivial⟩, ⟨v26, ⟨trivial, ⟨v74, trivial, trivial⟩, trivial⟩, ⟨v58, trivial, trivial⟩⟩⟩, ⟨v14, ⟨v22, ⟨v38, trivial, trivial⟩, ⟨v54, trivial, trivial⟩⟩, ⟨v30, ⟨v46, ⟨v78, trivial, trivial⟩, trivial⟩, trivial⟩⟩⟩⟩⟩)
end Go.Proofs.YtcoghkkhjaokmaaDoor
