/-
  The functions of this seat's program as the small machine's: the table.
-/
import Derived.Test.YtliaohleajdgiaaM0
set_option maxRecDepth 100000
namespace Go.Proofs.Ytliaohleajdgiaa
open Go.Vm
def funs : T Fun := (.node (.node (.node (.node (.node .leaf (some m15) .leaf) (some m7) .leaf) (some m3) (.node (.node .leaf (some m19) .leaf) (some m11) .leaf)) none (.node (.node (.node .leaf (some m17) .leaf) (some m9) .leaf) (some m5) (.node .leaf (some m13) .leaf))) none (.node (.node (.node (.node .leaf (some m16) .leaf) (some m8) .leaf) (some m4) (.node .leaf (some m12) .leaf)) (some m2) (.node (.node (.node .leaf (some m18) .leaf) (some m10) .leaf) (some m6) (.node .leaf (some m14) .leaf))))
def ints : List Nat := [2,3,5,6,12,21,32,52,53,54,57,58]
theorem intsOk : IntsOk Try.prog ints := ints_of (by kernel_rfl)
def mach (tab : Tab) : Vm.Prog := ⟨funs, ⟨tab, ints⟩⟩
theorem valid (tab : Tab) : Valid Try.prog (mach tab) := valid_of (show AllT (IsFun Try.prog) 1 0 funs from ⟨trivial, ⟨trivial, ⟨v3, ⟨v7, ⟨v15, trivial, trivial⟩, trivial⟩, ⟨v11, ⟨v19, trivial, trivial⟩, trivial⟩⟩, ⟨v5, ⟨v9, ⟨v17, trivial, trivial⟩, trivial⟩, ⟨v13, trivial, trivial⟩⟩⟩, ⟨v2, ⟨v4, ⟨v8, ⟨v16, trivial, trivial⟩, trivial⟩, ⟨v12, trivial, trivial⟩⟩, ⟨v6, ⟨v10, ⟨v18, trivial, trivial⟩, trivial⟩, ⟨v14, trivial, trivial⟩⟩⟩⟩)
end Go.Proofs.Ytliaohleajdgiaa
