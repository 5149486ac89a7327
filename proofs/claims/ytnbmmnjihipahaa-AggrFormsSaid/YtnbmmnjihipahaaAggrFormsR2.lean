/-
  The small machine's runs of 'colonnade/colonnadelaw16.AggrForms', rows 8 to 9, of the rows that its number may pick.
-/
import Derived.Test.YtnbmmnjihipahaaM
import Derived.Test.YtnbmmnjihipahaaX
namespace Go.Proofs.Ytnbmmnjihipahaa.aggrForms
open Go.Vm
theorem row8 : runs (mach [(.and, .sym 0, .int .i64 (.ofNat 255), .sym 1), (.rem, .sym 1, .int .i64 (.ofNat 10), .int .i64 (.ofNat 8))]) (extBy exts) 1000000 3 [.sym 0] Try.prog.globals.size = true := by decide +kernel
theorem row9 : runs (mach [(.and, .sym 0, .int .i64 (.ofNat 255), .sym 1), (.rem, .sym 1, .int .i64 (.ofNat 10), .int .i64 (.ofNat 9))]) (extBy exts) 1000000 3 [.sym 0] Try.prog.globals.size = true := by decide +kernel
end Go.Proofs.Ytnbmmnjihipahaa.aggrForms
