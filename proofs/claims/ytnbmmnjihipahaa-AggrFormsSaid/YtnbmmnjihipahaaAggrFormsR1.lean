/-
  The small machine's runs of 'colonnade/colonnadelaw16.AggrForms', rows 4 to 7, of the rows that its number may pick.
-/
import Derived.Test.YtnbmmnjihipahaaM
import Derived.Test.YtnbmmnjihipahaaX
namespace Go.Proofs.Ytnbmmnjihipahaa.aggrForms
open Go.Vm
theorem row4 : runs (mach [(.and, .sym 0, .int .i64 (.ofNat 255), .sym 1), (.rem, .sym 1, .int .i64 (.ofNat 10), .int .i64 (.ofNat 4))]) (extBy exts) 1000000 3 [.sym 0] Try.prog.globals.size = true := by decide +kernel
theorem row5 : runs (mach [(.and, .sym 0, .int .i64 (.ofNat 255), .sym 1), (.rem, .sym 1, .int .i64 (.ofNat 10), .int .i64 (.ofNat 5))]) (extBy exts) 1000000 3 [.sym 0] Try.prog.globals.size = true := by decide +kernel
theorem row6 : runs (mach [(.and, .sym 0, .int .i64 (.ofNat 255), .sym 1), (.rem, .sym 1, .int .i64 (.ofNat 10), .int .i64 (.ofNat 6))]) (extBy exts) 1000000 3 [.sym 0] Try.prog.globals.size = true := by decide +kernel
theorem row7 : runs (mach [(.and, .sym 0, .int .i64 (.ofNat 255), .sym 1), (.rem, .sym 1, .int .i64 (.ofNat 10), .int .i64 (.ofNat 7))]) (extBy exts) 1000000 3 [.sym 0] Try.prog.globals.size = true := by decide +kernel
end Go.Proofs.Ytnbmmnjihipahaa.aggrForms
