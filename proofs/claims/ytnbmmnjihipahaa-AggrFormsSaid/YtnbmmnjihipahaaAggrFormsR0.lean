/-
  The small machine's runs of 'colonnade/colonnadelaw16.AggrForms', rows 0 to 3, of the rows that its number may pick.
-/
import Derived.Test.YtnbmmnjihipahaaM
import Derived.Test.YtnbmmnjihipahaaX
namespace Go.Proofs.Ytnbmmnjihipahaa.aggrForms
open Go.Vm
theorem row0 : runs (mach [(.and, .sym 0, .int .i64 (.ofNat 255), .sym 1), (.rem, .sym 1, .int .i64 (.ofNat 10), .int .i64 (.ofNat 0))]) (extBy exts) 1000000 3 [.sym 0] Try.prog.globals.size = true := by decide +kernel
theorem row1 : runs (mach [(.and, .sym 0, .int .i64 (.ofNat 255), .sym 1), (.rem, .sym 1, .int .i64 (.ofNat 10), .int .i64 (.ofNat 1))]) (extBy exts) 1000000 3 [.sym 0] Try.prog.globals.size = true := by decide +kernel
theorem row2 : runs (mach [(.and, .sym 0, .int .i64 (.ofNat 255), .sym 1), (.rem, .sym 1, .int .i64 (.ofNat 10), .int .i64 (.ofNat 2))]) (extBy exts) 1000000 3 [.sym 0] Try.prog.globals.size = true := by decide +kernel
theorem row3 : runs (mach [(.and, .sym 0, .int .i64 (.ofNat 255), .sym 1), (.rem, .sym 1, .int .i64 (.ofNat 10), .int .i64 (.ofNat 3))]) (extBy exts) 1000000 3 [.sym 0] Try.prog.globals.size = true := by decide +kernel
end Go.Proofs.Ytnbmmnjihipahaa.aggrForms
