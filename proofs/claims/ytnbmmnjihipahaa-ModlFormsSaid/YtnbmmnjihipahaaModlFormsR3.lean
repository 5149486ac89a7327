/-
  The small machine's runs of 'colonnade/colonnadelaw17.ModlForms', rows 12 to 13, of the rows that its number may pick.
-/
import Derived.Test.YtnbmmnjihipahaaM
import Derived.Test.YtnbmmnjihipahaaX
namespace Go.Proofs.Ytnbmmnjihipahaa.modlForms
open Go.Vm
theorem row12 : runs (mach [(.and, .sym 0, .int .i64 (.ofNat 255), .sym 1), (.rem, .sym 1, .int .i64 (.ofNat 14), .int .i64 (.ofNat 12))]) (extBy exts) 1000000 8 [.sym 0] Try.prog.globals.size = true := by decide +kernel
theorem row13 : runs (mach [(.and, .sym 0, .int .i64 (.ofNat 255), .sym 1), (.rem, .sym 1, .int .i64 (.ofNat 14), .int .i64 (.ofNat 13))]) (extBy exts) 1000000 8 [.sym 0] Try.prog.globals.size = true := by decide +kernel
end Go.Proofs.Ytnbmmnjihipahaa.modlForms
