/-
  The small machine's runs of 'colonnade/colonnadelaw20.WorkHangs', part 2 of its rows.
-/
import Derived.Test.YtnlbdfccijgapaaGreatTop
namespace Go.Proofs.YtnlbdfccijgapaaGreat.workHangs
open Go.Vm
theorem row1_0 : runs (mach [(.and, .sym 0, .int .i64 (.ofNat 7), .int .i64 (.ofNat 0))]) ext1 1000000 8 [.bool true, .sym 0] Tryz.prog.globals.size = true := by decide +kernel
theorem row1_1 : runs (mach [(.and, .sym 0, .int .i64 (.ofNat 7), .int .i64 (.ofNat 1))]) ext1 1000000 8 [.bool true, .sym 0] Tryz.prog.globals.size = true := by decide +kernel
theorem row1_2 : runs (mach [(.and, .sym 0, .int .i64 (.ofNat 7), .int .i64 (.ofNat 2))]) ext1 1000000 8 [.bool true, .sym 0] Tryz.prog.globals.size = true := by decide +kernel
theorem row1_3 : runs (mach [(.and, .sym 0, .int .i64 (.ofNat 7), .int .i64 (.ofNat 3))]) ext1 1000000 8 [.bool true, .sym 0] Tryz.prog.globals.size = true := by decide +kernel
end Go.Proofs.YtnlbdfccijgapaaGreat.workHangs
