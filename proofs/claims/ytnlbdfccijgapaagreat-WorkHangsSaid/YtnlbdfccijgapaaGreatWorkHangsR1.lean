/-
  The small machine's runs of 'colonnade/colonnadelaw20.WorkHangs', part 1 of its rows.
-/
import Derived.Test.YtnlbdfccijgapaaGreatTop
namespace Go.Proofs.YtnlbdfccijgapaaGreat.workHangs
open Go.Vm
theorem row0_4 : runs (mach [(.and, .sym 0, .int .i64 (.ofNat 7), .int .i64 (.ofNat 4))]) ext1 1000000 8 [.bool false, .sym 0] Tryz.prog.globals.size = true := by decide +kernel
theorem row0_5 : runs (mach [(.and, .sym 0, .int .i64 (.ofNat 7), .int .i64 (.ofNat 5))]) ext1 1000000 8 [.bool false, .sym 0] Tryz.prog.globals.size = true := by decide +kernel
theorem row0_6 : runs (mach [(.and, .sym 0, .int .i64 (.ofNat 7), .int .i64 (.ofNat 6))]) ext1 1000000 8 [.bool false, .sym 0] Tryz.prog.globals.size = true := by decide +kernel
theorem row0_7 : runs (mach [(.and, .sym 0, .int .i64 (.ofNat 7), .int .i64 (.ofNat 7))]) ext1 1000000 8 [.bool false, .sym 0] Tryz.prog.globals.size = true := by decide +kernel
end Go.Proofs.YtnlbdfccijgapaaGreat.workHangs
