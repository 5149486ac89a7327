/-
  The small machine's runs of 'colonnade/colonnadelaw26.ProgSchemas', rows 12 to 16, of the rows that its number may pick.
-/
import Derived.Test.YtcoghkkhjaokmaaGreatDoorFProgSchemasE
namespace Go.Proofs.YtcoghkkhjaokmaaGreatDoor.progSchemas
open Go.Vm
theorem row12 (m : Int) : runsL (mach [(.and, .sym 0, .int .i64 (.ofNat 255), .sym 1), (.rem, .sym 1, .int .i64 (.ofNat 17), .int .i64 (.ofNat 12))]) ext 1000000 7 [.sym 0] (laidH Tryz.prog.globals.size 2 (tbl m)) = true := runsL_of (by kernel_rfl)
theorem row13 (m : Int) : runsL (mach [(.and, .sym 0, .int .i64 (.ofNat 255), .sym 1), (.rem, .sym 1, .int .i64 (.ofNat 17), .int .i64 (.ofNat 13))]) ext 1000000 7 [.sym 0] (laidH Tryz.prog.globals.size 2 (tbl m)) = true := runsL_of (by kernel_rfl)
theorem row14 (m : Int) : runsL (mach [(.and, .sym 0, .int .i64 (.ofNat 255), .sym 1), (.rem, .sym 1, .int .i64 (.ofNat 17), .int .i64 (.ofNat 14))]) ext 1000000 7 [.sym 0] (laidH Tryz.prog.globals.size 2 (tbl m)) = true := runsL_of (by kernel_rfl)
theorem row15 (m : Int) : runsL (mach [(.and, .sym 0, .int .i64 (.ofNat 255), .sym 1), (.rem, .sym 1, .int .i64 (.ofNat 17), .int .i64 (.ofNat 15))]) ext 1000000 7 [.sym 0] (laidH Tryz.prog.globals.size 2 (tbl m)) = true := runsL_of (by kernel_rfl)
theorem row16 (m : Int) : runsL (mach [(.and, .sym 0, .int .i64 (.ofNat 255), .sym 1), (.rem, .sym 1, .int .i64 (.ofNat 17), .int .i64 (.ofNat 16))]) ext 1000000 7 [.sym 0] (laidH Tryz.prog.globals.size 2 (tbl m)) = true := runsL_of (by kernel_rfl)
end Go.Proofs.YtcoghkkhjaokmaaGreatDoor.progSchemas
