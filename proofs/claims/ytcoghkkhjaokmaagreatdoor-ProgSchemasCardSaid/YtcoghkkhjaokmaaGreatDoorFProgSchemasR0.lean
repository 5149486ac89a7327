/-
  The small machine's runs of 'colonnade/colonnadelaw26.ProgSchemas', rows 0 to 5, of the rows that its number may pick.
-/
import Derived.Test.YtcoghkkhjaokmaaGreatDoorFProgSchemasE
namespace Go.Proofs.YtcoghkkhjaokmaaGreatDoor.progSchemas
open Go.Vm
theorem row0 (m : Int) : runsL (mach [(.and, .sym 0, .int .i64 (.ofNat 255), .sym 1), (.rem, .sym 1, .int .i64 (.ofNat 17), .int .i64 (.ofNat 0))]) ext 1000000 7 [.sym 0] (laidH Tryz.prog.globals.size 2 (tbl m)) = true := runsL_of (by kernel_rfl)
theorem row1 (m : Int) : runsL (mach [(.and, .sym 0, .int .i64 (.ofNat 255), .sym 1), (.rem, .sym 1, .int .i64 (.ofNat 17), .int .i64 (.ofNat 1))]) ext 1000000 7 [.sym 0] (laidH Tryz.prog.globals.size 2 (tbl m)) = true := runsL_of (by kernel_rfl)
theorem row2 (m : Int) : runsL (mach [(.and, .sym 0, .int .i64 (.ofNat 255), .sym 1), (.rem, .sym 1, .int .i64 (.ofNat 17), .int .i64 (.ofNat 2))]) ext 1000000 7 [.sym 0] (laidH Tryz.prog.globals.size 2 (tbl m)) = true := runsL_of (by kernel_rfl)
theorem row3 (m : Int) : runsL (mach [(.and, .sym 0, .int .i64 (.ofNat 255), .sym 1), (.rem, .sym 1, .int .i64 (.ofNat 17), .int .i64 (.ofNat 3))]) ext 1000000 7 [.sym 0] (laidH Tryz.prog.globals.size 2 (tbl m)) = true := runsL_of (by kernel_rfl)
theorem row4 (m : Int) : runsL (mach [(.and, .sym 0, .int .i64 (.ofNat 255), .sym 1), (.rem, .sym 1, .int .i64 (.ofNat 17), .int .i64 (.ofNat 4))]) ext 1000000 7 [.sym 0] (laidH Tryz.prog.globals.size 2 (tbl m)) = true := runsL_of (by kernel_rfl)
theorem row5 (m : Int) : runsL (mach [(.and, .sym 0, .int .i64 (.ofNat 255), .sym 1), (.rem, .sym 1, .int .i64 (.ofNat 17), .int .i64 (.ofNat 5))]) ext 1000000 7 [.sym 0] (laidH Tryz.prog.globals.size 2 (tbl m)) = true := runsL_of (by kernel_rfl)
end Go.Proofs.YtcoghkkhjaokmaaGreatDoor.progSchemas
