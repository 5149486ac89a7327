/-
  The small machine's runs of 'colonnade/colonnadelaw26.ProgForms', rows 0 to 11, of the rows that its number may pick.
-/
import Derived.Test.YtcoghkkhjaokmaaGreatDoorFProgFormsE
namespace Go.Proofs.YtcoghkkhjaokmaaGreatDoor.progForms
open Go.Vm
theorem row0 (m : Int) : runsL (mach [(.and, .sym 0, .int .i64 (.ofNat 255), .sym 1), (.rem, .sym 1, .int .i64 (.ofNat 36), .int .i64 (.ofNat 0))]) ext 1000000 6 [.sym 0] (laidH Tryz.prog.globals.size 2 (tbl m)) = true := runsL_of (by kernel_rfl)
theorem row1 (m : Int) : runsL (mach [(.and, .sym 0, .int .i64 (.ofNat 255), .sym 1), (.rem, .sym 1, .int .i64 (.ofNat 36), .int .i64 (.ofNat 1))]) ext 1000000 6 [.sym 0] (laidH Tryz.prog.globals.size 2 (tbl m)) = true := runsL_of (by kernel_rfl)
theorem row2 (m : Int) : runsL (mach [(.and, .sym 0, .int .i64 (.ofNat 255), .sym 1), (.rem, .sym 1, .int .i64 (.ofNat 36), .int .i64 (.ofNat 2))]) ext 1000000 6 [.sym 0] (laidH Tryz.prog.globals.size 2 (tbl m)) = true := runsL_of (by kernel_rfl)
theorem row3 (m : Int) : runsL (mach [(.and, .sym 0, .int .i64 (.ofNat 255), .sym 1), (.rem, .sym 1, .int .i64 (.ofNat 36), .int .i64 (.ofNat 3))]) ext 1000000 6 [.sym 0] (laidH Tryz.prog.globals.size 2 (tbl m)) = true := runsL_of (by kernel_rfl)
theorem row4 (m : Int) : runsL (mach [(.and, .sym 0, .int .i64 (.ofNat 255), .sym 1), (.rem, .sym 1, .int .i64 (.ofNat 36), .int .i64 (.ofNat 4))]) ext 1000000 6 [.sym 0] (laidH Tryz.prog.globals.size 2 (tbl m)) = true := runsL_of (by kernel_rfl)
theorem row5 (m : Int) : runsL (mach [(.and, .sym 0, .int .i64 (.ofNat 255), .sym 1), (.rem, .sym 1, .int .i64 (.ofNat 36), .int .i64 (.ofNat 5))]) ext 1000000 6 [.sym 0] (laidH Tryz.prog.globals.size 2 (tbl m)) = true := runsL_of (by kernel_rfl)
theorem row6 (m : Int) : runsL (mach [(.and, .sym 0, .int .i64 (.ofNat 255), .sym 1), (.rem, .sym 1, .int .i64 (.ofNat 36), .int .i64 (.ofNat 6))]) ext 1000000 6 [.sym 0] (laidH Tryz.prog.globals.size 2 (tbl m)) = true := runsL_of (by kernel_rfl)
theorem row7 (m : Int) : runsL (mach [(.and, .sym 0, .int .i64 (.ofNat 255), .sym 1), (.rem, .sym 1, .int .i64 (.ofNat 36), .int .i64 (.ofNat 7))]) ext 1000000 6 [.sym 0] (laidH Tryz.prog.globals.size 2 (tbl m)) = true := runsL_of (by kernel_rfl)
theorem row8 (m : Int) : runsL (mach [(.and, .sym 0, .int .i64 (.ofNat 255), .sym 1), (.rem, .sym 1, .int .i64 (.ofNat 36), .int .i64 (.ofNat 8))]) ext 1000000 6 [.sym 0] (laidH Tryz.prog.globals.size 2 (tbl m)) = true := runsL_of (by kernel_rfl)
theorem row9 (m : Int) : runsL (mach [(.and, .sym 0, .int .i64 (.ofNat 255), .sym 1), (.rem, .sym 1, .int .i64 (.ofNat 36), .int .i64 (.ofNat 9))]) ext 1000000 6 [.sym 0] (laidH Tryz.prog.globals.size 2 (tbl m)) = true := runsL_of (by kernel_rfl)
theorem row10 (m : Int) : runsL (mach [(.and, .sym 0, .int .i64 (.ofNat 255), .sym 1), (.rem, .sym 1, .int .i64 (.ofNat 36), .int .i64 (.ofNat 10))]) ext 1000000 6 [.sym 0] (laidH Tryz.prog.globals.size 2 (tbl m)) = true := runsL_of (by kernel_rfl)
theorem row11 (m : Int) : runsL (mach [(.and, .sym 0, .int .i64 (.ofNat 255), .sym 1), (.rem, .sym 1, .int .i64 (.ofNat 36), .int .i64 (.ofNat 11))]) ext 1000000 6 [.sym 0] (laidH Tryz.prog.globals.size 2 (tbl m)) = true := runsL_of (by kernel_rfl)
end Go.Proofs.YtcoghkkhjaokmaaGreatDoor.progForms
