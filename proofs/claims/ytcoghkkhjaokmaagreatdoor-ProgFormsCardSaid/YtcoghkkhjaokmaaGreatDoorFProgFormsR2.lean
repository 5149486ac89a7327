/-
  The small machine's runs of 'colonnade/colonnadelaw26.ProgForms', rows 24 to 35, of the rows that its number may pick.
-/
import Derived.Test.YtcoghkkhjaokmaaGreatDoorFProgFormsE
namespace Go.Proofs.YtcoghkkhjaokmaaGreatDoor.progForms
open Go.Vm
theorem row24 (m : Int) : runsL (mach [(.and, .sym 0, .int .i64 (.ofNat 255), .sym 1), (.rem, .sym 1, .int .i64 (.ofNat 36), .int .i64 (.ofNat 24))]) ext 1000000 6 [.sym 0] (laidH Tryz.prog.globals.size 2 (tbl m)) = true := runsL_of (by kernel_rfl)
theorem row25 (m : Int) : runsL (mach [(.and, .sym 0, .int .i64 (.ofNat 255), .sym 1), (.rem, .sym 1, .int .i64 (.ofNat 36), .int .i64 (.ofNat 25))]) ext 1000000 6 [.sym 0] (laidH Tryz.prog.globals.size 2 (tbl m)) = true := runsL_of (by kernel_rfl)
theorem row26 (m : Int) : runsL (mach [(.and, .sym 0, .int .i64 (.ofNat 255), .sym 1), (.rem, .sym 1, .int .i64 (.ofNat 36), .int .i64 (.ofNat 26))]) ext 1000000 6 [.sym 0] (laidH Tryz.prog.globals.size 2 (tbl m)) = true := runsL_of (by kernel_rfl)
theorem row27 (m : Int) : runsL (mach [(.and, .sym 0, .int .i64 (.ofNat 255), .sym 1), (.rem, .sym 1, .int .i64 (.ofNat 36), .int .i64 (.ofNat 27))]) ext 1000000 6 [.sym 0] (laidH Tryz.prog.globals.size 2 (tbl m)) = true := runsL_of (by kernel_rfl)
theorem row28 (m : Int) : runsL (mach [(.and, .sym 0, .int .i64 (.ofNat 255), .sym 1), (.rem, .sym 1, .int .i64 (.ofNat 36), .int .i64 (.ofNat 28))]) ext 1000000 6 [.sym 0] (laidH Tryz.prog.globals.size 2 (tbl m)) = true := runsL_of (by kernel_rfl)
theorem row29 (m : Int) : runsL (mach [(.and, .sym 0, .int .i64 (.ofNat 255), .sym 1), (.rem, .sym 1, .int .i64 (.ofNat 36), .int .i64 (.ofNat 29))]) ext 1000000 6 [.sym 0] (laidH Tryz.prog.globals.size 2 (tbl m)) = true := runsL_of (by kernel_rfl)
theorem row30 (m : Int) : runsL (mach [(.and, .sym 0, .int .i64 (.ofNat 255), .sym 1), (.rem, .sym 1, .int .i64 (.ofNat 36), .int .i64 (.ofNat 30))]) ext 1000000 6 [.sym 0] (laidH Tryz.prog.globals.size 2 (tbl m)) = true := runsL_of (by kernel_rfl)
theorem row31 (m : Int) : runsL (mach [(.and, .sym 0, .int .i64 (.ofNat 255), .sym 1), (.rem, .sym 1, .int .i64 (.ofNat 36), .int .i64 (.ofNat 31))]) ext 1000000 6 [.sym 0] (laidH Tryz.prog.globals.size 2 (tbl m)) = true := runsL_of (by kernel_rfl)
theorem row32 (m : Int) : runsL (mach [(.and, .sym 0, .int .i64 (.ofNat 255), .sym 1), (.rem, .sym 1, .int .i64 (.ofNat 36), .int .i64 (.ofNat 32))]) ext 1000000 6 [.sym 0] (laidH Tryz.prog.globals.size 2 (tbl m)) = true := runsL_of (by kernel_rfl)
theorem row33 (m : Int) : runsL (mach [(.and, .sym 0, .int .i64 (.ofNat 255), .sym 1), (.rem, .sym 1, .int .i64 (.ofNat 36), .int .i64 (.ofNat 33))]) ext 1000000 6 [.sym 0] (laidH Tryz.prog.globals.size 2 (tbl m)) = true := runsL_of (by kernel_rfl)
theorem row34 (m : Int) : runsL (mach [(.and, .sym 0, .int .i64 (.ofNat 255), .sym 1), (.rem, .sym 1, .int .i64 (.ofNat 36), .int .i64 (.ofNat 34))]) ext 1000000 6 [.sym 0] (laidH Tryz.prog.globals.size 2 (tbl m)) = true := runsL_of (by kernel_rfl)
theorem row35 (m : Int) : runsL (mach [(.and, .sym 0, .int .i64 (.ofNat 255), .sym 1), (.rem, .sym 1, .int .i64 (.ofNat 36), .int .i64 (.ofNat 35))]) ext 1000000 6 [.sym 0] (laidH Tryz.prog.globals.size 2 (tbl m)) = true := runsL_of (by kernel_rfl)
end Go.Proofs.YtcoghkkhjaokmaaGreatDoor.progForms
