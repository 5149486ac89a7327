/-
  The small machine's runs of 'colonnade/colonnadelaw26.ProgForms', rows 12 to 23, of the rows that its number may pick.
-/
import Derived.Test.YtcoghkkhjaokmaaGreatDoorFProgFormsE
namespace Go.Proofs.YtcoghkkhjaokmaaGreatDoor.progForms
open Go.Vm
theorem row12 (m : Int) : runsL (mach [(.and, .sym 0, .int .i64 (.ofNat 255), .sym 1), (.rem, .sym 1, .int .i64 (.ofNat 36), .int .i64 (.ofNat 12))]) ext 1000000 6 [.sym 0] (laidH Tryz.prog.globals.size 2 (tbl m)) = true := runsL_of (by kernel_rfl)
theorem row13 (m : Int) : runsL (mach [(.and, .sym 0, .int .i64 (.ofNat 255), .sym 1), (.rem, .sym 1, .int .i64 (.ofNat 36), .int .i64 (.ofNat 13))]) ext 1000000 6 [.sym 0] (laidH Tryz.prog.globals.size 2 (tbl m)) = true := runsL_of (by kernel_rfl)
theorem row14 (m : Int) : runsL (mach [(.and, .sym 0, .int .i64 (.ofNat 255), .sym 1), (.rem, .sym 1, .int .i64 (.ofNat 36), .int .i64 (.ofNat 14))]) ext 1000000 6 [.sym 0] (laidH Tryz.prog.globals.size 2 (tbl m)) = true := runsL_of (by kernel_rfl)
theorem row15 (m : Int) : runsL (mach [(.and, .sym 0, .int .i64 (.ofNat 255), .sym 1), (.rem, .sym 1, .int .i64 (.ofNat 36), .int .i64 (.ofNat 15))]) ext 1000000 6 [.sym 0] (laidH Tryz.prog.globals.size 2 (tbl m)) = true := runsL_of (by kernel_rfl)
theorem row16 (m : Int) : runsL (mach [(.and, .sym 0, .int .i64 (.ofNat 255), .sym 1), (.rem, .sym 1, .int .i64 (.ofNat 36), .int .i64 (.ofNat 16))]) ext 1000000 6 [.sym 0] (laidH Tryz.prog.globals.size 2 (tbl m)) = true := runsL_of (by kernel_rfl)
theorem row17 (m : Int) : runsL (mach [(.and, .sym 0, .int .i64 (.ofNat 255), .sym 1), (.rem, .sym 1, .int .i64 (.ofNat 36), .int .i64 (.ofNat 17))]) ext 1000000 6 [.sym 0] (laidH Tryz.prog.globals.size 2 (tbl m)) = true := runsL_of (by kernel_rfl)
theorem row18 (m : Int) : runsL (mach [(.and, .sym 0, .int .i64 (.ofNat 255), .sym 1), (.rem, .sym 1, .int .i64 (.ofNat 36), .int .i64 (.ofNat 18))]) ext 1000000 6 [.sym 0] (laidH Tryz.prog.globals.size 2 (tbl m)) = true := runsL_of (by kernel_rfl)
theorem row19 (m : Int) : runsL (mach [(.and, .sym 0, .int .i64 (.ofNat 255), .sym 1), (.rem, .sym 1, .int .i64 (.ofNat 36), .int .i64 (.ofNat 19))]) ext 1000000 6 [.sym 0] (laidH Tryz.prog.globals.size 2 (tbl m)) = true := runsL_of (by kernel_rfl)
theorem row20 (m : Int) : runsL (mach [(.and, .sym 0, .int .i64 (.ofNat 255), .sym 1), (.rem, .sym 1, .int .i64 (.ofNat 36), .int .i64 (.ofNat 20))]) ext 1000000 6 [.sym 0] (laidH Tryz.prog.globals.size 2 (tbl m)) = true := runsL_of (by kernel_rfl)
theorem row21 (m : Int) : runsL (mach [(.and, .sym 0, .int .i64 (.ofNat 255), .sym 1), (.rem, .sym 1, .int .i64 (.ofNat 36), .int .i64 (.ofNat 21))]) ext 1000000 6 [.sym 0] (laidH Tryz.prog.globals.size 2 (tbl m)) = true := runsL_of (by kernel_rfl)
theorem row22 (m : Int) : runsL (mach [(.and, .sym 0, .int .i64 (.ofNat 255), .sym 1), (.rem, .sym 1, .int .i64 (.ofNat 36), .int .i64 (.ofNat 22))]) ext 1000000 6 [.sym 0] (laidH Tryz.prog.globals.size 2 (tbl m)) = true := runsL_of (by kernel_rfl)
theorem row23 (m : Int) : runsL (mach [(.and, .sym 0, .int .i64 (.ofNat 255), .sym 1), (.rem, .sym 1, .int .i64 (.ofNat 36), .int .i64 (.ofNat 23))]) ext 1000000 6 [.sym 0] (laidH Tryz.prog.globals.size 2 (tbl m)) = true := runsL_of (by kernel_rfl)
end Go.Proofs.YtcoghkkhjaokmaaGreatDoor.progForms
