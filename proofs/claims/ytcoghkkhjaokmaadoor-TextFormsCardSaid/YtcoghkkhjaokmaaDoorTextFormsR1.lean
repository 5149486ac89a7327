/-
  The small machine's runs of 'colonnade/colonnadelaw25.TextForms', rows 13 to 25, of the rows that its number may pick.
-/
import Derived.Test.YtcoghkkhjaokmaaDoorTextFormsE
namespace Go.Proofs.YtcoghkkhjaokmaaDoor.textForms
open Go.Vm
theorem row13 (m : Int) : runsL (mach [(.and, .sym 0, .int .i64 (.ofNat 255), .sym 1), (.rem, .sym 1, .int .i64 (.ofNat 38), .int .i64 (.ofNat 13))]) ext 1000000 5 [.sym 0] (laidH Tryd.prog.globals.size 2 (tbl m)) = true := runsL_of (by kernel_rfl)
theorem row14 (m : Int) : runsL (mach [(.and, .sym 0, .int .i64 (.ofNat 255), .sym 1), (.rem, .sym 1, .int .i64 (.ofNat 38), .int .i64 (.ofNat 14))]) ext 1000000 5 [.sym 0] (laidH Tryd.prog.globals.size 2 (tbl m)) = true := runsL_of (by kernel_rfl)
theorem row15 (m : Int) : runsL (mach [(.and, .sym 0, .int .i64 (.ofNat 255), .sym 1), (.rem, .sym 1, .int .i64 (.ofNat 38), .int .i64 (.ofNat 15))]) ext 1000000 5 [.sym 0] (laidH Tryd.prog.globals.size 2 (tbl m)) = true := runsL_of (by kernel_rfl)
theorem row16 (m : Int) : runsL (mach [(.and, .sym 0, .int .i64 (.ofNat 255), .sym 1), (.rem, .sym 1, .int .i64 (.ofNat 38), .int .i64 (.ofNat 16))]) ext 1000000 5 [.sym 0] (laidH Tryd.prog.globals.size 2 (tbl m)) = true := runsL_of (by kernel_rfl)
theorem row17 (m : Int) : runsL (mach [(.and, .sym 0, .int .i64 (.ofNat 255), .sym 1), (.rem, .sym 1, .int .i64 (.ofNat 38), .int .i64 (.ofNat 17))]) ext 1000000 5 [.sym 0] (laidH Tryd.prog.globals.size 2 (tbl m)) = true := runsL_of (by kernel_rfl)
theorem row18 (m : Int) : runsL (mach [(.and, .sym 0, .int .i64 (.ofNat 255), .sym 1), (.rem, .sym 1, .int .i64 (.ofNat 38), .int .i64 (.ofNat 18))]) ext 1000000 5 [.sym 0] (laidH Tryd.prog.globals.size 2 (tbl m)) = true := runsL_of (by kernel_rfl)
theorem row19 (m : Int) : runsL (mach [(.and, .sym 0, .int .i64 (.ofNat 255), .sym 1), (.rem, .sym 1, .int .i64 (.ofNat 38), .int .i64 (.ofNat 19))]) ext 1000000 5 [.sym 0] (laidH Tryd.prog.globals.size 2 (tbl m)) = true := runsL_of (by kernel_rfl)
theorem row20 (m : Int) : runsL (mach [(.and, .sym 0, .int .i64 (.ofNat 255), .sym 1), (.rem, .sym 1, .int .i64 (.ofNat 38), .int .i64 (.ofNat 20))]) ext 1000000 5 [.sym 0] (laidH Tryd.prog.globals.size 2 (tbl m)) = true := runsL_of (by kernel_rfl)
theorem row21 (m : Int) : runsL (mach [(.and, .sym 0, .int .i64 (.ofNat 255), .sym 1), (.rem, .sym 1, .int .i64 (.ofNat 38), .int .i64 (.ofNat 21))]) ext 1000000 5 [.sym 0] (laidH Tryd.prog.globals.size 2 (tbl m)) = true := runsL_of (by kernel_rfl)
theorem row22 (m : Int) : runsL (mach [(.and, .sym 0, .int .i64 (.ofNat 255), .sym 1), (.rem, .sym 1, .int .i64 (.ofNat 38), .int .i64 (.ofNat 22))]) ext 1000000 5 [.sym 0] (laidH Tryd.prog.globals.size 2 (tbl m)) = true := runsL_of (by kernel_rfl)
theorem row23 (m : Int) : runsL (mach [(.and, .sym 0, .int .i64 (.ofNat 255), .sym 1), (.rem, .sym 1, .int .i64 (.ofNat 38), .int .i64 (.ofNat 23))]) ext 1000000 5 [.sym 0] (laidH Tryd.prog.globals.size 2 (tbl m)) = true := runsL_of (by kernel_rfl)
theorem row24 (m : Int) : runsL (mach [(.and, .sym 0, .int .i64 (.ofNat 255), .sym 1), (.rem, .sym 1, .int .i64 (.ofNat 38), .int .i64 (.ofNat 24))]) ext 1000000 5 [.sym 0] (laidH Tryd.prog.globals.size 2 (tbl m)) = true := runsL_of (by kernel_rfl)
theorem row25 (m : Int) : runsL (mach [(.and, .sym 0, .int .i64 (.ofNat 255), .sym 1), (.rem, .sym 1, .int .i64 (.ofNat 38), .int .i64 (.ofNat 25))]) ext 1000000 5 [.sym 0] (laidH Tryd.prog.globals.size 2 (tbl m)) = true := runsL_of (by kernel_rfl)
end Go.Proofs.YtcoghkkhjaokmaaDoor.textForms
