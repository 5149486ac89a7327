/-
  What is told of the unknowns of 'colonnade/colonnadelaw22.EngnLimits', case by case.
-/
import Derived.Test.YtnlbdfccijgapaaGreatTop
namespace Go.Proofs.YtnlbdfccijgapaaGreat.engnLimits
open Go.Vm
def t0_0 : Tab := [(.neq, .sym 0, .sym 0, .bool false), (.lss, .sym 0, .int .i64 (.ofNat 1), .bool true)]
def t0_1 : Tab := [(.neq, .sym 0, .sym 0, .bool false), (.lss, .sym 0, .int .i64 (.ofNat 1), .bool false), (.lss, .int .i64 (.ofNat 1000), .sym 0, .bool false)]
def t0_2 : Tab := [(.neq, .sym 0, .sym 0, .bool false), (.lss, .sym 0, .int .i64 (.ofNat 1), .bool false), (.lss, .int .i64 (.ofNat 1000), .sym 0, .bool true)]
def t1_0 : Tab := [(.neq, .sym 1, .sym 1, .bool false), (.lss, .sym 1, .int .i64 (.ofNat 0), .bool true)]
def t1_1 : Tab := [(.neq, .sym 1, .sym 1, .bool false), (.lss, .sym 1, .int .i64 (.ofNat 0), .bool false), (.lss, .int .i64 (.ofNat 100), .sym 1, .bool false)]
def t1_2 : Tab := [(.neq, .sym 1, .sym 1, .bool false), (.lss, .sym 1, .int .i64 (.ofNat 0), .bool false), (.lss, .int .i64 (.ofNat 100), .sym 1, .bool true)]
def t2_8 : Tab := [(.geq, .sym 2, .int .i64 (.ofNat 0), .bool false), (.lss, .sym 2, .int .i64 (.ofNat 0), .bool true)]
def t2_9 : Tab := [(.geq, .sym 2, .int .i64 (.ofNat 0), .bool true), (.lss, .sym 2, .int .i64 (.ofNat 0), .bool false), (.lss, .sym 2, .int .i64 (.ofNat 8), .bool false), (.geq, .sym 2, .int .i64 (.ofNat 8), .bool true)]
def t3_3 : Tab := [(.eql, .sym 3, .int .i64 (.ofNat 1), .bool false), (.eql, .sym 3, .int .i64 (.ofNat 2), .bool false), (.eql, .sym 3, .int .i64 (.ofNat 3), .bool false)]
def D (l : List V) (t : Tab) : Prop := runs (mach t) ext1 1000000 10 l Tryz.prog.globals.size = true
end Go.Proofs.YtnlbdfccijgapaaGreat.engnLimits
