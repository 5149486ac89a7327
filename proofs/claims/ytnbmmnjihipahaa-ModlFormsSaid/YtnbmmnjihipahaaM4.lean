/-
  The functions of this seat's program as the small machine's, written by a program of mine (vmprint.lean): part 4.
-/
import Derived.Test.YtnbmmnjihipahaaRows
import Derived.Test.YtnbmmnjihipahaaVmTop
set_option maxRecDepth 100000
namespace Go.Proofs.Ytnbmmnjihipahaa
open Go.Vm
def m139 : Fun := ⟨38,5,.seq (.region [⟨(some 10),(.p (.mov (.val (.int .i64 (.ofNat 0))))),none⟩])
 (.block 0 (.loop (.seq (.seq (.region [⟨(some 11),(.p (.mov (.tmp 10))),none⟩,⟨(some 12),(.p (.mov (.tmp 3))),none⟩,⟨(some 13),(.p (.bin .lss (.tmp 11) (.tmp 12))),none⟩])
 (.cond (.tmp 13) (.skip)
 (.exit 0)))
 (.seq (.block 1 (.dregion [⟨⟨(some 16),(.p (.mov (.tmp 0))),none⟩,0,17⟩,⟨⟨(some 17),(.p (.mov (.tmp 1))),none⟩,0,17⟩,⟨⟨(some 18),(.p (.mov (.tmp 10))),none⟩,0,17⟩,⟨⟨(some 19),(.p (.bin .add (.tmp 17) (.tmp 18))),none⟩,0,17⟩,⟨⟨(some 24),(.p (.mov (.tmp 0))),none⟩,0,17⟩,⟨⟨(some 25),(.p (.mov (.tmp 2))),none⟩,0,17⟩,⟨⟨(some 26),(.p (.mov (.tmp 10))),none⟩,0,17⟩,⟨⟨(some 27),(.p (.bin .add (.tmp 25) (.tmp 26))),none⟩,0,17⟩,⟨⟨(some 28),(.p (.iaddr 5 (.tmp 24) (.tmp 27))),none⟩,0,17⟩,⟨⟨(some 29),(.loadn 5 (.tmp 28)),none⟩,0,17⟩,⟨⟨(some 30),(.p (.mov (.tmp 0))),none⟩,0,17⟩,⟨⟨(some 31),(.p (.mov (.tmp 1))),none⟩,0,17⟩,⟨⟨(some 32),(.p (.mov (.tmp 10))),none⟩,0,17⟩,⟨⟨(some 33),(.p (.bin .add (.tmp 31) (.tmp 32))),none⟩,0,17⟩,⟨⟨(some 34),(.p (.iaddr 5 (.tmp 30) (.tmp 33))),none⟩,0,17⟩,⟨⟨(some 35),(.loadn 5 (.tmp 34)),none⟩,0,17⟩,⟨⟨(some 36),(.p (.iaddr 5 (.tmp 16) (.tmp 19))),none⟩,0,17⟩,⟨⟨none,(.e (.store 5 (.tmp 36) (.tmp 29))),none⟩,0,23⟩,⟨⟨(some 20),(.p (.mov (.tmp 0))),none⟩,0,23⟩,⟨⟨(some 21),(.p (.mov (.tmp 2))),none⟩,0,23⟩,⟨⟨(some 22),(.p (.mov (.tmp 10))),none⟩,0,23⟩,⟨⟨(some 23),(.p (.bin .add (.tmp 21) (.tmp 22))),none⟩,0,23⟩,⟨⟨(some 37),(.p (.iaddr 5 (.tmp 20) (.tmp 23))),none⟩,18,23⟩,⟨⟨none,(.e (.store 5 (.tmp 37) (.tmp 35))),none⟩,18,24⟩]))
 (.region [⟨(some 14),(.p (.mov (.tmp 10))),none⟩,⟨(some 15),(.p (.bin .add (.tmp 14) (.val (.int .i64 (.ofNat 1))))),none⟩,⟨(some 10),(.p (.mov (.tmp 15))),none⟩]))))),[]⟩
theorem v139 : IsFun Try.prog 139 m139 := ⟨_, Try.func139, by kernel_rfl, by kernel_rfl⟩
def m140 : Fun := ⟨10,2,.seq (.region [⟨(some 4),(.p (.mov (.val (.bool false)))),none⟩])
 (.seq (.region [⟨(some 5),(.p (.mov (.tmp 0))),none⟩,⟨(some 6),(.e (.text (.tmp 5))),none⟩,⟨(some 7),(.p (.mov (.tmp 1))),none⟩,⟨(some 8),(.e (.text (.tmp 7))),none⟩,⟨(some 9),(.p (.bin .eql (.tmp 6) (.tmp 8))),none⟩,⟨(some 4),(.p (.mov (.tmp 9))),none⟩])
 (.ret)),[.tmp 4]⟩
theorem v140 : IsFun Try.prog 140 m140 := ⟨_, Try.func140, by kernel_rfl, by kernel_rfl⟩
end Go.Proofs.Ytnbmmnjihipahaa
