/-
  The functions of this seat's program as the small machine's, written by a program of mine (vmprint.lean): part 2.
-/
import Derived.Test.YtnlbdfccijgapaaGreatRows
import Derived.Test.YtnlbdfccijgapaaGreatVmTop
set_option maxRecDepth 100000
namespace Go.Proofs.YtnlbdfccijgapaaGreat
open Go.Vm
def m73 : Fun := ⟨6,1,.seq (.region [⟨(some 2),(.p (.mov (.val (.nilslice)))),none⟩])
 (.seq (.region [⟨(some 3),(.p (.mov (.tmp 0))),none⟩,⟨(some 4),(.p (.build [.bool false,.int .i64 (.ofNat 0),.int .i64 (.ofNat 0),.nilslice] [(1,1,(.val (.int .i64 (.ofNat 1)))),(2,1,(.tmp 3))])),none⟩,⟨(some 5),(.a (.bslice [.bool false,.int .i64 (.ofNat 0),.int .i64 (.ofNat 0),.nilslice] 4 1 [(0,4,(.tmp 4))])),none⟩,⟨(some 2),(.p (.mov (.tmp 5))),none⟩])
 (.ret)),[.tmp 2]⟩
theorem v73 : IsFun Tryz.prog 73 m73 := ⟨_, Tryz.func73, by kernel_rfl, by kernel_rfl⟩
def m74 : Fun := ⟨26,1,.seq (.region [⟨(some 2),(.p (.mov (.val (.int .i64 (.ofNat 0))))),none⟩])
 (.seq (.region [⟨(some 4),(.p (.mov (.tmp 0))),none⟩,⟨(some 5),(.p (.nilchk (.tmp 4))),none⟩,⟨(some 6),(.p (.faddr 1 (.tmp 5))),none⟩,⟨(some 7),(.load1 (.tmp 6)),none⟩,⟨(some 8),(.p (.lenb (.tmp 7))),none⟩,⟨(some 9),(.p (.bin .add (.tmp 8) (.val (.int .i64 (.ofNat 1))))),none⟩,⟨(some 3),(.p (.mov (.tmp 9))),none⟩])
 (.seq (.dregion [⟨⟨(some 16),(.p (.mov (.tmp 0))),none⟩,0,3⟩,⟨⟨(some 17),(.p (.nilchk (.tmp 16))),none⟩,0,3⟩,⟨⟨(some 18),(.p (.faddr 0 (.tmp 17))),none⟩,0,3⟩,⟨⟨(some 19),(.e (.call 102 [(.tmp 18)])),none⟩,0,11⟩,⟨⟨(some 11),(.p (.mov (.tmp 0))),none⟩,0,11⟩,⟨⟨(some 12),(.p (.nilchk (.tmp 11))),none⟩,0,11⟩,⟨⟨(some 13),(.p (.faddr 1 (.tmp 12))),none⟩,0,11⟩,⟨⟨(some 14),(.load1 (.tmp 13)),none⟩,0,11⟩,⟨⟨(some 15),(.p (.mov (.tmp 3))),none⟩,0,11⟩,⟨⟨(some 20),(.p (.build [.int .i64 (.ofNat 0),.int .i64 (.ofNat 0),.int .i64 (.ofNat 0),.int .i64 (.ofNat 0)] [(0,1,(.tmp 15)),(1,1,(.val (.int .i64 (.ofNat 1)))),(2,1,(.tmp 19))])),none⟩,4,11⟩,⟨⟨(some 21),(.a (.bslice [.int .i64 (.ofNat 0),.int .i64 (.ofNat 0),.int .i64 (.ofNat 0),.int .i64 (.ofNat 0)] 4 1 [(0,4,(.tmp 20))])),none⟩,4,11⟩,⟨⟨(some 22),(.e (.append 4 32 (.tmp 14) (.tmp 21))),none⟩,4,15⟩,⟨⟨(some 10),(.p (.mov (.tmp 0))),none⟩,0,15⟩,⟨⟨(some 23),(.p (.nilchk (.tmp 10))),none⟩,12,15⟩,⟨⟨(some 24),(.p (.faddr 1 (.tmp 23))),none⟩,12,15⟩,⟨⟨none,(.e (.store 1 (.tmp 24) (.tmp 22))),none⟩,12,16⟩])
 (.seq (.region [⟨(some 25),(.p (.mov (.tmp 3))),none⟩,⟨(some 2),(.p (.mov (.tmp 25))),none⟩])
 (.ret)))),[.tmp 2]⟩
theorem v74 : IsFun Tryz.prog 74 m74 := ⟨_, Tryz.func74, by kernel_rfl, by kernel_rfl⟩
def m75 : Fun := ⟨36,2,.seq (.region [⟨(some 4),(.p (.mov (.val (.int .i64 (.ofNat 0))))),none⟩,⟨(some 5),(.p (.mov (.val (.bool false)))),none⟩])
 (.seq (.region [⟨(some 7),(.p (.mov (.tmp 0))),none⟩,⟨(some 8),(.p (.mov (.tmp 1))),none⟩,⟨(some 9),(.a (.bslice [.int .i64 (.ofNat 0)] 1 1 [(0,1,(.val (.int .i64 (.ofNat 1))))])),none⟩,⟨(some 10),(.e (.call 135 [(.tmp 7),(.tmp 8),(.tmp 9)])),none⟩,⟨(some 6),(.p (.mov (.tmp 10))),none⟩])
 (.seq (.seq (.region [⟨(some 11),(.p (.mov (.tmp 6))),none⟩,⟨(some 12),(.p (.eq .ptr false (.tmp 11) (.val (.nilptr)))),none⟩])
 (.cond (.tmp 12) (.seq (.region [⟨(some 4),(.p (.mov (.val (.int .i64 (.ofNat 0))))),none⟩,⟨(some 5),(.p (.mov (.val (.bool false)))),none⟩])
 (.ret))
 (.skip)))
 (.seq (.region [⟨(some 13),(.p (.mov (.tmp 0))),none⟩,⟨(some 14),(.p (.nilchk (.tmp 13))),none⟩,⟨(some 15),(.p (.faddr 0 (.tmp 14))),none⟩,⟨(some 16),(.p (.faddr 0 (.tmp 15))),none⟩,⟨(some 17),(.load1 (.tmp 16)),none⟩,⟨(some 18),(.p (.bin .add (.tmp 17) (.val (.int .i64 (.ofNat 1))))),none⟩,⟨(some 19),(.p (.nilchk (.tmp 13))),none⟩,⟨(some 20),(.p (.faddr 0 (.tmp 19))),none⟩,⟨(some 21),(.p (.faddr 0 (.tmp 20))),none⟩,⟨none,(.e (.store 1 (.tmp 21) (.tmp 18))),none⟩])
 (.seq (.region [⟨(some 22),(.p (.mov (.tmp 6))),none⟩,⟨(some 23),(.p (.mov (.tmp 6))),none⟩,⟨(some 24),(.p (.mov (.tmp 0))),none⟩,⟨(some 25),(.p (.nilchk (.tmp 24))),none⟩,⟨(some 26),(.p (.faddr 0 (.tmp 25))),none⟩,⟨(some 27),(.e (.call 102 [(.tmp 26)])),none⟩,⟨(some 28),(.p (.nilchk (.tmp 22))),none⟩,⟨(some 29),(.p (.faddr 1 (.tmp 28))),none⟩,⟨none,(.e (.store 1 (.tmp 29) (.val (.int .i64 (.ofNat 2))))),none⟩,⟨(some 30),(.p (.nilchk (.tmp 23))),none⟩,⟨(some 31),(.p (.faddr 3 (.tmp 30))),none⟩,⟨none,(.e (.store 1 (.tmp 31) (.tmp 27))),none⟩])
 (.seq (.region [⟨(some 32),(.p (.mov (.tmp 6))),none⟩,⟨(some 33),(.p (.nilchk (.tmp 32))),none⟩,⟨(some 34),(.p (.faddr 3 (.tmp 33))),none⟩,⟨(some 35),(.load1 (.tmp 34)),none⟩,⟨(some 4),(.p (.mov (.tmp 35))),none⟩,⟨(some 5),(.p (.mov (.val (.bool true)))),none⟩])
 (.ret)))))),[.tmp 4,.tmp 5]⟩
theorem v75 : IsFun Tryz.prog 75 m75 := ⟨_, Tryz.func75, by kernel_rfl, by kernel_rfl⟩
def m76 : Fun := ⟨15,2,.seq (.region [⟨(some 4),(.p (.mov (.val (.bool false)))),none⟩])
 (.seq (.region [⟨(some 6),(.p (.mov (.tmp 0))),none⟩,⟨(some 7),(.p (.mov (.tmp 1))),none⟩,⟨(some 8),(.a (.bslice [.int .i64 (.ofNat 0)] 1 1 [(0,1,(.val (.int .i64 (.ofNat 2))))])),none⟩,⟨(some 9),(.e (.call 135 [(.tmp 6),(.tmp 7),(.tmp 8)])),none⟩,⟨(some 5),(.p (.mov (.tmp 9))),none⟩])
 (.seq (.seq (.region [⟨(some 10),(.p (.mov (.tmp 5))),none⟩,⟨(some 11),(.p (.eq .ptr false (.tmp 10) (.val (.nilptr)))),none⟩])
 (.cond (.tmp 11) (.seq (.region [⟨(some 4),(.p (.mov (.val (.bool false)))),none⟩])
 (.ret))
 (.skip)))
 (.seq (.region [⟨(some 12),(.p (.mov (.tmp 5))),none⟩,⟨(some 13),(.p (.nilchk (.tmp 12))),none⟩,⟨(some 14),(.p (.faddr 1 (.tmp 13))),none⟩,⟨none,(.e (.store 1 (.tmp 14) (.val (.int .i64 (.ofNat 3))))),none⟩])
 (.seq (.region [⟨(some 4),(.p (.mov (.val (.bool true)))),none⟩])
 (.ret))))),[.tmp 4]⟩
theorem v76 : IsFun Tryz.prog 76 m76 := ⟨_, Tryz.func76, by kernel_rfl, by kernel_rfl⟩
def m77 : Fun := ⟨26,2,.seq (.region [⟨(some 4),(.p (.mov (.val (.bool false)))),none⟩])
 (.seq (.seq (.region [⟨(some 6),(.p (.mov (.tmp 0))),none⟩,⟨(some 7),(.p (.lenb (.tmp 6))),none⟩,⟨(some 8),(.p (.mov (.tmp 1))),none⟩,⟨(some 9),(.p (.lenb (.tmp 8))),none⟩,⟨(some 10),(.p (.bin .neq (.tmp 7) (.tmp 9))),none⟩])
 (.cond (.tmp 10) (.seq (.region [⟨(some 4),(.p (.mov (.val (.bool false)))),none⟩])
 (.ret))
 (.skip)))
 (.seq (.seq (.region [⟨(some 5),(.p (.mov (.val (.int .i64 (.ofNat 0))))),none⟩])
 (.block 0 (.loop (.seq (.seq (.region [⟨(some 11),(.p (.mov (.tmp 5))),none⟩,⟨(some 12),(.p (.mov (.tmp 0))),none⟩,⟨(some 13),(.p (.lenb (.tmp 12))),none⟩,⟨(some 14),(.p (.bin .lss (.tmp 11) (.tmp 13))),none⟩])
 (.cond (.tmp 14) (.skip)
 (.exit 0)))
 (.seq (.block 1 (.seq (.dregion [⟨⟨(some 17),(.p (.mov (.tmp 0))),none⟩,0,9⟩,⟨⟨(some 18),(.p (.mov (.tmp 5))),none⟩,0,9⟩,⟨⟨(some 19),(.p (.iaddr 1 (.tmp 17) (.tmp 18))),none⟩,0,9⟩,⟨⟨(some 20),(.load1 (.tmp 19)),none⟩,0,9⟩,⟨⟨(some 21),(.p (.mov (.tmp 1))),none⟩,0,9⟩,⟨⟨(some 22),(.p (.mov (.tmp 5))),none⟩,0,9⟩,⟨⟨(some 23),(.p (.iaddr 1 (.tmp 21) (.tmp 22))),none⟩,0,9⟩,⟨⟨(some 24),(.load1 (.tmp 23)),none⟩,0,9⟩,⟨⟨(some 25),(.p (.bin .neq (.tmp 20) (.tmp 24))),none⟩,0,9⟩])
 (.cond (.tmp 25) (.seq (.region [⟨(some 4),(.p (.mov (.val (.bool false)))),none⟩])
 (.ret))
 (.skip))))
 (.region [⟨(some 15),(.p (.mov (.tmp 5))),none⟩,⟨(some 16),(.p (.bin .add (.tmp 15) (.val (.int .i64 (.ofNat 1))))),none⟩,⟨(some 5),(.p (.mov (.tmp 16))),none⟩]))))))
 (.seq (.region [⟨(some 4),(.p (.mov (.val (.bool true)))),none⟩])
 (.ret)))),[.tmp 4]⟩
theorem v77 : IsFun Tryz.prog 77 m77 := ⟨_, Tryz.func77, by kernel_rfl, by kernel_rfl⟩
def m78 : Fun := ⟨62,2,.seq (.region [⟨(some 2),(.a (.box (.tmp 0))),none⟩,⟨(some 4),(.a (.new [.bool false,.int .i64 (.ofNat 0),.int .i64 (.ofNat 0),.nilslice])),none⟩])
 (.seq (.seq (.region [⟨(some 6),(.p (.faddr 2 (.tmp 2))),none⟩,⟨(some 7),(.load1 (.tmp 6)),none⟩,⟨(some 8),(.p (.mov (.tmp 7))),none⟩,⟨(some 9),(.p (.mov (.tmp 1))),(some (8,true))⟩,⟨(some 10),(.p (.bin .and (.tmp 9) (.val (.int .i64 (.ofNat 7))))),(some (8,true))⟩,⟨(some 11),(.p (.bin .eql (.tmp 10) (.val (.int .i64 (.ofNat 0))))),(some (8,true))⟩,⟨(some 12),(.p (.pick (.tmp 8) (.tmp 11) (.val (.bool false)))),none⟩])
 (.cond (.tmp 12) (.seq (.region [⟨(some 13),(.p (.faddr 1 (.tmp 2))),none⟩,⟨(some 14),(.load1 (.tmp 13)),none⟩,⟨(some 15),(.p (.build [.bool false,.int .i64 (.ofNat 0),.int .i64 (.ofNat 0),.nilslice] [(1,1,(.tmp 14)),(0,1,(.val (.bool true)))])),none⟩,⟨none,(.e (.store 4 (.tmp 4) (.tmp 15))),none⟩])
 (.ret))
 (.skip)))
 (.seq (.region [⟨(some 16),(.p (.faddr 1 (.tmp 2))),none⟩,⟨(some 17),(.load1 (.tmp 16)),none⟩,⟨(some 18),(.p (.build [.bool false,.int .i64 (.ofNat 0),.int .i64 (.ofNat 0),.nilslice] [(1,1,(.tmp 17))])),none⟩,⟨(some 5),(.a (.new [.bool false,.int .i64 (.ofNat 0),.int .i64 (.ofNat 0),.nilslice])),none⟩,⟨none,(.e (.store 4 (.tmp 5) (.tmp 18))),none⟩])
 (.seq (.seq (.region [⟨(some 19),(.p (.faddr 1 (.tmp 2))),none⟩,⟨(some 20),(.load1 (.tmp 19)),none⟩,⟨(some 21),(.p (.bin .eql (.tmp 20) (.val (.int .i64 (.ofNat 1))))),none⟩])
 (.cond (.tmp 21) (.seq (.region [⟨(some 22),(.p (.mov (.tmp 1))),none⟩,⟨(some 23),(.p (.bin .shr (.tmp 22) (.val (.int .u64 (.ofNat 3))))),none⟩,⟨(some 24),(.p (.bin .and (.tmp 23) (.val (.int .i64 (.ofNat 7))))),none⟩,⟨(some 25),(.p (.faddr 2 (.tmp 5))),none⟩,⟨none,(.e (.store 1 (.tmp 25) (.tmp 24))),none⟩])
 (.seq (.seq (.region [⟨(some 26),(.p (.mov (.tmp 1))),none⟩,⟨(some 27),(.p (.bin .shr (.tmp 26) (.val (.int .u64 (.ofNat 6))))),none⟩,⟨(some 28),(.p (.bin .and (.tmp 27) (.val (.int .i64 (.ofNat 15))))),none⟩])
 (.block 0 (.seq (.region [⟨(some 30),(.p (.bin .eql (.tmp 28) (.val (.int .i64 (.ofNat 0))))),none⟩,⟨(some 29),(.p (.mov (.tmp 30))),none⟩])
 (.cond (.tmp 29) (.region [⟨(some 31),(.p (.mov (.tmp 1))),none⟩,⟨(some 32),(.p (.bin .mul (.tmp 31) (.val (.int .i64 (.ofNat 712544676207699905))))),none⟩,⟨(some 33),(.p (.faddr 2 (.tmp 5))),none⟩,⟨none,(.e (.store 1 (.tmp 33) (.tmp 32))),none⟩])
 (.seq (.region [⟨(some 35),(.p (.bin .eql (.tmp 28) (.val (.int .i64 (.ofNat 1))))),none⟩,⟨(some 34),(.p (.mov (.tmp 35))),none⟩])
 (.cond (.tmp 34) (.region [⟨(some 36),(.p (.faddr 2 (.tmp 5))),none⟩,⟨(some 37),(.load1 (.tmp 36)),none⟩,⟨(some 38),(.p (.neg (.tmp 37))),none⟩,⟨(some 39),(.p (.faddr 2 (.tmp 5))),none⟩,⟨none,(.e (.store 1 (.tmp 39) (.tmp 38))),none⟩])
 (.seq (.region [⟨(some 41),(.p (.bin .eql (.tmp 28) (.val (.int .i64 (.ofNat 2))))),none⟩,⟨(some 40),(.p (.mov (.tmp 41))),none⟩])
 (.cond (.tmp 40) (.region [⟨(some 42),(.p (.faddr 2 (.tmp 5))),none⟩,⟨(some 43),(.load1 (.tmp 42)),none⟩,⟨(some 44),(.p (.bin .sub (.val (.int .i64 (.ofNat 9223372036854775807))) (.tmp 43))),none⟩,⟨(some 45),(.p (.faddr 2 (.tmp 5))),none⟩,⟨none,(.e (.store 1 (.tmp 45) (.tmp 44))),none⟩])
 (.skip)))))))))
 (.seq (.region [⟨(some 46),(.loadn 4 (.tmp 5)),none⟩,⟨none,(.e (.store 4 (.tmp 4) (.tmp 46))),none⟩])
 (.ret))))
 (.skip)))
 (.seq (.region [⟨(some 47),(.a (.bslice [.int .u8 (.ofNat 0),.int .u8 (.ofNat 0),.int .u8 (.ofNat 0),.int .u8 (.ofNat 0),.int .u8 (.ofNat 0),.int .u8 (.ofNat 0),.int .u8 (.ofNat 0),.int .u8 (.ofNat 0)] 1 8 [(0,1,(.val (.int .u8 (.ofNat 97)))),(1,1,(.val (.int .u8 (.ofNat 98)))),(2,1,(.val (.int .u8 (.ofNat 99)))),(3,1,(.val (.int .u8 (.ofNat 97)))),(4,1,(.val (.int .u8 (.ofNat 98)))),(5,1,(.val (.int .u8 (.ofNat 99)))),(6,1,(.val (.int .u8 (.ofNat 97)))),(7,1,(.val (.int .u8 (.ofNat 98))))])),none⟩,⟨(some 48),(.e (.mark (.tmp 47))),none⟩,⟨(some 49),(.p (.mov (.tmp 1))),none⟩,⟨(some 50),(.p (.bin .shr (.tmp 49) (.val (.int .u64 (.ofNat 3))))),none⟩,⟨(some 51),(.p (.bin .and (.tmp 50) (.val (.int .i64 (.ofNat 3))))),none⟩,⟨(some 52),(.p (.mov (.tmp 1))),none⟩,⟨(some 53),(.p (.bin .shr (.tmp 52) (.val (.int .u64 (.ofNat 3))))),none⟩,⟨(some 54),(.p (.bin .and (.tmp 53) (.val (.int .i64 (.ofNat 3))))),none⟩,⟨(some 55),(.p (.mov (.tmp 1))),none⟩,⟨(some 56),(.p (.bin .shr (.tmp 55) (.val (.int .u64 (.ofNat 5))))),none⟩,⟨(some 57),(.p (.bin .and (.tmp 56) (.val (.int .i64 (.ofNat 3))))),none⟩,⟨(some 58),(.p (.bin .add (.tmp 54) (.tmp 57))),none⟩,⟨(some 59),(.p (.slc 1 (.tmp 48) (some (.tmp 51)) (some (.tmp 58)) none)),none⟩,⟨(some 60),(.p (.faddr 3 (.tmp 5))),none⟩,⟨none,(.e (.store 1 (.tmp 60) (.tmp 59))),none⟩])
 (.seq (.region [⟨(some 61),(.loadn 4 (.tmp 5)),none⟩,⟨none,(.e (.store 4 (.tmp 4) (.tmp 61))),none⟩])
 (.ret)))))),[.celln 4 4]⟩
theorem v78 : IsFun Tryz.prog 78 m78 := ⟨_, Tryz.func78, by kernel_rfl, by kernel_rfl⟩
def m79 : Fun := ⟨41,1,.seq (.region [⟨(some 1),(.a (.box (.tmp 0))),none⟩,⟨(some 2),(.a (.new [.int .i64 (.ofNat 0),.nilslice,.int .i64 (.ofNat 0),.int .i64 (.ofNat 0),.int .i64 (.ofNat 0),.bool false,.int .i64 (.ofNat 0),.int .i64 (.ofNat 0),.nilslice,.nilslice,.nilslice,.nilslice,.int .i64 (.ofNat 0),.nilslice])),none⟩])
 (.seq (.dregion [⟨⟨(some 6),(.p (.faddr 1 (.tmp 1))),none⟩,0,2⟩,⟨⟨(some 7),(.load1 (.tmp 6)),none⟩,0,2⟩,⟨⟨(some 8),(.e (.call 88 [(.tmp 7)])),none⟩,0,5⟩,⟨⟨(some 9),(.p (.faddr 2 (.tmp 1))),none⟩,0,5⟩,⟨⟨(some 10),(.loadn 8 (.tmp 9)),none⟩,0,5⟩,⟨⟨(some 11),(.e (.call 136 [(.tmp 10)])),none⟩,3,7⟩,⟨⟨(some 12),(.p (.faddr 1 (.tmp 1))),none⟩,3,7⟩,⟨⟨none,(.e (.store 1 (.tmp 12) (.tmp 8))),none⟩,6,9⟩,⟨⟨(some 13),(.p (.faddr 2 (.tmp 1))),none⟩,8,9⟩,⟨⟨none,(.e (.store 8 (.tmp 13) (.tmp 11))),none⟩,8,10⟩])
 (.seq (.dregion [⟨⟨(some 14),(.p (.faddr 11 (.tmp 1))),none⟩,0,2⟩,⟨⟨(some 15),(.load1 (.tmp 14)),none⟩,0,2⟩,⟨⟨(some 16),(.e (.call 90 [(.tmp 15)])),none⟩,0,5⟩,⟨⟨(some 17),(.p (.faddr 13 (.tmp 1))),none⟩,0,5⟩,⟨⟨(some 18),(.load1 (.tmp 17)),none⟩,0,5⟩,⟨⟨(some 19),(.e (.call 137 [(.tmp 18)])),none⟩,3,7⟩,⟨⟨(some 20),(.p (.faddr 11 (.tmp 1))),none⟩,3,7⟩,⟨⟨none,(.e (.store 1 (.tmp 20) (.tmp 16))),none⟩,6,9⟩,⟨⟨(some 21),(.p (.faddr 13 (.tmp 1))),none⟩,8,9⟩,⟨⟨none,(.e (.store 1 (.tmp 21) (.tmp 19))),none⟩,8,10⟩])
 (.seq (.region [⟨(some 3),(.p (.mov (.val (.nilslice)))),none⟩])
 (.seq (.seq (.region [⟨(some 22),(.p (.faddr 10 (.tmp 1))),none⟩,⟨(some 23),(.load1 (.tmp 22)),none⟩,⟨(some 24),(.p (.lenb (.tmp 23))),none⟩,⟨(some 25),(.p (.mov (.val (.int .i64 (.ofNat 0))))),none⟩])
 (.block 0 (.loop (.seq (.region [⟨(some 26),(.p (.bin .lss (.tmp 25) (.tmp 24))),none⟩])
 (.seq (.cond (.tmp 26) (.skip)
 (.exit 0))
 (.seq (.block 1 (.seq (.region [⟨(some 27),(.p (.iaddr 6 (.tmp 23) (.tmp 25))),none⟩,⟨(some 28),(.loadn 6 (.tmp 27)),none⟩,⟨(some 5),(.a (.new [.int .i64 (.ofNat 0),.bool false,.bool false,.int .i64 (.ofNat 0),.int .i64 (.ofNat 0),.nilslice])),none⟩,⟨none,(.e (.store 6 (.tmp 5) (.tmp 28))),none⟩])
 (.seq (.region [⟨(some 29),(.p (.faddr 2 (.tmp 5))),none⟩,⟨(some 30),(.loadn 4 (.tmp 29)),none⟩,⟨(some 31),(.e (.call 138 [(.tmp 30)])),none⟩,⟨(some 32),(.p (.faddr 2 (.tmp 5))),none⟩,⟨none,(.e (.store 4 (.tmp 32) (.tmp 31))),none⟩])
 (.region [⟨(some 33),(.p (.mov (.tmp 3))),none⟩,⟨(some 34),(.loadn 6 (.tmp 5)),none⟩,⟨(some 35),(.a (.bslice [.int .i64 (.ofNat 0),.bool false,.bool false,.int .i64 (.ofNat 0),.int .i64 (.ofNat 0),.nilslice] 6 1 [(0,6,(.tmp 34))])),none⟩,⟨(some 36),(.e (.append 6 64 (.tmp 33) (.tmp 35))),none⟩,⟨(some 3),(.p (.mov (.tmp 36))),none⟩]))))
 (.region [⟨(some 37),(.p (.bin .add (.tmp 25) (.val (.int .i64 (.ofNat 1))))),none⟩,⟨(some 25),(.p (.mov (.tmp 37))),none⟩])))))))
 (.seq (.region [⟨(some 38),(.p (.mov (.tmp 3))),none⟩,⟨(some 39),(.p (.faddr 10 (.tmp 1))),none⟩,⟨none,(.e (.store 1 (.tmp 39) (.tmp 38))),none⟩])
 (.seq (.region [⟨(some 40),(.loadn 14 (.tmp 1)),none⟩,⟨none,(.e (.store 14 (.tmp 2) (.tmp 40))),none⟩])
 (.ret))))))),[.celln 14 2]⟩
theorem v79 : IsFun Tryz.prog 79 m79 := ⟨_, Tryz.func79, by kernel_rfl, by kernel_rfl⟩
def m80 : Fun := ⟨16,2,.seq (.region [⟨(some 2),(.a (.box (.tmp 0))),none⟩,⟨(some 4),(.a (.new [.int .i64 (.ofNat 0),.int .i64 (.ofNat 0),.int .i64 (.ofNat 0),.int .i64 (.ofNat 0)])),none⟩])
 (.seq (.region [⟨(some 6),(.p (.mov (.tmp 1))),none⟩,⟨(some 7),(.p (.mkfunc 140 [] [(.tmp 2)])),none⟩,⟨(some 8),(.e (.call 139 [(.tmp 6),(.tmp 7)])),none⟩,⟨(some 5),(.p (.mov (.tmp 8))),none⟩])
 (.seq (.seq (.region [⟨(some 9),(.p (.mov (.tmp 5))),none⟩,⟨(some 10),(.p (.bin .lss (.tmp 9) (.val (.int .i64 (.ofNat 0))))),none⟩])
 (.cond (.tmp 10) (.seq (.region [⟨(some 11),(.p (.build [.int .i64 (.ofNat 0),.int .i64 (.ofNat 0),.int .i64 (.ofNat 0),.int .i64 (.ofNat 0)] [])),none⟩,⟨none,(.e (.store 4 (.tmp 4) (.tmp 11))),none⟩])
 (.ret))
 (.skip)))
 (.seq (.region [⟨(some 12),(.p (.mov (.tmp 1))),none⟩,⟨(some 13),(.p (.mov (.tmp 5))),none⟩,⟨(some 14),(.p (.iaddr 4 (.tmp 12) (.tmp 13))),none⟩,⟨(some 15),(.loadn 4 (.tmp 14)),none⟩,⟨none,(.e (.store 4 (.tmp 4) (.tmp 15))),none⟩])
 (.ret)))),[.celln 4 4]⟩
theorem v80 : IsFun Tryz.prog 80 m80 := ⟨_, Tryz.func80, by kernel_rfl, by kernel_rfl⟩
def m81 : Fun := ⟨9,1,.seq (.region [⟨(some 2),(.p (.mov (.val (.nilslice)))),none⟩])
 (.seq (.region [⟨(some 3),(.p (.mov (.tmp 0))),none⟩,⟨(some 4),(.p (.nilchk (.tmp 3))),none⟩,⟨(some 5),(.p (.faddr 1 (.tmp 4))),none⟩,⟨(some 6),(.load1 (.tmp 5)),none⟩,⟨(some 7),(.e (.call 142 [(.tmp 6)])),none⟩,⟨(some 8),(.e (.call 141 [(.tmp 7)])),none⟩,⟨(some 2),(.p (.mov (.tmp 8))),none⟩])
 (.ret)),[.tmp 2]⟩
theorem v81 : IsFun Tryz.prog 81 m81 := ⟨_, Tryz.func81, by kernel_rfl, by kernel_rfl⟩
def m82 : Fun := ⟨20,3,.seq (.region [⟨(some 6),(.p (.mov (.val (.int .i64 (.ofNat 0))))),none⟩])
 (.seq (.seq (.region [⟨(some 7),(.p (.mov (.tmp 0))),none⟩,⟨(some 8),(.p (.nilchk (.tmp 7))),none⟩,⟨(some 9),(.p (.faddr 4 (.tmp 8))),none⟩,⟨(some 10),(.load1 (.tmp 9)),none⟩,⟨(some 11),(.p (.mov (.tmp 2))),none⟩,⟨(some 12),(.p (.bin .geq (.tmp 10) (.tmp 11))),none⟩])
 (.cond (.tmp 12) (.region [⟨(some 13),(.p (.mov (.tmp 0))),none⟩,⟨(some 14),(.p (.mov (.tmp 0))),none⟩,⟨(some 15),(.p (.mov (.tmp 1))),none⟩,⟨(some 16),(.p (.nilchk (.tmp 13))),none⟩,⟨(some 17),(.p (.faddr 3 (.tmp 16))),none⟩,⟨none,(.e (.store 1 (.tmp 17) (.tmp 15))),none⟩,⟨(some 18),(.p (.nilchk (.tmp 14))),none⟩,⟨(some 19),(.p (.faddr 4 (.tmp 18))),none⟩,⟨none,(.e (.store 1 (.tmp 19) (.val (.int .i64 (.ofNat 0))))),none⟩])
 (.skip)))
 (.seq (.region [⟨(some 6),(.p (.mov (.val (.int .i64 (.ofNat 1))))),none⟩])
 (.ret))),[.tmp 6]⟩
theorem v82 : IsFun Tryz.prog 82 m82 := ⟨_, Tryz.func82, by kernel_rfl, by kernel_rfl⟩
def m83 : Fun := ⟨47,1,.seq (.region [⟨(some 2),(.p (.mov (.val (.int .i64 (.ofNat 0))))),none⟩])
 (.seq (.dregion [⟨⟨(some 4),(.p (.mov (.tmp 0))),none⟩,0,11⟩,⟨⟨(some 5),(.p (.mov (.tmp 0))),none⟩,0,11⟩,⟨⟨(some 6),(.p (.nilchk (.tmp 5))),none⟩,0,11⟩,⟨⟨(some 7),(.p (.faddr 2 (.tmp 6))),none⟩,0,11⟩,⟨⟨(some 8),(.load1 (.tmp 7)),none⟩,0,11⟩,⟨⟨(some 9),(.p (.mov (.tmp 0))),none⟩,0,11⟩,⟨⟨(some 10),(.p (.nilchk (.tmp 9))),none⟩,0,11⟩,⟨⟨(some 11),(.p (.faddr 4 (.tmp 10))),none⟩,0,11⟩,⟨⟨(some 12),(.load1 (.tmp 11)),none⟩,0,11⟩,⟨⟨(some 13),(.p (.iaddr 14 (.tmp 8) (.tmp 12))),none⟩,0,11⟩,⟨⟨(some 14),(.loadn 14 (.tmp 13)),none⟩,0,11⟩,⟨⟨(some 15),(.e (.call 143 [(.tmp 4),(.tmp 14)])),none⟩,0,13⟩,⟨⟨(some 3),(.a (.new [.int .i64 (.ofNat 0),.int .i64 (.ofNat 0),.nilslice])),none⟩,0,13⟩,⟨⟨none,(.e (.store 3 (.tmp 3) (.tmp 15))),none⟩,12,14⟩])
 (.seq (.dregion [⟨⟨(some 17),(.p (.mov (.tmp 0))),none⟩,0,6⟩,⟨⟨(some 18),(.p (.nilchk (.tmp 17))),none⟩,0,6⟩,⟨⟨(some 19),(.p (.faddr 8 (.tmp 18))),none⟩,0,6⟩,⟨⟨(some 20),(.load1 (.tmp 19)),none⟩,0,6⟩,⟨⟨(some 21),(.loadn 3 (.tmp 3)),none⟩,0,6⟩,⟨⟨(some 22),(.a (.bslice [.int .i64 (.ofNat 0),.int .i64 (.ofNat 0),.nilslice] 3 1 [(0,3,(.tmp 21))])),none⟩,0,6⟩,⟨⟨(some 23),(.e (.append 3 40 (.tmp 20) (.tmp 22))),none⟩,0,10⟩,⟨⟨(some 16),(.p (.mov (.tmp 0))),none⟩,0,10⟩,⟨⟨(some 24),(.p (.nilchk (.tmp 16))),none⟩,7,10⟩,⟨⟨(some 25),(.p (.faddr 8 (.tmp 24))),none⟩,7,10⟩,⟨⟨none,(.e (.store 1 (.tmp 25) (.tmp 23))),none⟩,7,11⟩])
 (.seq (.seq (.region [⟨(some 26),(.p (.faddr 0 (.tmp 3))),none⟩,⟨(some 27),(.load1 (.tmp 26)),none⟩,⟨(some 28),(.p (.bin .neq (.tmp 27) (.val (.int .i64 (.ofNat 0))))),none⟩])
 (.cond (.tmp 28) (.seq (.region [⟨(some 29),(.p (.mov (.tmp 0))),none⟩,⟨(some 30),(.p (.faddr 0 (.tmp 3))),none⟩,⟨(some 31),(.load1 (.tmp 30)),none⟩,⟨(some 32),(.e (.call 144 [(.tmp 29),(.tmp 31)])),none⟩,⟨(some 2),(.p (.mov (.tmp 32))),none⟩])
 (.ret))
 (.skip)))
 (.seq (.region [⟨(some 33),(.p (.mov (.tmp 0))),none⟩,⟨(some 34),(.p (.nilchk (.tmp 33))),none⟩,⟨(some 35),(.p (.faddr 4 (.tmp 34))),none⟩,⟨(some 36),(.load1 (.tmp 35)),none⟩,⟨(some 37),(.p (.bin .add (.tmp 36) (.val (.int .i64 (.ofNat 1))))),none⟩,⟨(some 38),(.p (.nilchk (.tmp 33))),none⟩,⟨(some 39),(.p (.faddr 4 (.tmp 38))),none⟩,⟨none,(.e (.store 1 (.tmp 39) (.tmp 37))),none⟩])
 (.seq (.region [⟨(some 40),(.p (.mov (.tmp 0))),none⟩,⟨(some 41),(.p (.mov (.tmp 0))),none⟩,⟨(some 42),(.p (.nilchk (.tmp 41))),none⟩,⟨(some 43),(.p (.faddr 2 (.tmp 42))),none⟩,⟨(some 44),(.load1 (.tmp 43)),none⟩,⟨(some 45),(.p (.lenb (.tmp 44))),none⟩,⟨(some 46),(.e (.call 82 [(.tmp 40),(.val (.int .i64 (.ofNat 2))),(.tmp 45)])),none⟩,⟨(some 2),(.p (.mov (.tmp 46))),none⟩])
 (.ret)))))),[.tmp 2]⟩
theorem v83 : IsFun Tryz.prog 83 m83 := ⟨_, Tryz.func83, by kernel_rfl, by kernel_rfl⟩
def m84 : Fun := ⟨67,1,.seq (.region [⟨(some 2),(.p (.mov (.val (.int .i64 (.ofNat 0))))),none⟩])
 (.seq (.dregion [⟨⟨(some 6),(.p (.mov (.tmp 0))),none⟩,0,11⟩,⟨⟨(some 7),(.p (.nilchk (.tmp 6))),none⟩,0,11⟩,⟨⟨(some 8),(.p (.faddr 9 (.tmp 7))),none⟩,0,11⟩,⟨⟨(some 9),(.load1 (.tmp 8)),none⟩,0,11⟩,⟨⟨(some 10),(.p (.mov (.tmp 0))),none⟩,0,11⟩,⟨⟨(some 11),(.p (.nilchk (.tmp 10))),none⟩,0,11⟩,⟨⟨(some 12),(.p (.faddr 4 (.tmp 11))),none⟩,0,11⟩,⟨⟨(some 13),(.load1 (.tmp 12)),none⟩,0,11⟩,⟨⟨(some 14),(.p (.iaddr 9 (.tmp 9) (.tmp 13))),none⟩,0,11⟩,⟨⟨(some 15),(.loadn 9 (.tmp 14)),none⟩,0,11⟩,⟨⟨(some 3),(.a (.new [.int .i64 (.ofNat 0),.int .i64 (.ofNat 0),.int .i64 (.ofNat 0),.bool false,.int .i64 (.ofNat 0),.int .i64 (.ofNat 0),.nilslice,.nilslice,.nilslice])),none⟩,0,11⟩,⟨⟨none,(.e (.store 9 (.tmp 3) (.tmp 15))),none⟩,0,12⟩])
 (.seq (.dregion [⟨⟨(some 17),(.p (.mov (.tmp 0))),none⟩,0,18⟩,⟨⟨(some 18),(.p (.nilchk (.tmp 17))),none⟩,0,18⟩,⟨⟨(some 19),(.p (.faddr 0 (.tmp 18))),none⟩,0,18⟩,⟨⟨(some 20),(.load1 (.tmp 19)),none⟩,0,18⟩,⟨⟨(some 21),(.p (.mov (.tmp 0))),none⟩,0,18⟩,⟨⟨(some 22),(.p (.nilchk (.tmp 21))),none⟩,0,18⟩,⟨⟨(some 23),(.p (.faddr 1 (.tmp 22))),none⟩,0,18⟩,⟨⟨(some 24),(.load1 (.tmp 23)),none⟩,0,18⟩,⟨⟨(some 25),(.p (.mov (.tmp 0))),none⟩,0,18⟩,⟨⟨(some 26),(.p (.nilchk (.tmp 25))),none⟩,0,18⟩,⟨⟨(some 27),(.p (.faddr 5 (.tmp 26))),none⟩,0,18⟩,⟨⟨(some 28),(.load1 (.tmp 27)),none⟩,0,18⟩,⟨⟨(some 29),(.p (.mov (.tmp 0))),none⟩,0,18⟩,⟨⟨(some 30),(.p (.nilchk (.tmp 29))),none⟩,0,18⟩,⟨⟨(some 31),(.p (.faddr 7 (.tmp 30))),none⟩,0,18⟩,⟨⟨(some 32),(.load1 (.tmp 31)),none⟩,0,18⟩,⟨⟨(some 33),(.p (.faddr 0 (.tmp 3))),none⟩,0,18⟩,⟨⟨(some 34),(.loadn 8 (.tmp 33)),none⟩,0,18⟩,⟨⟨(some 35),(.e (.call 145 [(.tmp 20),(.tmp 24),(.tmp 28),(.tmp 32),(.tmp 34)])),none⟩,0,24⟩,⟨⟨(some 16),(.p (.mov (.tmp 35))),none⟩,19,24⟩,⟨⟨(some 36),(.p (.ext (.tmp 16) 0)),none⟩,19,24⟩,⟨⟨(some 37),(.p (.ext (.tmp 16) 1)),none⟩,19,24⟩,⟨⟨(some 4),(.p (.mov (.tmp 36))),none⟩,19,24⟩,⟨⟨(some 5),(.p (.mov (.tmp 37))),none⟩,19,24⟩])
 (.seq (.block 0 (.seq (.region [⟨(some 39),(.p (.mov (.tmp 4))),none⟩,⟨(some 40),(.p (.faddr 8 (.tmp 3))),none⟩,⟨(some 41),(.load1 (.tmp 40)),none⟩,⟨(some 42),(.e (.call 146 [(.tmp 39),(.tmp 41)])),none⟩,⟨(some 43),(.p (.not (.tmp 42))),none⟩,⟨(some 38),(.p (.mov (.tmp 43))),none⟩])
 (.cond (.tmp 38) (.seq (.region [⟨(some 44),(.p (.mov (.tmp 0))),none⟩,⟨(some 45),(.e (.call 144 [(.tmp 44),(.val (.int .i64 (.ofNat 6)))])),none⟩,⟨(some 2),(.p (.mov (.tmp 45))),none⟩])
 (.ret))
 (.seq (.region [⟨(some 47),(.p (.mov (.tmp 0))),none⟩,⟨(some 48),(.p (.mov (.tmp 5))),none⟩,⟨(some 49),(.e (.call 147 [(.tmp 47),(.tmp 48)])),none⟩,⟨(some 50),(.p (.not (.tmp 49))),none⟩,⟨(some 46),(.p (.mov (.tmp 50))),none⟩])
 (.cond (.tmp 46) (.seq (.region [⟨(some 51),(.p (.mov (.tmp 0))),none⟩,⟨(some 52),(.e (.call 144 [(.tmp 51),(.val (.int .i64 (.ofNat 8)))])),none⟩,⟨(some 2),(.p (.mov (.tmp 52))),none⟩])
 (.ret))
 (.skip))))))
 (.seq (.region [⟨(some 53),(.p (.mov (.tmp 0))),none⟩,⟨(some 54),(.p (.nilchk (.tmp 53))),none⟩,⟨(some 55),(.p (.faddr 4 (.tmp 54))),none⟩,⟨(some 56),(.load1 (.tmp 55)),none⟩,⟨(some 57),(.p (.bin .add (.tmp 56) (.val (.int .i64 (.ofNat 1))))),none⟩,⟨(some 58),(.p (.nilchk (.tmp 53))),none⟩,⟨(some 59),(.p (.faddr 4 (.tmp 58))),none⟩,⟨none,(.e (.store 1 (.tmp 59) (.tmp 57))),none⟩])
 (.seq (.region [⟨(some 60),(.p (.mov (.tmp 0))),none⟩,⟨(some 61),(.p (.mov (.tmp 0))),none⟩,⟨(some 62),(.p (.nilchk (.tmp 61))),none⟩,⟨(some 63),(.p (.faddr 9 (.tmp 62))),none⟩,⟨(some 64),(.load1 (.tmp 63)),none⟩,⟨(some 65),(.p (.lenb (.tmp 64))),none⟩,⟨(some 66),(.e (.call 82 [(.tmp 60),(.val (.int .i64 (.ofNat 4))),(.tmp 65)])),none⟩,⟨(some 2),(.p (.mov (.tmp 66))),none⟩])
 (.ret)))))),[.tmp 2]⟩
theorem v84 : IsFun Tryz.prog 84 m84 := ⟨_, Tryz.func84, by kernel_rfl, by kernel_rfl⟩
def m85 : Fun := ⟨36,1,.seq (.region [⟨(some 2),(.p (.mov (.val (.int .i64 (.ofNat 0))))),none⟩])
 (.seq (.region [⟨(some 7),(.p (.mov (.tmp 0))),none⟩,⟨(some 8),(.p (.nilchk (.tmp 7))),none⟩,⟨(some 9),(.p (.faddr 1 (.tmp 8))),none⟩,⟨(some 10),(.load1 (.tmp 9)),none⟩,⟨(some 11),(.e (.call 81 [(.tmp 10)])),none⟩,⟨(some 3),(.p (.mov (.tmp 11))),none⟩])
 (.seq (.region [⟨(some 4),(.p (.mov (.val (.bool false)))),none⟩])
 (.seq (.seq (.region [⟨(some 12),(.p (.mov (.tmp 0))),none⟩,⟨(some 13),(.p (.nilchk (.tmp 12))),none⟩,⟨(some 14),(.p (.faddr 10 (.tmp 13))),none⟩,⟨(some 15),(.load1 (.tmp 14)),none⟩,⟨(some 16),(.p (.lenb (.tmp 15))),none⟩,⟨(some 17),(.p (.mov (.val (.int .i64 (.ofNat 0))))),none⟩])
 (.block 0 (.loop (.seq (.region [⟨(some 18),(.p (.bin .lss (.tmp 17) (.tmp 16))),none⟩])
 (.seq (.cond (.tmp 18) (.skip)
 (.exit 0))
 (.seq (.block 1 (.seq (.region [⟨(some 19),(.p (.iaddr 1 (.tmp 15) (.tmp 17))),none⟩,⟨(some 20),(.load1 (.tmp 19)),none⟩,⟨(some 6),(.p (.mov (.tmp 20))),none⟩])
 (.seq (.region [⟨(some 21),(.p (.mov (.tmp 6))),none⟩,⟨(some 22),(.p (.mov (.tmp 3))),none⟩,⟨(some 23),(.e (.call 80 [(.tmp 21),(.tmp 22)])),none⟩,⟨(some 24),(.p (.field1 1 (.tmp 23))),none⟩])
 (.block 2 (.seq (.region [⟨(some 26),(.p (.bin .eql (.tmp 24) (.val (.int .i64 (.ofNat 4))))),none⟩,⟨(some 25),(.p (.mov (.tmp 26))),none⟩])
 (.cond (.tmp 25) (.seq (.region [⟨(some 27),(.p (.mov (.tmp 0))),none⟩,⟨(some 28),(.e (.call 144 [(.tmp 27),(.val (.int .i64 (.ofNat 7)))])),none⟩,⟨(some 2),(.p (.mov (.tmp 28))),none⟩])
 (.ret))
 (.seq (.seq (.region [⟨(some 30),(.p (.bin .eql (.tmp 24) (.val (.int .i64 (.ofNat 1))))),none⟩,⟨(some 29),(.p (.mov (.tmp 30))),none⟩])
 (.cond (.tmp 29) (.skip)
 (.region [⟨(some 31),(.p (.bin .eql (.tmp 24) (.val (.int .i64 (.ofNat 2))))),none⟩,⟨(some 29),(.p (.mov (.tmp 31))),none⟩])))
 (.cond (.tmp 29) (.region [⟨(some 4),(.p (.mov (.val (.bool true)))),none⟩])
 (.skip)))))))))
 (.region [⟨(some 32),(.p (.bin .add (.tmp 17) (.val (.int .i64 (.ofNat 1))))),none⟩,⟨(some 17),(.p (.mov (.tmp 32))),none⟩])))))))
 (.seq (.seq (.region [⟨(some 33),(.p (.mov (.tmp 4))),none⟩])
 (.cond (.tmp 33) (.seq (.region [⟨(some 2),(.p (.mov (.val (.int .i64 (.ofNat 2))))),none⟩])
 (.ret))
 (.skip)))
 (.seq (.region [⟨(some 34),(.p (.mov (.tmp 0))),none⟩,⟨(some 35),(.e (.call 148 [(.tmp 34)])),none⟩,⟨(some 2),(.p (.mov (.tmp 35))),none⟩])
 (.ret)))))),[.tmp 2]⟩
theorem v85 : IsFun Tryz.prog 85 m85 := ⟨_, Tryz.func85, by kernel_rfl, by kernel_rfl⟩
def m86 : Fun := ⟨5,1,.seq (.region [⟨(some 2),(.a (.new [.bool false,.int .i64 (.ofNat 0),.int .i64 (.ofNat 0),.nilslice])),none⟩])
 (.seq (.region [⟨(some 3),(.p (.mov (.tmp 0))),none⟩,⟨(some 4),(.p (.build [.bool false,.int .i64 (.ofNat 0),.int .i64 (.ofNat 0),.nilslice] [(1,1,(.val (.int .i64 (.ofNat 1)))),(2,1,(.tmp 3))])),none⟩,⟨none,(.e (.store 4 (.tmp 2) (.tmp 4))),none⟩])
 (.ret)),[.celln 4 2]⟩
theorem v86 : IsFun Tryz.prog 86 m86 := ⟨_, Tryz.func86, by kernel_rfl, by kernel_rfl⟩
def m87 : Fun := ⟨8,1,.seq (.region [⟨(some 2),(.p (.mov (.val (.nilslice)))),none⟩])
 (.seq (.seq (.region [⟨(some 3),(.p (.mov (.tmp 0))),none⟩,⟨(some 4),(.p (.eq .slice false (.tmp 3) (.val (.nilslice)))),none⟩])
 (.cond (.tmp 4) (.seq (.region [⟨(some 2),(.p (.mov (.val (.nilslice)))),none⟩])
 (.ret))
 (.skip)))
 (.seq (.region [⟨(some 5),(.a (.bslice [] 3 0 [])),none⟩,⟨(some 6),(.p (.mov (.tmp 0))),none⟩,⟨(some 7),(.e (.append 3 40 (.tmp 5) (.tmp 6))),none⟩,⟨(some 2),(.p (.mov (.tmp 7))),none⟩])
 (.ret))),[.tmp 2]⟩
theorem v87 : IsFun Tryz.prog 87 m87 := ⟨_, Tryz.func87, by kernel_rfl, by kernel_rfl⟩
def m88 : Fun := ⟨20,1,.seq (.region [⟨(some 2),(.p (.mov (.val (.nilslice)))),none⟩])
 (.seq (.region [⟨(some 3),(.p (.mov (.val (.nilslice)))),none⟩])
 (.seq (.seq (.region [⟨(some 6),(.p (.mov (.tmp 0))),none⟩,⟨(some 7),(.p (.lenb (.tmp 6))),none⟩,⟨(some 8),(.p (.mov (.val (.int .i64 (.ofNat 0))))),none⟩])
 (.block 0 (.loop (.seq (.region [⟨(some 9),(.p (.bin .lss (.tmp 8) (.tmp 7))),none⟩])
 (.seq (.cond (.tmp 9) (.skip)
 (.exit 0))
 (.seq (.block 1 (.seq (.region [⟨(some 10),(.p (.iaddr 4 (.tmp 6) (.tmp 8))),none⟩,⟨(some 11),(.loadn 4 (.tmp 10)),none⟩,⟨(some 5),(.a (.new [.bool false,.int .i64 (.ofNat 0),.int .i64 (.ofNat 0),.nilslice])),none⟩,⟨none,(.e (.store 4 (.tmp 5) (.tmp 11))),none⟩])
 (.region [⟨(some 12),(.p (.mov (.tmp 3))),none⟩,⟨(some 13),(.loadn 4 (.tmp 5)),none⟩,⟨(some 14),(.e (.call 138 [(.tmp 13)])),none⟩,⟨(some 15),(.a (.bslice [.bool false,.int .i64 (.ofNat 0),.int .i64 (.ofNat 0),.nilslice] 4 1 [(0,4,(.tmp 14))])),none⟩,⟨(some 16),(.e (.append 4 48 (.tmp 12) (.tmp 15))),none⟩,⟨(some 3),(.p (.mov (.tmp 16))),none⟩])))
 (.region [⟨(some 17),(.p (.bin .add (.tmp 8) (.val (.int .i64 (.ofNat 1))))),none⟩,⟨(some 8),(.p (.mov (.tmp 17))),none⟩])))))))
 (.seq (.region [⟨(some 18),(.p (.mov (.tmp 3))),none⟩,⟨(some 19),(.e (.call 149 [(.tmp 18)])),none⟩,⟨(some 2),(.p (.mov (.tmp 19))),none⟩])
 (.ret)))),[.tmp 2]⟩
theorem v88 : IsFun Tryz.prog 88 m88 := ⟨_, Tryz.func88, by kernel_rfl, by kernel_rfl⟩
def m89 : Fun := ⟨9,1,.seq (.region [⟨(some 2),(.p (.mov (.val (.nilslice)))),none⟩])
 (.seq (.region [⟨(some 3),(.p (.mov (.tmp 0))),none⟩,⟨(some 4),(.p (.mov (.tmp 0))),none⟩,⟨(some 5),(.p (.lenb (.tmp 4))),none⟩,⟨(some 6),(.p (.mov (.tmp 0))),none⟩,⟨(some 7),(.p (.lenb (.tmp 6))),none⟩,⟨(some 8),(.p (.slc 3 (.tmp 3) none (some (.tmp 5)) (some (.tmp 7)))),none⟩,⟨(some 2),(.p (.mov (.tmp 8))),none⟩])
 (.ret)),[.tmp 2]⟩
theorem v89 : IsFun Tryz.prog 89 m89 := ⟨_, Tryz.func89, by kernel_rfl, by kernel_rfl⟩
def m90 : Fun := ⟨8,1,.seq (.region [⟨(some 2),(.p (.mov (.val (.nilslice)))),none⟩])
 (.seq (.seq (.region [⟨(some 3),(.p (.mov (.tmp 0))),none⟩,⟨(some 4),(.p (.eq .slice false (.tmp 3) (.val (.nilslice)))),none⟩])
 (.cond (.tmp 4) (.seq (.region [⟨(some 2),(.p (.mov (.val (.nilslice)))),none⟩])
 (.ret))
 (.skip)))
 (.seq (.region [⟨(some 5),(.a (.bslice [] 1 0 [])),none⟩,⟨(some 6),(.p (.mov (.tmp 0))),none⟩,⟨(some 7),(.e (.append 1 8 (.tmp 5) (.tmp 6))),none⟩,⟨(some 2),(.p (.mov (.tmp 7))),none⟩])
 (.ret))),[.tmp 2]⟩
theorem v90 : IsFun Tryz.prog 90 m90 := ⟨_, Tryz.func90, by kernel_rfl, by kernel_rfl⟩
def m91 : Fun := ⟨24,2,.seq (.region [⟨(some 2),(.a (.box (.tmp 0))),none⟩,⟨(some 3),(.a (.box (.tmp 1))),none⟩,⟨(some 4),(.p (.mov (.val (.nilptr)))),none⟩,⟨(some 5),(.p (.mov (.val (.bool false)))),none⟩])
 (.seq (.region [⟨(some 9),(.loadn 1 (.tmp 2)),none⟩,⟨(some 10),(.p (.faddr 0 (.tmp 3))),none⟩,⟨(some 11),(.load1 (.tmp 10)),none⟩,⟨(some 12),(.p (.faddr 1 (.tmp 3))),none⟩,⟨(some 13),(.load1 (.tmp 12)),none⟩,⟨(some 14),(.e (.call 12 [(.tmp 9),(.tmp 11),(.tmp 13)])),none⟩,⟨(some 8),(.p (.mov (.tmp 14))),none⟩,⟨(some 15),(.p (.ext (.tmp 8) 0)),none⟩,⟨(some 16),(.p (.ext (.tmp 8) 1)),none⟩,⟨(some 6),(.p (.mov (.tmp 15))),none⟩,⟨(some 7),(.p (.mov (.tmp 16))),none⟩])
 (.seq (.seq (.region [⟨(some 17),(.p (.mov (.tmp 7))),none⟩,⟨(some 18),(.p (.not (.tmp 17))),none⟩])
 (.cond (.tmp 18) (.seq (.region [⟨(some 4),(.p (.mov (.val (.nilptr)))),none⟩,⟨(some 5),(.p (.mov (.val (.bool false)))),none⟩])
 (.ret))
 (.skip)))
 (.seq (.dregion [⟨⟨(some 21),(.e (.call 13 [])),none⟩,0,7⟩,⟨⟨(some 19),(.loadn 2 (.tmp 3)),none⟩,0,7⟩,⟨⟨(some 20),(.p (.mov (.tmp 6))),none⟩,0,7⟩,⟨⟨(some 22),(.p (.build [.int .i64 (.ofNat 0),.int .i64 (.ofNat 0),.nilptr,.nilptr,.nilptr,.nilptr,.nilptr,.nilptr,.nilptr,.nilptr,.nilptr,.nilptr,.int .i64 (.ofNat 0),.int .i64 (.ofNat 0),.int .i64 (.ofNat 0),.int .i64 (.ofNat 0),.int .i64 (.ofNat 0),.int .i64 (.ofNat 0),.int .i64 (.ofNat 0),.int .i64 (.ofNat 0),.nilslice] [(0,2,(.tmp 19)),(2,1,(.tmp 20)),(3,1,(.tmp 21))])),none⟩,1,7⟩,⟨⟨(some 23),(.a (.box (.tmp 22))),none⟩,1,7⟩,⟨⟨(some 4),(.p (.mov (.tmp 23))),none⟩,1,7⟩,⟨⟨(some 5),(.p (.mov (.val (.bool true)))),none⟩,1,7⟩])
 (.ret)))),[.tmp 4,.tmp 5]⟩
theorem v91 : IsFun Tryz.prog 91 m91 := ⟨_, Tryz.func91, by kernel_rfl, by kernel_rfl⟩
def m92 : Fun := ⟨7,1,.seq (.region [⟨(some 2),(.p (.mov (.val (.nilptr)))),none⟩])
 (.seq (.region [⟨(some 3),(.p (.mov (.tmp 0))),none⟩,⟨(some 4),(.p (.nilchk (.tmp 3))),none⟩,⟨(some 5),(.p (.faddr 2 (.tmp 4))),none⟩,⟨(some 6),(.load1 (.tmp 5)),none⟩,⟨(some 2),(.p (.mov (.tmp 6))),none⟩])
 (.ret)),[.tmp 2]⟩
theorem v92 : IsFun Tryz.prog 92 m92 := ⟨_, Tryz.func92, by kernel_rfl, by kernel_rfl⟩
def m93 : Fun := ⟨7,1,.seq (.region [⟨(some 2),(.p (.mov (.val (.nilptr)))),none⟩])
 (.seq (.region [⟨(some 3),(.p (.mov (.tmp 0))),none⟩,⟨(some 4),(.p (.nilchk (.tmp 3))),none⟩,⟨(some 5),(.p (.faddr 3 (.tmp 4))),none⟩,⟨(some 6),(.load1 (.tmp 5)),none⟩,⟨(some 2),(.p (.mov (.tmp 6))),none⟩])
 (.ret)),[.tmp 2]⟩
theorem v93 : IsFun Tryz.prog 93 m93 := ⟨_, Tryz.func93, by kernel_rfl, by kernel_rfl⟩
def m94 : Fun := ⟨14,2,.seq (.region [⟨(some 2),(.a (.box (.tmp 0))),none⟩,⟨(some 4),(.p (.mov (.val (.bool false)))),none⟩])
 (.seq (.region [⟨(some 5),(.p (.mov (.tmp 1))),none⟩,⟨(some 6),(.p (.lenb (.tmp 5))),none⟩,⟨(some 7),(.p (.bin .leq (.tmp 6) (.val (.int .i64 (.ofNat 16))))),none⟩,⟨(some 8),(.p (.mov (.tmp 7))),none⟩,⟨(some 9),(.p (.mov (.tmp 1))),(some (8,true))⟩,⟨(some 10),(.p (.mkfunc 151 [] [(.tmp 2)])),(some (8,true))⟩,⟨(some 11),(.e (.call 150 [(.tmp 9),(.tmp 10)])),(some (8,true))⟩,⟨(some 12),(.p (.not (.tmp 11))),(some (8,true))⟩,⟨(some 13),(.p (.pick (.tmp 8) (.tmp 12) (.val (.bool false)))),none⟩,⟨(some 4),(.p (.mov (.tmp 13))),none⟩])
 (.ret)),[.tmp 4]⟩
theorem v94 : IsFun Tryz.prog 94 m94 := ⟨_, Tryz.func94, by kernel_rfl, by kernel_rfl⟩
def m95 : Fun := ⟨10,1,.seq (.region [⟨(some 2),(.a (.new [.nilslice])),none⟩])
 (.seq (.region [⟨(some 3),(.p (.mov (.tmp 0))),none⟩,⟨(some 4),(.p (.nilchk (.tmp 3))),none⟩,⟨(some 5),(.p (.faddr 0 (.tmp 4))),none⟩,⟨(some 6),(.p (.faddr 0 (.tmp 5))),none⟩,⟨(some 7),(.load1 (.tmp 6)),none⟩,⟨(some 8),(.e (.call 52 [(.tmp 7)])),none⟩,⟨(some 9),(.p (.build [.nilslice] [(0,1,(.tmp 8))])),none⟩,⟨none,(.e (.store 1 (.tmp 2) (.tmp 9))),none⟩])
 (.ret)),[.celln 1 2]⟩
theorem v95 : IsFun Tryz.prog 95 m95 := ⟨_, Tryz.func95, by kernel_rfl, by kernel_rfl⟩
def m96 : Fun := ⟨48,2,.seq (.region [⟨(some 6),(.p (.mov (.tmp 0))),none⟩,⟨(some 7),(.p (.mov (.tmp 1))),none⟩,⟨(some 8),(.p (.nilchk (.tmp 6))),none⟩,⟨(some 9),(.p (.faddr 4 (.tmp 8))),none⟩,⟨(some 10),(.p (.iaddra 8 1 (.tmp 9) (.tmp 7))),none⟩,⟨(some 11),(.load1 (.tmp 10)),none⟩,⟨(some 12),(.e (.call 31 [(.tmp 11)])),none⟩,⟨(some 4),(.p (.mov (.tmp 12))),none⟩])
 (.seq (.seq (.region [⟨(some 13),(.p (.mov (.tmp 0))),none⟩,⟨(some 14),(.p (.mov (.tmp 1))),none⟩,⟨(some 15),(.p (.nilchk (.tmp 13))),none⟩,⟨(some 16),(.p (.faddr 12 (.tmp 15))),none⟩,⟨(some 17),(.p (.iaddra 8 1 (.tmp 16) (.tmp 14))),none⟩,⟨(some 18),(.load1 (.tmp 17)),none⟩,⟨(some 5),(.p (.mov (.tmp 18))),none⟩])
 (.block 0 (.loop (.seq (.seq (.region [⟨(some 19),(.p (.mov (.tmp 5))),none⟩,⟨(some 20),(.p (.mov (.tmp 4))),none⟩,⟨(some 21),(.p (.lenb (.tmp 20))),none⟩,⟨(some 22),(.p (.bin .lss (.tmp 19) (.tmp 21))),none⟩])
 (.cond (.tmp 22) (.skip)
 (.exit 0)))
 (.seq (.block 1 (.dregion [⟨⟨(some 26),(.p (.mov (.tmp 0))),none⟩,0,12⟩,⟨⟨(some 27),(.p (.nilchk (.tmp 26))),none⟩,0,12⟩,⟨⟨(some 28),(.p (.faddr 20 (.tmp 27))),none⟩,0,12⟩,⟨⟨(some 29),(.load1 (.tmp 28)),none⟩,0,12⟩,⟨⟨(some 30),(.p (.mov (.tmp 1))),none⟩,0,12⟩,⟨⟨(some 31),(.p (.mov (.tmp 5))),none⟩,0,12⟩,⟨⟨(some 32),(.p (.mov (.tmp 4))),none⟩,0,12⟩,⟨⟨(some 33),(.p (.mov (.tmp 5))),none⟩,0,12⟩,⟨⟨(some 34),(.p (.iaddr 3 (.tmp 32) (.tmp 33))),none⟩,0,12⟩,⟨⟨(some 35),(.loadn 3 (.tmp 34)),none⟩,0,12⟩,⟨⟨(some 36),(.p (.build [.int .i64 (.ofNat 0),.int .i64 (.ofNat 0),.int .i64 (.ofNat 0),.int .i64 (.ofNat 0),.int .i64 (.ofNat 0),.nilslice,.int .i64 (.ofNat 0),.int .i64 (.ofNat 0)] [(0,1,(.val (.int .i64 (.ofNat 2)))),(1,1,(.tmp 30)),(2,1,(.tmp 31)),(3,3,(.tmp 35))])),none⟩,0,12⟩,⟨⟨(some 37),(.a (.bslice [.int .i64 (.ofNat 0),.int .i64 (.ofNat 0),.int .i64 (.ofNat 0),.int .i64 (.ofNat 0),.int .i64 (.ofNat 0),.nilslice,.int .i64 (.ofNat 0),.int .i64 (.ofNat 0)] 8 1 [(0,8,(.tmp 36))])),none⟩,0,12⟩,⟨⟨(some 38),(.e (.append 8 80 (.tmp 29) (.tmp 37))),none⟩,0,16⟩,⟨⟨(some 25),(.p (.mov (.tmp 0))),none⟩,0,16⟩,⟨⟨(some 39),(.p (.nilchk (.tmp 25))),none⟩,13,16⟩,⟨⟨(some 40),(.p (.faddr 20 (.tmp 39))),none⟩,13,16⟩,⟨⟨none,(.e (.store 1 (.tmp 40) (.tmp 38))),none⟩,13,17⟩]))
 (.region [⟨(some 23),(.p (.mov (.tmp 5))),none⟩,⟨(some 24),(.p (.bin .add (.tmp 23) (.val (.int .i64 (.ofNat 1))))),none⟩,⟨(some 5),(.p (.mov (.tmp 24))),none⟩]))))))
 (.region [⟨(some 41),(.p (.mov (.tmp 0))),none⟩,⟨(some 42),(.p (.mov (.tmp 1))),none⟩,⟨(some 43),(.p (.mov (.tmp 4))),none⟩,⟨(some 44),(.p (.lenb (.tmp 43))),none⟩,⟨(some 45),(.p (.nilchk (.tmp 41))),none⟩,⟨(some 46),(.p (.faddr 12 (.tmp 45))),none⟩,⟨(some 47),(.p (.iaddra 8 1 (.tmp 46) (.tmp 42))),none⟩,⟨none,(.e (.store 1 (.tmp 47) (.tmp 44))),none⟩])),[]⟩
theorem v96 : IsFun Tryz.prog 96 m96 := ⟨_, Tryz.func96, by kernel_rfl, by kernel_rfl⟩
def m97 : Fun := ⟨45,2,.seq (.region [⟨(some 5),(.p (.mov (.tmp 0))),none⟩,⟨(some 6),(.p (.mov (.tmp 1))),none⟩,⟨(some 7),(.p (.nilchk (.tmp 5))),none⟩,⟨(some 8),(.p (.faddr 4 (.tmp 7))),none⟩,⟨(some 9),(.p (.iaddra 8 1 (.tmp 8) (.tmp 6))),none⟩,⟨(some 10),(.load1 (.tmp 9)),none⟩,⟨(some 4),(.p (.mov (.tmp 10))),none⟩])
 (.seq (.region [⟨(some 11),(.p (.mov (.tmp 0))),none⟩,⟨(some 12),(.p (.mov (.tmp 1))),none⟩,⟨(some 13),(.p (.nilchk (.tmp 11))),none⟩,⟨(some 14),(.p (.faddr 4 (.tmp 13))),none⟩,⟨(some 15),(.p (.iaddra 8 1 (.tmp 14) (.tmp 12))),none⟩,⟨none,(.e (.store 1 (.tmp 15) (.val (.nilptr)))),none⟩])
 (.seq (.seq (.region [⟨(some 16),(.p (.mov (.tmp 4))),none⟩,⟨(some 17),(.e (.call 26 [(.tmp 16)])),none⟩,⟨(some 18),(.p (.bin .neq (.tmp 17) (.val (.int .i64 (.ofNat 0))))),none⟩])
 (.cond (.tmp 18) (.seq (.dregion [⟨⟨(some 25),(.p (.mov (.tmp 4))),none⟩,0,1⟩,⟨⟨(some 26),(.e (.call 26 [(.tmp 25)])),none⟩,0,9⟩,⟨⟨(some 20),(.p (.mov (.tmp 0))),none⟩,0,9⟩,⟨⟨(some 21),(.p (.nilchk (.tmp 20))),none⟩,0,9⟩,⟨⟨(some 22),(.p (.faddr 20 (.tmp 21))),none⟩,0,9⟩,⟨⟨(some 23),(.load1 (.tmp 22)),none⟩,0,9⟩,⟨⟨(some 24),(.p (.mov (.tmp 1))),none⟩,0,9⟩,⟨⟨(some 27),(.p (.build [.int .i64 (.ofNat 0),.int .i64 (.ofNat 0),.int .i64 (.ofNat 0),.int .i64 (.ofNat 0),.int .i64 (.ofNat 0),.nilslice,.int .i64 (.ofNat 0),.int .i64 (.ofNat 0)] [(0,1,(.val (.int .i64 (.ofNat 4)))),(1,1,(.tmp 24)),(7,1,(.tmp 26))])),none⟩,2,9⟩,⟨⟨(some 28),(.a (.bslice [.int .i64 (.ofNat 0),.int .i64 (.ofNat 0),.int .i64 (.ofNat 0),.int .i64 (.ofNat 0),.int .i64 (.ofNat 0),.nilslice,.int .i64 (.ofNat 0),.int .i64 (.ofNat 0)] 8 1 [(0,8,(.tmp 27))])),none⟩,2,9⟩,⟨⟨(some 29),(.e (.append 8 80 (.tmp 23) (.tmp 28))),none⟩,2,13⟩,⟨⟨(some 19),(.p (.mov (.tmp 0))),none⟩,0,13⟩,⟨⟨(some 30),(.p (.nilchk (.tmp 19))),none⟩,10,13⟩,⟨⟨(some 31),(.p (.faddr 20 (.tmp 30))),none⟩,10,13⟩,⟨⟨none,(.e (.store 1 (.tmp 31) (.tmp 29))),none⟩,10,14⟩])
 (.ret))
 (.skip)))
 (.dregion [⟨⟨(some 38),(.p (.mov (.tmp 4))),none⟩,0,1⟩,⟨⟨(some 39),(.e (.call 36 [(.tmp 38)])),none⟩,0,9⟩,⟨⟨(some 33),(.p (.mov (.tmp 0))),none⟩,0,9⟩,⟨⟨(some 34),(.p (.nilchk (.tmp 33))),none⟩,0,9⟩,⟨⟨(some 35),(.p (.faddr 20 (.tmp 34))),none⟩,0,9⟩,⟨⟨(some 36),(.load1 (.tmp 35)),none⟩,0,9⟩,⟨⟨(some 37),(.p (.mov (.tmp 1))),none⟩,0,9⟩,⟨⟨(some 40),(.p (.build [.int .i64 (.ofNat 0),.int .i64 (.ofNat 0),.int .i64 (.ofNat 0),.int .i64 (.ofNat 0),.int .i64 (.ofNat 0),.nilslice,.int .i64 (.ofNat 0),.int .i64 (.ofNat 0)] [(0,1,(.val (.int .i64 (.ofNat 3)))),(1,1,(.tmp 37)),(6,1,(.tmp 39))])),none⟩,2,9⟩,⟨⟨(some 41),(.a (.bslice [.int .i64 (.ofNat 0),.int .i64 (.ofNat 0),.int .i64 (.ofNat 0),.int .i64 (.ofNat 0),.int .i64 (.ofNat 0),.nilslice,.int .i64 (.ofNat 0),.int .i64 (.ofNat 0)] 8 1 [(0,8,(.tmp 40))])),none⟩,2,9⟩,⟨⟨(some 42),(.e (.append 8 80 (.tmp 36) (.tmp 41))),none⟩,2,13⟩,⟨⟨(some 32),(.p (.mov (.tmp 0))),none⟩,0,13⟩,⟨⟨(some 43),(.p (.nilchk (.tmp 32))),none⟩,10,13⟩,⟨⟨(some 44),(.p (.faddr 20 (.tmp 43))),none⟩,10,13⟩,⟨⟨none,(.e (.store 1 (.tmp 44) (.tmp 42))),none⟩,10,14⟩]))),[]⟩
theorem v97 : IsFun Tryz.prog 97 m97 := ⟨_, Tryz.func97, by kernel_rfl, by kernel_rfl⟩
def m98 : Fun := ⟨8,1,.seq (.region [⟨(some 2),(.p (.mov (.val (.nilslice)))),none⟩])
 (.seq (.seq (.region [⟨(some 3),(.p (.mov (.tmp 0))),none⟩,⟨(some 4),(.p (.eq .slice false (.tmp 3) (.val (.nilslice)))),none⟩])
 (.cond (.tmp 4) (.seq (.region [⟨(some 2),(.p (.mov (.val (.nilslice)))),none⟩])
 (.ret))
 (.skip)))
 (.seq (.region [⟨(some 5),(.a (.bslice [] 8 0 [])),none⟩,⟨(some 6),(.p (.mov (.tmp 0))),none⟩,⟨(some 7),(.e (.append 8 80 (.tmp 5) (.tmp 6))),none⟩,⟨(some 2),(.p (.mov (.tmp 7))),none⟩])
 (.ret))),[.tmp 2]⟩
theorem v98 : IsFun Tryz.prog 98 m98 := ⟨_, Tryz.func98, by kernel_rfl, by kernel_rfl⟩
def m99 : Fun := ⟨22,1,.seq (.region [⟨(some 1),(.a (.box (.tmp 0))),none⟩,⟨(some 2),(.a (.new [.int .i64 (.ofNat 0),.int .i64 (.ofNat 0),.nilslice])),none⟩])
 (.seq (.region [⟨(some 3),(.p (.mov (.val (.nilslice)))),none⟩])
 (.seq (.seq (.region [⟨(some 6),(.p (.faddr 2 (.tmp 1))),none⟩,⟨(some 7),(.load1 (.tmp 6)),none⟩,⟨(some 8),(.p (.lenb (.tmp 7))),none⟩,⟨(some 9),(.p (.mov (.val (.int .i64 (.ofNat 0))))),none⟩])
 (.block 0 (.loop (.seq (.region [⟨(some 10),(.p (.bin .lss (.tmp 9) (.tmp 8))),none⟩])
 (.seq (.cond (.tmp 10) (.skip)
 (.exit 0))
 (.seq (.block 1 (.seq (.region [⟨(some 11),(.p (.iaddr 1 (.tmp 7) (.tmp 9))),none⟩,⟨(some 12),(.load1 (.tmp 11)),none⟩,⟨(some 5),(.p (.mov (.tmp 12))),none⟩])
 (.region [⟨(some 13),(.p (.mov (.tmp 3))),none⟩,⟨(some 14),(.p (.mov (.tmp 5))),none⟩,⟨(some 15),(.e (.call 88 [(.tmp 14)])),none⟩,⟨(some 16),(.a (.bslice [.nilslice] 1 1 [(0,1,(.tmp 15))])),none⟩,⟨(some 17),(.e (.append 1 24 (.tmp 13) (.tmp 16))),none⟩,⟨(some 3),(.p (.mov (.tmp 17))),none⟩])))
 (.region [⟨(some 18),(.p (.bin .add (.tmp 9) (.val (.int .i64 (.ofNat 1))))),none⟩,⟨(some 9),(.p (.mov (.tmp 18))),none⟩])))))))
 (.seq (.region [⟨(some 19),(.p (.mov (.tmp 3))),none⟩,⟨(some 20),(.p (.faddr 2 (.tmp 1))),none⟩,⟨none,(.e (.store 1 (.tmp 20) (.tmp 19))),none⟩])
 (.seq (.region [⟨(some 21),(.loadn 3 (.tmp 1)),none⟩,⟨none,(.e (.store 3 (.tmp 2) (.tmp 21))),none⟩])
 (.ret))))),[.celln 3 2]⟩
theorem v99 : IsFun Tryz.prog 99 m99 := ⟨_, Tryz.func99, by kernel_rfl, by kernel_rfl⟩
def m100 : Fun := ⟨9,1,.seq (.region [⟨(some 2),(.p (.mov (.val (.nilslice)))),none⟩])
 (.seq (.region [⟨(some 3),(.p (.mov (.tmp 0))),none⟩,⟨(some 4),(.p (.mov (.tmp 0))),none⟩,⟨(some 5),(.p (.lenb (.tmp 4))),none⟩,⟨(some 6),(.p (.mov (.tmp 0))),none⟩,⟨(some 7),(.p (.lenb (.tmp 6))),none⟩,⟨(some 8),(.p (.slc 8 (.tmp 3) none (some (.tmp 5)) (some (.tmp 7)))),none⟩,⟨(some 2),(.p (.mov (.tmp 8))),none⟩])
 (.ret)),[.tmp 2]⟩
theorem v100 : IsFun Tryz.prog 100 m100 := ⟨_, Tryz.func100, by kernel_rfl, by kernel_rfl⟩
def m101 : Fun := ⟨27,2,.seq (.region [⟨(some 4),(.p (.mov (.val (.bool false)))),none⟩])
 (.seq (.seq (.region [⟨(some 6),(.p (.mov (.tmp 0))),none⟩,⟨(some 7),(.p (.lenb (.tmp 6))),none⟩,⟨(some 8),(.p (.mov (.tmp 1))),none⟩,⟨(some 9),(.p (.lenb (.tmp 8))),none⟩,⟨(some 10),(.p (.bin .neq (.tmp 7) (.tmp 9))),none⟩])
 (.cond (.tmp 10) (.seq (.region [⟨(some 4),(.p (.mov (.val (.bool false)))),none⟩])
 (.ret))
 (.skip)))
 (.seq (.seq (.region [⟨(some 5),(.p (.mov (.val (.int .i64 (.ofNat 0))))),none⟩])
 (.block 0 (.loop (.seq (.seq (.region [⟨(some 11),(.p (.mov (.tmp 5))),none⟩,⟨(some 12),(.p (.mov (.tmp 0))),none⟩,⟨(some 13),(.p (.lenb (.tmp 12))),none⟩,⟨(some 14),(.p (.bin .lss (.tmp 11) (.tmp 13))),none⟩])
 (.cond (.tmp 14) (.skip)
 (.exit 0)))
 (.seq (.block 1 (.seq (.dregion [⟨⟨(some 17),(.p (.mov (.tmp 0))),none⟩,0,8⟩,⟨⟨(some 18),(.p (.mov (.tmp 5))),none⟩,0,8⟩,⟨⟨(some 19),(.p (.iaddr 1 (.tmp 17) (.tmp 18))),none⟩,0,8⟩,⟨⟨(some 20),(.load1 (.tmp 19)),none⟩,0,8⟩,⟨⟨(some 21),(.p (.mov (.tmp 1))),none⟩,0,8⟩,⟨⟨(some 22),(.p (.mov (.tmp 5))),none⟩,0,8⟩,⟨⟨(some 23),(.p (.iaddr 1 (.tmp 21) (.tmp 22))),none⟩,0,8⟩,⟨⟨(some 24),(.load1 (.tmp 23)),none⟩,0,8⟩,⟨⟨(some 25),(.e (.call 153 [(.tmp 20),(.tmp 24)])),none⟩,0,10⟩,⟨⟨(some 26),(.p (.not (.tmp 25))),none⟩,9,10⟩])
 (.cond (.tmp 26) (.seq (.region [⟨(some 4),(.p (.mov (.val (.bool false)))),none⟩])
 (.ret))
 (.skip))))
 (.region [⟨(some 15),(.p (.mov (.tmp 5))),none⟩,⟨(some 16),(.p (.bin .add (.tmp 15) (.val (.int .i64 (.ofNat 1))))),none⟩,⟨(some 5),(.p (.mov (.tmp 16))),none⟩]))))))
 (.seq (.region [⟨(some 4),(.p (.mov (.val (.bool true)))),none⟩])
 (.ret)))),[.tmp 4]⟩
theorem v101 : IsFun Tryz.prog 101 m101 := ⟨_, Tryz.func101, by kernel_rfl, by kernel_rfl⟩
def m102 : Fun := ⟨8,1,.seq (.region [⟨(some 2),(.p (.mov (.val (.int .i64 (.ofNat 0))))),none⟩])
 (.seq (.region [⟨(some 3),(.p (.mov (.tmp 0))),none⟩,⟨(some 4),(.p (.nilchk (.tmp 3))),none⟩,⟨(some 5),(.p (.faddr 0 (.tmp 4))),none⟩,⟨(some 6),(.load1 (.tmp 5)),none⟩,⟨(some 7),(.p (.bin .add (.tmp 6) (.val (.int .i64 (.ofNat 1))))),none⟩,⟨(some 2),(.p (.mov (.tmp 7))),none⟩])
 (.ret)),[.tmp 2]⟩
theorem v102 : IsFun Tryz.prog 102 m102 := ⟨_, Tryz.func102, by kernel_rfl, by kernel_rfl⟩
def m103 : Fun := ⟨6,1,.seq (.region [⟨(some 1),(.a (.box (.tmp 0))),none⟩,⟨(some 2),(.p (.mov (.val (.bool false)))),none⟩])
 (.seq (.region [⟨(some 3),(.loadn 2 (.tmp 1)),none⟩,⟨(some 4),(.p (.build [.int .i64 (.ofNat 0),.int .i64 (.ofNat 0)] [])),none⟩,⟨(some 5),(.p (.eq (.struct [(0,none,.int),(1,none,.int)]) false (.tmp 3) (.tmp 4))),none⟩,⟨(some 2),(.p (.mov (.tmp 5))),none⟩])
 (.ret)),[.tmp 2]⟩
theorem v103 : IsFun Tryz.prog 103 m103 := ⟨_, Tryz.func103, by kernel_rfl, by kernel_rfl⟩
def m104 : Fun := ⟨9,2,.region [⟨(some 4),(.p (.mov (.tmp 0))),none⟩,⟨(some 5),(.p (.mov (.tmp 0))),none⟩,⟨(some 6),(.p (.lenb (.tmp 5))),none⟩,⟨(some 7),(.p (.mov (.tmp 1))),none⟩,⟨(some 8),(.e (.call 154 [(.tmp 4),(.tmp 6),(.tmp 7)])),none⟩],[]⟩
theorem v104 : IsFun Tryz.prog 104 m104 := ⟨_, Tryz.func104, by kernel_rfl, by kernel_rfl⟩
def m105 : Fun := ⟨12,2,.seq (.region [⟨(some 4),(.p (.mov (.val (.int .i64 (.ofNat 0))))),none⟩])
 (.seq (.region [⟨(some 5),(.p (.mov (.tmp 0))),none⟩,⟨(some 6),(.e (.call 107 [(.tmp 5),(.val (.int .i64 (.ofNat 0)))])),none⟩,⟨(some 7),(.p (.field1 2 (.tmp 6))),none⟩,⟨(some 8),(.p (.mov (.tmp 1))),none⟩,⟨(some 9),(.e (.call 107 [(.tmp 8),(.val (.int .i64 (.ofNat 0)))])),none⟩,⟨(some 10),(.p (.field1 2 (.tmp 9))),none⟩,⟨(some 11),(.e (.call 106 [(.tmp 7),(.tmp 10)])),none⟩,⟨(some 4),(.p (.mov (.tmp 11))),none⟩])
 (.ret)),[.tmp 4]⟩
theorem v105 : IsFun Tryz.prog 105 m105 := ⟨_, Tryz.func105, by kernel_rfl, by kernel_rfl⟩
def m106 : Fun := ⟨20,2,.seq (.region [⟨(some 4),(.p (.mov (.val (.int .i64 (.ofNat 0))))),none⟩])
 (.seq (.region [⟨(some 7),(.p (.mov (.tmp 0))),none⟩,⟨(some 8),(.e (.call 155 [(.tmp 7)])),none⟩,⟨(some 5),(.p (.mov (.tmp 8))),none⟩])
 (.seq (.region [⟨(some 9),(.p (.mov (.tmp 1))),none⟩,⟨(some 10),(.e (.call 155 [(.tmp 9)])),none⟩,⟨(some 6),(.p (.mov (.tmp 10))),none⟩])
 (.seq (.seq (.region [⟨(some 11),(.p (.mov (.tmp 5))),none⟩])
 (.cond (.tmp 11) (.seq (.seq (.region [⟨(some 12),(.p (.mov (.tmp 6))),none⟩])
 (.cond (.tmp 12) (.seq (.region [⟨(some 4),(.p (.mov (.val (.int .i64 (.ofNat 0))))),none⟩])
 (.ret))
 (.skip)))
 (.seq (.region [⟨(some 4),(.p (.mov (.val (.int .i64 (.negSucc 0))))),none⟩])
 (.ret)))
 (.skip)))
 (.seq (.seq (.region [⟨(some 13),(.p (.mov (.tmp 6))),none⟩])
 (.cond (.tmp 13) (.seq (.region [⟨(some 4),(.p (.mov (.val (.int .i64 (.ofNat 1))))),none⟩])
 (.ret))
 (.skip)))
 (.seq (.seq (.region [⟨(some 14),(.p (.mov (.tmp 0))),none⟩,⟨(some 15),(.p (.mov (.tmp 1))),none⟩,⟨(some 16),(.p (.bin .lss (.tmp 14) (.tmp 15))),none⟩])
 (.cond (.tmp 16) (.seq (.region [⟨(some 4),(.p (.mov (.val (.int .i64 (.negSucc 0))))),none⟩])
 (.ret))
 (.skip)))
 (.seq (.seq (.region [⟨(some 17),(.p (.mov (.tmp 0))),none⟩,⟨(some 18),(.p (.mov (.tmp 1))),none⟩,⟨(some 19),(.p (.bin .gtr (.tmp 17) (.tmp 18))),none⟩])
 (.cond (.tmp 19) (.seq (.region [⟨(some 4),(.p (.mov (.val (.int .i64 (.ofNat 1))))),none⟩])
 (.ret))
 (.skip)))
 (.seq (.region [⟨(some 4),(.p (.mov (.val (.int .i64 (.ofNat 0))))),none⟩])
 (.ret)))))))),[.tmp 4]⟩
theorem v106 : IsFun Tryz.prog 106 m106 := ⟨_, Tryz.func106, by kernel_rfl, by kernel_rfl⟩
def m107 : Fun := ⟨19,2,.seq (.region [⟨(some 4),(.a (.new [.bool false,.int .i64 (.ofNat 0),.int .i64 (.ofNat 0),.nilslice])),none⟩])
 (.seq (.seq (.region [⟨(some 5),(.p (.mov (.tmp 1))),none⟩,⟨(some 6),(.p (.bin .lss (.tmp 5) (.val (.int .i64 (.ofNat 0))))),none⟩,⟨(some 7),(.p (.mov (.tmp 6))),none⟩,⟨(some 8),(.p (.mov (.tmp 1))),(some (7,false))⟩,⟨(some 9),(.p (.mov (.tmp 0))),(some (7,false))⟩,⟨(some 10),(.p (.lenb (.tmp 9))),(some (7,false))⟩,⟨(some 11),(.p (.bin .geq (.tmp 8) (.tmp 10))),(some (7,false))⟩,⟨(some 12),(.p (.pick (.tmp 7) (.val (.bool true)) (.tmp 11))),none⟩])
 (.cond (.tmp 12) (.seq (.region [⟨(some 13),(.p (.build [.bool false,.int .i64 (.ofNat 0),.int .i64 (.ofNat 0),.nilslice] [])),none⟩,⟨none,(.e (.store 4 (.tmp 4) (.tmp 13))),none⟩])
 (.ret))
 (.skip)))
 (.seq (.region [⟨(some 14),(.p (.mov (.tmp 0))),none⟩,⟨(some 15),(.p (.mov (.tmp 1))),none⟩,⟨(some 16),(.p (.iaddr 4 (.tmp 14) (.tmp 15))),none⟩,⟨(some 17),(.loadn 4 (.tmp 16)),none⟩,⟨(some 18),(.e (.call 138 [(.tmp 17)])),none⟩,⟨none,(.e (.store 4 (.tmp 4) (.tmp 18))),none⟩])
 (.ret))),[.celln 4 4]⟩
theorem v107 : IsFun Tryz.prog 107 m107 := ⟨_, Tryz.func107, by kernel_rfl, by kernel_rfl⟩
def m108 : Fun := ⟨9,1,.seq (.region [⟨(some 2),(.p (.mov (.val (.nilslice)))),none⟩])
 (.seq (.region [⟨(some 3),(.p (.mov (.tmp 0))),none⟩,⟨(some 4),(.p (.mov (.tmp 0))),none⟩,⟨(some 5),(.p (.lenb (.tmp 4))),none⟩,⟨(some 6),(.p (.mov (.tmp 0))),none⟩,⟨(some 7),(.p (.lenb (.tmp 6))),none⟩,⟨(some 8),(.p (.slc 1 (.tmp 3) none (some (.tmp 5)) (some (.tmp 7)))),none⟩,⟨(some 2),(.p (.mov (.tmp 8))),none⟩])
 (.ret)),[.tmp 2]⟩
theorem v108 : IsFun Tryz.prog 108 m108 := ⟨_, Tryz.func108, by kernel_rfl, by kernel_rfl⟩
def m109 : Fun := ⟨11,1,.seq (.region [⟨(some 2),(.p (.mov (.val (.bool false)))),none⟩])
 (.seq (.seq (.region [⟨(some 4),(.p (.mov (.val (.int .i64 (.ofNat 0))))),none⟩])
 (.block 0 (.loop (.seq (.region [⟨(some 5),(.p (.bin .lss (.tmp 4) (.val (.int .i64 (.ofNat 8))))),none⟩])
 (.seq (.cond (.tmp 5) (.skip)
 (.exit 0))
 (.seq (.block 1 (.seq (.region [⟨(some 6),(.p (.mov (.tmp 4))),none⟩,⟨(some 3),(.p (.mov (.tmp 6))),none⟩])
 (.seq (.region [⟨(some 7),(.p (.mov (.tmp 0))),none⟩,⟨(some 8),(.p (.mov (.tmp 3))),none⟩,⟨(some 9),(.e (.call 43 [(.tmp 7),(.tmp 8)])),none⟩])
 (.cond (.tmp 9) (.seq (.region [⟨(some 2),(.p (.mov (.val (.bool true)))),none⟩])
 (.ret))
 (.skip)))))
 (.region [⟨(some 10),(.p (.bin .add (.tmp 4) (.val (.int .i64 (.ofNat 1))))),none⟩,⟨(some 4),(.p (.mov (.tmp 10))),none⟩])))))))
 (.seq (.region [⟨(some 2),(.p (.mov (.val (.bool false)))),none⟩])
 (.ret))),[.tmp 2]⟩
theorem v109 : IsFun Tryz.prog 109 m109 := ⟨_, Tryz.func109, by kernel_rfl, by kernel_rfl⟩
def m110 : Fun := ⟨13,1,.seq (.region [⟨(some 2),(.p (.mov (.val (.bool false)))),none⟩])
 (.seq (.region [⟨(some 3),(.p (.mov (.val (.bool false)))),none⟩])
 (.seq (.seq (.region [⟨(some 5),(.p (.mov (.val (.int .i64 (.ofNat 0))))),none⟩])
 (.block 0 (.loop (.seq (.region [⟨(some 6),(.p (.bin .lss (.tmp 5) (.val (.int .i64 (.ofNat 8))))),none⟩])
 (.seq (.cond (.tmp 6) (.skip)
 (.exit 0))
 (.seq (.block 1 (.seq (.region [⟨(some 7),(.p (.mov (.tmp 5))),none⟩,⟨(some 4),(.p (.mov (.tmp 7))),none⟩])
 (.seq (.region [⟨(some 8),(.p (.mov (.tmp 0))),none⟩,⟨(some 9),(.p (.mov (.tmp 4))),none⟩,⟨(some 10),(.e (.call 41 [(.tmp 8),(.tmp 9)])),none⟩])
 (.cond (.tmp 10) (.region [⟨(some 3),(.p (.mov (.val (.bool true)))),none⟩])
 (.skip)))))
 (.region [⟨(some 11),(.p (.bin .add (.tmp 5) (.val (.int .i64 (.ofNat 1))))),none⟩,⟨(some 5),(.p (.mov (.tmp 11))),none⟩])))))))
 (.seq (.region [⟨(some 12),(.p (.mov (.tmp 3))),none⟩,⟨(some 2),(.p (.mov (.tmp 12))),none⟩])
 (.ret)))),[.tmp 2]⟩
theorem v110 : IsFun Tryz.prog 110 m110 := ⟨_, Tryz.func110, by kernel_rfl, by kernel_rfl⟩
def m111 : Fun := ⟨9,2,.seq (.region [⟨(some 2),(.a (.box (.tmp 0))),none⟩,⟨(some 3),(.p (.mov (.val (.bool false)))),none⟩])
 (.seq (.region [⟨(some 4),(.p (.faddr 0 (.tmp 2))),none⟩,⟨(some 5),(.load1 (.tmp 4)),none⟩,⟨(some 6),(.p (.faddr 0 (.tmp 1))),none⟩,⟨(some 7),(.load1 (.tmp 6)),none⟩,⟨(some 8),(.p (.bin .eql (.tmp 5) (.tmp 7))),none⟩,⟨(some 3),(.p (.mov (.tmp 8))),none⟩])
 (.ret)),[.tmp 3]⟩
theorem v111 : IsFun Tryz.prog 111 m111 := ⟨_, Tryz.func111, by kernel_rfl, by kernel_rfl⟩
def m112 : Fun := ⟨28,1,.seq (.region [⟨(some 2),(.p (.mov (.val (.bool false)))),none⟩])
 (.seq (.seq (.region [⟨(some 4),(.p (.mov (.tmp 0))),none⟩,⟨(some 5),(.p (.lens (.tmp 4))),none⟩,⟨(some 6),(.p (.mov (.val (.int .i64 (.ofNat 0))))),none⟩])
 (.block 0 (.loop (.seq (.region [⟨(some 7),(.p (.bin .lss (.tmp 6) (.tmp 5))),none⟩])
 (.seq (.cond (.tmp 7) (.skip)
 (.exit 0))
 (.seq (.block 1 (.seq (.region [⟨(some 8),(.p (.mov (.tmp 6))),none⟩,⟨(some 3),(.p (.mov (.tmp 8))),none⟩])
 (.seq (.region [⟨(some 9),(.p (.mov (.tmp 0))),none⟩,⟨(some 10),(.p (.mov (.tmp 3))),none⟩,⟨(some 11),(.p (.idxs (.tmp 9) (.tmp 10))),none⟩,⟨(some 12),(.p (.bin .lss (.tmp 11) (.val (.int .u8 (.ofNat 97))))),none⟩,⟨(some 13),(.p (.mov (.tmp 12))),none⟩,⟨(some 14),(.p (.mov (.tmp 0))),(some (13,false))⟩,⟨(some 15),(.p (.mov (.tmp 3))),(some (13,false))⟩,⟨(some 16),(.p (.idxs (.tmp 14) (.tmp 15))),(some (13,false))⟩,⟨(some 17),(.p (.bin .gtr (.tmp 16) (.val (.int .u8 (.ofNat 122))))),(some (13,false))⟩,⟨(some 18),(.p (.pick (.tmp 13) (.val (.bool true)) (.tmp 17))),none⟩])
 (.cond (.tmp 18) (.seq (.region [⟨(some 2),(.p (.mov (.val (.bool false)))),none⟩])
 (.ret))
 (.skip)))))
 (.region [⟨(some 19),(.p (.bin .add (.tmp 6) (.val (.int .i64 (.ofNat 1))))),none⟩,⟨(some 6),(.p (.mov (.tmp 19))),none⟩])))))))
 (.seq (.region [⟨(some 20),(.p (.mov (.tmp 0))),none⟩,⟨(some 21),(.p (.lens (.tmp 20))),none⟩,⟨(some 22),(.p (.bin .geq (.tmp 21) (.val (.int .i64 (.ofNat 1))))),none⟩,⟨(some 23),(.p (.mov (.tmp 22))),none⟩,⟨(some 24),(.p (.mov (.tmp 0))),(some (23,true))⟩,⟨(some 25),(.p (.lens (.tmp 24))),(some (23,true))⟩,⟨(some 26),(.p (.bin .leq (.tmp 25) (.val (.int .i64 (.ofNat 8))))),(some (23,true))⟩,⟨(some 27),(.p (.pick (.tmp 23) (.tmp 26) (.val (.bool false)))),none⟩,⟨(some 2),(.p (.mov (.tmp 27))),none⟩])
 (.ret))),[.tmp 2]⟩
theorem v112 : IsFun Tryz.prog 112 m112 := ⟨_, Tryz.func112, by kernel_rfl, by kernel_rfl⟩
def m113 : Fun := ⟨9,2,.seq (.region [⟨(some 4),(.p (.mov (.val (.bool false)))),none⟩])
 (.seq (.region [⟨(some 5),(.p (.mov (.tmp 0))),none⟩,⟨(some 6),(.p (.mov (.tmp 1))),none⟩,⟨(some 7),(.e (.call 156 [(.tmp 5),(.tmp 6)])),none⟩,⟨(some 8),(.p (.bin .geq (.tmp 7) (.val (.int .i64 (.ofNat 0))))),none⟩,⟨(some 4),(.p (.mov (.tmp 8))),none⟩])
 (.ret)),[.tmp 4]⟩
theorem v113 : IsFun Tryz.prog 113 m113 := ⟨_, Tryz.func113, by kernel_rfl, by kernel_rfl⟩
def m114 : Fun := ⟨26,2,.seq (.region [⟨(some 4),(.p (.mov (.val (.nilptr)))),none⟩,⟨(some 5),(.p (.mov (.val (.int .i64 (.ofNat 0))))),none⟩])
 (.seq (.seq (.region [⟨(some 9),(.p (.mov (.tmp 0))),none⟩,⟨(some 10),(.p (.nilchk (.tmp 9))),none⟩,⟨(some 11),(.p (.faddr 2 (.tmp 10))),none⟩,⟨(some 12),(.load1 (.tmp 11)),none⟩,⟨(some 13),(.p (.lenb (.tmp 12))),none⟩,⟨(some 14),(.p (.mov (.val (.int .i64 (.ofNat 0))))),none⟩])
 (.block 0 (.loop (.seq (.region [⟨(some 15),(.p (.bin .lss (.tmp 14) (.tmp 13))),none⟩])
 (.seq (.cond (.tmp 15) (.skip)
 (.exit 0))
 (.seq (.block 1 (.seq (.region [⟨(some 16),(.p (.iaddr 1 (.tmp 12) (.tmp 14))),none⟩,⟨(some 17),(.load1 (.tmp 16)),none⟩,⟨(some 7),(.p (.mov (.tmp 17))),none⟩])
 (.seq (.region [⟨(some 18),(.p (.mov (.tmp 7))),none⟩,⟨(some 19),(.p (.mov (.tmp 1))),none⟩,⟨(some 20),(.e (.call 124 [(.tmp 18),(.tmp 19)])),none⟩,⟨(some 8),(.p (.mov (.tmp 20))),none⟩])
 (.seq (.region [⟨(some 21),(.p (.mov (.tmp 8))),none⟩,⟨(some 22),(.p (.bin .geq (.tmp 21) (.val (.int .i64 (.ofNat 0))))),none⟩])
 (.cond (.tmp 22) (.seq (.region [⟨(some 23),(.p (.mov (.tmp 7))),none⟩,⟨(some 24),(.p (.mov (.tmp 8))),none⟩,⟨(some 4),(.p (.mov (.tmp 23))),none⟩,⟨(some 5),(.p (.mov (.tmp 24))),none⟩])
 (.ret))
 (.skip))))))
 (.region [⟨(some 25),(.p (.bin .add (.tmp 14) (.val (.int .i64 (.ofNat 1))))),none⟩,⟨(some 14),(.p (.mov (.tmp 25))),none⟩])))))))
 (.seq (.region [⟨(some 4),(.p (.mov (.val (.nilptr)))),none⟩,⟨(some 5),(.p (.mov (.val (.int .i64 (.negSucc 0))))),none⟩])
 (.ret))),[.tmp 4,.tmp 5]⟩
theorem v114 : IsFun Tryz.prog 114 m114 := ⟨_, Tryz.func114, by kernel_rfl, by kernel_rfl⟩
def m115 : Fun := ⟨36,2,.seq (.region [⟨(some 4),(.a (.new [.int .i64 (.ofNat 0),.nilslice,.int .i64 (.ofNat 0),.int .i64 (.ofNat 0),.int .i64 (.ofNat 0),.int .i64 (.ofNat 0)])),none⟩,⟨(some 5),(.p (.mov (.val (.bool false)))),none⟩])
 (.seq (.region [⟨(some 9),(.p (.mov (.tmp 0))),none⟩,⟨(some 10),(.p (.nilchk (.tmp 9))),none⟩,⟨(some 11),(.p (.faddr 0 (.tmp 10))),none⟩,⟨(some 12),(.load1 (.tmp 11)),none⟩,⟨(some 13),(.p (.mov (.tmp 1))),none⟩,⟨(some 14),(.e (.call 157 [(.tmp 12),(.tmp 13)])),none⟩,⟨(some 8),(.p (.mov (.tmp 14))),none⟩,⟨(some 15),(.p (.ext (.tmp 8) 0)),none⟩,⟨(some 16),(.p (.ext (.tmp 8) 1)),none⟩,⟨(some 6),(.p (.mov (.tmp 15))),none⟩,⟨(some 7),(.p (.mov (.tmp 16))),none⟩])
 (.seq (.seq (.region [⟨(some 17),(.p (.mov (.tmp 7))),none⟩,⟨(some 18),(.p (.not (.tmp 17))),none⟩])
 (.cond (.tmp 18) (.seq (.region [⟨(some 19),(.p (.build [.int .i64 (.ofNat 0),.nilslice,.int .i64 (.ofNat 0),.int .i64 (.ofNat 0),.int .i64 (.ofNat 0),.int .i64 (.ofNat 0)] [])),none⟩,⟨none,(.e (.store 6 (.tmp 4) (.tmp 19))),none⟩,⟨(some 5),(.p (.mov (.val (.bool false)))),none⟩])
 (.ret))
 (.skip)))
 (.seq (.dregion [⟨⟨(some 20),(.p (.mov (.tmp 0))),none⟩,0,16⟩,⟨⟨(some 21),(.p (.nilchk (.tmp 20))),none⟩,0,16⟩,⟨⟨(some 22),(.p (.faddr 1 (.tmp 21))),none⟩,0,16⟩,⟨⟨(some 23),(.load1 (.tmp 22)),none⟩,0,16⟩,⟨⟨(some 24),(.p (.mov (.tmp 1))),none⟩,0,16⟩,⟨⟨(some 25),(.p (.iaddr 1 (.tmp 23) (.tmp 24))),none⟩,0,16⟩,⟨⟨(some 26),(.load1 (.tmp 25)),none⟩,0,16⟩,⟨⟨(some 27),(.p (.mov (.tmp 6))),none⟩,0,16⟩,⟨⟨(some 28),(.p (.mov (.tmp 0))),none⟩,0,16⟩,⟨⟨(some 29),(.p (.nilchk (.tmp 28))),none⟩,0,16⟩,⟨⟨(some 30),(.p (.faddr 2 (.tmp 29))),none⟩,0,16⟩,⟨⟨(some 31),(.load1 (.tmp 30)),none⟩,0,16⟩,⟨⟨(some 32),(.p (.mov (.tmp 1))),none⟩,0,16⟩,⟨⟨(some 33),(.p (.iaddr 4 (.tmp 31) (.tmp 32))),none⟩,0,16⟩,⟨⟨(some 34),(.loadn 4 (.tmp 33)),none⟩,0,16⟩,⟨⟨(some 35),(.p (.build [.int .i64 (.ofNat 0),.nilslice,.int .i64 (.ofNat 0),.int .i64 (.ofNat 0),.int .i64 (.ofNat 0),.int .i64 (.ofNat 0)] [(0,1,(.tmp 26)),(1,1,(.tmp 27)),(2,4,(.tmp 34))])),none⟩,0,16⟩,⟨⟨none,(.e (.store 6 (.tmp 4) (.tmp 35))),none⟩,0,18⟩,⟨⟨(some 5),(.p (.mov (.val (.bool true)))),none⟩,17,18⟩])
 (.ret)))),[.celln 6 4,.tmp 5]⟩
theorem v115 : IsFun Tryz.prog 115 m115 := ⟨_, Tryz.func115, by kernel_rfl, by kernel_rfl⟩
def m116 : Fun := ⟨20,2,.seq (.region [⟨(some 4),(.a (.new [.int .i64 (.ofNat 0),.nilslice,.int .i64 (.ofNat 0),.int .i64 (.ofNat 0),.int .i64 (.ofNat 0),.int .i64 (.ofNat 0)])),none⟩,⟨(some 5),(.p (.mov (.val (.bool false)))),none⟩])
 (.seq (.region [⟨(some 9),(.p (.mov (.tmp 0))),none⟩,⟨(some 10),(.p (.nilchk (.tmp 9))),none⟩,⟨(some 11),(.p (.faddr 1 (.tmp 10))),none⟩,⟨(some 12),(.load1 (.tmp 11)),none⟩,⟨(some 13),(.p (.mov (.tmp 1))),none⟩,⟨(some 14),(.e (.lookup false (.agg [.int .i64 (.ofNat 0),.nilslice,.int .i64 (.ofNat 0),.int .i64 (.ofNat 0),.int .i64 (.ofNat 0),.int .i64 (.ofNat 0)]) true (.tmp 12) (.tmp 13))),none⟩,⟨(some 8),(.p (.mov (.tmp 14))),none⟩,⟨(some 15),(.p (.ext (.tmp 8) 0)),none⟩,⟨(some 16),(.p (.ext (.tmp 8) 1)),none⟩,⟨(some 6),(.a (.new [.int .i64 (.ofNat 0),.nilslice,.int .i64 (.ofNat 0),.int .i64 (.ofNat 0),.int .i64 (.ofNat 0),.int .i64 (.ofNat 0)])),none⟩,⟨none,(.e (.store 6 (.tmp 6) (.tmp 15))),none⟩,⟨(some 7),(.p (.mov (.tmp 16))),none⟩])
 (.seq (.region [⟨(some 17),(.loadn 6 (.tmp 6)),none⟩,⟨(some 18),(.e (.call 131 [(.tmp 17)])),none⟩,⟨(some 19),(.p (.mov (.tmp 7))),none⟩,⟨none,(.e (.store 6 (.tmp 4) (.tmp 18))),none⟩,⟨(some 5),(.p (.mov (.tmp 19))),none⟩])
 (.ret))),[.celln 6 4,.tmp 5]⟩
theorem v116 : IsFun Tryz.prog 116 m116 := ⟨_, Tryz.func116, by kernel_rfl, by kernel_rfl⟩
def m117 : Fun := ⟨75,2,.seq (.region [⟨(some 2),(.a (.box (.tmp 0))),none⟩,⟨(some 4),(.p (.mov (.val (.nilptr)))),none⟩,⟨(some 5),(.p (.mov (.val (.bool false)))),none⟩])
 (.seq (.region [⟨(some 12),(.p (.build [.nilptr,.nilslice,.nilslice] [])),none⟩,⟨(some 13),(.a (.box (.tmp 12))),none⟩,⟨(some 6),(.p (.mov (.tmp 13))),none⟩])
 (.seq (.region [⟨(some 7),(.p (.mov (.val (.nilslice)))),none⟩])
 (.seq (.seq (.region [⟨(some 14),(.p (.mov (.tmp 1))),none⟩,⟨(some 15),(.p (.lenb (.tmp 14))),none⟩,⟨(some 16),(.p (.mov (.val (.int .i64 (.ofNat 0))))),none⟩])
 (.block 0 (.loop (.seq (.region [⟨(some 17),(.p (.bin .lss (.tmp 16) (.tmp 15))),none⟩])
 (.seq (.cond (.tmp 17) (.skip)
 (.exit 0))
 (.seq (.block 1 (.seq (.region [⟨(some 18),(.p (.mov (.tmp 16))),none⟩,⟨(some 19),(.p (.iaddr 6 (.tmp 14) (.tmp 16))),none⟩,⟨(some 20),(.loadn 6 (.tmp 19)),none⟩,⟨(some 9),(.a (.new [.int .i64 (.ofNat 0),.nilslice,.int .i64 (.ofNat 0),.int .i64 (.ofNat 0),.int .i64 (.ofNat 0),.int .i64 (.ofNat 0)])),none⟩,⟨(some 8),(.p (.mov (.tmp 18))),none⟩,⟨none,(.e (.store 6 (.tmp 9) (.tmp 20))),none⟩])
 (.seq (.seq (.dregion [⟨⟨(some 21),(.p (.mov (.tmp 8))),none⟩,0,13⟩,⟨⟨(some 22),(.p (.bin .gtr (.tmp 21) (.val (.int .i64 (.ofNat 0))))),none⟩,0,13⟩,⟨⟨(some 23),(.p (.mov (.tmp 22))),none⟩,0,13⟩,⟨⟨(some 24),(.p (.faddr 0 (.tmp 9))),(some (23,true))⟩,0,13⟩,⟨⟨(some 25),(.load1 (.tmp 24)),(some (23,true))⟩,0,13⟩,⟨⟨(some 26),(.p (.mov (.tmp 1))),(some (23,true))⟩,0,13⟩,⟨⟨(some 27),(.p (.mov (.tmp 8))),(some (23,true))⟩,0,13⟩,⟨⟨(some 28),(.p (.bin .sub (.tmp 27) (.val (.int .i64 (.ofNat 1))))),(some (23,true))⟩,0,13⟩,⟨⟨(some 29),(.p (.iaddr 6 (.tmp 26) (.tmp 28))),(some (23,true))⟩,0,13⟩,⟨⟨(some 30),(.p (.faddr 0 (.tmp 29))),(some (23,true))⟩,0,13⟩,⟨⟨(some 31),(.load1 (.tmp 30)),(some (23,true))⟩,0,13⟩,⟨⟨(some 32),(.p (.bin .leq (.tmp 25) (.tmp 31))),(some (23,true))⟩,0,13⟩,⟨⟨(some 33),(.p (.pick (.tmp 23) (.tmp 32) (.val (.bool false)))),none⟩,0,13⟩])
 (.cond (.tmp 33) (.seq (.region [⟨(some 4),(.p (.mov (.val (.nilptr)))),none⟩,⟨(some 5),(.p (.mov (.val (.bool false)))),none⟩])
 (.ret))
 (.skip)))
 (.seq (.region [⟨(some 34),(.p (.mov (.tmp 7))),none⟩,⟨(some 35),(.p (.faddr 1 (.tmp 9))),none⟩,⟨(some 36),(.load1 (.tmp 35)),none⟩,⟨(some 37),(.a (.bslice [.nilslice] 1 1 [(0,1,(.tmp 36))])),none⟩,⟨(some 38),(.e (.append 1 24 (.tmp 34) (.tmp 37))),none⟩,⟨(some 7),(.p (.mov (.tmp 38))),none⟩])
 (.dregion [⟨⟨(some 41),(.p (.mov (.tmp 6))),none⟩,0,7⟩,⟨⟨(some 42),(.p (.nilchk (.tmp 41))),none⟩,0,7⟩,⟨⟨(some 43),(.p (.faddr 1 (.tmp 42))),none⟩,0,7⟩,⟨⟨(some 44),(.load1 (.tmp 43)),none⟩,0,7⟩,⟨⟨(some 45),(.p (.faddr 0 (.tmp 9))),none⟩,0,7⟩,⟨⟨(some 46),(.load1 (.tmp 45)),none⟩,0,7⟩,⟨⟨(some 47),(.a (.bslice [.int .i64 (.ofNat 0)] 1 1 [(0,1,(.tmp 46))])),none⟩,0,7⟩,⟨⟨(some 48),(.e (.append 1 8 (.tmp 44) (.tmp 47))),none⟩,0,15⟩,⟨⟨(some 49),(.p (.mov (.tmp 6))),none⟩,0,15⟩,⟨⟨(some 50),(.p (.nilchk (.tmp 49))),none⟩,0,15⟩,⟨⟨(some 51),(.p (.faddr 2 (.tmp 50))),none⟩,0,15⟩,⟨⟨(some 52),(.load1 (.tmp 51)),none⟩,0,15⟩,⟨⟨(some 53),(.p (.faddr 2 (.tmp 9))),none⟩,0,15⟩,⟨⟨(some 54),(.loadn 4 (.tmp 53)),none⟩,0,15⟩,⟨⟨(some 55),(.a (.bslice [.int .i64 (.ofNat 0),.int .i64 (.ofNat 0),.int .i64 (.ofNat 0),.int .i64 (.ofNat 0)] 4 1 [(0,4,(.tmp 54))])),none⟩,0,15⟩,⟨⟨(some 56),(.e (.append 4 32 (.tmp 52) (.tmp 55))),none⟩,8,19⟩,⟨⟨(some 39),(.p (.mov (.tmp 6))),none⟩,0,19⟩,⟨⟨(some 57),(.p (.nilchk (.tmp 39))),none⟩,16,19⟩,⟨⟨(some 58),(.p (.faddr 1 (.tmp 57))),none⟩,16,19⟩,⟨⟨none,(.e (.store 1 (.tmp 58) (.tmp 48))),none⟩,16,23⟩,⟨⟨(some 40),(.p (.mov (.tmp 6))),none⟩,0,23⟩,⟨⟨(some 59),(.p (.nilchk (.tmp 40))),none⟩,20,23⟩,⟨⟨(some 60),(.p (.faddr 2 (.tmp 59))),none⟩,20,23⟩,⟨⟨none,(.e (.store 1 (.tmp 60) (.tmp 56))),none⟩,20,24⟩])))))
 (.region [⟨(some 61),(.p (.bin .add (.tmp 16) (.val (.int .i64 (.ofNat 1))))),none⟩,⟨(some 16),(.p (.mov (.tmp 61))),none⟩])))))))
 (.seq (.region [⟨(some 63),(.loadn 1 (.tmp 2)),none⟩,⟨(some 64),(.p (.mov (.tmp 7))),none⟩,⟨(some 65),(.e (.call 158 [(.tmp 63),(.tmp 64)])),none⟩,⟨(some 62),(.p (.mov (.tmp 65))),none⟩,⟨(some 66),(.p (.ext (.tmp 62) 0)),none⟩,⟨(some 67),(.p (.ext (.tmp 62) 1)),none⟩,⟨(some 10),(.p (.mov (.tmp 66))),none⟩,⟨(some 11),(.p (.mov (.tmp 67))),none⟩])
 (.seq (.seq (.region [⟨(some 68),(.p (.mov (.tmp 11))),none⟩,⟨(some 69),(.p (.not (.tmp 68))),none⟩])
 (.cond (.tmp 69) (.seq (.region [⟨(some 4),(.p (.mov (.val (.nilptr)))),none⟩,⟨(some 5),(.p (.mov (.val (.bool false)))),none⟩])
 (.ret))
 (.skip)))
 (.seq (.region [⟨(some 70),(.p (.mov (.tmp 6))),none⟩,⟨(some 71),(.p (.mov (.tmp 10))),none⟩,⟨(some 72),(.p (.nilchk (.tmp 70))),none⟩,⟨(some 73),(.p (.faddr 0 (.tmp 72))),none⟩,⟨none,(.e (.store 1 (.tmp 73) (.tmp 71))),none⟩])
 (.seq (.region [⟨(some 74),(.p (.mov (.tmp 6))),none⟩,⟨(some 4),(.p (.mov (.tmp 74))),none⟩,⟨(some 5),(.p (.mov (.val (.bool true)))),none⟩])
 (.ret)))))))),[.tmp 4,.tmp 5]⟩
theorem v117 : IsFun Tryz.prog 117 m117 := ⟨_, Tryz.func117, by kernel_rfl, by kernel_rfl⟩
def m118 : Fun := ⟨22,2,.seq (.region [⟨(some 4),(.p (.mov (.val (.bool false)))),none⟩])
 (.seq (.region [⟨(some 8),(.p (.mov (.tmp 0))),none⟩,⟨(some 9),(.p (.nilchk (.tmp 8))),none⟩,⟨(some 10),(.p (.faddr 1 (.tmp 9))),none⟩,⟨(some 11),(.load1 (.tmp 10)),none⟩,⟨(some 12),(.p (.mov (.tmp 1))),none⟩,⟨(some 13),(.e (.lookup false (.agg [.int .i64 (.ofNat 0),.nilslice,.int .i64 (.ofNat 0),.int .i64 (.ofNat 0),.int .i64 (.ofNat 0),.int .i64 (.ofNat 0)]) true (.tmp 11) (.tmp 12))),none⟩,⟨(some 7),(.p (.mov (.tmp 13))),none⟩,⟨(some 14),(.p (.ext (.tmp 7) 0)),none⟩,⟨(some 15),(.p (.ext (.tmp 7) 1)),none⟩,⟨(some 5),(.a (.new [.int .i64 (.ofNat 0),.nilslice,.int .i64 (.ofNat 0),.int .i64 (.ofNat 0),.int .i64 (.ofNat 0),.int .i64 (.ofNat 0)])),none⟩,⟨none,(.e (.store 6 (.tmp 5) (.tmp 14))),none⟩,⟨(some 6),(.p (.mov (.tmp 15))),none⟩])
 (.seq (.region [⟨(some 16),(.p (.mov (.tmp 0))),none⟩,⟨(some 17),(.p (.nilchk (.tmp 16))),none⟩,⟨(some 18),(.p (.faddr 1 (.tmp 17))),none⟩,⟨(some 19),(.load1 (.tmp 18)),none⟩,⟨(some 20),(.p (.mov (.tmp 1))),none⟩,⟨none,(.e (.delete false (.tmp 19) (.tmp 20))),none⟩])
 (.seq (.region [⟨(some 21),(.p (.mov (.tmp 6))),none⟩,⟨(some 4),(.p (.mov (.tmp 21))),none⟩])
 (.ret)))),[.tmp 4]⟩
theorem v118 : IsFun Tryz.prog 118 m118 := ⟨_, Tryz.func118, by kernel_rfl, by kernel_rfl⟩
def m119 : Fun := ⟨8,1,.seq (.region [⟨(some 2),(.p (.mov (.val (.nilslice)))),none⟩])
 (.seq (.seq (.region [⟨(some 3),(.p (.mov (.tmp 0))),none⟩,⟨(some 4),(.p (.eq .slice false (.tmp 3) (.val (.nilslice)))),none⟩])
 (.cond (.tmp 4) (.seq (.region [⟨(some 2),(.p (.mov (.val (.nilslice)))),none⟩])
 (.ret))
 (.skip)))
 (.seq (.region [⟨(some 5),(.a (.bslice [] 1 0 [])),none⟩,⟨(some 6),(.p (.mov (.tmp 0))),none⟩,⟨(some 7),(.e (.append 1 8 (.tmp 5) (.tmp 6))),none⟩,⟨(some 2),(.p (.mov (.tmp 7))),none⟩])
 (.ret))),[.tmp 2]⟩
theorem v119 : IsFun Tryz.prog 119 m119 := ⟨_, Tryz.func119, by kernel_rfl, by kernel_rfl⟩
def m120 : Fun := ⟨42,2,.seq (.region [⟨(some 4),(.p (.mov (.val (.nilslice)))),none⟩])
 (.seq (.region [⟨(some 8),(.p (.mov (.tmp 0))),none⟩,⟨(some 9),(.p (.mov (.tmp 1))),none⟩,⟨(some 10),(.e (.call 159 [(.tmp 8),(.tmp 9)])),none⟩,⟨(some 5),(.p (.mov (.tmp 10))),none⟩])
 (.seq (.seq (.region [⟨(some 11),(.p (.mov (.tmp 5))),none⟩,⟨(some 12),(.p (.bin .eql (.tmp 11) (.val (.int .i64 (.negSucc 0))))),none⟩])
 (.cond (.tmp 12) (.seq (.region [⟨(some 13),(.p (.mov (.tmp 0))),none⟩,⟨(some 4),(.p (.mov (.tmp 13))),none⟩])
 (.ret))
 (.skip)))
 (.seq (.seq (.region [⟨(some 14),(.p (.mov (.tmp 5))),none⟩,⟨(some 15),(.p (.bin .add (.tmp 14) (.val (.int .i64 (.ofNat 1))))),none⟩,⟨(some 6),(.p (.mov (.tmp 15))),none⟩])
 (.block 0 (.loop (.seq (.seq (.region [⟨(some 16),(.p (.mov (.tmp 6))),none⟩,⟨(some 17),(.p (.mov (.tmp 0))),none⟩,⟨(some 18),(.p (.lenb (.tmp 17))),none⟩,⟨(some 19),(.p (.bin .lss (.tmp 16) (.tmp 18))),none⟩])
 (.cond (.tmp 19) (.skip)
 (.exit 0)))
 (.seq (.block 1 (.seq (.region [⟨(some 22),(.p (.mov (.tmp 0))),none⟩,⟨(some 23),(.p (.mov (.tmp 6))),none⟩,⟨(some 24),(.p (.iaddr 1 (.tmp 22) (.tmp 23))),none⟩,⟨(some 25),(.load1 (.tmp 24)),none⟩,⟨(some 7),(.p (.mov (.tmp 25))),none⟩])
 (.seq (.region [⟨(some 26),(.p (.mov (.tmp 1))),none⟩,⟨(some 27),(.p (.mov (.tmp 7))),none⟩,⟨(some 28),(.e (.callv (.tmp 26) [(.tmp 27)])),none⟩,⟨(some 29),(.p (.not (.tmp 28))),none⟩])
 (.cond (.tmp 29) (.seq (.region [⟨(some 30),(.p (.mov (.tmp 0))),none⟩,⟨(some 31),(.p (.mov (.tmp 5))),none⟩,⟨(some 32),(.p (.mov (.tmp 7))),none⟩,⟨(some 33),(.p (.iaddr 1 (.tmp 30) (.tmp 31))),none⟩,⟨none,(.e (.store 1 (.tmp 33) (.tmp 32))),none⟩])
 (.region [⟨(some 34),(.p (.mov (.tmp 5))),none⟩,⟨(some 35),(.p (.bin .add (.tmp 34) (.val (.int .i64 (.ofNat 1))))),none⟩,⟨(some 5),(.p (.mov (.tmp 35))),none⟩]))
 (.skip)))))
 (.region [⟨(some 20),(.p (.mov (.tmp 6))),none⟩,⟨(some 21),(.p (.bin .add (.tmp 20) (.val (.int .i64 (.ofNat 1))))),none⟩,⟨(some 6),(.p (.mov (.tmp 21))),none⟩]))))))
 (.seq (.region [⟨(some 36),(.p (.mov (.tmp 0))),none⟩,⟨(some 37),(.p (.mov (.tmp 5))),none⟩,⟨(some 38),(.p (.slc 1 (.tmp 36) (some (.tmp 37)) none none)),none⟩,⟨none,(.e (.clear [.int .i64 (.ofNat 0)] (.tmp 38))),none⟩])
 (.seq (.region [⟨(some 39),(.p (.mov (.tmp 0))),none⟩,⟨(some 40),(.p (.mov (.tmp 5))),none⟩,⟨(some 41),(.p (.slc 1 (.tmp 39) none (some (.tmp 40)) none)),none⟩,⟨(some 4),(.p (.mov (.tmp 41))),none⟩])
 (.ret)))))),[.tmp 4]⟩
theorem v120 : IsFun Tryz.prog 120 m120 := ⟨_, Tryz.func120, by kernel_rfl, by kernel_rfl⟩
def m121 : Fun := ⟨7,2,.seq (.region [⟨(some 3),(.p (.mov (.val (.bool false)))),none⟩])
 (.seq (.region [⟨(some 4),(.load1 (.tmp 1)),none⟩,⟨(some 5),(.p (.mov (.tmp 0))),none⟩,⟨(some 6),(.e (.call 122 [(.tmp 4),(.tmp 5)])),none⟩,⟨(some 3),(.p (.mov (.tmp 6))),none⟩])
 (.ret)),[.tmp 3]⟩
theorem v121 : IsFun Tryz.prog 121 m121 := ⟨_, Tryz.func121, by kernel_rfl, by kernel_rfl⟩
def m122 : Fun := ⟨9,2,.seq (.region [⟨(some 4),(.p (.mov (.val (.bool false)))),none⟩])
 (.seq (.region [⟨(some 5),(.p (.mov (.tmp 0))),none⟩,⟨(some 6),(.p (.mov (.tmp 1))),none⟩,⟨(some 7),(.e (.call 160 [(.tmp 5),(.tmp 6)])),none⟩,⟨(some 8),(.p (.bin .geq (.tmp 7) (.val (.int .i64 (.ofNat 0))))),none⟩,⟨(some 4),(.p (.mov (.tmp 8))),none⟩])
 (.ret)),[.tmp 4]⟩
theorem v122 : IsFun Tryz.prog 122 m122 := ⟨_, Tryz.func122, by kernel_rfl, by kernel_rfl⟩
def m123 : Fun := ⟨19,2,.seq (.region [⟨(some 4),(.p (.mov (.val (.int .i64 (.ofNat 0))))),none⟩])
 (.seq (.seq (.region [⟨(some 6),(.p (.mov (.tmp 0))),none⟩,⟨(some 7),(.p (.lenb (.tmp 6))),none⟩,⟨(some 8),(.p (.mov (.val (.int .i64 (.ofNat 0))))),none⟩])
 (.block 0 (.loop (.seq (.region [⟨(some 9),(.p (.bin .lss (.tmp 8) (.tmp 7))),none⟩])
 (.seq (.cond (.tmp 9) (.skip)
 (.exit 0))
 (.seq (.block 1 (.seq (.region [⟨(some 10),(.p (.mov (.tmp 8))),none⟩,⟨(some 5),(.p (.mov (.tmp 10))),none⟩])
 (.seq (.region [⟨(some 11),(.p (.mov (.tmp 1))),none⟩,⟨(some 12),(.p (.mov (.tmp 0))),none⟩,⟨(some 13),(.p (.mov (.tmp 5))),none⟩,⟨(some 14),(.p (.iaddr 1 (.tmp 12) (.tmp 13))),none⟩,⟨(some 15),(.load1 (.tmp 14)),none⟩,⟨(some 16),(.p (.eq .ptr false (.tmp 11) (.tmp 15))),none⟩])
 (.cond (.tmp 16) (.seq (.region [⟨(some 17),(.p (.mov (.tmp 5))),none⟩,⟨(some 4),(.p (.mov (.tmp 17))),none⟩])
 (.ret))
 (.skip)))))
 (.region [⟨(some 18),(.p (.bin .add (.tmp 8) (.val (.int .i64 (.ofNat 1))))),none⟩,⟨(some 8),(.p (.mov (.tmp 18))),none⟩])))))))
 (.seq (.region [⟨(some 4),(.p (.mov (.val (.int .i64 (.negSucc 0))))),none⟩])
 (.ret))),[.tmp 4]⟩
theorem v123 : IsFun Tryz.prog 123 m123 := ⟨_, Tryz.func123, by kernel_rfl, by kernel_rfl⟩
def m124 : Fun := ⟨11,2,.seq (.region [⟨(some 4),(.p (.mov (.val (.int .i64 (.ofNat 0))))),none⟩])
 (.seq (.region [⟨(some 5),(.p (.mov (.tmp 0))),none⟩,⟨(some 6),(.p (.nilchk (.tmp 5))),none⟩,⟨(some 7),(.p (.faddr 1 (.tmp 6))),none⟩,⟨(some 8),(.load1 (.tmp 7)),none⟩,⟨(some 9),(.p (.mov (.tmp 1))),none⟩,⟨(some 10),(.e (.call 160 [(.tmp 8),(.tmp 9)])),none⟩,⟨(some 4),(.p (.mov (.tmp 10))),none⟩])
 (.ret)),[.tmp 4]⟩
theorem v124 : IsFun Tryz.prog 124 m124 := ⟨_, Tryz.func124, by kernel_rfl, by kernel_rfl⟩
def m125 : Fun := ⟨33,3,.seq (.region [⟨(some 6),(.p (.mov (.val (.nilslice)))),none⟩])
 (.seq (.region [⟨(some 8),(.p (.mov (.tmp 0))),none⟩,⟨(some 9),(.p (.mov (.tmp 1))),none⟩,⟨(some 10),(.p (.mov (.tmp 2))),none⟩,⟨(some 11),(.p (.mov (.tmp 0))),none⟩,⟨(some 12),(.p (.lenb (.tmp 11))),none⟩,⟨(some 13),(.p (.slc 1 (.tmp 8) (some (.tmp 9)) (some (.tmp 10)) (some (.tmp 12)))),none⟩])
 (.seq (.seq (.region [⟨(some 14),(.p (.mov (.tmp 1))),none⟩,⟨(some 15),(.p (.mov (.tmp 2))),none⟩,⟨(some 16),(.p (.bin .eql (.tmp 14) (.tmp 15))),none⟩])
 (.cond (.tmp 16) (.seq (.region [⟨(some 17),(.p (.mov (.tmp 0))),none⟩,⟨(some 6),(.p (.mov (.tmp 17))),none⟩])
 (.ret))
 (.skip)))
 (.seq (.region [⟨(some 18),(.p (.mov (.tmp 0))),none⟩,⟨(some 19),(.p (.lenb (.tmp 18))),none⟩,⟨(some 7),(.p (.mov (.tmp 19))),none⟩])
 (.seq (.dregion [⟨⟨(some 20),(.p (.mov (.tmp 0))),none⟩,0,6⟩,⟨⟨(some 21),(.p (.mov (.tmp 1))),none⟩,0,6⟩,⟨⟨(some 22),(.p (.slc 1 (.tmp 20) none (some (.tmp 21)) none)),none⟩,0,6⟩,⟨⟨(some 23),(.p (.mov (.tmp 0))),none⟩,0,6⟩,⟨⟨(some 24),(.p (.mov (.tmp 2))),none⟩,0,6⟩,⟨⟨(some 25),(.p (.slc 1 (.tmp 23) (some (.tmp 24)) none none)),none⟩,0,6⟩,⟨⟨(some 26),(.e (.append 1 8 (.tmp 22) (.tmp 25))),none⟩,0,8⟩,⟨⟨(some 0),(.p (.mov (.tmp 26))),none⟩,7,8⟩])
 (.seq (.region [⟨(some 27),(.p (.mov (.tmp 0))),none⟩,⟨(some 28),(.p (.mov (.tmp 0))),none⟩,⟨(some 29),(.p (.lenb (.tmp 28))),none⟩,⟨(some 30),(.p (.mov (.tmp 7))),none⟩,⟨(some 31),(.p (.slc 1 (.tmp 27) (some (.tmp 29)) (some (.tmp 30)) none)),none⟩,⟨none,(.e (.clear [.nilptr] (.tmp 31))),none⟩])
 (.seq (.region [⟨(some 32),(.p (.mov (.tmp 0))),none⟩,⟨(some 6),(.p (.mov (.tmp 32))),none⟩])
 (.ret))))))),[.tmp 6]⟩
theorem v125 : IsFun Tryz.prog 125 m125 := ⟨_, Tryz.func125, by kernel_rfl, by kernel_rfl⟩
def m126 : Fun := ⟨36,1,.seq (.region [⟨(some 2),(.p (.mov (.val (.nilslice)))),none⟩])
 (.seq (.region [⟨(some 3),(.p (.mov (.val (.int .i64 (.ofNat 0))))),none⟩])
 (.seq (.seq (.region [⟨(some 9),(.p (.mov (.tmp 0))),none⟩,⟨(some 10),(.p (.lenb (.tmp 9))),none⟩,⟨(some 11),(.p (.mov (.val (.int .i64 (.ofNat 0))))),none⟩])
 (.block 0 (.loop (.seq (.region [⟨(some 12),(.p (.bin .lss (.tmp 11) (.tmp 10))),none⟩])
 (.seq (.cond (.tmp 12) (.skip)
 (.exit 0))
 (.seq (.block 1 (.seq (.region [⟨(some 13),(.p (.iaddr 1 (.tmp 9) (.tmp 11))),none⟩,⟨(some 14),(.load1 (.tmp 13)),none⟩,⟨(some 5),(.p (.mov (.tmp 14))),none⟩])
 (.seq (.region [⟨(some 15),(.p (.mov (.tmp 3))),none⟩,⟨(some 16),(.p (.mov (.tmp 5))),none⟩,⟨(some 17),(.p (.lenb (.tmp 16))),none⟩,⟨(some 18),(.p (.bin .add (.tmp 15) (.tmp 17))),none⟩,⟨(some 3),(.p (.mov (.tmp 18))),none⟩])
 (.seq (.region [⟨(some 19),(.p (.mov (.tmp 3))),none⟩,⟨(some 20),(.p (.bin .lss (.tmp 19) (.val (.int .i64 (.ofNat 0))))),none⟩])
 (.cond (.tmp 20) (.region [⟨(some 21),(.p (.mkiface 9 (.val (.str [108,101,110,32,111,117,116,32,111,102,32,114,97,110,103,101])))),none⟩,⟨none,(.e (.stop)),none⟩])
 (.skip))))))
 (.region [⟨(some 22),(.p (.bin .add (.tmp 11) (.val (.int .i64 (.ofNat 1))))),none⟩,⟨(some 11),(.p (.mov (.tmp 22))),none⟩])))))))
 (.seq (.region [⟨(some 23),(.p (.mov (.tmp 3))),none⟩,⟨(some 24),(.e (.call 161 [(.val (.nilslice)),(.tmp 23)])),none⟩,⟨(some 6),(.p (.mov (.tmp 24))),none⟩])
 (.seq (.seq (.region [⟨(some 25),(.p (.mov (.tmp 0))),none⟩,⟨(some 26),(.p (.lenb (.tmp 25))),none⟩,⟨(some 27),(.p (.mov (.val (.int .i64 (.ofNat 0))))),none⟩])
 (.block 2 (.loop (.seq (.region [⟨(some 28),(.p (.bin .lss (.tmp 27) (.tmp 26))),none⟩])
 (.seq (.cond (.tmp 28) (.skip)
 (.exit 2))
 (.seq (.block 3 (.seq (.region [⟨(some 29),(.p (.iaddr 1 (.tmp 25) (.tmp 27))),none⟩,⟨(some 30),(.load1 (.tmp 29)),none⟩,⟨(some 8),(.p (.mov (.tmp 30))),none⟩])
 (.region [⟨(some 31),(.p (.mov (.tmp 6))),none⟩,⟨(some 32),(.p (.mov (.tmp 8))),none⟩,⟨(some 33),(.e (.append 1 8 (.tmp 31) (.tmp 32))),none⟩,⟨(some 6),(.p (.mov (.tmp 33))),none⟩])))
 (.region [⟨(some 34),(.p (.bin .add (.tmp 27) (.val (.int .i64 (.ofNat 1))))),none⟩,⟨(some 27),(.p (.mov (.tmp 34))),none⟩])))))))
 (.seq (.region [⟨(some 35),(.p (.mov (.tmp 6))),none⟩,⟨(some 2),(.p (.mov (.tmp 35))),none⟩])
 (.ret)))))),[.tmp 2]⟩
theorem v126 : IsFun Tryz.prog 126 m126 := ⟨_, Tryz.func126, by kernel_rfl, by kernel_rfl⟩
def m127 : Fun := ⟨5,1,.seq (.region [⟨(some 2),(.p (.mov (.val (.nilslice)))),none⟩])
 (.seq (.region [⟨(some 3),(.p (.mov (.tmp 0))),none⟩,⟨(some 4),(.e (.call 162 [(.val (.nilslice)),(.tmp 3)])),none⟩,⟨(some 2),(.p (.mov (.tmp 4))),none⟩])
 (.ret)),[.tmp 2]⟩
theorem v127 : IsFun Tryz.prog 127 m127 := ⟨_, Tryz.func127, by kernel_rfl, by kernel_rfl⟩
def m128 : Fun := ⟨16,2,.seq (.region [⟨(some 5),(.load1 (.tmp 1)),none⟩,⟨(some 6),(.p (.lenb (.tmp 5))),none⟩,⟨(some 7),(.p (.mov (.val (.int .i64 (.ofNat 0))))),none⟩])
 (.block 0 (.loop (.seq (.region [⟨(some 8),(.p (.bin .lss (.tmp 7) (.tmp 6))),none⟩])
 (.seq (.cond (.tmp 8) (.skip)
 (.exit 0))
 (.seq (.block 1 (.seq (.region [⟨(some 9),(.p (.iaddr 1 (.tmp 5) (.tmp 7))),none⟩,⟨(some 10),(.load1 (.tmp 9)),none⟩,⟨(some 4),(.p (.mov (.tmp 10))),none⟩])
 (.seq (.region [⟨(some 11),(.p (.mov (.tmp 0))),none⟩,⟨(some 12),(.p (.mov (.tmp 4))),none⟩,⟨(some 13),(.e (.callv (.tmp 11) [(.tmp 12)])),none⟩,⟨(some 14),(.p (.not (.tmp 13))),none⟩])
 (.cond (.tmp 14) (.ret)
 (.skip)))))
 (.region [⟨(some 15),(.p (.bin .add (.tmp 7) (.val (.int .i64 (.ofNat 1))))),none⟩,⟨(some 7),(.p (.mov (.tmp 15))),none⟩])))))),[]⟩
theorem v128 : IsFun Tryz.prog 128 m128 := ⟨_, Tryz.func128, by kernel_rfl, by kernel_rfl⟩
def m129 : Fun := ⟨27,2,.seq (.region [⟨(some 4),(.p (.mov (.val (.nilslice)))),none⟩])
 (.seq (.seq (.region [⟨(some 5),(.p (.mov (.tmp 1))),none⟩,⟨(some 6),(.p (.bin .lss (.tmp 5) (.val (.int .i64 (.ofNat 0))))),none⟩])
 (.cond (.tmp 6) (.region [⟨(some 7),(.p (.mkiface 9 (.val (.str [99,97,110,110,111,116,32,98,101,32,110,101,103,97,116,105,118,101])))),none⟩,⟨none,(.e (.stop)),none⟩])
 (.skip)))
 (.seq (.seq (.region [⟨(some 8),(.p (.mov (.tmp 1))),none⟩,⟨(some 9),(.p (.mov (.tmp 0))),none⟩,⟨(some 10),(.p (.caps (.tmp 9))),none⟩,⟨(some 11),(.p (.mov (.tmp 0))),none⟩,⟨(some 12),(.p (.lenb (.tmp 11))),none⟩,⟨(some 13),(.p (.bin .sub (.tmp 10) (.tmp 12))),none⟩,⟨(some 14),(.p (.bin .sub (.tmp 8) (.tmp 13))),none⟩,⟨(some 1),(.p (.mov (.tmp 14))),none⟩])
 (.seq (.region [⟨(some 15),(.p (.mov (.tmp 1))),none⟩,⟨(some 16),(.p (.bin .gtr (.tmp 15) (.val (.int .i64 (.ofNat 0))))),none⟩])
 (.cond (.tmp 16) (.region [⟨(some 17),(.p (.mov (.tmp 0))),none⟩,⟨(some 18),(.p (.mov (.tmp 0))),none⟩,⟨(some 19),(.p (.caps (.tmp 18))),none⟩,⟨(some 20),(.p (.slc 1 (.tmp 17) none (some (.tmp 19)) none)),none⟩,⟨(some 21),(.p (.mov (.tmp 1))),none⟩,⟨(some 22),(.e (.appendz [.int .i64 (.ofNat 0)] 1 8 (.tmp 20) (.tmp 21))),none⟩,⟨(some 23),(.p (.mov (.tmp 0))),none⟩,⟨(some 24),(.p (.lenb (.tmp 23))),none⟩,⟨(some 25),(.p (.slc 1 (.tmp 22) none (some (.tmp 24)) none)),none⟩,⟨(some 0),(.p (.mov (.tmp 25))),none⟩])
 (.skip))))
 (.seq (.region [⟨(some 26),(.p (.mov (.tmp 0))),none⟩,⟨(some 4),(.p (.mov (.tmp 26))),none⟩])
 (.ret)))),[.tmp 4]⟩
theorem v129 : IsFun Tryz.prog 129 m129 := ⟨_, Tryz.func129, by kernel_rfl, by kernel_rfl⟩
def m130 : Fun := ⟨23,2,.seq (.region [⟨(some 2),(.a (.box (.tmp 0))),none⟩,⟨(some 3),(.a (.box (.tmp 1))),none⟩,⟨(some 4),(.p (.mov (.val (.bool false)))),none⟩])
 (.seq (.region [⟨(some 5),(.loadn 4 (.tmp 3)),none⟩,⟨(some 6),(.e (.call 163 [(.tmp 5)])),none⟩,⟨(some 7),(.p (.mov (.tmp 6))),none⟩,⟨(some 8),(.p (.faddr 1 (.tmp 3))),(some (7,true))⟩,⟨(some 9),(.load1 (.tmp 8)),(some (7,true))⟩,⟨(some 10),(.p (.faddr 1 (.tmp 2))),(some (7,true))⟩,⟨(some 11),(.load1 (.tmp 10)),(some (7,true))⟩,⟨(some 12),(.p (.bin .eql (.tmp 9) (.tmp 11))),(some (7,true))⟩,⟨(some 13),(.p (.pick (.tmp 7) (.tmp 12) (.val (.bool false)))),none⟩,⟨(some 14),(.p (.mov (.tmp 13))),none⟩,⟨(some 15),(.p (.faddr 2 (.tmp 2))),(some (14,true))⟩,⟨(some 16),(.load1 (.tmp 15)),(some (14,true))⟩,⟨(some 17),(.p (.mov (.tmp 16))),(some (14,true))⟩,⟨(some 18),(.p (.faddr 0 (.tmp 3))),(some (17,false))⟩,⟨(some 19),(.load1 (.tmp 18)),(some (17,false))⟩,⟨(some 20),(.p (.not (.tmp 19))),(some (17,false))⟩,⟨(some 21),(.p (.pick (.tmp 17) (.val (.bool true)) (.tmp 20))),(some (14,true))⟩,⟨(some 22),(.p (.pick (.tmp 14) (.tmp 21) (.val (.bool false)))),none⟩,⟨(some 4),(.p (.mov (.tmp 22))),none⟩])
 (.ret)),[.tmp 4]⟩
theorem v130 : IsFun Tryz.prog 130 m130 := ⟨_, Tryz.func130, by kernel_rfl, by kernel_rfl⟩
def m131 : Fun := ⟨8,1,.seq (.region [⟨(some 1),(.a (.box (.tmp 0))),none⟩,⟨(some 2),(.a (.new [.int .i64 (.ofNat 0),.nilslice,.int .i64 (.ofNat 0),.int .i64 (.ofNat 0),.int .i64 (.ofNat 0),.int .i64 (.ofNat 0)])),none⟩])
 (.seq (.region [⟨(some 3),(.p (.faddr 1 (.tmp 1))),none⟩,⟨(some 4),(.load1 (.tmp 3)),none⟩,⟨(some 5),(.e (.call 88 [(.tmp 4)])),none⟩,⟨(some 6),(.p (.faddr 1 (.tmp 1))),none⟩,⟨none,(.e (.store 1 (.tmp 6) (.tmp 5))),none⟩])
 (.seq (.region [⟨(some 7),(.loadn 6 (.tmp 1)),none⟩,⟨none,(.e (.store 6 (.tmp 2) (.tmp 7))),none⟩])
 (.ret))),[.celln 6 2]⟩
theorem v131 : IsFun Tryz.prog 131 m131 := ⟨_, Tryz.func131, by kernel_rfl, by kernel_rfl⟩
def m132 : Fun := ⟨4,1,.seq (.region [⟨(some 1),(.a (.box (.tmp 0))),none⟩,⟨(some 2),(.p (.mov (.val (.nilfunc)))),none⟩])
 (.seq (.region [⟨(some 3),(.p (.mkfunc 164 [] [(.tmp 1)])),none⟩,⟨(some 2),(.p (.mov (.tmp 3))),none⟩])
 (.ret)),[.tmp 2]⟩
theorem v132 : IsFun Tryz.prog 132 m132 := ⟨_, Tryz.func132, by kernel_rfl, by kernel_rfl⟩
def m133 : Fun := ⟨134,4,.seq (.region [⟨(some 8),(.p (.mov (.val (.bool true)))),none⟩])
 (.seq (.region [⟨(some 9),(.p (.mov (.val (.bool true)))),none⟩])
 (.block 0 (.loop (.block 1 (.seq (.region [⟨(some 19),(.p (.mov (.tmp 2))),none⟩,⟨(some 20),(.p (.mov (.tmp 1))),none⟩,⟨(some 21),(.p (.bin .sub (.tmp 19) (.tmp 20))),none⟩,⟨(some 10),(.p (.mov (.tmp 21))),none⟩])
 (.seq (.seq (.region [⟨(some 22),(.p (.mov (.tmp 10))),none⟩,⟨(some 23),(.p (.bin .leq (.tmp 22) (.val (.int .i64 (.ofNat 12))))),none⟩])
 (.cond (.tmp 23) (.seq (.region [⟨(some 24),(.p (.mov (.tmp 0))),none⟩,⟨(some 25),(.p (.mov (.tmp 1))),none⟩,⟨(some 26),(.p (.mov (.tmp 2))),none⟩,⟨(some 27),(.e (.call 165 [(.tmp 24),(.tmp 25),(.tmp 26)])),none⟩])
 (.ret))
 (.skip)))
 (.seq (.seq (.region [⟨(some 28),(.p (.mov (.tmp 3))),none⟩,⟨(some 29),(.p (.bin .eql (.tmp 28) (.val (.int .i64 (.ofNat 0))))),none⟩])
 (.cond (.tmp 29) (.seq (.region [⟨(some 30),(.p (.mov (.tmp 0))),none⟩,⟨(some 31),(.p (.mov (.tmp 1))),none⟩,⟨(some 32),(.p (.mov (.tmp 2))),none⟩,⟨(some 33),(.e (.call 166 [(.tmp 30),(.tmp 31),(.tmp 32)])),none⟩])
 (.ret))
 (.skip)))
 (.seq (.seq (.region [⟨(some 34),(.p (.mov (.tmp 8))),none⟩,⟨(some 35),(.p (.not (.tmp 34))),none⟩])
 (.cond (.tmp 35) (.seq (.region [⟨(some 36),(.p (.mov (.tmp 0))),none⟩,⟨(some 37),(.p (.mov (.tmp 1))),none⟩,⟨(some 38),(.p (.mov (.tmp 2))),none⟩,⟨(some 39),(.e (.call 167 [(.tmp 36),(.tmp 37),(.tmp 38)])),none⟩])
 (.region [⟨(some 40),(.p (.mov (.tmp 3))),none⟩,⟨(some 41),(.p (.bin .sub (.tmp 40) (.val (.int .i64 (.ofNat 1))))),none⟩,⟨(some 3),(.p (.mov (.tmp 41))),none⟩]))
 (.skip)))
 (.seq (.region [⟨(some 43),(.p (.mov (.tmp 0))),none⟩,⟨(some 44),(.p (.mov (.tmp 1))),none⟩,⟨(some 45),(.p (.mov (.tmp 2))),none⟩,⟨(some 46),(.e (.call 168 [(.tmp 43),(.tmp 44),(.tmp 45)])),none⟩,⟨(some 42),(.p (.mov (.tmp 46))),none⟩,⟨(some 47),(.p (.ext (.tmp 42) 0)),none⟩,⟨(some 48),(.p (.ext (.tmp 42) 1)),none⟩,⟨(some 11),(.p (.mov (.tmp 47))),none⟩,⟨(some 12),(.p (.mov (.tmp 48))),none⟩])
 (.seq (.seq (.region [⟨(some 49),(.p (.mov (.tmp 12))),none⟩,⟨(some 50),(.p (.bin .eql (.tmp 49) (.val (.int .i64 (.ofNat 2))))),none⟩])
 (.cond (.tmp 50) (.seq (.region [⟨(some 51),(.p (.mov (.tmp 0))),none⟩,⟨(some 52),(.p (.mov (.tmp 1))),none⟩,⟨(some 53),(.p (.mov (.tmp 2))),none⟩,⟨(some 54),(.e (.call 169 [(.tmp 51),(.tmp 52),(.tmp 53)])),none⟩])
 (.seq (.region [⟨(some 55),(.p (.mov (.tmp 2))),none⟩,⟨(some 56),(.p (.bin .sub (.tmp 55) (.val (.int .i64 (.ofNat 1))))),none⟩,⟨(some 57),(.p (.mov (.tmp 11))),none⟩,⟨(some 58),(.p (.mov (.tmp 1))),none⟩,⟨(some 59),(.p (.bin .sub (.tmp 57) (.tmp 58))),none⟩,⟨(some 60),(.p (.bin .sub (.tmp 56) (.tmp 59))),none⟩,⟨(some 11),(.p (.mov (.tmp 60))),none⟩])
 (.region [⟨(some 12),(.p (.mov (.val (.int .i64 (.ofNat 1))))),none⟩])))
 (.skip)))
 (.seq (.seq (.region [⟨(some 61),(.p (.mov (.tmp 8))),none⟩,⟨(some 62),(.p (.mov (.tmp 61))),none⟩,⟨(some 63),(.p (.mov (.tmp 9))),(some (62,true))⟩,⟨(some 64),(.p (.pick (.tmp 62) (.tmp 63) (.val (.bool false)))),none⟩,⟨(some 65),(.p (.mov (.tmp 64))),none⟩,⟨(some 66),(.p (.mov (.tmp 12))),(some (65,true))⟩,⟨(some 67),(.p (.bin .eql (.tmp 66) (.val (.int .i64 (.ofNat 1))))),(some (65,true))⟩,⟨(some 68),(.p (.pick (.tmp 65) (.tmp 67) (.val (.bool false)))),none⟩])
 (.cond (.tmp 68) (.seq (.region [⟨(some 69),(.p (.mov (.tmp 0))),none⟩,⟨(some 70),(.p (.mov (.tmp 1))),none⟩,⟨(some 71),(.p (.mov (.tmp 2))),none⟩,⟨(some 72),(.e (.call 170 [(.tmp 69),(.tmp 70),(.tmp 71)])),none⟩])
 (.cond (.tmp 72) (.ret)
 (.skip)))
 (.skip)))
 (.seq (.seq (.dregion [⟨⟨(some 73),(.p (.mov (.tmp 1))),none⟩,0,12⟩,⟨⟨(some 74),(.p (.bin .gtr (.tmp 73) (.val (.int .i64 (.ofNat 0))))),none⟩,0,12⟩,⟨⟨(some 75),(.p (.mov (.tmp 74))),none⟩,0,12⟩,⟨⟨(some 76),(.p (.mov (.tmp 0))),(some (75,true))⟩,0,12⟩,⟨⟨(some 77),(.p (.mov (.tmp 1))),(some (75,true))⟩,0,12⟩,⟨⟨(some 78),(.p (.bin .sub (.tmp 77) (.val (.int .i64 (.ofNat 1))))),(some (75,true))⟩,0,12⟩,⟨⟨(some 79),(.p (.iaddr 1 (.tmp 76) (.tmp 78))),(some (75,true))⟩,0,12⟩,⟨⟨(some 80),(.load1 (.tmp 79)),(some (75,true))⟩,0,12⟩,⟨⟨(some 81),(.p (.mov (.tmp 0))),(some (75,true))⟩,0,12⟩,⟨⟨(some 82),(.p (.mov (.tmp 11))),(some (75,true))⟩,0,12⟩,⟨⟨(some 83),(.p (.iaddr 1 (.tmp 81) (.tmp 82))),(some (75,true))⟩,0,12⟩,⟨⟨(some 84),(.load1 (.tmp 83)),(some (75,true))⟩,0,12⟩,⟨⟨(some 85),(.e (.call 171 [(.tmp 80),(.tmp 84)])),(some (75,true))⟩,0,15⟩,⟨⟨(some 86),(.p (.not (.tmp 85))),(some (75,true))⟩,13,15⟩,⟨⟨(some 87),(.p (.pick (.tmp 75) (.tmp 86) (.val (.bool false)))),none⟩,13,15⟩])
 (.cond (.tmp 87) (.seq (.region [⟨(some 88),(.p (.mov (.tmp 0))),none⟩,⟨(some 89),(.p (.mov (.tmp 1))),none⟩,⟨(some 90),(.p (.mov (.tmp 2))),none⟩,⟨(some 91),(.p (.mov (.tmp 11))),none⟩,⟨(some 92),(.e (.call 172 [(.tmp 88),(.tmp 89),(.tmp 90),(.tmp 91)])),none⟩,⟨(some 13),(.p (.mov (.tmp 92))),none⟩])
 (.seq (.region [⟨(some 93),(.p (.mov (.tmp 13))),none⟩,⟨(some 1),(.p (.mov (.tmp 93))),none⟩])
 (.exit 1)))
 (.skip)))
 (.seq (.region [⟨(some 95),(.p (.mov (.tmp 0))),none⟩,⟨(some 96),(.p (.mov (.tmp 1))),none⟩,⟨(some 97),(.p (.mov (.tmp 2))),none⟩,⟨(some 98),(.p (.mov (.tmp 11))),none⟩,⟨(some 99),(.e (.call 173 [(.tmp 95),(.tmp 96),(.tmp 97),(.tmp 98)])),none⟩,⟨(some 94),(.p (.mov (.tmp 99))),none⟩,⟨(some 100),(.p (.ext (.tmp 94) 0)),none⟩,⟨(some 101),(.p (.ext (.tmp 94) 1)),none⟩,⟨(some 14),(.p (.mov (.tmp 100))),none⟩,⟨(some 15),(.p (.mov (.tmp 101))),none⟩])
 (.seq (.region [⟨(some 102),(.p (.mov (.tmp 15))),none⟩,⟨(some 9),(.p (.mov (.tmp 102))),none⟩])
 (.seq (.region [⟨(some 103),(.p (.mov (.tmp 14))),none⟩,⟨(some 104),(.p (.mov (.tmp 1))),none⟩,⟨(some 105),(.p (.bin .sub (.tmp 103) (.tmp 104))),none⟩,⟨(some 106),(.p (.mov (.tmp 2))),none⟩,⟨(some 107),(.p (.mov (.tmp 14))),none⟩,⟨(some 108),(.p (.bin .sub (.tmp 106) (.tmp 107))),none⟩,⟨(some 16),(.p (.mov (.tmp 105))),none⟩,⟨(some 17),(.p (.mov (.tmp 108))),none⟩])
 (.seq (.region [⟨(some 109),(.p (.mov (.tmp 10))),none⟩,⟨(some 110),(.p (.bin .quo (.tmp 109) (.val (.int .i64 (.ofNat 8))))),none⟩,⟨(some 18),(.p (.mov (.tmp 110))),none⟩])
 (.seq (.region [⟨(some 111),(.p (.mov (.tmp 16))),none⟩,⟨(some 112),(.p (.mov (.tmp 17))),none⟩,⟨(some 113),(.p (.bin .lss (.tmp 111) (.tmp 112))),none⟩])
 (.cond (.tmp 113) (.seq (.region [⟨(some 114),(.p (.mov (.tmp 16))),none⟩,⟨(some 115),(.p (.mov (.tmp 18))),none⟩,⟨(some 116),(.p (.bin .geq (.tmp 114) (.tmp 115))),none⟩,⟨(some 8),(.p (.mov (.tmp 116))),none⟩])
 (.seq (.region [⟨(some 117),(.p (.mov (.tmp 0))),none⟩,⟨(some 118),(.p (.mov (.tmp 1))),none⟩,⟨(some 119),(.p (.mov (.tmp 14))),none⟩,⟨(some 120),(.p (.mov (.tmp 3))),none⟩,⟨(some 121),(.e (.call 133 [(.tmp 117),(.tmp 118),(.tmp 119),(.tmp 120)])),none⟩])
 (.region [⟨(some 122),(.p (.mov (.tmp 14))),none⟩,⟨(some 123),(.p (.bin .add (.tmp 122) (.val (.int .i64 (.ofNat 1))))),none⟩,⟨(some 1),(.p (.mov (.tmp 123))),none⟩])))
 (.seq (.region [⟨(some 124),(.p (.mov (.tmp 17))),none⟩,⟨(some 125),(.p (.mov (.tmp 18))),none⟩,⟨(some 126),(.p (.bin .geq (.tmp 124) (.tmp 125))),none⟩,⟨(some 8),(.p (.mov (.tmp 126))),none⟩])
 (.seq (.region [⟨(some 127),(.p (.mov (.tmp 0))),none⟩,⟨(some 128),(.p (.mov (.tmp 14))),none⟩,⟨(some 129),(.p (.bin .add (.tmp 128) (.val (.int .i64 (.ofNat 1))))),none⟩,⟨(some 130),(.p (.mov (.tmp 2))),none⟩,⟨(some 131),(.p (.mov (.tmp 3))),none⟩,⟨(some 132),(.e (.call 133 [(.tmp 127),(.tmp 129),(.tmp 130),(.tmp 131)])),none⟩])
 (.region [⟨(some 133),(.p (.mov (.tmp 14))),none⟩,⟨(some 2),(.p (.mov (.tmp 133))),none⟩]))))))))))))))))))))),[]⟩
theorem v133 : IsFun Tryz.prog 133 m133 := ⟨_, Tryz.func133, by kernel_rfl, by kernel_rfl⟩
def m134 : Fun := ⟨8,1,.seq (.region [⟨(some 2),(.p (.mov (.val (.int .i64 (.ofNat 0))))),none⟩])
 (.seq (.cond (.val (.bool false)) (.seq (.region [⟨(some 3),(.p (.mov (.tmp 0))),none⟩,⟨(some 4),(.p (.conv (.int .u32) (.tmp 3))),none⟩,⟨(some 5),(.e (.call 174 [(.tmp 4)])),none⟩,⟨(some 2),(.p (.mov (.tmp 5))),none⟩])
 (.ret))
 (.skip))
 (.seq (.region [⟨(some 6),(.p (.mov (.tmp 0))),none⟩,⟨(some 7),(.e (.call 175 [(.tmp 6)])),none⟩,⟨(some 2),(.p (.mov (.tmp 7))),none⟩])
 (.ret))),[.tmp 2]⟩
theorem v134 : IsFun Tryz.prog 134 m134 := ⟨_, Tryz.func134, by kernel_rfl, by kernel_rfl⟩
def m135 : Fun := ⟨39,3,.seq (.region [⟨(some 6),(.p (.mov (.val (.nilptr)))),none⟩])
 (.seq (.seq (.region [⟨(some 7),(.p (.mov (.tmp 1))),none⟩,⟨(some 8),(.p (.bin .lss (.tmp 7) (.val (.int .i64 (.ofNat 1))))),none⟩,⟨(some 9),(.p (.mov (.tmp 8))),none⟩,⟨(some 10),(.p (.mov (.tmp 1))),(some (9,false))⟩,⟨(some 11),(.p (.mov (.tmp 0))),(some (9,false))⟩,⟨(some 12),(.p (.nilchk (.tmp 11))),(some (9,false))⟩,⟨(some 13),(.p (.faddr 1 (.tmp 12))),(some (9,false))⟩,⟨(some 14),(.load1 (.tmp 13)),(some (9,false))⟩,⟨(some 15),(.p (.lenb (.tmp 14))),(some (9,false))⟩,⟨(some 16),(.p (.bin .gtr (.tmp 10) (.tmp 15))),(some (9,false))⟩,⟨(some 17),(.p (.pick (.tmp 9) (.val (.bool true)) (.tmp 16))),none⟩,⟨(some 18),(.p (.mov (.tmp 17))),none⟩,⟨(some 19),(.p (.mov (.tmp 2))),(some (18,false))⟩,⟨(some 20),(.p (.mov (.tmp 0))),(some (18,false))⟩,⟨(some 21),(.p (.nilchk (.tmp 20))),(some (18,false))⟩,⟨(some 22),(.p (.faddr 1 (.tmp 21))),(some (18,false))⟩,⟨(some 23),(.load1 (.tmp 22)),(some (18,false))⟩,⟨(some 24),(.p (.mov (.tmp 1))),(some (18,false))⟩,⟨(some 25),(.p (.bin .sub (.tmp 24) (.val (.int .i64 (.ofNat 1))))),(some (18,false))⟩,⟨(some 26),(.p (.iaddr 4 (.tmp 23) (.tmp 25))),(some (18,false))⟩,⟨(some 27),(.p (.faddr 1 (.tmp 26))),(some (18,false))⟩,⟨(some 28),(.load1 (.tmp 27)),(some (18,false))⟩,⟨(some 29),(.e (.call 122 [(.tmp 19),(.tmp 28)])),(some (18,false))⟩,⟨(some 30),(.p (.not (.tmp 29))),(some (18,false))⟩,⟨(some 31),(.p (.pick (.tmp 18) (.val (.bool true)) (.tmp 30))),none⟩])
 (.cond (.tmp 31) (.seq (.region [⟨(some 6),(.p (.mov (.val (.nilptr)))),none⟩])
 (.ret))
 (.skip)))
 (.seq (.region [⟨(some 32),(.p (.mov (.tmp 0))),none⟩,⟨(some 33),(.p (.nilchk (.tmp 32))),none⟩,⟨(some 34),(.p (.faddr 1 (.tmp 33))),none⟩,⟨(some 35),(.load1 (.tmp 34)),none⟩,⟨(some 36),(.p (.mov (.tmp 1))),none⟩,⟨(some 37),(.p (.bin .sub (.tmp 36) (.val (.int .i64 (.ofNat 1))))),none⟩,⟨(some 38),(.p (.iaddr 4 (.tmp 35) (.tmp 37))),none⟩,⟨(some 6),(.p (.mov (.tmp 38))),none⟩])
 (.ret))),[.tmp 6]⟩
theorem v135 : IsFun Tryz.prog 135 m135 := ⟨_, Tryz.func135, by kernel_rfl, by kernel_rfl⟩
def m136 : Fun := ⟨27,1,.seq (.region [⟨(some 1),(.a (.box (.tmp 0))),none⟩,⟨(some 2),(.a (.new [.int .i64 (.ofNat 0),.int .i64 (.ofNat 0),.int .i64 (.ofNat 0),.bool false,.int .i64 (.ofNat 0),.int .i64 (.ofNat 0),.nilslice,.nilslice])),none⟩])
 (.seq (.region [⟨(some 6),(.p (.faddr 3 (.tmp 1))),none⟩,⟨(some 7),(.loadn 4 (.tmp 6)),none⟩,⟨(some 8),(.e (.call 138 [(.tmp 7)])),none⟩,⟨(some 9),(.p (.faddr 3 (.tmp 1))),none⟩,⟨none,(.e (.store 4 (.tmp 9) (.tmp 8))),none⟩])
 (.seq (.region [⟨(some 3),(.p (.mov (.val (.nilslice)))),none⟩])
 (.seq (.seq (.region [⟨(some 10),(.p (.faddr 7 (.tmp 1))),none⟩,⟨(some 11),(.load1 (.tmp 10)),none⟩,⟨(some 12),(.p (.lenb (.tmp 11))),none⟩,⟨(some 13),(.p (.mov (.val (.int .i64 (.ofNat 0))))),none⟩])
 (.block 0 (.loop (.seq (.region [⟨(some 14),(.p (.bin .lss (.tmp 13) (.tmp 12))),none⟩])
 (.seq (.cond (.tmp 14) (.skip)
 (.exit 0))
 (.seq (.block 1 (.seq (.region [⟨(some 15),(.p (.iaddr 8 (.tmp 11) (.tmp 13))),none⟩,⟨(some 16),(.loadn 8 (.tmp 15)),none⟩,⟨(some 5),(.a (.new [.int .i64 (.ofNat 0),.int .i64 (.ofNat 0),.int .i64 (.ofNat 0),.bool false,.int .i64 (.ofNat 0),.int .i64 (.ofNat 0),.nilslice,.nilslice])),none⟩,⟨none,(.e (.store 8 (.tmp 5) (.tmp 16))),none⟩])
 (.region [⟨(some 17),(.p (.mov (.tmp 3))),none⟩,⟨(some 18),(.loadn 8 (.tmp 5)),none⟩,⟨(some 19),(.e (.call 136 [(.tmp 18)])),none⟩,⟨(some 20),(.a (.bslice [.int .i64 (.ofNat 0),.int .i64 (.ofNat 0),.int .i64 (.ofNat 0),.bool false,.int .i64 (.ofNat 0),.int .i64 (.ofNat 0),.nilslice,.nilslice] 8 1 [(0,8,(.tmp 19))])),none⟩,⟨(some 21),(.e (.append 8 96 (.tmp 17) (.tmp 20))),none⟩,⟨(some 3),(.p (.mov (.tmp 21))),none⟩])))
 (.region [⟨(some 22),(.p (.bin .add (.tmp 13) (.val (.int .i64 (.ofNat 1))))),none⟩,⟨(some 13),(.p (.mov (.tmp 22))),none⟩])))))))
 (.seq (.region [⟨(some 23),(.p (.mov (.tmp 3))),none⟩,⟨(some 24),(.e (.call 176 [(.tmp 23)])),none⟩,⟨(some 25),(.p (.faddr 7 (.tmp 1))),none⟩,⟨none,(.e (.store 1 (.tmp 25) (.tmp 24))),none⟩])
 (.seq (.region [⟨(some 26),(.loadn 8 (.tmp 1)),none⟩,⟨none,(.e (.store 8 (.tmp 2) (.tmp 26))),none⟩])
 (.ret)))))),[.celln 8 2]⟩
theorem v136 : IsFun Tryz.prog 136 m136 := ⟨_, Tryz.func136, by kernel_rfl, by kernel_rfl⟩
def m137 : Fun := ⟨8,1,.seq (.region [⟨(some 2),(.p (.mov (.val (.nilslice)))),none⟩])
 (.seq (.seq (.region [⟨(some 3),(.p (.mov (.tmp 0))),none⟩,⟨(some 4),(.p (.eq .slice false (.tmp 3) (.val (.nilslice)))),none⟩])
 (.cond (.tmp 4) (.seq (.region [⟨(some 2),(.p (.mov (.val (.nilslice)))),none⟩])
 (.ret))
 (.skip)))
 (.seq (.region [⟨(some 5),(.a (.bslice [] 2 0 [])),none⟩,⟨(some 6),(.p (.mov (.tmp 0))),none⟩,⟨(some 7),(.e (.append 2 16 (.tmp 5) (.tmp 6))),none⟩,⟨(some 2),(.p (.mov (.tmp 7))),none⟩])
 (.ret))),[.tmp 2]⟩
theorem v137 : IsFun Tryz.prog 137 m137 := ⟨_, Tryz.func137, by kernel_rfl, by kernel_rfl⟩
def m138 : Fun := ⟨8,1,.seq (.region [⟨(some 1),(.a (.box (.tmp 0))),none⟩,⟨(some 2),(.a (.new [.bool false,.int .i64 (.ofNat 0),.int .i64 (.ofNat 0),.nilslice])),none⟩])
 (.seq (.region [⟨(some 3),(.p (.faddr 3 (.tmp 1))),none⟩,⟨(some 4),(.load1 (.tmp 3)),none⟩,⟨(some 5),(.e (.call 177 [(.tmp 4)])),none⟩,⟨(some 6),(.p (.faddr 3 (.tmp 1))),none⟩,⟨none,(.e (.store 1 (.tmp 6) (.tmp 5))),none⟩])
 (.seq (.region [⟨(some 7),(.loadn 4 (.tmp 1)),none⟩,⟨none,(.e (.store 4 (.tmp 2) (.tmp 7))),none⟩])
 (.ret))),[.celln 4 2]⟩
theorem v138 : IsFun Tryz.prog 138 m138 := ⟨_, Tryz.func138, by kernel_rfl, by kernel_rfl⟩
def m139 : Fun := ⟨19,2,.seq (.region [⟨(some 4),(.p (.mov (.val (.int .i64 (.ofNat 0))))),none⟩])
 (.seq (.seq (.region [⟨(some 6),(.p (.mov (.tmp 0))),none⟩,⟨(some 7),(.p (.lenb (.tmp 6))),none⟩,⟨(some 8),(.p (.mov (.val (.int .i64 (.ofNat 0))))),none⟩])
 (.block 0 (.loop (.seq (.region [⟨(some 9),(.p (.bin .lss (.tmp 8) (.tmp 7))),none⟩])
 (.seq (.cond (.tmp 9) (.skip)
 (.exit 0))
 (.seq (.block 1 (.seq (.region [⟨(some 10),(.p (.mov (.tmp 8))),none⟩,⟨(some 5),(.p (.mov (.tmp 10))),none⟩])
 (.seq (.region [⟨(some 11),(.p (.mov (.tmp 1))),none⟩,⟨(some 12),(.p (.mov (.tmp 0))),none⟩,⟨(some 13),(.p (.mov (.tmp 5))),none⟩,⟨(some 14),(.p (.iaddr 4 (.tmp 12) (.tmp 13))),none⟩,⟨(some 15),(.loadn 4 (.tmp 14)),none⟩,⟨(some 16),(.e (.callv (.tmp 11) [(.tmp 15)])),none⟩])
 (.cond (.tmp 16) (.seq (.region [⟨(some 17),(.p (.mov (.tmp 5))),none⟩,⟨(some 4),(.p (.mov (.tmp 17))),none⟩])
 (.ret))
 (.skip)))))
 (.region [⟨(some 18),(.p (.bin .add (.tmp 8) (.val (.int .i64 (.ofNat 1))))),none⟩,⟨(some 8),(.p (.mov (.tmp 18))),none⟩])))))))
 (.seq (.region [⟨(some 4),(.p (.mov (.val (.int .i64 (.negSucc 0))))),none⟩])
 (.ret))),[.tmp 4]⟩
theorem v139 : IsFun Tryz.prog 139 m139 := ⟨_, Tryz.func139, by kernel_rfl, by kernel_rfl⟩
def m140 : Fun := ⟨8,2,.seq (.region [⟨(some 2),(.a (.box (.tmp 0))),none⟩,⟨(some 3),(.p (.mov (.val (.bool false)))),none⟩])
 (.seq (.region [⟨(some 4),(.p (.faddr 0 (.tmp 2))),none⟩,⟨(some 5),(.load1 (.tmp 4)),none⟩,⟨(some 6),(.load1 (.tmp 1)),none⟩,⟨(some 7),(.p (.bin .eql (.tmp 5) (.tmp 6))),none⟩,⟨(some 3),(.p (.mov (.tmp 7))),none⟩])
 (.ret)),[.tmp 3]⟩
theorem v140 : IsFun Tryz.prog 140 m140 := ⟨_, Tryz.func140, by kernel_rfl, by kernel_rfl⟩
def m141 : Fun := ⟨9,1,.seq (.region [⟨(some 2),(.p (.mov (.val (.nilslice)))),none⟩])
 (.seq (.region [⟨(some 3),(.p (.mov (.tmp 0))),none⟩,⟨(some 4),(.p (.mov (.tmp 0))),none⟩,⟨(some 5),(.p (.lenb (.tmp 4))),none⟩,⟨(some 6),(.p (.mov (.tmp 0))),none⟩,⟨(some 7),(.p (.lenb (.tmp 6))),none⟩,⟨(some 8),(.p (.slc 4 (.tmp 3) none (some (.tmp 5)) (some (.tmp 7)))),none⟩,⟨(some 2),(.p (.mov (.tmp 8))),none⟩])
 (.ret)),[.tmp 2]⟩
theorem v141 : IsFun Tryz.prog 141 m141 := ⟨_, Tryz.func141, by kernel_rfl, by kernel_rfl⟩
def m142 : Fun := ⟨8,1,.seq (.region [⟨(some 2),(.p (.mov (.val (.nilslice)))),none⟩])
 (.seq (.seq (.region [⟨(some 3),(.p (.mov (.tmp 0))),none⟩,⟨(some 4),(.p (.eq .slice false (.tmp 3) (.val (.nilslice)))),none⟩])
 (.cond (.tmp 4) (.seq (.region [⟨(some 2),(.p (.mov (.val (.nilslice)))),none⟩])
 (.ret))
 (.skip)))
 (.seq (.region [⟨(some 5),(.a (.bslice [] 4 0 [])),none⟩,⟨(some 6),(.p (.mov (.tmp 0))),none⟩,⟨(some 7),(.e (.append 4 32 (.tmp 5) (.tmp 6))),none⟩,⟨(some 2),(.p (.mov (.tmp 7))),none⟩])
 (.ret))),[.tmp 2]⟩
theorem v142 : IsFun Tryz.prog 142 m142 := ⟨_, Tryz.func142, by kernel_rfl, by kernel_rfl⟩
def m143 : Fun := ⟨47,2,.seq (.region [⟨(some 3),(.a (.box (.tmp 1))),none⟩,⟨(some 4),(.a (.new [.int .i64 (.ofNat 0),.int .i64 (.ofNat 0),.nilslice])),none⟩])
 (.seq (.seq (.region [⟨(some 7),(.p (.faddr 0 (.tmp 3))),none⟩,⟨(some 8),(.load1 (.tmp 7)),none⟩])
 (.block 0 (.seq (.region [⟨(some 10),(.p (.bin .eql (.tmp 8) (.val (.int .i64 (.ofNat 6))))),none⟩,⟨(some 9),(.p (.mov (.tmp 10))),none⟩])
 (.cond (.tmp 9) (.seq (.region [⟨(some 11),(.p (.build [.int .i64 (.ofNat 0),.int .i64 (.ofNat 0),.nilslice] [(0,1,(.val (.int .i64 (.ofNat 3))))])),none⟩,⟨none,(.e (.store 3 (.tmp 4) (.tmp 11))),none⟩])
 (.ret))
 (.seq (.region [⟨(some 13),(.p (.bin .eql (.tmp 8) (.val (.int .i64 (.ofNat 1))))),none⟩,⟨(some 12),(.p (.mov (.tmp 13))),none⟩])
 (.cond (.tmp 12) (.seq (.region [⟨(some 14),(.p (.mov (.tmp 0))),none⟩,⟨(some 15),(.loadn 14 (.tmp 3)),none⟩,⟨(some 16),(.e (.call 178 [(.tmp 14),(.tmp 15)])),none⟩,⟨none,(.e (.store 3 (.tmp 4) (.tmp 16))),none⟩])
 (.ret))
 (.skip)))))))
 (.seq (.region [⟨(some 18),(.p (.mov (.tmp 0))),none⟩,⟨(some 19),(.p (.faddr 2 (.tmp 3))),none⟩,⟨(some 20),(.loadn 8 (.tmp 19)),none⟩,⟨(some 21),(.e (.call 179 [(.tmp 18),(.tmp 20)])),none⟩,⟨(some 17),(.p (.mov (.tmp 21))),none⟩,⟨(some 22),(.p (.ext (.tmp 17) 0)),none⟩,⟨(some 23),(.p (.ext (.tmp 17) 1)),none⟩,⟨(some 5),(.p (.mov (.tmp 22))),none⟩,⟨(some 6),(.p (.mov (.tmp 23))),none⟩])
 (.seq (.block 1 (.seq (.region [⟨(some 25),(.p (.mov (.tmp 6))),none⟩,⟨(some 26),(.p (.bin .neq (.tmp 25) (.val (.int .i64 (.ofNat 0))))),none⟩,⟨(some 24),(.p (.mov (.tmp 26))),none⟩])
 (.cond (.tmp 24) (.seq (.region [⟨(some 27),(.p (.mov (.tmp 6))),none⟩,⟨(some 28),(.p (.build [.int .i64 (.ofNat 0),.int .i64 (.ofNat 0),.nilslice] [(0,1,(.tmp 27))])),none⟩,⟨none,(.e (.store 3 (.tmp 4) (.tmp 28))),none⟩])
 (.ret))
 (.seq (.region [⟨(some 30),(.p (.faddr 0 (.tmp 3))),none⟩,⟨(some 31),(.load1 (.tmp 30)),none⟩,⟨(some 32),(.p (.bin .eql (.tmp 31) (.val (.int .i64 (.ofNat 2))))),none⟩,⟨(some 29),(.p (.mov (.tmp 32))),none⟩])
 (.cond (.tmp 29) (.seq (.region [⟨(some 33),(.p (.mov (.tmp 0))),none⟩,⟨(some 34),(.p (.mov (.tmp 5))),none⟩,⟨(some 35),(.loadn 14 (.tmp 3)),none⟩,⟨(some 36),(.e (.call 180 [(.tmp 33),(.tmp 34),(.tmp 35)])),none⟩,⟨none,(.e (.store 3 (.tmp 4) (.tmp 36))),none⟩])
 (.ret))
 (.seq (.region [⟨(some 38),(.p (.faddr 0 (.tmp 3))),none⟩,⟨(some 39),(.load1 (.tmp 38)),none⟩,⟨(some 40),(.p (.bin .eql (.tmp 39) (.val (.int .i64 (.ofNat 3))))),none⟩,⟨(some 37),(.p (.mov (.tmp 40))),none⟩])
 (.cond (.tmp 37) (.seq (.region [⟨(some 41),(.p (.mov (.tmp 0))),none⟩,⟨(some 42),(.p (.mov (.tmp 5))),none⟩,⟨(some 43),(.e (.call 181 [(.tmp 41),(.tmp 42)])),none⟩,⟨none,(.e (.store 3 (.tmp 4) (.tmp 43))),none⟩])
 (.ret))
 (.skip))))))))
 (.seq (.region [⟨(some 44),(.p (.mov (.tmp 5))),none⟩,⟨(some 45),(.loadn 14 (.tmp 3)),none⟩,⟨(some 46),(.e (.call 182 [(.tmp 44),(.tmp 45)])),none⟩,⟨none,(.e (.store 3 (.tmp 4) (.tmp 46))),none⟩])
 (.ret))))),[.celln 3 4]⟩
theorem v143 : IsFun Tryz.prog 143 m143 := ⟨_, Tryz.func143, by kernel_rfl, by kernel_rfl⟩
def m144 : Fun := ⟨24,2,.seq (.region [⟨(some 2),(.a (.box (.tmp 0))),none⟩,⟨(some 4),(.p (.mov (.val (.int .i64 (.ofNat 0))))),none⟩])
 (.seq (.region [⟨(some 5),(.load1 (.tmp 2)),none⟩,⟨(some 6),(.p (.mkfunc 184 [] [(.tmp 2)])),none⟩,⟨(some 7),(.e (.call 183 [(.tmp 5),(.tmp 6)])),none⟩])
 (.seq (.dregion [⟨⟨(some 8),(.load1 (.tmp 2)),none⟩,0,8⟩,⟨⟨(some 9),(.p (.nilchk (.tmp 8))),none⟩,0,8⟩,⟨⟨(some 10),(.p (.faddr 1 (.tmp 9))),none⟩,0,8⟩,⟨⟨(some 11),(.load1 (.tmp 10)),none⟩,0,8⟩,⟨⟨(some 12),(.load1 (.tmp 2)),none⟩,0,8⟩,⟨⟨(some 13),(.p (.nilchk (.tmp 12))),none⟩,0,8⟩,⟨⟨(some 14),(.p (.faddr 5 (.tmp 13))),none⟩,0,8⟩,⟨⟨(some 15),(.load1 (.tmp 14)),none⟩,0,8⟩,⟨⟨(some 16),(.e (.call 186 [(.tmp 11),(.tmp 15)])),none⟩,0,9⟩])
 (.seq (.dregion [⟨⟨(some 17),(.load1 (.tmp 2)),none⟩,0,3⟩,⟨⟨(some 20),(.p (.nilchk (.tmp 17))),none⟩,0,3⟩,⟨⟨(some 21),(.p (.faddr 3 (.tmp 20))),none⟩,0,3⟩,⟨⟨none,(.e (.store 1 (.tmp 21) (.val (.int .i64 (.ofNat 5))))),none⟩,0,8⟩,⟨⟨(some 18),(.load1 (.tmp 2)),none⟩,0,8⟩,⟨⟨(some 19),(.p (.mov (.tmp 1))),none⟩,0,8⟩,⟨⟨(some 22),(.p (.nilchk (.tmp 18))),none⟩,4,8⟩,⟨⟨(some 23),(.p (.faddr 11 (.tmp 22))),none⟩,4,8⟩,⟨⟨none,(.e (.store 1 (.tmp 23) (.tmp 19))),none⟩,4,9⟩])
 (.seq (.region [⟨(some 4),(.p (.mov (.val (.int .i64 (.ofNat 3))))),none⟩])
 (.ret))))),[.tmp 4]⟩
theorem v144 : IsFun Tryz.prog 144 m144 := ⟨_, Tryz.func144, by kernel_rfl, by kernel_rfl⟩
def m145 : Fun := ⟨41,5,.seq (.region [⟨(some 9),(.a (.box (.tmp 4))),none⟩,⟨(some 10),(.p (.mov (.val (.nilslice)))),none⟩,⟨(some 11),(.p (.mov (.val (.nilslice)))),none⟩])
 (.seq (.region [⟨(some 18),(.p (.mov (.tmp 0))),none⟩,⟨(some 19),(.p (.mov (.tmp 1))),none⟩,⟨(some 20),(.p (.mov (.tmp 2))),none⟩,⟨(some 21),(.p (.mov (.tmp 3))),none⟩,⟨(some 22),(.loadn 8 (.tmp 9)),none⟩,⟨(some 23),(.e (.call 187 [(.tmp 18),(.tmp 19),(.tmp 20),(.tmp 21),(.tmp 22),(.val (.func 188 [] []))])),none⟩,⟨(some 17),(.p (.mov (.tmp 23))),none⟩,⟨(some 24),(.p (.ext (.tmp 17) 0)),none⟩,⟨(some 25),(.p (.ext (.tmp 17) 1)),none⟩,⟨(some 12),(.p (.mov (.tmp 24))),none⟩,⟨(some 13),(.p (.mov (.tmp 25))),none⟩])
 (.seq (.region [⟨(some 14),(.p (.mov (.val (.nilslice)))),none⟩])
 (.seq (.seq (.region [⟨(some 26),(.p (.mov (.tmp 12))),none⟩,⟨(some 27),(.p (.lenb (.tmp 26))),none⟩,⟨(some 28),(.p (.mov (.val (.int .i64 (.ofNat 0))))),none⟩])
 (.block 0 (.loop (.seq (.region [⟨(some 29),(.p (.bin .lss (.tmp 28) (.tmp 27))),none⟩])
 (.seq (.cond (.tmp 29) (.skip)
 (.exit 0))
 (.seq (.block 1 (.seq (.region [⟨(some 30),(.p (.iaddr 6 (.tmp 26) (.tmp 28))),none⟩,⟨(some 31),(.loadn 6 (.tmp 30)),none⟩,⟨(some 16),(.a (.new [.int .i64 (.ofNat 0),.nilslice,.int .i64 (.ofNat 0),.int .i64 (.ofNat 0),.int .i64 (.ofNat 0),.int .i64 (.ofNat 0)])),none⟩,⟨none,(.e (.store 6 (.tmp 16) (.tmp 31))),none⟩])
 (.region [⟨(some 32),(.p (.mov (.tmp 14))),none⟩,⟨(some 33),(.p (.faddr 0 (.tmp 16))),none⟩,⟨(some 34),(.load1 (.tmp 33)),none⟩,⟨(some 35),(.a (.bslice [.int .i64 (.ofNat 0)] 1 1 [(0,1,(.tmp 34))])),none⟩,⟨(some 36),(.e (.append 1 8 (.tmp 32) (.tmp 35))),none⟩,⟨(some 14),(.p (.mov (.tmp 36))),none⟩])))
 (.region [⟨(some 37),(.p (.bin .add (.tmp 28) (.val (.int .i64 (.ofNat 1))))),none⟩,⟨(some 28),(.p (.mov (.tmp 37))),none⟩])))))))
 (.seq (.region [⟨(some 38),(.p (.mov (.tmp 14))),none⟩,⟨(some 39),(.e (.call 72 [(.tmp 38)])),none⟩,⟨(some 40),(.p (.mov (.tmp 13))),none⟩,⟨(some 10),(.p (.mov (.tmp 39))),none⟩,⟨(some 11),(.p (.mov (.tmp 40))),none⟩])
 (.ret))))),[.tmp 10,.tmp 11]⟩
theorem v145 : IsFun Tryz.prog 145 m145 := ⟨_, Tryz.func145, by kernel_rfl, by kernel_rfl⟩
def m146 : Fun := ⟨26,2,.seq (.region [⟨(some 4),(.p (.mov (.val (.bool false)))),none⟩])
 (.seq (.seq (.region [⟨(some 6),(.p (.mov (.tmp 0))),none⟩,⟨(some 7),(.p (.lenb (.tmp 6))),none⟩,⟨(some 8),(.p (.mov (.tmp 1))),none⟩,⟨(some 9),(.p (.lenb (.tmp 8))),none⟩,⟨(some 10),(.p (.bin .neq (.tmp 7) (.tmp 9))),none⟩])
 (.cond (.tmp 10) (.seq (.region [⟨(some 4),(.p (.mov (.val (.bool false)))),none⟩])
 (.ret))
 (.skip)))
 (.seq (.seq (.region [⟨(some 11),(.p (.mov (.tmp 0))),none⟩,⟨(some 12),(.p (.lenb (.tmp 11))),none⟩,⟨(some 13),(.p (.mov (.val (.int .i64 (.ofNat 0))))),none⟩])
 (.block 0 (.loop (.seq (.region [⟨(some 14),(.p (.bin .lss (.tmp 13) (.tmp 12))),none⟩])
 (.seq (.cond (.tmp 14) (.skip)
 (.exit 0))
 (.seq (.block 1 (.seq (.region [⟨(some 15),(.p (.mov (.tmp 13))),none⟩,⟨(some 5),(.p (.mov (.tmp 15))),none⟩])
 (.seq (.dregion [⟨⟨(some 16),(.p (.mov (.tmp 0))),none⟩,0,9⟩,⟨⟨(some 17),(.p (.mov (.tmp 5))),none⟩,0,9⟩,⟨⟨(some 18),(.p (.iaddr 1 (.tmp 16) (.tmp 17))),none⟩,0,9⟩,⟨⟨(some 19),(.load1 (.tmp 18)),none⟩,0,9⟩,⟨⟨(some 20),(.p (.mov (.tmp 1))),none⟩,0,9⟩,⟨⟨(some 21),(.p (.mov (.tmp 5))),none⟩,0,9⟩,⟨⟨(some 22),(.p (.iaddr 1 (.tmp 20) (.tmp 21))),none⟩,0,9⟩,⟨⟨(some 23),(.load1 (.tmp 22)),none⟩,0,9⟩,⟨⟨(some 24),(.p (.bin .neq (.tmp 19) (.tmp 23))),none⟩,0,9⟩])
 (.cond (.tmp 24) (.seq (.region [⟨(some 4),(.p (.mov (.val (.bool false)))),none⟩])
 (.ret))
 (.skip)))))
 (.region [⟨(some 25),(.p (.bin .add (.tmp 13) (.val (.int .i64 (.ofNat 1))))),none⟩,⟨(some 13),(.p (.mov (.tmp 25))),none⟩])))))))
 (.seq (.region [⟨(some 4),(.p (.mov (.val (.bool true)))),none⟩])
 (.ret)))),[.tmp 4]⟩
theorem v146 : IsFun Tryz.prog 146 m146 := ⟨_, Tryz.func146, by kernel_rfl, by kernel_rfl⟩
def m147 : Fun := ⟨24,2,.seq (.region [⟨(some 4),(.p (.mov (.val (.bool false)))),none⟩])
 (.seq (.region [⟨(some 5),(.p (.mov (.tmp 0))),none⟩,⟨(some 6),(.p (.mov (.tmp 0))),none⟩,⟨(some 7),(.p (.nilchk (.tmp 6))),none⟩,⟨(some 8),(.p (.faddr 10 (.tmp 7))),none⟩,⟨(some 9),(.load1 (.tmp 8)),none⟩,⟨(some 10),(.p (.mov (.tmp 1))),none⟩,⟨(some 11),(.a (.bslice [.nilslice,.nilslice] 1 2 [(0,1,(.tmp 9)),(1,1,(.tmp 10))])),none⟩,⟨(some 12),(.e (.call 66 [(.tmp 11)])),none⟩,⟨(some 13),(.e (.call 65 [(.tmp 12)])),none⟩,⟨(some 14),(.e (.call 64 [(.tmp 13)])),none⟩,⟨(some 15),(.e (.call 189 [(.tmp 14)])),none⟩,⟨(some 16),(.p (.nilchk (.tmp 5))),none⟩,⟨(some 17),(.p (.faddr 10 (.tmp 16))),none⟩,⟨none,(.e (.store 1 (.tmp 17) (.tmp 15))),none⟩])
 (.seq (.region [⟨(some 18),(.p (.mov (.tmp 0))),none⟩,⟨(some 19),(.p (.nilchk (.tmp 18))),none⟩,⟨(some 20),(.p (.faddr 10 (.tmp 19))),none⟩,⟨(some 21),(.load1 (.tmp 20)),none⟩,⟨(some 22),(.p (.lenb (.tmp 21))),none⟩,⟨(some 23),(.p (.bin .leq (.tmp 22) (.val (.int .i64 (.ofNat 8))))),none⟩,⟨(some 4),(.p (.mov (.tmp 23))),none⟩])
 (.ret))),[.tmp 4]⟩
theorem v147 : IsFun Tryz.prog 147 m147 := ⟨_, Tryz.func147, by kernel_rfl, by kernel_rfl⟩
def m148 : Fun := ⟨20,1,.seq (.region [⟨(some 1),(.a (.box (.tmp 0))),none⟩,⟨(some 2),(.p (.mov (.val (.int .i64 (.ofNat 0))))),none⟩])
 (.seq (.dregion [⟨⟨(some 4),(.load1 (.tmp 1)),none⟩,0,8⟩,⟨⟨(some 5),(.p (.nilchk (.tmp 4))),none⟩,0,8⟩,⟨⟨(some 6),(.p (.faddr 1 (.tmp 5))),none⟩,0,8⟩,⟨⟨(some 7),(.load1 (.tmp 6)),none⟩,0,8⟩,⟨⟨(some 8),(.load1 (.tmp 1)),none⟩,0,8⟩,⟨⟨(some 9),(.p (.nilchk (.tmp 8))),none⟩,0,8⟩,⟨⟨(some 10),(.p (.faddr 5 (.tmp 9))),none⟩,0,8⟩,⟨⟨(some 11),(.load1 (.tmp 10)),none⟩,0,8⟩,⟨⟨(some 12),(.e (.call 76 [(.tmp 7),(.tmp 11)])),none⟩,0,9⟩])
 (.seq (.region [⟨(some 13),(.p (.mkfunc 190 [] [(.tmp 1)])),none⟩,⟨(some 3),(.a (.new [.nilfunc])),none⟩,⟨none,(.e (.store 1 (.tmp 3) (.tmp 13))),none⟩])
 (.seq (.region [⟨(some 14),(.load1 (.tmp 1)),none⟩,⟨(some 15),(.p (.mkfunc 191 [] [(.tmp 3),(.tmp 1)])),none⟩,⟨(some 16),(.e (.call 183 [(.tmp 14),(.tmp 15)])),none⟩])
 (.seq (.region [⟨(some 17),(.load1 (.tmp 1)),none⟩,⟨(some 18),(.p (.nilchk (.tmp 17))),none⟩,⟨(some 19),(.p (.faddr 3 (.tmp 18))),none⟩,⟨none,(.e (.store 1 (.tmp 19) (.val (.int .i64 (.ofNat 5))))),none⟩])
 (.seq (.region [⟨(some 2),(.p (.mov (.val (.int .i64 (.ofNat 3))))),none⟩])
 (.ret)))))),[.tmp 2]⟩
theorem v148 : IsFun Tryz.prog 148 m148 := ⟨_, Tryz.func148, by kernel_rfl, by kernel_rfl⟩
def m149 : Fun := ⟨9,1,.seq (.region [⟨(some 2),(.p (.mov (.val (.nilslice)))),none⟩])
 (.seq (.region [⟨(some 3),(.p (.mov (.tmp 0))),none⟩,⟨(some 4),(.p (.mov (.tmp 0))),none⟩,⟨(some 5),(.p (.lenb (.tmp 4))),none⟩,⟨(some 6),(.p (.mov (.tmp 0))),none⟩,⟨(some 7),(.p (.lenb (.tmp 6))),none⟩,⟨(some 8),(.p (.slc 4 (.tmp 3) none (some (.tmp 5)) (some (.tmp 7)))),none⟩,⟨(some 2),(.p (.mov (.tmp 8))),none⟩])
 (.ret)),[.tmp 2]⟩
theorem v149 : IsFun Tryz.prog 149 m149 := ⟨_, Tryz.func149, by kernel_rfl, by kernel_rfl⟩
def m150 : Fun := ⟨9,2,.seq (.region [⟨(some 4),(.p (.mov (.val (.bool false)))),none⟩])
 (.seq (.region [⟨(some 5),(.p (.mov (.tmp 0))),none⟩,⟨(some 6),(.p (.mov (.tmp 1))),none⟩,⟨(some 7),(.e (.call 192 [(.tmp 5),(.tmp 6)])),none⟩,⟨(some 8),(.p (.bin .geq (.tmp 7) (.val (.int .i64 (.ofNat 0))))),none⟩,⟨(some 4),(.p (.mov (.tmp 8))),none⟩])
 (.ret)),[.tmp 4]⟩
theorem v150 : IsFun Tryz.prog 150 m150 := ⟨_, Tryz.func150, by kernel_rfl, by kernel_rfl⟩
def m151 : Fun := ⟨8,2,.seq (.region [⟨(some 2),(.a (.box (.tmp 0))),none⟩,⟨(some 3),(.p (.mov (.val (.bool false)))),none⟩])
 (.seq (.region [⟨(some 4),(.loadn 1 (.tmp 1)),none⟩,⟨(some 5),(.loadn 14 (.tmp 2)),none⟩,⟨(some 6),(.e (.call 152 [(.tmp 4),(.tmp 5)])),none⟩,⟨(some 7),(.p (.not (.tmp 6))),none⟩,⟨(some 3),(.p (.mov (.tmp 7))),none⟩])
 (.ret)),[.tmp 3]⟩
theorem v151 : IsFun Tryz.prog 151 m151 := ⟨_, Tryz.func151, by kernel_rfl, by kernel_rfl⟩
def m152 : Fun := ⟨124,2,.seq (.region [⟨(some 2),(.a (.box (.tmp 0))),none⟩,⟨(some 3),(.a (.box (.tmp 1))),none⟩,⟨(some 4),(.p (.mov (.val (.bool false)))),none⟩])
 (.seq (.seq (.region [⟨(some 9),(.p (.faddr 0 (.tmp 3))),none⟩,⟨(some 10),(.load1 (.tmp 9)),none⟩])
 (.block 0 (.seq (.region [⟨(some 12),(.p (.bin .eql (.tmp 10) (.val (.int .i64 (.ofNat 1))))),none⟩,⟨(some 11),(.p (.mov (.tmp 12))),none⟩])
 (.cond (.tmp 11) (.seq (.region [⟨(some 13),(.loadn 14 (.tmp 3)),none⟩,⟨(some 14),(.e (.call 193 [(.tmp 13),(.val (.bool true)),(.val (.bool false)),(.val (.bool false)),(.val (.bool false)),(.val (.bool false))])),none⟩,⟨(some 15),(.p (.mov (.tmp 14))),none⟩,⟨(some 16),(.loadn 1 (.tmp 2)),(some (15,true))⟩,⟨(some 17),(.p (.faddr 1 (.tmp 3))),(some (15,true))⟩,⟨(some 18),(.load1 (.tmp 17)),(some (15,true))⟩,⟨(some 19),(.e (.call 68 [(.tmp 16),(.tmp 18)])),(some (15,true))⟩,⟨(some 20),(.p (.pick (.tmp 15) (.tmp 19) (.val (.bool false)))),none⟩,⟨(some 4),(.p (.mov (.tmp 20))),none⟩])
 (.ret))
 (.seq (.region [⟨(some 22),(.p (.bin .eql (.tmp 10) (.val (.int .i64 (.ofNat 2))))),none⟩,⟨(some 21),(.p (.mov (.tmp 22))),none⟩])
 (.cond (.tmp 21) (.seq (.region [⟨(some 23),(.loadn 14 (.tmp 3)),none⟩,⟨(some 24),(.e (.call 193 [(.tmp 23),(.val (.bool false)),(.val (.bool true)),(.val (.bool true)),(.val (.bool false)),(.val (.bool false))])),none⟩,⟨(some 25),(.p (.mov (.tmp 24))),none⟩,⟨(some 26),(.loadn 1 (.tmp 2)),(some (25,true))⟩,⟨(some 27),(.p (.faddr 2 (.tmp 3))),(some (25,true))⟩,⟨(some 28),(.loadn 8 (.tmp 27)),(some (25,true))⟩,⟨(some 29),(.e (.call 194 [(.tmp 26),(.tmp 28)])),(some (25,true))⟩,⟨(some 30),(.p (.pick (.tmp 25) (.tmp 29) (.val (.bool false)))),none⟩,⟨(some 31),(.p (.mov (.tmp 30))),none⟩,⟨(some 32),(.loadn 1 (.tmp 2)),(some (31,true))⟩,⟨(some 33),(.p (.faddr 10 (.tmp 3))),(some (31,true))⟩,⟨(some 34),(.load1 (.tmp 33)),(some (31,true))⟩,⟨(some 35),(.e (.call 195 [(.tmp 32),(.tmp 34)])),(some (31,true))⟩,⟨(some 36),(.p (.pick (.tmp 31) (.tmp 35) (.val (.bool false)))),none⟩,⟨(some 4),(.p (.mov (.tmp 36))),none⟩])
 (.ret))
 (.seq (.region [⟨(some 38),(.p (.bin .eql (.tmp 10) (.val (.int .i64 (.ofNat 3))))),none⟩,⟨(some 37),(.p (.mov (.tmp 38))),none⟩])
 (.cond (.tmp 37) (.seq (.region [⟨(some 39),(.loadn 14 (.tmp 3)),none⟩,⟨(some 40),(.e (.call 193 [(.tmp 39),(.val (.bool false)),(.val (.bool true)),(.val (.bool false)),(.val (.bool false)),(.val (.bool false))])),none⟩,⟨(some 41),(.p (.mov (.tmp 40))),none⟩,⟨(some 42),(.loadn 1 (.tmp 2)),(some (41,true))⟩,⟨(some 43),(.p (.faddr 2 (.tmp 3))),(some (41,true))⟩,⟨(some 44),(.loadn 8 (.tmp 43)),(some (41,true))⟩,⟨(some 45),(.e (.call 194 [(.tmp 42),(.tmp 44)])),(some (41,true))⟩,⟨(some 46),(.p (.pick (.tmp 41) (.tmp 45) (.val (.bool false)))),none⟩,⟨(some 4),(.p (.mov (.tmp 46))),none⟩])
 (.ret))
 (.seq (.region [⟨(some 48),(.p (.bin .eql (.tmp 10) (.val (.int .i64 (.ofNat 4))))),none⟩,⟨(some 47),(.p (.mov (.tmp 48))),none⟩])
 (.cond (.tmp 47) (.seq (.region [⟨(some 49),(.p (.mkfunc 196 [] [(.tmp 2)])),none⟩,⟨(some 5),(.p (.mov (.tmp 49))),none⟩])
 (.seq (.region [⟨(some 50),(.p (.faddr 11 (.tmp 3))),none⟩,⟨(some 51),(.load1 (.tmp 50)),none⟩,⟨(some 52),(.p (.lenb (.tmp 51))),none⟩,⟨(some 53),(.p (.bin .geq (.tmp 52) (.val (.int .i64 (.ofNat 1))))),none⟩,⟨(some 54),(.p (.mov (.tmp 53))),none⟩,⟨(some 55),(.p (.faddr 11 (.tmp 3))),(some (54,true))⟩,⟨(some 56),(.load1 (.tmp 55)),(some (54,true))⟩,⟨(some 57),(.p (.lenb (.tmp 56))),(some (54,true))⟩,⟨(some 58),(.p (.bin .leq (.tmp 57) (.val (.int .i64 (.ofNat 6))))),(some (54,true))⟩,⟨(some 59),(.p (.pick (.tmp 54) (.tmp 58) (.val (.bool false)))),none⟩,⟨(some 60),(.p (.mov (.tmp 59))),none⟩,⟨(some 61),(.p (.faddr 11 (.tmp 3))),(some (60,true))⟩,⟨(some 62),(.load1 (.tmp 61)),(some (60,true))⟩,⟨(some 63),(.p (.mov (.tmp 5))),(some (60,true))⟩,⟨(some 64),(.e (.call 198 [(.tmp 62),(.tmp 63)])),(some (60,true))⟩,⟨(some 65),(.p (.not (.tmp 64))),(some (60,true))⟩,⟨(some 66),(.p (.pick (.tmp 60) (.tmp 65) (.val (.bool false)))),none⟩,⟨(some 6),(.p (.mov (.tmp 66))),none⟩])
 (.seq (.region [⟨(some 67),(.loadn 14 (.tmp 3)),none⟩,⟨(some 68),(.e (.call 193 [(.tmp 67),(.val (.bool false)),(.val (.bool true)),(.val (.bool false)),(.val (.bool true)),(.val (.bool false))])),none⟩,⟨(some 69),(.p (.mov (.tmp 68))),none⟩,⟨(some 70),(.loadn 1 (.tmp 2)),(some (69,true))⟩,⟨(some 71),(.p (.faddr 2 (.tmp 3))),(some (69,true))⟩,⟨(some 72),(.loadn 8 (.tmp 71)),(some (69,true))⟩,⟨(some 73),(.e (.call 194 [(.tmp 70),(.tmp 72)])),(some (69,true))⟩,⟨(some 74),(.p (.pick (.tmp 69) (.tmp 73) (.val (.bool false)))),none⟩,⟨(some 75),(.p (.mov (.tmp 74))),none⟩,⟨(some 76),(.p (.mov (.tmp 6))),(some (75,true))⟩,⟨(some 77),(.p (.pick (.tmp 75) (.tmp 76) (.val (.bool false)))),none⟩,⟨(some 4),(.p (.mov (.tmp 77))),none⟩])
 (.ret))))
 (.seq (.region [⟨(some 79),(.p (.bin .eql (.tmp 10) (.val (.int .i64 (.ofNat 5))))),none⟩,⟨(some 78),(.p (.mov (.tmp 79))),none⟩])
 (.cond (.tmp 78) (.seq (.region [⟨(some 80),(.p (.mkfunc 199 [] [(.tmp 2)])),none⟩,⟨(some 7),(.p (.mov (.tmp 80))),none⟩])
 (.seq (.region [⟨(some 81),(.p (.faddr 13 (.tmp 3))),none⟩,⟨(some 82),(.load1 (.tmp 81)),none⟩,⟨(some 83),(.p (.lenb (.tmp 82))),none⟩,⟨(some 84),(.p (.bin .geq (.tmp 83) (.val (.int .i64 (.ofNat 1))))),none⟩,⟨(some 85),(.p (.mov (.tmp 84))),none⟩,⟨(some 86),(.p (.faddr 13 (.tmp 3))),(some (85,true))⟩,⟨(some 87),(.load1 (.tmp 86)),(some (85,true))⟩,⟨(some 88),(.p (.lenb (.tmp 87))),(some (85,true))⟩,⟨(some 89),(.p (.bin .leq (.tmp 88) (.val (.int .i64 (.ofNat 4))))),(some (85,true))⟩,⟨(some 90),(.p (.pick (.tmp 85) (.tmp 89) (.val (.bool false)))),none⟩,⟨(some 91),(.p (.mov (.tmp 90))),none⟩,⟨(some 92),(.p (.faddr 13 (.tmp 3))),(some (91,true))⟩,⟨(some 93),(.load1 (.tmp 92)),(some (91,true))⟩,⟨(some 94),(.p (.mov (.tmp 7))),(some (91,true))⟩,⟨(some 95),(.e (.call 201 [(.tmp 93),(.tmp 94)])),(some (91,true))⟩,⟨(some 96),(.p (.not (.tmp 95))),(some (91,true))⟩,⟨(some 97),(.p (.pick (.tmp 91) (.tmp 96) (.val (.bool false)))),none⟩,⟨(some 8),(.p (.mov (.tmp 97))),none⟩])
 (.seq (.region [⟨(some 98),(.loadn 14 (.tmp 3)),none⟩,⟨(some 99),(.e (.call 193 [(.tmp 98),(.val (.bool false)),(.val (.bool true)),(.val (.bool false)),(.val (.bool false)),(.val (.bool true))])),none⟩,⟨(some 100),(.p (.mov (.tmp 99))),none⟩,⟨(some 101),(.loadn 1 (.tmp 2)),(some (100,true))⟩,⟨(some 102),(.p (.faddr 2 (.tmp 3))),(some (100,true))⟩,⟨(some 103),(.loadn 8 (.tmp 102)),(some (100,true))⟩,⟨(some 104),(.e (.call 194 [(.tmp 101),(.tmp 103)])),(some (100,true))⟩,⟨(some 105),(.p (.pick (.tmp 100) (.tmp 104) (.val (.bool false)))),none⟩,⟨(some 106),(.p (.mov (.tmp 105))),none⟩,⟨(some 107),(.p (.faddr 12 (.tmp 3))),(some (106,true))⟩,⟨(some 108),(.load1 (.tmp 107)),(some (106,true))⟩,⟨(some 109),(.p (.bin .eql (.tmp 108) (.val (.int .i64 (.negSucc 0))))),(some (106,true))⟩,⟨(some 110),(.p (.mov (.tmp 109))),(some (106,true))⟩,⟨(some 111),(.loadn 1 (.tmp 2)),(some (110,false))⟩,⟨(some 112),(.p (.faddr 12 (.tmp 3))),(some (110,false))⟩,⟨(some 113),(.load1 (.tmp 112)),(some (110,false))⟩,⟨(some 114),(.e (.call 197 [(.tmp 111),(.tmp 113)])),(some (110,false))⟩,⟨(some 115),(.p (.pick (.tmp 110) (.val (.bool true)) (.tmp 114))),(some (106,true))⟩,⟨(some 116),(.p (.pick (.tmp 106) (.tmp 115) (.val (.bool false)))),none⟩,⟨(some 117),(.p (.mov (.tmp 116))),none⟩,⟨(some 118),(.p (.mov (.tmp 8))),(some (117,true))⟩,⟨(some 119),(.p (.pick (.tmp 117) (.tmp 118) (.val (.bool false)))),none⟩,⟨(some 4),(.p (.mov (.tmp 119))),none⟩])
 (.ret))))
 (.seq (.region [⟨(some 121),(.p (.bin .eql (.tmp 10) (.val (.int .i64 (.ofNat 6))))),none⟩,⟨(some 120),(.p (.mov (.tmp 121))),none⟩])
 (.cond (.tmp 120) (.seq (.region [⟨(some 122),(.loadn 14 (.tmp 3)),none⟩,⟨(some 123),(.e (.call 193 [(.tmp 122),(.val (.bool false)),(.val (.bool false)),(.val (.bool false)),(.val (.bool false)),(.val (.bool false))])),none⟩,⟨(some 4),(.p (.mov (.tmp 123))),none⟩])
 (.ret))
 (.skip)))))))))))))))
 (.seq (.region [⟨(some 4),(.p (.mov (.val (.bool false)))),none⟩])
 (.ret))),[.tmp 4]⟩
theorem v152 : IsFun Tryz.prog 152 m152 := ⟨_, Tryz.func152, by kernel_rfl, by kernel_rfl⟩
end Go.Proofs.YtnlbdfccijgapaaGreat
