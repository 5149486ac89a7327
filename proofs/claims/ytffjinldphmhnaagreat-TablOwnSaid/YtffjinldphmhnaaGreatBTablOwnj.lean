/-
  Texts that the claim's last one rests on, joined.
-/
import Derived.Test.YtffjinldphmhnaaGreatRows
import Derived.Test.YtffjinldphmhnaaGreatBTablOwni
import Derived.Test.YtffjinldphmhnaaGreatBTablOwng
import Derived.Test.YtffjinldphmhnaaGreatBTablOwnh
import Derived.Test.YtffjinldphmhnaaGreatBTablOwnf
import Derived.Test.YtffjinldphmhnaaGreatBTablOwnc
import Derived.RangeFuncBox
import Derived.RangeFuncLeaves
import Derived.WalkKit
import Derived.OwnWalkIn
import Derived.TacticsInMore
import Derived.LoopNIn
import Derived.LoopIn

section
set_option maxRecDepth 100000
namespace Go.Proofs.YtffjinldphmhnaaGreat
open Go.Vm
def m115 : Fun := Go.Lib.M266 Go.Proofs.YtffjinldphmhnaaGreat.sa.F0
theorem v115 : IsFun Tryz.prog 115 m115 := ⟨_, Tryz.func115, by kernel_rfl, by kernel_rfl⟩
def m124 : Fun := ⟨8,1,.seq (.region [⟨(some 2),(.p (.mov (.val (.nilslice)))),none⟩])
 (.seq (.seq (.region [⟨(some 3),(.p (.mov (.tmp 0))),none⟩,⟨(some 4),(.p (.eq .slice false (.tmp 3) (.val (.nilslice)))),none⟩])
 (.cond (.tmp 4) (.seq (.region [⟨(some 2),(.p (.mov (.val (.nilslice)))),none⟩])
 (.ret))
 (.skip)))
 (.seq (.region [⟨(some 5),(.a (.bslice [] 1 0 [])),none⟩,⟨(some 6),(.p (.mov (.tmp 0))),none⟩,⟨(some 7),(.e (.append 1 8 (.tmp 5) (.tmp 6))),none⟩,⟨(some 2),(.p (.mov (.tmp 7))),none⟩])
 (.ret))),[.tmp 2]⟩
theorem v124 : IsFun Tryz.prog 124 m124 := ⟨_, Tryz.func124, by kernel_rfl, by kernel_rfl⟩
def m125 : Fun := Go.Lib.M279 Go.Proofs.YtffjinldphmhnaaGreat.sa.F0
theorem v125 : IsFun Tryz.prog 125 m125 := ⟨_, Tryz.func125, by kernel_rfl, by kernel_rfl⟩
def m126 : Fun := Go.Lib.M327 Go.Proofs.YtffjinldphmhnaaGreat.sa.F0
theorem v126 : IsFun Tryz.prog 126 m126 := ⟨_, Tryz.func126, by kernel_rfl, by kernel_rfl⟩
def m127 : Fun := ⟨4,1,.seq (.region [⟨(some 1),(.a (.box (.tmp 0))),none⟩,⟨(some 2),(.p (.mov (.val (.nilfunc)))),none⟩])
 (.seq (.region [⟨(some 3),(.p (.mkfunc 153 [] [(.tmp 1)])),none⟩,⟨(some 2),(.p (.mov (.tmp 3))),none⟩])
 (.ret)),[.tmp 2]⟩
theorem v127 : IsFun Tryz.prog 127 m127 := ⟨_, Tryz.func127, by kernel_rfl, by kernel_rfl⟩
def m130 : Fun := ⟨11,2,.seq (.region [⟨(some 2),(.a (.box (.tmp 0))),none⟩,⟨(some 3),(.a (.box (.tmp 1))),none⟩,⟨(some 4),(.p (.mov (.val (.bool false)))),none⟩])
 (.seq (.region [⟨(some 5),(.loadn 8 (.tmp 3)),none⟩,⟨(some 6),(.p (.faddr 1 (.tmp 2))),none⟩,⟨(some 7),(.load1 (.tmp 6)),none⟩,⟨(some 8),(.p (.faddr 0 (.tmp 2))),none⟩,⟨(some 9),(.load1 (.tmp 8)),none⟩,⟨(some 10),(.e (.call 165 [(.tmp 5),(.tmp 7),(.tmp 9)])),none⟩,⟨(some 4),(.p (.mov (.tmp 10))),none⟩])
 (.ret)),[.tmp 4]⟩
theorem v130 : IsFun Tryz.prog 130 m130 := ⟨_, Tryz.func130, by kernel_rfl, by kernel_rfl⟩
def m131 : Fun := ⟨4,1,.seq (.region [⟨(some 2),(.p (.mov (.val (.int .i64 (.ofNat 0))))),none⟩])
 (.seq (.seq (.region [⟨(some 3),(.p (.mov (.tmp 0))),none⟩])
 (.cond (.tmp 3) (.seq (.region [⟨(some 2),(.p (.mov (.val (.int .i64 (.ofNat 1))))),none⟩])
 (.ret))
 (.skip)))
 (.seq (.region [⟨(some 2),(.p (.mov (.val (.int .i64 (.ofNat 2))))),none⟩])
 (.ret))),[.tmp 2]⟩
theorem v131 : IsFun Tryz.prog 131 m131 := ⟨_, Tryz.func131, by kernel_rfl, by kernel_rfl⟩
def m132 : Fun := ⟨30,2,.seq (.region [⟨(some 4),(.p (.mov (.val (.bool false)))),none⟩])
 (.seq (.seq (.region [⟨(some 5),(.p (.mov (.tmp 0))),none⟩])
 (.block 0 (.seq (.region [⟨(some 7),(.p (.bin .eql (.tmp 5) (.val (.int .i64 (.ofNat 1))))),none⟩,⟨(some 6),(.p (.mov (.tmp 7))),none⟩])
 (.cond (.tmp 6) (.seq (.region [⟨(some 8),(.p (.mov (.tmp 1))),none⟩,⟨(some 9),(.p (.bin .eql (.tmp 8) (.val (.int .i64 (.ofNat 0))))),none⟩,⟨(some 4),(.p (.mov (.tmp 9))),none⟩])
 (.ret))
 (.seq (.region [⟨(some 11),(.p (.bin .eql (.tmp 5) (.val (.int .i64 (.ofNat 2))))),none⟩,⟨(some 10),(.p (.mov (.tmp 11))),none⟩])
 (.cond (.tmp 10) (.seq (.region [⟨(some 12),(.p (.mov (.tmp 1))),none⟩,⟨(some 13),(.p (.bin .neq (.tmp 12) (.val (.int .i64 (.ofNat 0))))),none⟩,⟨(some 4),(.p (.mov (.tmp 13))),none⟩])
 (.ret))
 (.seq (.region [⟨(some 15),(.p (.bin .eql (.tmp 5) (.val (.int .i64 (.ofNat 3))))),none⟩,⟨(some 14),(.p (.mov (.tmp 15))),none⟩])
 (.cond (.tmp 14) (.seq (.region [⟨(some 16),(.p (.mov (.tmp 1))),none⟩,⟨(some 17),(.p (.bin .lss (.tmp 16) (.val (.int .i64 (.ofNat 0))))),none⟩,⟨(some 4),(.p (.mov (.tmp 17))),none⟩])
 (.ret))
 (.seq (.region [⟨(some 19),(.p (.bin .eql (.tmp 5) (.val (.int .i64 (.ofNat 4))))),none⟩,⟨(some 18),(.p (.mov (.tmp 19))),none⟩])
 (.cond (.tmp 18) (.seq (.region [⟨(some 20),(.p (.mov (.tmp 1))),none⟩,⟨(some 21),(.p (.bin .leq (.tmp 20) (.val (.int .i64 (.ofNat 0))))),none⟩,⟨(some 4),(.p (.mov (.tmp 21))),none⟩])
 (.ret))
 (.seq (.region [⟨(some 23),(.p (.bin .eql (.tmp 5) (.val (.int .i64 (.ofNat 5))))),none⟩,⟨(some 22),(.p (.mov (.tmp 23))),none⟩])
 (.cond (.tmp 22) (.seq (.region [⟨(some 24),(.p (.mov (.tmp 1))),none⟩,⟨(some 25),(.p (.bin .gtr (.tmp 24) (.val (.int .i64 (.ofNat 0))))),none⟩,⟨(some 4),(.p (.mov (.tmp 25))),none⟩])
 (.ret))
 (.seq (.region [⟨(some 27),(.p (.bin .eql (.tmp 5) (.val (.int .i64 (.ofNat 6))))),none⟩,⟨(some 26),(.p (.mov (.tmp 27))),none⟩])
 (.cond (.tmp 26) (.seq (.region [⟨(some 28),(.p (.mov (.tmp 1))),none⟩,⟨(some 29),(.p (.bin .geq (.tmp 28) (.val (.int .i64 (.ofNat 0))))),none⟩,⟨(some 4),(.p (.mov (.tmp 29))),none⟩])
 (.ret))
 (.skip)))))))))))))))
 (.seq (.region [⟨(some 4),(.p (.mov (.val (.bool false)))),none⟩])
 (.ret))),[.tmp 4]⟩
theorem v132 : IsFun Tryz.prog 132 m132 := ⟨_, Tryz.func132, by kernel_rfl, by kernel_rfl⟩
def m133 : Fun := ⟨34,2,.seq (.region [⟨(some 2),(.a (.box (.tmp 0))),none⟩,⟨(some 3),(.a (.box (.tmp 1))),none⟩,⟨(some 4),(.p (.mov (.val (.int .i64 (.ofNat 0))))),none⟩])
 (.seq (.seq (.dregion [⟨⟨(some 6),(.loadn 4 (.tmp 2)),none⟩,0,1⟩,⟨⟨(some 7),(.e (.call 166 [(.tmp 6)])),none⟩,0,3⟩,⟨⟨(some 8),(.loadn 4 (.tmp 3)),none⟩,0,3⟩,⟨⟨(some 9),(.e (.call 166 [(.tmp 8)])),none⟩,2,4⟩,⟨⟨(some 10),(.e (.call 102 [(.tmp 7),(.tmp 9)])),none⟩,4,6⟩,⟨⟨(some 5),(.p (.mov (.tmp 10))),none⟩,5,6⟩])
 (.seq (.region [⟨(some 11),(.p (.mov (.tmp 5))),none⟩,⟨(some 12),(.p (.bin .neq (.tmp 11) (.val (.int .i64 (.ofNat 0))))),none⟩,⟨(some 13),(.p (.mov (.tmp 12))),none⟩,⟨(some 14),(.p (.faddr 0 (.tmp 2))),(some (13,false))⟩,⟨(some 15),(.load1 (.tmp 14)),(some (13,false))⟩,⟨(some 16),(.p (.pick (.tmp 13) (.val (.bool true)) (.tmp 15))),none⟩])
 (.cond (.tmp 16) (.seq (.region [⟨(some 17),(.p (.mov (.tmp 5))),none⟩,⟨(some 4),(.p (.mov (.tmp 17))),none⟩])
 (.ret))
 (.skip))))
 (.seq (.seq (.region [⟨(some 18),(.p (.faddr 1 (.tmp 2))),none⟩,⟨(some 19),(.load1 (.tmp 18)),none⟩])
 (.block 0 (.seq (.region [⟨(some 21),(.p (.bin .eql (.tmp 19) (.val (.int .i64 (.ofNat 1))))),none⟩,⟨(some 20),(.p (.mov (.tmp 21))),none⟩])
 (.cond (.tmp 20) (.seq (.region [⟨(some 22),(.p (.faddr 2 (.tmp 2))),none⟩,⟨(some 23),(.load1 (.tmp 22)),none⟩,⟨(some 24),(.p (.faddr 2 (.tmp 3))),none⟩,⟨(some 25),(.load1 (.tmp 24)),none⟩,⟨(some 26),(.e (.call 100 [(.tmp 23),(.tmp 25)])),none⟩,⟨(some 4),(.p (.mov (.tmp 26))),none⟩])
 (.ret))
 (.seq (.region [⟨(some 28),(.p (.bin .eql (.tmp 19) (.val (.int .i64 (.ofNat 2))))),none⟩,⟨(some 27),(.p (.mov (.tmp 28))),none⟩])
 (.cond (.tmp 27) (.seq (.region [⟨(some 29),(.p (.faddr 3 (.tmp 2))),none⟩,⟨(some 30),(.load1 (.tmp 29)),none⟩,⟨(some 31),(.p (.faddr 3 (.tmp 3))),none⟩,⟨(some 32),(.load1 (.tmp 31)),none⟩,⟨(some 33),(.e (.call 167 [(.tmp 30),(.tmp 32)])),none⟩,⟨(some 4),(.p (.mov (.tmp 33))),none⟩])
 (.ret))
 (.skip)))))))
 (.seq (.region [⟨(some 4),(.p (.mov (.val (.int .i64 (.ofNat 0))))),none⟩])
 (.ret)))),[.tmp 4]⟩
theorem v133 : IsFun Tryz.prog 133 m133 := ⟨_, Tryz.func133, by kernel_rfl, by kernel_rfl⟩
def m134 : Fun := ⟨33,4,.seq (.region [⟨(some 4),(.a (.box (.tmp 0))),none⟩,⟨(some 8),(.p (.mov (.val (.int .i64 (.ofNat 0))))),none⟩])
 (.seq (.region [⟨(some 13),(.p (.mov (.tmp 3))),none⟩,⟨(some 9),(.p (.mov (.tmp 13))),none⟩])
 (.seq (.seq (.region [⟨(some 14),(.p (.faddr 7 (.tmp 4))),none⟩,⟨(some 15),(.load1 (.tmp 14)),none⟩,⟨(some 16),(.p (.lenb (.tmp 15))),none⟩,⟨(some 17),(.p (.mov (.val (.int .i64 (.ofNat 0))))),none⟩])
 (.block 0 (.loop (.seq (.region [⟨(some 18),(.p (.bin .lss (.tmp 17) (.tmp 16))),none⟩])
 (.seq (.cond (.tmp 18) (.skip)
 (.exit 0))
 (.seq (.block 1 (.seq (.region [⟨(some 19),(.p (.iaddr 8 (.tmp 15) (.tmp 17))),none⟩,⟨(some 20),(.loadn 8 (.tmp 19)),none⟩,⟨(some 11),(.a (.new [.int .i64 (.ofNat 0),.int .i64 (.ofNat 0),.int .i64 (.ofNat 0),.bool false,.int .i64 (.ofNat 0),.int .i64 (.ofNat 0),.nilslice,.nilslice])),none⟩,⟨none,(.e (.store 8 (.tmp 11) (.tmp 20))),none⟩])
 (.seq (.region [⟨(some 21),(.loadn 8 (.tmp 11)),none⟩,⟨(some 22),(.p (.mov (.tmp 1))),none⟩,⟨(some 23),(.e (.call 79 [(.tmp 21),(.tmp 22)])),none⟩,⟨(some 12),(.p (.mov (.tmp 23))),none⟩])
 (.seq (.region [⟨(some 24),(.p (.mov (.tmp 12))),none⟩])
 (.block 2 (.seq (.region [⟨(some 26),(.p (.mov (.tmp 2))),none⟩,⟨(some 27),(.p (.bin .eql (.tmp 24) (.tmp 26))),none⟩,⟨(some 25),(.p (.mov (.tmp 27))),none⟩])
 (.cond (.tmp 25) (.seq (.region [⟨(some 28),(.p (.mov (.tmp 2))),none⟩,⟨(some 8),(.p (.mov (.tmp 28))),none⟩])
 (.ret))
 (.seq (.region [⟨(some 30),(.p (.bin .eql (.tmp 24) (.val (.int .i64 (.ofNat 3))))),none⟩,⟨(some 29),(.p (.mov (.tmp 30))),none⟩])
 (.cond (.tmp 29) (.region [⟨(some 9),(.p (.mov (.val (.int .i64 (.ofNat 3))))),none⟩])
 (.skip))))))))))
 (.region [⟨(some 31),(.p (.bin .add (.tmp 17) (.val (.int .i64 (.ofNat 1))))),none⟩,⟨(some 17),(.p (.mov (.tmp 31))),none⟩])))))))
 (.seq (.region [⟨(some 32),(.p (.mov (.tmp 9))),none⟩,⟨(some 8),(.p (.mov (.tmp 32))),none⟩])
 (.ret)))),[.tmp 8]⟩
theorem v134 : IsFun Tryz.prog 134 m134 := ⟨_, Tryz.func134, by kernel_rfl, by kernel_rfl⟩
def m135 : Fun := ⟨8,1,.seq (.region [⟨(some 2),(.p (.mov (.val (.int .i64 (.ofNat 0))))),none⟩])
 (.seq (.seq (.region [⟨(some 3),(.p (.mov (.tmp 0))),none⟩])
 (.block 0 (.seq (.region [⟨(some 5),(.p (.bin .eql (.tmp 3) (.val (.int .i64 (.ofNat 1))))),none⟩,⟨(some 4),(.p (.mov (.tmp 5))),none⟩])
 (.cond (.tmp 4) (.seq (.region [⟨(some 2),(.p (.mov (.val (.int .i64 (.ofNat 2))))),none⟩])
 (.ret))
 (.seq (.region [⟨(some 7),(.p (.bin .eql (.tmp 3) (.val (.int .i64 (.ofNat 2))))),none⟩,⟨(some 6),(.p (.mov (.tmp 7))),none⟩])
 (.cond (.tmp 6) (.seq (.region [⟨(some 2),(.p (.mov (.val (.int .i64 (.ofNat 1))))),none⟩])
 (.ret))
 (.skip)))))))
 (.seq (.region [⟨(some 2),(.p (.mov (.val (.int .i64 (.ofNat 3))))),none⟩])
 (.ret))),[.tmp 2]⟩
theorem v135 : IsFun Tryz.prog 135 m135 := ⟨_, Tryz.func135, by kernel_rfl, by kernel_rfl⟩
def m136 : Fun := ⟨41,2,.seq (.region [⟨(some 2),(.a (.box (.tmp 0))),none⟩,⟨(some 4),(.p (.mov (.val (.nilptr)))),none⟩,⟨(some 5),(.p (.mov (.val (.bool false)))),none⟩])
 (.seq (.region [⟨(some 7),(.p (.mkfunc 168 [] [(.tmp 2)])),none⟩,⟨(some 6),(.p (.mov (.tmp 7))),none⟩])
 (.seq (.seq (.region [⟨(some 8),(.loadn 1 (.tmp 2)),none⟩,⟨(some 9),(.e (.call 57 [(.tmp 8)])),none⟩,⟨(some 10),(.p (.not (.tmp 9))),none⟩,⟨(some 11),(.p (.mov (.tmp 10))),none⟩,⟨(some 12),(.p (.mov (.tmp 1))),(some (11,false))⟩,⟨(some 13),(.p (.lenb (.tmp 12))),(some (11,false))⟩,⟨(some 14),(.p (.bin .lss (.tmp 13) (.val (.int .i64 (.ofNat 1))))),(some (11,false))⟩,⟨(some 15),(.p (.pick (.tmp 11) (.val (.bool true)) (.tmp 14))),none⟩,⟨(some 16),(.p (.mov (.tmp 15))),none⟩,⟨(some 17),(.p (.mov (.tmp 1))),(some (16,false))⟩,⟨(some 18),(.p (.lenb (.tmp 17))),(some (16,false))⟩,⟨(some 19),(.p (.bin .gtr (.tmp 18) (.val (.int .i64 (.ofNat 64))))),(some (16,false))⟩,⟨(some 20),(.p (.pick (.tmp 16) (.val (.bool true)) (.tmp 19))),none⟩,⟨(some 21),(.p (.mov (.tmp 20))),none⟩,⟨(some 22),(.p (.mov (.tmp 1))),(some (21,false))⟩,⟨(some 23),(.p (.mov (.tmp 6))),(some (21,false))⟩,⟨(some 24),(.e (.call 169 [(.tmp 22),(.tmp 23)])),(some (21,false))⟩,⟨(some 25),(.p (.pick (.tmp 21) (.val (.bool true)) (.tmp 24))),none⟩])
 (.cond (.tmp 25) (.seq (.region [⟨(some 4),(.p (.mov (.val (.nilptr)))),none⟩,⟨(some 5),(.p (.mov (.val (.bool false)))),none⟩])
 (.ret))
 (.skip)))
 (.seq (.region [⟨(some 26),(.p (.faddr 0 (.tmp 2))),none⟩,⟨(some 27),(.load1 (.tmp 26)),none⟩,⟨(some 28),(.e (.call 58 [(.tmp 27)])),none⟩,⟨(some 29),(.p (.faddr 0 (.tmp 2))),none⟩,⟨none,(.e (.store 1 (.tmp 29) (.tmp 28))),none⟩])
 (.seq (.dregion [⟨⟨(some 32),(.loadn 1 (.tmp 2)),none⟩,0,2⟩,⟨⟨(some 33),(.p (.mov (.tmp 1))),none⟩,0,2⟩,⟨⟨(some 34),(.e (.call 170 [(.tmp 32),(.tmp 33)])),none⟩,0,4⟩,⟨⟨(some 37),(.p (.mov (.tmp 1))),none⟩,0,4⟩,⟨⟨(some 38),(.e (.call 171 [(.tmp 37)])),none⟩,3,13⟩,⟨⟨(some 30),(.p (.mov (.tmp 1))),none⟩,0,13⟩,⟨⟨(some 31),(.p (.lenb (.tmp 30))),none⟩,0,13⟩,⟨⟨(some 35),(.p (.build [.int .i64 (.ofNat 0),.nilslice] [(0,1,(.tmp 31)),(1,1,(.tmp 34))])),none⟩,3,13⟩,⟨⟨(some 36),(.loadn 1 (.tmp 2)),none⟩,0,13⟩,⟨⟨(some 39),(.p (.build [.int .i64 (.ofNat 0),.nilslice,.nilslice,.nilslice] [(0,2,(.tmp 35)),(2,1,(.tmp 36)),(3,1,(.tmp 38))])),none⟩,5,13⟩,⟨⟨(some 40),(.a (.box (.tmp 39))),none⟩,5,13⟩,⟨⟨(some 4),(.p (.mov (.tmp 40))),none⟩,5,13⟩,⟨⟨(some 5),(.p (.mov (.val (.bool true)))),none⟩,5,13⟩])
 (.ret))))),[.tmp 4,.tmp 5]⟩
theorem v136 : IsFun Tryz.prog 136 m136 := ⟨_, Tryz.func136, by kernel_rfl, by kernel_rfl⟩
def m137 : Fun := ⟨25,2,.seq (.region [⟨(some 4),(.p (.mov (.val (.nilslice)))),none⟩,⟨(some 5),(.p (.mov (.val (.bool false)))),none⟩])
 (.seq (.seq (.region [⟨(some 6),(.p (.mov (.tmp 1))),none⟩,⟨(some 7),(.p (.bin .lss (.tmp 6) (.val (.int .i64 (.ofNat 0))))),none⟩,⟨(some 8),(.p (.mov (.tmp 7))),none⟩,⟨(some 9),(.p (.mov (.tmp 1))),(some (8,false))⟩,⟨(some 10),(.p (.mov (.tmp 0))),(some (8,false))⟩,⟨(some 11),(.p (.nilchk (.tmp 10))),(some (8,false))⟩,⟨(some 12),(.p (.faddr 3 (.tmp 11))),(some (8,false))⟩,⟨(some 13),(.load1 (.tmp 12)),(some (8,false))⟩,⟨(some 14),(.p (.lenb (.tmp 13))),(some (8,false))⟩,⟨(some 15),(.p (.bin .geq (.tmp 9) (.tmp 14))),(some (8,false))⟩,⟨(some 16),(.p (.pick (.tmp 8) (.val (.bool true)) (.tmp 15))),none⟩])
 (.cond (.tmp 16) (.seq (.region [⟨(some 4),(.p (.mov (.val (.nilslice)))),none⟩,⟨(some 5),(.p (.mov (.val (.bool false)))),none⟩])
 (.ret))
 (.skip)))
 (.seq (.region [⟨(some 17),(.p (.mov (.tmp 0))),none⟩,⟨(some 18),(.p (.nilchk (.tmp 17))),none⟩,⟨(some 19),(.p (.faddr 3 (.tmp 18))),none⟩,⟨(some 20),(.load1 (.tmp 19)),none⟩,⟨(some 21),(.p (.mov (.tmp 1))),none⟩,⟨(some 22),(.p (.iaddr 1 (.tmp 20) (.tmp 21))),none⟩,⟨(some 23),(.load1 (.tmp 22)),none⟩,⟨(some 24),(.e (.call 139 [(.tmp 23)])),none⟩,⟨(some 4),(.p (.mov (.tmp 24))),none⟩,⟨(some 5),(.p (.mov (.val (.bool true)))),none⟩])
 (.ret))),[.tmp 4,.tmp 5]⟩
theorem v137 : IsFun Tryz.prog 137 m137 := ⟨_, Tryz.func137, by kernel_rfl, by kernel_rfl⟩
def m138 : Fun := ⟨27,2,.seq (.region [⟨(some 4),(.p (.mov (.val (.nilslice)))),none⟩])
 (.seq (.seq (.region [⟨(some 5),(.p (.mov (.tmp 1))),none⟩,⟨(some 6),(.p (.bin .lss (.tmp 5) (.val (.int .i64 (.ofNat 0))))),none⟩])
 (.cond (.tmp 6) (.region [⟨(some 7),(.p (.mkiface 9 (.val (.str [99,97,110,110,111,116,32,98,101,32,110,101,103,97,116,105,118,101])))),none⟩,⟨none,(.e (.stop)),none⟩])
 (.skip)))
 (.seq (.seq (.region [⟨(some 8),(.p (.mov (.tmp 1))),none⟩,⟨(some 9),(.p (.mov (.tmp 0))),none⟩,⟨(some 10),(.p (.caps (.tmp 9))),none⟩,⟨(some 11),(.p (.mov (.tmp 0))),none⟩,⟨(some 12),(.p (.lenb (.tmp 11))),none⟩,⟨(some 13),(.p (.bin .sub (.tmp 10) (.tmp 12))),none⟩,⟨(some 14),(.p (.bin .sub (.tmp 8) (.tmp 13))),none⟩,⟨(some 1),(.p (.mov (.tmp 14))),none⟩])
 (.seq (.region [⟨(some 15),(.p (.mov (.tmp 1))),none⟩,⟨(some 16),(.p (.bin .gtr (.tmp 15) (.val (.int .i64 (.ofNat 0))))),none⟩])
 (.cond (.tmp 16) (.region [⟨(some 17),(.p (.mov (.tmp 0))),none⟩,⟨(some 18),(.p (.mov (.tmp 0))),none⟩,⟨(some 19),(.p (.caps (.tmp 18))),none⟩,⟨(some 20),(.p (.slc 1 (.tmp 17) none (some (.tmp 19)) none)),none⟩,⟨(some 21),(.p (.mov (.tmp 1))),none⟩,⟨(some 22),(.e (.appendz [.nilptr] 1 8 (.tmp 20) (.tmp 21))),none⟩,⟨(some 23),(.p (.mov (.tmp 0))),none⟩,⟨(some 24),(.p (.lenb (.tmp 23))),none⟩,⟨(some 25),(.p (.slc 1 (.tmp 22) none (some (.tmp 24)) none)),none⟩,⟨(some 0),(.p (.mov (.tmp 25))),none⟩])
 (.skip))))
 (.seq (.region [⟨(some 26),(.p (.mov (.tmp 0))),none⟩,⟨(some 4),(.p (.mov (.tmp 26))),none⟩])
 (.ret)))),[.tmp 4]⟩
theorem v138 : IsFun Tryz.prog 138 m138 := ⟨_, Tryz.func138, by kernel_rfl, by kernel_rfl⟩
def m139 : Fun := Go.Lib.M4 Go.Proofs.YtffjinldphmhnaaGreat.sa.F0
theorem v139 : IsFun Tryz.prog 139 m139 := ⟨_, Tryz.func139, by kernel_rfl, by kernel_rfl⟩
def m144 : Fun := ⟨6,1,.seq (.region [⟨(some 2),(.p (.mov (.val (.bool false)))),none⟩])
 (.seq (.region [⟨(some 3),(.p (.mov (.tmp 0))),none⟩,⟨(some 4),(.p (.mov (.tmp 0))),none⟩,⟨(some 5),(.p (.bin .neq (.tmp 3) (.tmp 4))),none⟩,⟨(some 2),(.p (.mov (.tmp 5))),none⟩])
 (.ret)),[.tmp 2]⟩
theorem v144 : IsFun Tryz.prog 144 m144 := ⟨_, Tryz.func144, by kernel_rfl, by kernel_rfl⟩
def m145 : Fun := Go.Lib.M5 Go.Proofs.YtffjinldphmhnaaGreat.sa.F0
theorem v145 : IsFun Tryz.prog 145 m145 := ⟨_, Tryz.func145, by kernel_rfl, by kernel_rfl⟩
def m146 : Fun := ⟨6,1,.seq (.region [⟨(some 2),(.p (.mov (.val (.bool false)))),none⟩])
 (.seq (.region [⟨(some 3),(.p (.mov (.tmp 0))),none⟩,⟨(some 4),(.p (.mov (.tmp 0))),none⟩,⟨(some 5),(.p (.bin .neq (.tmp 3) (.tmp 4))),none⟩,⟨(some 2),(.p (.mov (.tmp 5))),none⟩])
 (.ret)),[.tmp 2]⟩
theorem v146 : IsFun Tryz.prog 146 m146 := ⟨_, Tryz.func146, by kernel_rfl, by kernel_rfl⟩
def m149 : Fun := Go.Lib.M239 Go.Proofs.YtffjinldphmhnaaGreat.sa.F0
theorem v149 : IsFun Tryz.prog 149 m149 := ⟨_, Tryz.func149, by kernel_rfl, by kernel_rfl⟩
def m152 : Fun := Go.Lib.M220 Go.Proofs.YtffjinldphmhnaaGreat.sa.F0
theorem v152 : IsFun Tryz.prog 152 m152 := ⟨_, Tryz.func152, by kernel_rfl, by kernel_rfl⟩
def m165 : Fun := ⟨24,3,.seq (.region [⟨(some 3),(.a (.box (.tmp 0))),none⟩,⟨(some 4),(.a (.box (.tmp 1))),none⟩,⟨(some 5),(.a (.box (.tmp 2))),none⟩,⟨(some 6),(.p (.mov (.val (.bool false)))),none⟩])
 (.seq (.seq (.region [⟨(some 10),(.load1 (.tmp 5)),none⟩,⟨(some 11),(.p (.bin .leq (.tmp 10) (.val (.int .i64 (.ofNat 0))))),none⟩])
 (.cond (.tmp 11) (.seq (.region [⟨(some 6),(.p (.mov (.val (.bool false)))),none⟩])
 (.ret))
 (.skip)))
 (.seq (.region [⟨(some 13),(.loadn 8 (.tmp 3)),none⟩,⟨(some 14),(.e (.call 183 [(.tmp 13)])),none⟩,⟨(some 12),(.p (.mov (.tmp 14))),none⟩,⟨(some 15),(.p (.ext (.tmp 12) 0)),none⟩,⟨(some 16),(.p (.ext (.tmp 12) 1)),none⟩,⟨(some 7),(.a (.new [.int .i64 (.ofNat 0),.int .i64 (.ofNat 0),.int .i64 (.ofNat 0),.bool false,.int .i64 (.ofNat 0),.int .i64 (.ofNat 0),.nilslice,.nilslice])),none⟩,⟨none,(.e (.store 8 (.tmp 7) (.tmp 15))),none⟩,⟨(some 8),(.p (.mov (.tmp 16))),none⟩])
 (.seq (.seq (.region [⟨(some 17),(.p (.mov (.tmp 8))),none⟩,⟨(some 18),(.p (.not (.tmp 17))),none⟩])
 (.cond (.tmp 18) (.seq (.region [⟨(some 6),(.p (.mov (.val (.bool true)))),none⟩])
 (.ret))
 (.skip)))
 (.seq (.region [⟨(some 19),(.p (.mkfunc 184 [] [(.tmp 4),(.tmp 5)])),none⟩,⟨(some 9),(.p (.mov (.tmp 19))),none⟩])
 (.seq (.region [⟨(some 20),(.p (.faddr 7 (.tmp 7))),none⟩,⟨(some 21),(.load1 (.tmp 20)),none⟩,⟨(some 22),(.p (.mov (.tmp 9))),none⟩,⟨(some 23),(.e (.call 185 [(.tmp 21),(.tmp 22)])),none⟩,⟨(some 6),(.p (.mov (.tmp 23))),none⟩])
 (.ret)))))),[.tmp 6]⟩
theorem v165 : IsFun Tryz.prog 165 m165 := ⟨_, Tryz.func165, by kernel_rfl, by kernel_rfl⟩
def m166 : Fun := ⟨5,1,.seq (.region [⟨(some 1),(.a (.box (.tmp 0))),none⟩,⟨(some 2),(.p (.mov (.val (.int .i64 (.ofNat 0))))),none⟩])
 (.seq (.seq (.region [⟨(some 3),(.p (.faddr 0 (.tmp 1))),none⟩,⟨(some 4),(.load1 (.tmp 3)),none⟩])
 (.cond (.tmp 4) (.seq (.region [⟨(some 2),(.p (.mov (.val (.int .i64 (.ofNat 0))))),none⟩])
 (.ret))
 (.skip)))
 (.seq (.region [⟨(some 2),(.p (.mov (.val (.int .i64 (.ofNat 1))))),none⟩])
 (.ret))),[.tmp 2]⟩
theorem v166 : IsFun Tryz.prog 166 m166 := ⟨_, Tryz.func166, by kernel_rfl, by kernel_rfl⟩
def m167 : Fun := ⟨8,2,.seq (.region [⟨(some 4),(.p (.mov (.val (.int .i64 (.ofNat 0))))),none⟩])
 (.seq (.region [⟨(some 5),(.p (.mov (.tmp 0))),none⟩,⟨(some 6),(.p (.mov (.tmp 1))),none⟩,⟨(some 7),(.e (.extern 188 [(.tmp 5),(.tmp 6)])),none⟩,⟨(some 4),(.p (.mov (.tmp 7))),none⟩])
 (.ret)),[.tmp 4]⟩
theorem v167 : IsFun Tryz.prog 167 m167 := ⟨_, Tryz.func167, by kernel_rfl, by kernel_rfl⟩
def m168 : Fun := ⟨8,2,.seq (.region [⟨(some 3),(.p (.mov (.val (.bool false)))),none⟩])
 (.seq (.region [⟨(some 4),(.loadn 1 (.tmp 1)),none⟩,⟨(some 5),(.p (.mov (.tmp 0))),none⟩,⟨(some 6),(.e (.call 68 [(.tmp 4),(.tmp 5)])),none⟩,⟨(some 7),(.p (.not (.tmp 6))),none⟩,⟨(some 3),(.p (.mov (.tmp 7))),none⟩])
 (.ret)),[.tmp 3]⟩
theorem v168 : IsFun Tryz.prog 168 m168 := ⟨_, Tryz.func168, by kernel_rfl, by kernel_rfl⟩
def m169 : Fun := ⟨9,2,.seq (.region [⟨(some 4),(.p (.mov (.val (.bool false)))),none⟩])
 (.seq (.region [⟨(some 5),(.p (.mov (.tmp 0))),none⟩,⟨(some 6),(.p (.mov (.tmp 1))),none⟩,⟨(some 7),(.e (.call 189 [(.tmp 5),(.tmp 6)])),none⟩,⟨(some 8),(.p (.bin .geq (.tmp 7) (.val (.int .i64 (.ofNat 0))))),none⟩,⟨(some 4),(.p (.mov (.tmp 8))),none⟩])
 (.ret)),[.tmp 4]⟩
theorem v169 : IsFun Tryz.prog 169 m169 := ⟨_, Tryz.func169, by kernel_rfl, by kernel_rfl⟩
def m170 : Fun := ⟨50,2,.seq (.region [⟨(some 2),(.a (.box (.tmp 0))),none⟩,⟨(some 4),(.p (.mov (.val (.nilslice)))),none⟩])
 (.seq (.region [⟨(some 5),(.p (.mov (.val (.nilslice)))),none⟩])
 (.seq (.seq (.region [⟨(some 12),(.p (.faddr 0 (.tmp 2))),none⟩,⟨(some 13),(.load1 (.tmp 12)),none⟩,⟨(some 14),(.p (.lenb (.tmp 13))),none⟩,⟨(some 15),(.p (.mov (.val (.int .i64 (.ofNat 0))))),none⟩])
 (.block 0 (.loop (.seq (.region [⟨(some 16),(.p (.bin .lss (.tmp 15) (.tmp 14))),none⟩])
 (.seq (.cond (.tmp 16) (.skip)
 (.exit 0))
 (.seq (.block 1 (.seq (.region [⟨(some 17),(.p (.mov (.tmp 15))),none⟩,⟨(some 18),(.p (.iaddr 3 (.tmp 13) (.tmp 15))),none⟩,⟨(some 19),(.loadn 3 (.tmp 18)),none⟩,⟨(some 7),(.a (.new [.str [],.int .i64 (.ofNat 0),.bool false])),none⟩,⟨(some 6),(.p (.mov (.tmp 17))),none⟩,⟨none,(.e (.store 3 (.tmp 7) (.tmp 19))),none⟩])
 (.seq (.region [⟨(some 20),(.p (.faddr 1 (.tmp 7))),none⟩,⟨(some 21),(.load1 (.tmp 20)),none⟩,⟨(some 22),(.p (.build [.bool false,.int .i64 (.ofNat 0),.int .i64 (.ofNat 0),.nilslice] [(0,1,(.val (.bool true))),(1,1,(.tmp 21))])),none⟩,⟨(some 8),(.a (.new [.bool false,.int .i64 (.ofNat 0),.int .i64 (.ofNat 0),.nilslice])),none⟩,⟨none,(.e (.store 4 (.tmp 8) (.tmp 22))),none⟩])
 (.seq (.region [⟨(some 23),(.loadn 4 (.tmp 8)),none⟩,⟨(some 24),(.loadn 4 (.tmp 8)),none⟩,⟨(some 25),(.p (.build [.int .i64 (.ofNat 0),.bool false,.int .i64 (.ofNat 0),.int .i64 (.ofNat 0),.nilslice,.bool false,.int .i64 (.ofNat 0),.int .i64 (.ofNat 0),.nilslice] [(1,4,(.tmp 23)),(5,4,(.tmp 24))])),none⟩,⟨(some 9),(.a (.new [.int .i64 (.ofNat 0),.bool false,.int .i64 (.ofNat 0),.int .i64 (.ofNat 0),.nilslice,.bool false,.int .i64 (.ofNat 0),.int .i64 (.ofNat 0),.nilslice])),none⟩,⟨none,(.e (.store 9 (.tmp 9) (.tmp 25))),none⟩])
 (.seq (.seq (.region [⟨(some 26),(.p (.mov (.tmp 1))),none⟩,⟨(some 27),(.p (.lenb (.tmp 26))),none⟩,⟨(some 28),(.p (.mov (.val (.int .i64 (.ofNat 0))))),none⟩])
 (.block 2 (.loop (.seq (.region [⟨(some 29),(.p (.bin .lss (.tmp 28) (.tmp 27))),none⟩])
 (.seq (.cond (.tmp 29) (.skip)
 (.exit 2))
 (.seq (.block 3 (.seq (.region [⟨(some 30),(.p (.iaddr 1 (.tmp 26) (.tmp 28))),none⟩,⟨(some 31),(.load1 (.tmp 30)),none⟩,⟨(some 11),(.p (.mov (.tmp 31))),none⟩])
 (.seq (.region [⟨(some 32),(.p (.mov (.tmp 6))),none⟩,⟨(some 33),(.p (.mov (.tmp 11))),none⟩,⟨(some 34),(.p (.lenb (.tmp 33))),none⟩,⟨(some 35),(.p (.bin .lss (.tmp 32) (.tmp 34))),none⟩])
 (.cond (.tmp 35) (.dregion [⟨⟨(some 36),(.loadn 9 (.tmp 9)),none⟩,0,5⟩,⟨⟨(some 37),(.p (.mov (.tmp 11))),none⟩,0,5⟩,⟨⟨(some 38),(.p (.mov (.tmp 6))),none⟩,0,5⟩,⟨⟨(some 39),(.p (.iaddr 4 (.tmp 37) (.tmp 38))),none⟩,0,5⟩,⟨⟨(some 40),(.loadn 4 (.tmp 39)),none⟩,0,5⟩,⟨⟨(some 41),(.e (.call 190 [(.tmp 36),(.tmp 40)])),none⟩,0,6⟩,⟨⟨none,(.e (.store 9 (.tmp 9) (.tmp 41))),none⟩,6,7⟩])
 (.skip)))))
 (.region [⟨(some 42),(.p (.bin .add (.tmp 28) (.val (.int .i64 (.ofNat 1))))),none⟩,⟨(some 28),(.p (.mov (.tmp 42))),none⟩])))))))
 (.region [⟨(some 43),(.p (.mov (.tmp 5))),none⟩,⟨(some 44),(.loadn 9 (.tmp 9)),none⟩,⟨(some 45),(.a (.bslice [.int .i64 (.ofNat 0),.bool false,.int .i64 (.ofNat 0),.int .i64 (.ofNat 0),.nilslice,.bool false,.int .i64 (.ofNat 0),.int .i64 (.ofNat 0),.nilslice] 9 1 [(0,9,(.tmp 44))])),none⟩,⟨(some 46),(.e (.append 9 104 (.tmp 43) (.tmp 45))),none⟩,⟨(some 5),(.p (.mov (.tmp 46))),none⟩]))))))
 (.region [⟨(some 47),(.p (.bin .add (.tmp 15) (.val (.int .i64 (.ofNat 1))))),none⟩,⟨(some 15),(.p (.mov (.tmp 47))),none⟩])))))))
 (.seq (.region [⟨(some 48),(.p (.mov (.tmp 5))),none⟩,⟨(some 49),(.e (.call 191 [(.tmp 48)])),none⟩,⟨(some 4),(.p (.mov (.tmp 49))),none⟩])
 (.ret)))),[.tmp 4]⟩
theorem v170 : IsFun Tryz.prog 170 m170 := ⟨_, Tryz.func170, by kernel_rfl, by kernel_rfl⟩
def m171 : Fun := ⟨19,1,.seq (.region [⟨(some 2),(.p (.mov (.val (.nilslice)))),none⟩])
 (.seq (.region [⟨(some 3),(.p (.mov (.val (.nilslice)))),none⟩])
 (.seq (.seq (.region [⟨(some 6),(.p (.mov (.tmp 0))),none⟩,⟨(some 7),(.p (.lenb (.tmp 6))),none⟩,⟨(some 8),(.p (.mov (.val (.int .i64 (.ofNat 0))))),none⟩])
 (.block 0 (.loop (.seq (.region [⟨(some 9),(.p (.bin .lss (.tmp 8) (.tmp 7))),none⟩])
 (.seq (.cond (.tmp 9) (.skip)
 (.exit 0))
 (.seq (.block 1 (.seq (.region [⟨(some 10),(.p (.iaddr 1 (.tmp 6) (.tmp 8))),none⟩,⟨(some 11),(.load1 (.tmp 10)),none⟩,⟨(some 5),(.p (.mov (.tmp 11))),none⟩])
 (.region [⟨(some 12),(.p (.mov (.tmp 3))),none⟩,⟨(some 13),(.p (.mov (.tmp 5))),none⟩,⟨(some 14),(.e (.call 139 [(.tmp 13)])),none⟩,⟨(some 15),(.a (.bslice [.nilslice] 1 1 [(0,1,(.tmp 14))])),none⟩,⟨(some 16),(.e (.append 1 24 (.tmp 12) (.tmp 15))),none⟩,⟨(some 3),(.p (.mov (.tmp 16))),none⟩])))
 (.region [⟨(some 17),(.p (.bin .add (.tmp 8) (.val (.int .i64 (.ofNat 1))))),none⟩,⟨(some 8),(.p (.mov (.tmp 17))),none⟩])))))))
 (.seq (.region [⟨(some 18),(.p (.mov (.tmp 3))),none⟩,⟨(some 2),(.p (.mov (.tmp 18))),none⟩])
 (.ret)))),[.tmp 2]⟩
theorem v171 : IsFun Tryz.prog 171 m171 := ⟨_, Tryz.func171, by kernel_rfl, by kernel_rfl⟩
def m172 : Fun := Go.Lib.M13 Go.Proofs.YtffjinldphmhnaaGreat.sa.F0
theorem v172 : IsFun Tryz.prog 172 m172 := ⟨_, Tryz.func172, by kernel_rfl, by kernel_rfl⟩
def m176 : Fun := Go.Lib.M14 Go.Proofs.YtffjinldphmhnaaGreat.sa.F0
theorem v176 : IsFun Tryz.prog 176 m176 := ⟨_, Tryz.func176, by kernel_rfl, by kernel_rfl⟩
def m183 : Fun := ⟨29,1,.seq (.region [⟨(some 1),(.a (.box (.tmp 0))),none⟩,⟨(some 2),(.a (.new [.int .i64 (.ofNat 0),.int .i64 (.ofNat 0),.int .i64 (.ofNat 0),.bool false,.int .i64 (.ofNat 0),.int .i64 (.ofNat 0),.nilslice,.nilslice])),none⟩,⟨(some 3),(.p (.mov (.val (.bool false)))),none⟩])
 (.seq (.region [⟨(some 8),(.loadn 8 (.tmp 1)),none⟩,⟨(some 9),(.e (.call 195 [(.tmp 8),(.val (.bool false))])),none⟩,⟨(some 4),(.a (.new [.nilslice,.bool false])),none⟩,⟨none,(.e (.store 2 (.tmp 4) (.tmp 9))),none⟩])
 (.seq (.seq (.region [⟨(some 10),(.p (.faddr 1 (.tmp 4))),none⟩,⟨(some 11),(.load1 (.tmp 10)),none⟩,⟨(some 12),(.p (.not (.tmp 11))),none⟩])
 (.cond (.tmp 12) (.seq (.region [⟨(some 13),(.p (.build [.int .i64 (.ofNat 0),.int .i64 (.ofNat 0),.int .i64 (.ofNat 0),.bool false,.int .i64 (.ofNat 0),.int .i64 (.ofNat 0),.nilslice,.nilslice] [])),none⟩,⟨none,(.e (.store 8 (.tmp 2) (.tmp 13))),none⟩,⟨(some 3),(.p (.mov (.val (.bool false)))),none⟩])
 (.ret))
 (.skip)))
 (.seq (.region [⟨(some 5),(.p (.mov (.val (.nilslice)))),none⟩])
 (.seq (.seq (.region [⟨(some 14),(.p (.faddr 0 (.tmp 4))),none⟩,⟨(some 15),(.load1 (.tmp 14)),none⟩,⟨(some 16),(.p (.lenb (.tmp 15))),none⟩,⟨(some 17),(.p (.mov (.val (.int .i64 (.ofNat 0))))),none⟩])
 (.block 0 (.loop (.seq (.region [⟨(some 18),(.p (.bin .lss (.tmp 17) (.tmp 16))),none⟩])
 (.seq (.cond (.tmp 18) (.skip)
 (.exit 0))
 (.seq (.block 1 (.seq (.region [⟨(some 19),(.p (.iaddr 1 (.tmp 15) (.tmp 17))),none⟩,⟨(some 20),(.load1 (.tmp 19)),none⟩,⟨(some 7),(.p (.mov (.tmp 20))),none⟩])
 (.region [⟨(some 21),(.p (.mov (.tmp 5))),none⟩,⟨(some 22),(.p (.mov (.tmp 7))),none⟩,⟨(some 23),(.e (.call 196 [(.tmp 22)])),none⟩,⟨(some 24),(.a (.bslice [.int .i64 (.ofNat 0),.int .i64 (.ofNat 0),.int .i64 (.ofNat 0),.bool false,.int .i64 (.ofNat 0),.int .i64 (.ofNat 0),.nilslice,.nilslice] 8 1 [(0,8,(.tmp 23))])),none⟩,⟨(some 25),(.e (.append 8 96 (.tmp 21) (.tmp 24))),none⟩,⟨(some 5),(.p (.mov (.tmp 25))),none⟩])))
 (.region [⟨(some 26),(.p (.bin .add (.tmp 17) (.val (.int .i64 (.ofNat 1))))),none⟩,⟨(some 17),(.p (.mov (.tmp 26))),none⟩])))))))
 (.seq (.region [⟨(some 27),(.p (.mov (.tmp 5))),none⟩,⟨(some 28),(.e (.call 197 [(.tmp 27)])),none⟩,⟨none,(.e (.store 8 (.tmp 2) (.tmp 28))),none⟩,⟨(some 3),(.p (.mov (.val (.bool true)))),none⟩])
 (.ret)))))),[.celln 8 2,.tmp 3]⟩
theorem v183 : IsFun Tryz.prog 183 m183 := ⟨_, Tryz.func183, by kernel_rfl, by kernel_rfl⟩
def m184 : Fun := ⟨10,3,.seq (.region [⟨(some 3),(.a (.box (.tmp 0))),none⟩,⟨(some 4),(.p (.mov (.val (.bool false)))),none⟩])
 (.seq (.region [⟨(some 5),(.p (.faddr 7 (.tmp 3))),none⟩,⟨(some 6),(.load1 (.tmp 5)),none⟩,⟨(some 7),(.p (.mkfunc 186 [] [(.tmp 1),(.tmp 2)])),none⟩,⟨(some 8),(.e (.call 185 [(.tmp 6),(.tmp 7)])),none⟩,⟨(some 9),(.p (.not (.tmp 8))),none⟩,⟨(some 4),(.p (.mov (.tmp 9))),none⟩])
 (.ret)),[.tmp 4]⟩
theorem v184 : IsFun Tryz.prog 184 m184 := ⟨_, Tryz.func184, by kernel_rfl, by kernel_rfl⟩
def m185 : Fun := ⟨9,2,.seq (.region [⟨(some 4),(.p (.mov (.val (.bool false)))),none⟩])
 (.seq (.region [⟨(some 5),(.p (.mov (.tmp 0))),none⟩,⟨(some 6),(.p (.mov (.tmp 1))),none⟩,⟨(some 7),(.e (.call 198 [(.tmp 5),(.tmp 6)])),none⟩,⟨(some 8),(.p (.bin .geq (.tmp 7) (.val (.int .i64 (.ofNat 0))))),none⟩,⟨(some 4),(.p (.mov (.tmp 8))),none⟩])
 (.ret)),[.tmp 4]⟩
theorem v185 : IsFun Tryz.prog 185 m185 := ⟨_, Tryz.func185, by kernel_rfl, by kernel_rfl⟩
def m186 : Fun := ⟨10,3,.seq (.region [⟨(some 3),(.a (.box (.tmp 0))),none⟩,⟨(some 4),(.p (.mov (.val (.bool false)))),none⟩])
 (.seq (.region [⟨(some 5),(.loadn 8 (.tmp 3)),none⟩,⟨(some 6),(.load1 (.tmp 1)),none⟩,⟨(some 7),(.load1 (.tmp 2)),none⟩,⟨(some 8),(.e (.call 187 [(.tmp 5),(.tmp 6),(.tmp 7)])),none⟩,⟨(some 9),(.p (.not (.tmp 8))),none⟩,⟨(some 4),(.p (.mov (.tmp 9))),none⟩])
 (.ret)),[.tmp 4]⟩
theorem v186 : IsFun Tryz.prog 186 m186 := ⟨_, Tryz.func186, by kernel_rfl, by kernel_rfl⟩
def m187 : Fun := ⟨54,3,.seq (.region [⟨(some 3),(.a (.box (.tmp 0))),none⟩,⟨(some 6),(.p (.mov (.val (.bool false)))),none⟩])
 (.seq (.region [⟨(some 9),(.p (.faddr 0 (.tmp 3))),none⟩,⟨(some 10),(.load1 (.tmp 9)),none⟩,⟨(some 11),(.p (.bin .eql (.tmp 10) (.val (.int .i64 (.ofNat 6))))),none⟩,⟨(some 7),(.p (.mov (.tmp 11))),none⟩])
 (.seq (.seq (.region [⟨(some 12),(.p (.mov (.tmp 7))),none⟩,⟨(some 13),(.p (.mov (.tmp 12))),none⟩,⟨(some 14),(.p (.faddr 7 (.tmp 3))),(some (13,true))⟩,⟨(some 15),(.load1 (.tmp 14)),(some (13,true))⟩,⟨(some 16),(.p (.lenb (.tmp 15))),(some (13,true))⟩,⟨(some 17),(.p (.bin .gtr (.tmp 16) (.val (.int .i64 (.ofNat 0))))),(some (13,true))⟩,⟨(some 18),(.p (.pick (.tmp 13) (.tmp 17) (.val (.bool false)))),none⟩])
 (.cond (.tmp 18) (.region [⟨(some 19),(.p (.faddr 7 (.tmp 3))),none⟩,⟨(some 20),(.load1 (.tmp 19)),none⟩,⟨(some 21),(.p (.iaddr 8 (.tmp 20) (.val (.int .i64 (.ofNat 0))))),none⟩,⟨(some 22),(.loadn 8 (.tmp 21)),none⟩,⟨none,(.e (.store 8 (.tmp 3) (.tmp 22))),none⟩])
 (.skip)))
 (.seq (.seq (.region [⟨(some 23),(.p (.faddr 1 (.tmp 3))),none⟩,⟨(some 24),(.load1 (.tmp 23)),none⟩,⟨(some 25),(.p (.bin .lss (.tmp 24) (.val (.int .i64 (.ofNat 0))))),none⟩,⟨(some 26),(.p (.mov (.tmp 25))),none⟩,⟨(some 27),(.p (.faddr 1 (.tmp 3))),(some (26,false))⟩,⟨(some 28),(.load1 (.tmp 27)),(some (26,false))⟩,⟨(some 29),(.p (.mov (.tmp 1))),(some (26,false))⟩,⟨(some 30),(.p (.lenb (.tmp 29))),(some (26,false))⟩,⟨(some 31),(.p (.bin .geq (.tmp 28) (.tmp 30))),(some (26,false))⟩,⟨(some 32),(.p (.pick (.tmp 26) (.val (.bool true)) (.tmp 31))),none⟩])
 (.cond (.tmp 32) (.seq (.region [⟨(some 6),(.p (.mov (.val (.bool true)))),none⟩])
 (.ret))
 (.skip)))
 (.seq (.region [⟨(some 33),(.p (.mov (.tmp 1))),none⟩,⟨(some 34),(.p (.faddr 1 (.tmp 3))),none⟩,⟨(some 35),(.load1 (.tmp 34)),none⟩,⟨(some 36),(.p (.iaddr 9 (.tmp 33) (.tmp 35))),none⟩,⟨(some 37),(.loadn 9 (.tmp 36)),none⟩,⟨(some 8),(.a (.new [.int .i64 (.ofNat 0),.bool false,.int .i64 (.ofNat 0),.int .i64 (.ofNat 0),.nilslice,.bool false,.int .i64 (.ofNat 0),.int .i64 (.ofNat 0),.nilslice])),none⟩,⟨none,(.e (.store 9 (.tmp 8) (.tmp 37))),none⟩])
 (.seq (.block 0 (.seq (.region [⟨(some 39),(.p (.faddr 0 (.tmp 3))),none⟩,⟨(some 40),(.load1 (.tmp 39)),none⟩,⟨(some 41),(.p (.bin .eql (.tmp 40) (.val (.int .i64 (.ofNat 2))))),none⟩,⟨(some 38),(.p (.mov (.tmp 41))),none⟩])
 (.cond (.tmp 38) (.seq (.region [⟨(some 42),(.loadn 8 (.tmp 3)),none⟩,⟨(some 43),(.loadn 9 (.tmp 8)),none⟩,⟨(some 44),(.e (.call 199 [(.tmp 42),(.tmp 43)])),none⟩,⟨(some 6),(.p (.mov (.tmp 44))),none⟩])
 (.ret))
 (.seq (.region [⟨(some 46),(.p (.mov (.tmp 7))),none⟩,⟨(some 45),(.p (.mov (.tmp 46))),none⟩])
 (.cond (.tmp 45) (.seq (.region [⟨(some 47),(.p (.faddr 0 (.tmp 8))),none⟩,⟨(some 48),(.load1 (.tmp 47)),none⟩,⟨(some 49),(.p (.mov (.tmp 2))),none⟩,⟨(some 50),(.p (.bin .lss (.tmp 48) (.tmp 49))),none⟩,⟨(some 6),(.p (.mov (.tmp 50))),none⟩])
 (.ret))
 (.skip))))))
 (.seq (.region [⟨(some 51),(.p (.faddr 0 (.tmp 8))),none⟩,⟨(some 52),(.load1 (.tmp 51)),none⟩,⟨(some 53),(.p (.bin .gtr (.tmp 52) (.val (.int .i64 (.ofNat 0))))),none⟩,⟨(some 6),(.p (.mov (.tmp 53))),none⟩])
 (.ret))))))),[.tmp 6]⟩
theorem v187 : IsFun Tryz.prog 187 m187 := ⟨_, Tryz.func187, by kernel_rfl, by kernel_rfl⟩
def m189 : Fun := ⟨19,2,.seq (.region [⟨(some 4),(.p (.mov (.val (.int .i64 (.ofNat 0))))),none⟩])
 (.seq (.seq (.region [⟨(some 6),(.p (.mov (.tmp 0))),none⟩,⟨(some 7),(.p (.lenb (.tmp 6))),none⟩,⟨(some 8),(.p (.mov (.val (.int .i64 (.ofNat 0))))),none⟩])
 (.block 0 (.loop (.seq (.region [⟨(some 9),(.p (.bin .lss (.tmp 8) (.tmp 7))),none⟩])
 (.seq (.cond (.tmp 9) (.skip)
 (.exit 0))
 (.seq (.block 1 (.seq (.region [⟨(some 10),(.p (.mov (.tmp 8))),none⟩,⟨(some 5),(.p (.mov (.tmp 10))),none⟩])
 (.seq (.region [⟨(some 11),(.p (.mov (.tmp 1))),none⟩,⟨(some 12),(.p (.mov (.tmp 0))),none⟩,⟨(some 13),(.p (.mov (.tmp 5))),none⟩,⟨(some 14),(.p (.iaddr 1 (.tmp 12) (.tmp 13))),none⟩,⟨(some 15),(.load1 (.tmp 14)),none⟩,⟨(some 16),(.e (.callv (.tmp 11) [(.tmp 15)])),none⟩])
 (.cond (.tmp 16) (.seq (.region [⟨(some 17),(.p (.mov (.tmp 5))),none⟩,⟨(some 4),(.p (.mov (.tmp 17))),none⟩])
 (.ret))
 (.skip)))))
 (.region [⟨(some 18),(.p (.bin .add (.tmp 8) (.val (.int .i64 (.ofNat 1))))),none⟩,⟨(some 8),(.p (.mov (.tmp 18))),none⟩])))))))
 (.seq (.region [⟨(some 4),(.p (.mov (.val (.int .i64 (.negSucc 0))))),none⟩])
 (.ret))),[.tmp 4]⟩
theorem v189 : IsFun Tryz.prog 189 m189 := ⟨_, Tryz.func189, by kernel_rfl, by kernel_rfl⟩
def m190 : Fun := ⟨39,2,.seq (.region [⟨(some 2),(.a (.box (.tmp 0))),none⟩,⟨(some 3),(.a (.box (.tmp 1))),none⟩,⟨(some 4),(.a (.new [.int .i64 (.ofNat 0),.bool false,.int .i64 (.ofNat 0),.int .i64 (.ofNat 0),.nilslice,.bool false,.int .i64 (.ofNat 0),.int .i64 (.ofNat 0),.nilslice])),none⟩])
 (.seq (.block 0 (.seq (.region [⟨(some 22),(.p (.faddr 0 (.tmp 3))),none⟩,⟨(some 23),(.load1 (.tmp 22)),none⟩,⟨(some 21),(.p (.mov (.tmp 23))),none⟩])
 (.cond (.tmp 21) (.region [⟨(some 24),(.p (.faddr 0 (.tmp 2))),none⟩,⟨(some 25),(.load1 (.tmp 24)),none⟩,⟨(some 26),(.p (.bin .add (.tmp 25) (.val (.int .i64 (.ofNat 1))))),none⟩,⟨(some 27),(.p (.faddr 0 (.tmp 2))),none⟩,⟨none,(.e (.store 1 (.tmp 27) (.tmp 26))),none⟩])
 (.seq (.region [⟨(some 29),(.p (.faddr 1 (.tmp 2))),none⟩,⟨(some 30),(.p (.faddr 0 (.tmp 29))),none⟩,⟨(some 31),(.load1 (.tmp 30)),none⟩,⟨(some 28),(.p (.mov (.tmp 31))),none⟩])
 (.cond (.tmp 28) (.dregion [⟨⟨(some 32),(.loadn 4 (.tmp 3)),none⟩,0,1⟩,⟨⟨(some 33),(.e (.call 145 [(.tmp 32)])),none⟩,0,3⟩,⟨⟨(some 34),(.loadn 4 (.tmp 3)),none⟩,0,3⟩,⟨⟨(some 35),(.e (.call 145 [(.tmp 34)])),none⟩,2,5⟩,⟨⟨(some 36),(.p (.faddr 1 (.tmp 2))),none⟩,2,5⟩,⟨⟨none,(.e (.store 4 (.tmp 36) (.tmp 33))),none⟩,4,7⟩,⟨⟨(some 37),(.p (.faddr 5 (.tmp 2))),none⟩,6,7⟩,⟨⟨none,(.e (.store 4 (.tmp 37) (.tmp 35))),none⟩,6,8⟩])
 (.seq (.seq (.region [⟨(some 5),(.loadn 4 (.tmp 3)),none⟩,⟨(some 6),(.p (.faddr 1 (.tmp 2))),none⟩,⟨(some 7),(.loadn 4 (.tmp 6)),none⟩,⟨(some 8),(.e (.call 133 [(.tmp 5),(.tmp 7)])),none⟩,⟨(some 9),(.p (.bin .lss (.tmp 8) (.val (.int .i64 (.ofNat 0))))),none⟩])
 (.cond (.tmp 9) (.region [⟨(some 10),(.loadn 4 (.tmp 3)),none⟩,⟨(some 11),(.e (.call 145 [(.tmp 10)])),none⟩,⟨(some 12),(.p (.faddr 1 (.tmp 2))),none⟩,⟨none,(.e (.store 4 (.tmp 12) (.tmp 11))),none⟩])
 (.skip)))
 (.seq (.region [⟨(some 13),(.loadn 4 (.tmp 3)),none⟩,⟨(some 14),(.p (.faddr 5 (.tmp 2))),none⟩,⟨(some 15),(.loadn 4 (.tmp 14)),none⟩,⟨(some 16),(.e (.call 133 [(.tmp 13),(.tmp 15)])),none⟩,⟨(some 17),(.p (.bin .gtr (.tmp 16) (.val (.int .i64 (.ofNat 0))))),none⟩])
 (.cond (.tmp 17) (.region [⟨(some 18),(.loadn 4 (.tmp 3)),none⟩,⟨(some 19),(.e (.call 145 [(.tmp 18)])),none⟩,⟨(some 20),(.p (.faddr 5 (.tmp 2))),none⟩,⟨none,(.e (.store 4 (.tmp 20) (.tmp 19))),none⟩])
 (.skip)))))))))
 (.seq (.region [⟨(some 38),(.loadn 9 (.tmp 2)),none⟩,⟨none,(.e (.store 9 (.tmp 4) (.tmp 38))),none⟩])
 (.ret))),[.celln 9 4]⟩
theorem v190 : IsFun Tryz.prog 190 m190 := ⟨_, Tryz.func190, by kernel_rfl, by kernel_rfl⟩
def m191 : Fun := ⟨9,1,.seq (.region [⟨(some 2),(.p (.mov (.val (.nilslice)))),none⟩])
 (.seq (.region [⟨(some 3),(.p (.mov (.tmp 0))),none⟩,⟨(some 4),(.p (.mov (.tmp 0))),none⟩,⟨(some 5),(.p (.lenb (.tmp 4))),none⟩,⟨(some 6),(.p (.mov (.tmp 0))),none⟩,⟨(some 7),(.p (.lenb (.tmp 6))),none⟩,⟨(some 8),(.p (.slc 9 (.tmp 3) none (some (.tmp 5)) (some (.tmp 7)))),none⟩,⟨(some 2),(.p (.mov (.tmp 8))),none⟩])
 (.ret)),[.tmp 2]⟩
theorem v191 : IsFun Tryz.prog 191 m191 := ⟨_, Tryz.func191, by kernel_rfl, by kernel_rfl⟩
def m195 : Fun := ⟨58,2,.seq (.region [⟨(some 2),(.a (.box (.tmp 0))),none⟩,⟨(some 4),(.a (.new [.nilslice,.bool false])),none⟩])
 (.seq (.seq (.region [⟨(some 5),(.p (.faddr 0 (.tmp 2))),none⟩,⟨(some 6),(.load1 (.tmp 5)),none⟩])
 (.block 0 (.seq (.region [⟨(some 8),(.p (.bin .eql (.tmp 6) (.val (.int .i64 (.ofNat 1))))),none⟩,⟨(some 7),(.p (.mov (.tmp 8))),none⟩])
 (.cond (.tmp 7) (.seq (.seq (.region [⟨(some 9),(.p (.mov (.tmp 1))),none⟩])
 (.cond (.tmp 9) (.seq (.region [⟨(some 10),(.e (.call 203 [])),none⟩,⟨none,(.e (.store 2 (.tmp 4) (.tmp 10))),none⟩])
 (.ret))
 (.skip)))
 (.seq (.region [⟨(some 11),(.e (.call 204 [])),none⟩,⟨none,(.e (.store 2 (.tmp 4) (.tmp 11))),none⟩])
 (.ret)))
 (.seq (.region [⟨(some 13),(.p (.bin .eql (.tmp 6) (.val (.int .i64 (.ofNat 2))))),none⟩,⟨(some 12),(.p (.mov (.tmp 13))),none⟩])
 (.cond (.tmp 12) (.seq (.seq (.region [⟨(some 14),(.p (.mov (.tmp 1))),none⟩])
 (.cond (.tmp 14) (.region [⟨(some 15),(.p (.faddr 2 (.tmp 2))),none⟩,⟨(some 16),(.load1 (.tmp 15)),none⟩,⟨(some 17),(.e (.call 205 [(.tmp 16)])),none⟩,⟨(some 18),(.p (.faddr 2 (.tmp 2))),none⟩,⟨none,(.e (.store 1 (.tmp 18) (.tmp 17))),none⟩])
 (.skip)))
 (.seq (.region [⟨(some 19),(.loadn 8 (.tmp 2)),none⟩,⟨(some 20),(.e (.call 206 [(.tmp 19)])),none⟩,⟨none,(.e (.store 2 (.tmp 4) (.tmp 20))),none⟩])
 (.ret)))
 (.seq (.region [⟨(some 22),(.p (.bin .eql (.tmp 6) (.val (.int .i64 (.ofNat 3))))),none⟩,⟨(some 21),(.p (.mov (.tmp 22))),none⟩])
 (.cond (.tmp 21) (.seq (.seq (.region [⟨(some 23),(.p (.mov (.tmp 1))),none⟩])
 (.cond (.tmp 23) (.seq (.region [⟨(some 24),(.loadn 8 (.tmp 2)),none⟩,⟨(some 25),(.e (.call 207 [(.tmp 24)])),none⟩,⟨(some 26),(.e (.call 206 [(.tmp 25)])),none⟩,⟨none,(.e (.store 2 (.tmp 4) (.tmp 26))),none⟩])
 (.ret))
 (.skip)))
 (.seq (.region [⟨(some 27),(.loadn 8 (.tmp 2)),none⟩,⟨(some 28),(.e (.call 206 [(.tmp 27)])),none⟩,⟨none,(.e (.store 2 (.tmp 4) (.tmp 28))),none⟩])
 (.ret)))
 (.seq (.region [⟨(some 30),(.p (.bin .eql (.tmp 6) (.val (.int .i64 (.ofNat 4))))),none⟩,⟨(some 29),(.p (.mov (.tmp 30))),none⟩])
 (.cond (.tmp 29) (.seq (.region [⟨(some 31),(.p (.faddr 7 (.tmp 2))),none⟩,⟨(some 32),(.load1 (.tmp 31)),none⟩,⟨(some 33),(.p (.mov (.tmp 1))),none⟩,⟨(some 34),(.p (.not (.tmp 33))),none⟩,⟨(some 35),(.p (.mov (.tmp 1))),none⟩,⟨(some 36),(.e (.call 208 [(.tmp 32),(.tmp 34),(.tmp 35)])),none⟩,⟨none,(.e (.store 2 (.tmp 4) (.tmp 36))),none⟩])
 (.ret))
 (.seq (.region [⟨(some 38),(.p (.bin .eql (.tmp 6) (.val (.int .i64 (.ofNat 5))))),none⟩,⟨(some 37),(.p (.mov (.tmp 38))),none⟩])
 (.cond (.tmp 37) (.seq (.region [⟨(some 39),(.p (.faddr 7 (.tmp 2))),none⟩,⟨(some 40),(.load1 (.tmp 39)),none⟩,⟨(some 41),(.p (.mov (.tmp 1))),none⟩,⟨(some 42),(.p (.mov (.tmp 1))),none⟩,⟨(some 43),(.e (.call 208 [(.tmp 40),(.tmp 41),(.tmp 42)])),none⟩,⟨none,(.e (.store 2 (.tmp 4) (.tmp 43))),none⟩])
 (.ret))
 (.seq (.region [⟨(some 45),(.p (.bin .eql (.tmp 6) (.val (.int .i64 (.ofNat 6))))),none⟩,⟨(some 44),(.p (.mov (.tmp 45))),none⟩])
 (.cond (.tmp 44) (.seq (.region [⟨(some 46),(.p (.faddr 7 (.tmp 2))),none⟩,⟨(some 47),(.load1 (.tmp 46)),none⟩,⟨(some 48),(.p (.lenb (.tmp 47))),none⟩,⟨(some 49),(.p (.bin .gtr (.tmp 48) (.val (.int .i64 (.ofNat 0))))),none⟩])
 (.cond (.tmp 49) (.seq (.region [⟨(some 50),(.p (.faddr 7 (.tmp 2))),none⟩,⟨(some 51),(.load1 (.tmp 50)),none⟩,⟨(some 52),(.p (.iaddr 8 (.tmp 51) (.val (.int .i64 (.ofNat 0))))),none⟩,⟨(some 53),(.loadn 8 (.tmp 52)),none⟩,⟨(some 54),(.p (.mov (.tmp 1))),none⟩,⟨(some 55),(.p (.not (.tmp 54))),none⟩,⟨(some 56),(.e (.call 195 [(.tmp 53),(.tmp 55)])),none⟩,⟨none,(.e (.store 2 (.tmp 4) (.tmp 56))),none⟩])
 (.ret))
 (.skip)))
 (.skip)))))))))))))))
 (.seq (.region [⟨(some 57),(.p (.build [.nilslice,.bool false] [])),none⟩,⟨none,(.e (.store 2 (.tmp 4) (.tmp 57))),none⟩])
 (.ret))),[.celln 2 4]⟩
theorem v195 : IsFun Tryz.prog 195 m195 := ⟨_, Tryz.func195, by kernel_rfl, by kernel_rfl⟩
def m196 : Fun := ⟨6,1,.seq (.region [⟨(some 2),(.a (.new [.int .i64 (.ofNat 0),.int .i64 (.ofNat 0),.int .i64 (.ofNat 0),.bool false,.int .i64 (.ofNat 0),.int .i64 (.ofNat 0),.nilslice,.nilslice])),none⟩])
 (.seq (.region [⟨(some 3),(.p (.mov (.tmp 0))),none⟩,⟨(some 4),(.e (.call 209 [(.tmp 3)])),none⟩,⟨(some 5),(.p (.build [.int .i64 (.ofNat 0),.int .i64 (.ofNat 0),.int .i64 (.ofNat 0),.bool false,.int .i64 (.ofNat 0),.int .i64 (.ofNat 0),.nilslice,.nilslice] [(0,1,(.val (.int .i64 (.ofNat 4)))),(7,1,(.tmp 4))])),none⟩,⟨none,(.e (.store 8 (.tmp 2) (.tmp 5))),none⟩])
 (.ret)),[.celln 8 2]⟩
theorem v196 : IsFun Tryz.prog 196 m196 := ⟨_, Tryz.func196, by kernel_rfl, by kernel_rfl⟩
def m197 : Fun := ⟨6,1,.seq (.region [⟨(some 2),(.a (.new [.int .i64 (.ofNat 0),.int .i64 (.ofNat 0),.int .i64 (.ofNat 0),.bool false,.int .i64 (.ofNat 0),.int .i64 (.ofNat 0),.nilslice,.nilslice])),none⟩])
 (.seq (.region [⟨(some 3),(.p (.mov (.tmp 0))),none⟩,⟨(some 4),(.e (.call 209 [(.tmp 3)])),none⟩,⟨(some 5),(.p (.build [.int .i64 (.ofNat 0),.int .i64 (.ofNat 0),.int .i64 (.ofNat 0),.bool false,.int .i64 (.ofNat 0),.int .i64 (.ofNat 0),.nilslice,.nilslice] [(0,1,(.val (.int .i64 (.ofNat 5)))),(7,1,(.tmp 4))])),none⟩,⟨none,(.e (.store 8 (.tmp 2) (.tmp 5))),none⟩])
 (.ret)),[.celln 8 2]⟩
theorem v197 : IsFun Tryz.prog 197 m197 := ⟨_, Tryz.func197, by kernel_rfl, by kernel_rfl⟩
def m198 : Fun := ⟨19,2,.seq (.region [⟨(some 4),(.p (.mov (.val (.int .i64 (.ofNat 0))))),none⟩])
 (.seq (.seq (.region [⟨(some 6),(.p (.mov (.tmp 0))),none⟩,⟨(some 7),(.p (.lenb (.tmp 6))),none⟩,⟨(some 8),(.p (.mov (.val (.int .i64 (.ofNat 0))))),none⟩])
 (.block 0 (.loop (.seq (.region [⟨(some 9),(.p (.bin .lss (.tmp 8) (.tmp 7))),none⟩])
 (.seq (.cond (.tmp 9) (.skip)
 (.exit 0))
 (.seq (.block 1 (.seq (.region [⟨(some 10),(.p (.mov (.tmp 8))),none⟩,⟨(some 5),(.p (.mov (.tmp 10))),none⟩])
 (.seq (.region [⟨(some 11),(.p (.mov (.tmp 1))),none⟩,⟨(some 12),(.p (.mov (.tmp 0))),none⟩,⟨(some 13),(.p (.mov (.tmp 5))),none⟩,⟨(some 14),(.p (.iaddr 8 (.tmp 12) (.tmp 13))),none⟩,⟨(some 15),(.loadn 8 (.tmp 14)),none⟩,⟨(some 16),(.e (.callv (.tmp 11) [(.tmp 15)])),none⟩])
 (.cond (.tmp 16) (.seq (.region [⟨(some 17),(.p (.mov (.tmp 5))),none⟩,⟨(some 4),(.p (.mov (.tmp 17))),none⟩])
 (.ret))
 (.skip)))))
 (.region [⟨(some 18),(.p (.bin .add (.tmp 8) (.val (.int .i64 (.ofNat 1))))),none⟩,⟨(some 8),(.p (.mov (.tmp 18))),none⟩])))))))
 (.seq (.region [⟨(some 4),(.p (.mov (.val (.int .i64 (.negSucc 0))))),none⟩])
 (.ret))),[.tmp 4]⟩
theorem v198 : IsFun Tryz.prog 198 m198 := ⟨_, Tryz.func198, by kernel_rfl, by kernel_rfl⟩
def m199 : Fun := ⟨58,2,.seq (.region [⟨(some 2),(.a (.box (.tmp 0))),none⟩,⟨(some 3),(.a (.box (.tmp 1))),none⟩,⟨(some 4),(.p (.mov (.val (.bool false)))),none⟩])
 (.seq (.dregion [⟨⟨(some 7),(.p (.faddr 1 (.tmp 3))),none⟩,0,4⟩,⟨⟨(some 8),(.loadn 4 (.tmp 7)),none⟩,0,4⟩,⟨⟨(some 9),(.p (.faddr 3 (.tmp 2))),none⟩,0,4⟩,⟨⟨(some 10),(.loadn 4 (.tmp 9)),none⟩,0,4⟩,⟨⟨(some 11),(.e (.call 133 [(.tmp 8),(.tmp 10)])),none⟩,0,9⟩,⟨⟨(some 12),(.p (.faddr 5 (.tmp 3))),none⟩,0,9⟩,⟨⟨(some 13),(.loadn 4 (.tmp 12)),none⟩,0,9⟩,⟨⟨(some 14),(.p (.faddr 3 (.tmp 2))),none⟩,0,9⟩,⟨⟨(some 15),(.loadn 4 (.tmp 14)),none⟩,0,9⟩,⟨⟨(some 16),(.e (.call 133 [(.tmp 13),(.tmp 15)])),none⟩,5,12⟩,⟨⟨(some 5),(.p (.mov (.tmp 11))),none⟩,10,12⟩,⟨⟨(some 6),(.p (.mov (.tmp 16))),none⟩,10,12⟩])
 (.seq (.block 0 (.seq (.region [⟨(some 18),(.p (.faddr 1 (.tmp 3))),none⟩,⟨(some 19),(.p (.faddr 0 (.tmp 18))),none⟩,⟨(some 20),(.load1 (.tmp 19)),none⟩,⟨(some 17),(.p (.mov (.tmp 20))),none⟩])
 (.cond (.tmp 17) (.seq (.region [⟨(some 4),(.p (.mov (.val (.bool false)))),none⟩])
 (.ret))
 (.seq (.region [⟨(some 22),(.p (.faddr 2 (.tmp 2))),none⟩,⟨(some 23),(.load1 (.tmp 22)),none⟩,⟨(some 24),(.p (.bin .eql (.tmp 23) (.val (.int .i64 (.ofNat 1))))),none⟩,⟨(some 21),(.p (.mov (.tmp 24))),none⟩])
 (.cond (.tmp 21) (.seq (.region [⟨(some 25),(.p (.mov (.tmp 5))),none⟩,⟨(some 26),(.p (.bin .leq (.tmp 25) (.val (.int .i64 (.ofNat 0))))),none⟩,⟨(some 27),(.p (.mov (.tmp 26))),none⟩,⟨(some 28),(.p (.mov (.tmp 6))),(some (27,true))⟩,⟨(some 29),(.p (.bin .geq (.tmp 28) (.val (.int .i64 (.ofNat 0))))),(some (27,true))⟩,⟨(some 30),(.p (.pick (.tmp 27) (.tmp 29) (.val (.bool false)))),none⟩,⟨(some 4),(.p (.mov (.tmp 30))),none⟩])
 (.ret))
 (.seq (.region [⟨(some 32),(.p (.faddr 2 (.tmp 2))),none⟩,⟨(some 33),(.load1 (.tmp 32)),none⟩,⟨(some 34),(.p (.bin .eql (.tmp 33) (.val (.int .i64 (.ofNat 2))))),none⟩,⟨(some 31),(.p (.mov (.tmp 34))),none⟩])
 (.cond (.tmp 31) (.seq (.region [⟨(some 35),(.p (.mov (.tmp 5))),none⟩,⟨(some 36),(.p (.bin .neq (.tmp 35) (.val (.int .i64 (.ofNat 0))))),none⟩,⟨(some 37),(.p (.mov (.tmp 36))),none⟩,⟨(some 38),(.p (.mov (.tmp 6))),(some (37,false))⟩,⟨(some 39),(.p (.bin .neq (.tmp 38) (.val (.int .i64 (.ofNat 0))))),(some (37,false))⟩,⟨(some 40),(.p (.pick (.tmp 37) (.val (.bool true)) (.tmp 39))),none⟩,⟨(some 4),(.p (.mov (.tmp 40))),none⟩])
 (.ret))
 (.seq (.region [⟨(some 42),(.p (.faddr 2 (.tmp 2))),none⟩,⟨(some 43),(.load1 (.tmp 42)),none⟩,⟨(some 44),(.p (.bin .eql (.tmp 43) (.val (.int .i64 (.ofNat 3))))),none⟩,⟨(some 45),(.p (.mov (.tmp 44))),none⟩,⟨(some 46),(.p (.faddr 2 (.tmp 2))),(some (45,false))⟩,⟨(some 47),(.load1 (.tmp 46)),(some (45,false))⟩,⟨(some 48),(.p (.bin .eql (.tmp 47) (.val (.int .i64 (.ofNat 4))))),(some (45,false))⟩,⟨(some 49),(.p (.pick (.tmp 45) (.val (.bool true)) (.tmp 48))),none⟩,⟨(some 41),(.p (.mov (.tmp 49))),none⟩])
 (.cond (.tmp 41) (.seq (.region [⟨(some 50),(.p (.faddr 2 (.tmp 2))),none⟩,⟨(some 51),(.load1 (.tmp 50)),none⟩,⟨(some 52),(.p (.mov (.tmp 5))),none⟩,⟨(some 53),(.e (.call 132 [(.tmp 51),(.tmp 52)])),none⟩,⟨(some 4),(.p (.mov (.tmp 53))),none⟩])
 (.ret))
 (.skip))))))))))
 (.seq (.region [⟨(some 54),(.p (.faddr 2 (.tmp 2))),none⟩,⟨(some 55),(.load1 (.tmp 54)),none⟩,⟨(some 56),(.p (.mov (.tmp 6))),none⟩,⟨(some 57),(.e (.call 132 [(.tmp 55),(.tmp 56)])),none⟩,⟨(some 4),(.p (.mov (.tmp 57))),none⟩])
 (.ret)))),[.tmp 4]⟩
theorem v199 : IsFun Tryz.prog 199 m199 := ⟨_, Tryz.func199, by kernel_rfl, by kernel_rfl⟩
def m203 : Fun := ⟨2,0,.seq (.region [⟨(some 0),(.a (.new [.nilslice,.bool false])),none⟩])
 (.seq (.region [⟨(some 1),(.p (.build [.nilslice,.bool false] [(0,1,(.val (.nilslice))),(1,1,(.val (.bool true)))])),none⟩,⟨none,(.e (.store 2 (.tmp 0) (.tmp 1))),none⟩])
 (.ret)),[.celln 2 0]⟩
theorem v203 : IsFun Tryz.prog 203 m203 := ⟨_, Tryz.func203, by kernel_rfl, by kernel_rfl⟩
def m204 : Fun := ⟨3,0,.seq (.region [⟨(some 0),(.a (.new [.nilslice,.bool false])),none⟩])
 (.seq (.region [⟨(some 1),(.a (.bslice [.nilslice] 1 1 [(0,1,(.val (.nilslice)))])),none⟩,⟨(some 2),(.p (.build [.nilslice,.bool false] [(0,1,(.tmp 1)),(1,1,(.val (.bool true)))])),none⟩,⟨none,(.e (.store 2 (.tmp 0) (.tmp 2))),none⟩])
 (.ret)),[.celln 2 0]⟩
theorem v204 : IsFun Tryz.prog 204 m204 := ⟨_, Tryz.func204, by kernel_rfl, by kernel_rfl⟩
def m205 : Fun := ⟨14,1,.seq (.region [⟨(some 2),(.p (.mov (.val (.int .i64 (.ofNat 0))))),none⟩])
 (.seq (.seq (.region [⟨(some 3),(.p (.mov (.tmp 0))),none⟩])
 (.block 0 (.seq (.region [⟨(some 5),(.p (.bin .eql (.tmp 3) (.val (.int .i64 (.ofNat 1))))),none⟩,⟨(some 4),(.p (.mov (.tmp 5))),none⟩])
 (.cond (.tmp 4) (.seq (.region [⟨(some 2),(.p (.mov (.val (.int .i64 (.ofNat 2))))),none⟩])
 (.ret))
 (.seq (.region [⟨(some 7),(.p (.bin .eql (.tmp 3) (.val (.int .i64 (.ofNat 2))))),none⟩,⟨(some 6),(.p (.mov (.tmp 7))),none⟩])
 (.cond (.tmp 6) (.seq (.region [⟨(some 2),(.p (.mov (.val (.int .i64 (.ofNat 1))))),none⟩])
 (.ret))
 (.seq (.region [⟨(some 9),(.p (.bin .eql (.tmp 3) (.val (.int .i64 (.ofNat 3))))),none⟩,⟨(some 8),(.p (.mov (.tmp 9))),none⟩])
 (.cond (.tmp 8) (.seq (.region [⟨(some 2),(.p (.mov (.val (.int .i64 (.ofNat 6))))),none⟩])
 (.ret))
 (.seq (.region [⟨(some 11),(.p (.bin .eql (.tmp 3) (.val (.int .i64 (.ofNat 6))))),none⟩,⟨(some 10),(.p (.mov (.tmp 11))),none⟩])
 (.cond (.tmp 10) (.seq (.region [⟨(some 2),(.p (.mov (.val (.int .i64 (.ofNat 3))))),none⟩])
 (.ret))
 (.seq (.region [⟨(some 13),(.p (.bin .eql (.tmp 3) (.val (.int .i64 (.ofNat 4))))),none⟩,⟨(some 12),(.p (.mov (.tmp 13))),none⟩])
 (.cond (.tmp 12) (.seq (.region [⟨(some 2),(.p (.mov (.val (.int .i64 (.ofNat 5))))),none⟩])
 (.ret))
 (.skip)))))))))))))
 (.seq (.region [⟨(some 2),(.p (.mov (.val (.int .i64 (.ofNat 4))))),none⟩])
 (.ret))),[.tmp 2]⟩
theorem v205 : IsFun Tryz.prog 205 m205 := ⟨_, Tryz.func205, by kernel_rfl, by kernel_rfl⟩
def m206 : Fun := ⟨8,1,.seq (.region [⟨(some 1),(.a (.box (.tmp 0))),none⟩,⟨(some 2),(.a (.new [.nilslice,.bool false])),none⟩])
 (.seq (.region [⟨(some 3),(.loadn 8 (.tmp 1)),none⟩,⟨(some 4),(.e (.call 210 [(.tmp 3)])),none⟩,⟨(some 5),(.a (.bslice [.int .i64 (.ofNat 0),.int .i64 (.ofNat 0),.int .i64 (.ofNat 0),.bool false,.int .i64 (.ofNat 0),.int .i64 (.ofNat 0),.nilslice,.nilslice] 8 1 [(0,8,(.tmp 4))])),none⟩,⟨(some 6),(.a (.bslice [.nilslice] 1 1 [(0,1,(.tmp 5))])),none⟩,⟨(some 7),(.p (.build [.nilslice,.bool false] [(0,1,(.tmp 6)),(1,1,(.val (.bool true)))])),none⟩,⟨none,(.e (.store 2 (.tmp 2) (.tmp 7))),none⟩])
 (.ret)),[.celln 2 2]⟩
theorem v206 : IsFun Tryz.prog 206 m206 := ⟨_, Tryz.func206, by kernel_rfl, by kernel_rfl⟩
def m207 : Fun := ⟨7,1,.seq (.region [⟨(some 1),(.a (.box (.tmp 0))),none⟩,⟨(some 2),(.a (.new [.int .i64 (.ofNat 0),.int .i64 (.ofNat 0),.int .i64 (.ofNat 0),.bool false,.int .i64 (.ofNat 0),.int .i64 (.ofNat 0),.nilslice,.nilslice])),none⟩])
 (.seq (.region [⟨(some 3),(.loadn 8 (.tmp 1)),none⟩,⟨(some 4),(.a (.bslice [.int .i64 (.ofNat 0),.int .i64 (.ofNat 0),.int .i64 (.ofNat 0),.bool false,.int .i64 (.ofNat 0),.int .i64 (.ofNat 0),.nilslice,.nilslice] 8 1 [(0,8,(.tmp 3))])),none⟩,⟨(some 5),(.e (.call 209 [(.tmp 4)])),none⟩,⟨(some 6),(.p (.build [.int .i64 (.ofNat 0),.int .i64 (.ofNat 0),.int .i64 (.ofNat 0),.bool false,.int .i64 (.ofNat 0),.int .i64 (.ofNat 0),.nilslice,.nilslice] [(0,1,(.val (.int .i64 (.ofNat 6)))),(7,1,(.tmp 5))])),none⟩,⟨none,(.e (.store 8 (.tmp 2) (.tmp 6))),none⟩])
 (.ret)),[.celln 8 2]⟩
theorem v207 : IsFun Tryz.prog 207 m207 := ⟨_, Tryz.func207, by kernel_rfl, by kernel_rfl⟩
def m208 : Fun := ⟨32,3,.seq (.region [⟨(some 6),(.a (.new [.nilslice,.bool false])),none⟩])
 (.seq (.region [⟨(some 11),(.e (.call 203 [])),none⟩,⟨(some 7),(.a (.new [.nilslice,.bool false])),none⟩,⟨none,(.e (.store 2 (.tmp 7) (.tmp 11))),none⟩])
 (.seq (.seq (.region [⟨(some 12),(.p (.mov (.tmp 1))),none⟩])
 (.cond (.tmp 12) (.region [⟨(some 13),(.e (.call 204 [])),none⟩,⟨none,(.e (.store 2 (.tmp 7) (.tmp 13))),none⟩])
 (.skip)))
 (.seq (.seq (.region [⟨(some 14),(.p (.mov (.tmp 0))),none⟩,⟨(some 15),(.p (.lenb (.tmp 14))),none⟩,⟨(some 16),(.p (.mov (.val (.int .i64 (.ofNat 0))))),none⟩])
 (.block 0 (.loop (.seq (.region [⟨(some 17),(.p (.bin .lss (.tmp 16) (.tmp 15))),none⟩])
 (.seq (.cond (.tmp 17) (.skip)
 (.exit 0))
 (.seq (.block 1 (.seq (.region [⟨(some 18),(.p (.iaddr 8 (.tmp 14) (.tmp 16))),none⟩,⟨(some 19),(.loadn 8 (.tmp 18)),none⟩,⟨(some 9),(.a (.new [.int .i64 (.ofNat 0),.int .i64 (.ofNat 0),.int .i64 (.ofNat 0),.bool false,.int .i64 (.ofNat 0),.int .i64 (.ofNat 0),.nilslice,.nilslice])),none⟩,⟨none,(.e (.store 8 (.tmp 9) (.tmp 19))),none⟩])
 (.seq (.region [⟨(some 20),(.loadn 8 (.tmp 9)),none⟩,⟨(some 21),(.p (.mov (.tmp 2))),none⟩,⟨(some 22),(.e (.call 195 [(.tmp 20),(.tmp 21)])),none⟩,⟨(some 10),(.a (.new [.nilslice,.bool false])),none⟩,⟨none,(.e (.store 2 (.tmp 10) (.tmp 22))),none⟩])
 (.seq (.region [⟨(some 23),(.p (.mov (.tmp 1))),none⟩])
 (.cond (.tmp 23) (.region [⟨(some 24),(.loadn 2 (.tmp 7)),none⟩,⟨(some 25),(.loadn 2 (.tmp 10)),none⟩,⟨(some 26),(.e (.call 211 [(.tmp 24),(.tmp 25)])),none⟩,⟨none,(.e (.store 2 (.tmp 7) (.tmp 26))),none⟩])
 (.region [⟨(some 27),(.loadn 2 (.tmp 7)),none⟩,⟨(some 28),(.loadn 2 (.tmp 10)),none⟩,⟨(some 29),(.e (.call 212 [(.tmp 27),(.tmp 28)])),none⟩,⟨none,(.e (.store 2 (.tmp 7) (.tmp 29))),none⟩]))))))
 (.region [⟨(some 30),(.p (.bin .add (.tmp 16) (.val (.int .i64 (.ofNat 1))))),none⟩,⟨(some 16),(.p (.mov (.tmp 30))),none⟩])))))))
 (.seq (.region [⟨(some 31),(.loadn 2 (.tmp 7)),none⟩,⟨none,(.e (.store 2 (.tmp 6) (.tmp 31))),none⟩])
 (.ret))))),[.celln 2 6]⟩
theorem v208 : IsFun Tryz.prog 208 m208 := ⟨_, Tryz.func208, by kernel_rfl, by kernel_rfl⟩
def m209 : Fun := ⟨7,1,.seq (.region [⟨(some 2),(.p (.mov (.val (.nilslice)))),none⟩])
 (.seq (.region [⟨(some 3),(.p (.mov (.tmp 0))),none⟩,⟨(some 4),(.p (.build [.int .i64 (.ofNat 0),.int .i64 (.ofNat 0),.int .i64 (.ofNat 0),.bool false,.int .i64 (.ofNat 0),.int .i64 (.ofNat 0),.nilslice,.nilslice] [(7,1,(.tmp 3))])),none⟩,⟨(some 5),(.e (.call 210 [(.tmp 4)])),none⟩,⟨(some 6),(.p (.field1 7 (.tmp 5))),none⟩,⟨(some 2),(.p (.mov (.tmp 6))),none⟩])
 (.ret)),[.tmp 2]⟩
theorem v209 : IsFun Tryz.prog 209 m209 := ⟨_, Tryz.func209, by kernel_rfl, by kernel_rfl⟩
def m210 : Fun := ⟨27,1,.seq (.region [⟨(some 1),(.a (.box (.tmp 0))),none⟩,⟨(some 2),(.a (.new [.int .i64 (.ofNat 0),.int .i64 (.ofNat 0),.int .i64 (.ofNat 0),.bool false,.int .i64 (.ofNat 0),.int .i64 (.ofNat 0),.nilslice,.nilslice])),none⟩])
 (.seq (.region [⟨(some 6),(.p (.faddr 3 (.tmp 1))),none⟩,⟨(some 7),(.loadn 4 (.tmp 6)),none⟩,⟨(some 8),(.e (.call 145 [(.tmp 7)])),none⟩,⟨(some 9),(.p (.faddr 3 (.tmp 1))),none⟩,⟨none,(.e (.store 4 (.tmp 9) (.tmp 8))),none⟩])
 (.seq (.region [⟨(some 3),(.p (.mov (.val (.nilslice)))),none⟩])
 (.seq (.seq (.region [⟨(some 10),(.p (.faddr 7 (.tmp 1))),none⟩,⟨(some 11),(.load1 (.tmp 10)),none⟩,⟨(some 12),(.p (.lenb (.tmp 11))),none⟩,⟨(some 13),(.p (.mov (.val (.int .i64 (.ofNat 0))))),none⟩])
 (.block 0 (.loop (.seq (.region [⟨(some 14),(.p (.bin .lss (.tmp 13) (.tmp 12))),none⟩])
 (.seq (.cond (.tmp 14) (.skip)
 (.exit 0))
 (.seq (.block 1 (.seq (.region [⟨(some 15),(.p (.iaddr 8 (.tmp 11) (.tmp 13))),none⟩,⟨(some 16),(.loadn 8 (.tmp 15)),none⟩,⟨(some 5),(.a (.new [.int .i64 (.ofNat 0),.int .i64 (.ofNat 0),.int .i64 (.ofNat 0),.bool false,.int .i64 (.ofNat 0),.int .i64 (.ofNat 0),.nilslice,.nilslice])),none⟩,⟨none,(.e (.store 8 (.tmp 5) (.tmp 16))),none⟩])
 (.region [⟨(some 17),(.p (.mov (.tmp 3))),none⟩,⟨(some 18),(.loadn 8 (.tmp 5)),none⟩,⟨(some 19),(.e (.call 210 [(.tmp 18)])),none⟩,⟨(some 20),(.a (.bslice [.int .i64 (.ofNat 0),.int .i64 (.ofNat 0),.int .i64 (.ofNat 0),.bool false,.int .i64 (.ofNat 0),.int .i64 (.ofNat 0),.nilslice,.nilslice] 8 1 [(0,8,(.tmp 19))])),none⟩,⟨(some 21),(.e (.append 8 96 (.tmp 17) (.tmp 20))),none⟩,⟨(some 3),(.p (.mov (.tmp 21))),none⟩])))
 (.region [⟨(some 22),(.p (.bin .add (.tmp 13) (.val (.int .i64 (.ofNat 1))))),none⟩,⟨(some 13),(.p (.mov (.tmp 22))),none⟩])))))))
 (.seq (.region [⟨(some 23),(.p (.mov (.tmp 3))),none⟩,⟨(some 24),(.e (.call 213 [(.tmp 23)])),none⟩,⟨(some 25),(.p (.faddr 7 (.tmp 1))),none⟩,⟨none,(.e (.store 1 (.tmp 25) (.tmp 24))),none⟩])
 (.seq (.region [⟨(some 26),(.loadn 8 (.tmp 1)),none⟩,⟨none,(.e (.store 8 (.tmp 2) (.tmp 26))),none⟩])
 (.ret)))))),[.celln 8 2]⟩
theorem v210 : IsFun Tryz.prog 210 m210 := ⟨_, Tryz.func210, by kernel_rfl, by kernel_rfl⟩
def m211 : Fun := ⟨67,2,.seq (.region [⟨(some 2),(.a (.box (.tmp 0))),none⟩,⟨(some 3),(.a (.box (.tmp 1))),none⟩,⟨(some 4),(.a (.new [.nilslice,.bool false])),none⟩])
 (.seq (.region [⟨(some 11),(.p (.faddr 1 (.tmp 2))),none⟩,⟨(some 12),(.load1 (.tmp 11)),none⟩,⟨(some 13),(.p (.mov (.tmp 12))),none⟩,⟨(some 14),(.p (.faddr 1 (.tmp 3))),(some (13,true))⟩,⟨(some 15),(.load1 (.tmp 14)),(some (13,true))⟩,⟨(some 16),(.p (.pick (.tmp 13) (.tmp 15) (.val (.bool false)))),none⟩,⟨(some 17),(.p (.build [.nilslice,.bool false] [(0,1,(.val (.nilslice))),(1,1,(.tmp 16))])),none⟩,⟨(some 5),(.a (.new [.nilslice,.bool false])),none⟩,⟨none,(.e (.store 2 (.tmp 5) (.tmp 17))),none⟩])
 (.seq (.seq (.region [⟨(some 18),(.p (.faddr 1 (.tmp 5))),none⟩,⟨(some 19),(.load1 (.tmp 18)),none⟩,⟨(some 20),(.p (.not (.tmp 19))),none⟩,⟨(some 21),(.p (.mov (.tmp 20))),none⟩,⟨(some 22),(.p (.faddr 0 (.tmp 2))),(some (21,false))⟩,⟨(some 23),(.load1 (.tmp 22)),(some (21,false))⟩,⟨(some 24),(.p (.lenb (.tmp 23))),(some (21,false))⟩,⟨(some 25),(.p (.faddr 0 (.tmp 3))),(some (21,false))⟩,⟨(some 26),(.load1 (.tmp 25)),(some (21,false))⟩,⟨(some 27),(.p (.lenb (.tmp 26))),(some (21,false))⟩,⟨(some 28),(.p (.bin .mul (.tmp 24) (.tmp 27))),(some (21,false))⟩,⟨(some 29),(.p (.bin .gtr (.tmp 28) (.val (.int .i64 (.ofNat 32))))),(some (21,false))⟩,⟨(some 30),(.p (.pick (.tmp 21) (.val (.bool true)) (.tmp 29))),none⟩])
 (.cond (.tmp 30) (.seq (.region [⟨(some 31),(.p (.build [.nilslice,.bool false] [])),none⟩,⟨none,(.e (.store 2 (.tmp 4) (.tmp 31))),none⟩])
 (.ret))
 (.skip)))
 (.seq (.seq (.region [⟨(some 32),(.p (.faddr 0 (.tmp 2))),none⟩,⟨(some 33),(.load1 (.tmp 32)),none⟩,⟨(some 34),(.p (.lenb (.tmp 33))),none⟩,⟨(some 35),(.p (.mov (.val (.int .i64 (.ofNat 0))))),none⟩])
 (.block 0 (.loop (.seq (.region [⟨(some 36),(.p (.bin .lss (.tmp 35) (.tmp 34))),none⟩])
 (.seq (.cond (.tmp 36) (.skip)
 (.exit 0))
 (.seq (.block 1 (.seq (.region [⟨(some 37),(.p (.iaddr 1 (.tmp 33) (.tmp 35))),none⟩,⟨(some 38),(.load1 (.tmp 37)),none⟩,⟨(some 7),(.p (.mov (.tmp 38))),none⟩])
 (.seq (.region [⟨(some 39),(.p (.faddr 0 (.tmp 3))),none⟩,⟨(some 40),(.load1 (.tmp 39)),none⟩,⟨(some 41),(.p (.lenb (.tmp 40))),none⟩,⟨(some 42),(.p (.mov (.val (.int .i64 (.ofNat 0))))),none⟩])
 (.block 2 (.loop (.seq (.region [⟨(some 43),(.p (.bin .lss (.tmp 42) (.tmp 41))),none⟩])
 (.seq (.cond (.tmp 43) (.skip)
 (.exit 2))
 (.seq (.block 3 (.seq (.region [⟨(some 44),(.p (.iaddr 1 (.tmp 40) (.tmp 42))),none⟩,⟨(some 45),(.load1 (.tmp 44)),none⟩,⟨(some 9),(.p (.mov (.tmp 45))),none⟩])
 (.seq (.region [⟨(some 46),(.p (.mov (.tmp 7))),none⟩,⟨(some 47),(.p (.mov (.tmp 9))),none⟩,⟨(some 48),(.a (.bslice [.nilslice,.nilslice] 1 2 [(0,1,(.tmp 46)),(1,1,(.tmp 47))])),none⟩,⟨(some 49),(.e (.call 214 [(.tmp 48)])),none⟩,⟨(some 10),(.p (.mov (.tmp 49))),none⟩])
 (.seq (.region [⟨(some 50),(.p (.faddr 1 (.tmp 5))),none⟩,⟨(some 51),(.load1 (.tmp 50)),none⟩,⟨(some 52),(.p (.mov (.tmp 51))),none⟩,⟨(some 53),(.p (.mov (.tmp 10))),(some (52,true))⟩,⟨(some 54),(.p (.lenb (.tmp 53))),(some (52,true))⟩,⟨(some 55),(.p (.bin .leq (.tmp 54) (.val (.int .i64 (.ofNat 32))))),(some (52,true))⟩,⟨(some 56),(.p (.pick (.tmp 52) (.tmp 55) (.val (.bool false)))),none⟩,⟨(some 57),(.p (.faddr 1 (.tmp 5))),none⟩,⟨none,(.e (.store 1 (.tmp 57) (.tmp 56))),none⟩])
 (.region [⟨(some 58),(.p (.faddr 0 (.tmp 5))),none⟩,⟨(some 59),(.load1 (.tmp 58)),none⟩,⟨(some 60),(.p (.mov (.tmp 10))),none⟩,⟨(some 61),(.a (.bslice [.nilslice] 1 1 [(0,1,(.tmp 60))])),none⟩,⟨(some 62),(.e (.append 1 24 (.tmp 59) (.tmp 61))),none⟩,⟨(some 63),(.p (.faddr 0 (.tmp 5))),none⟩,⟨none,(.e (.store 1 (.tmp 63) (.tmp 62))),none⟩])))))
 (.region [⟨(some 64),(.p (.bin .add (.tmp 42) (.val (.int .i64 (.ofNat 1))))),none⟩,⟨(some 42),(.p (.mov (.tmp 64))),none⟩])))))))))
 (.region [⟨(some 65),(.p (.bin .add (.tmp 35) (.val (.int .i64 (.ofNat 1))))),none⟩,⟨(some 35),(.p (.mov (.tmp 65))),none⟩])))))))
 (.seq (.region [⟨(some 66),(.loadn 2 (.tmp 5)),none⟩,⟨none,(.e (.store 2 (.tmp 4) (.tmp 66))),none⟩])
 (.ret))))),[.celln 2 4]⟩
theorem v211 : IsFun Tryz.prog 211 m211 := ⟨_, Tryz.func211, by kernel_rfl, by kernel_rfl⟩
def m212 : Fun := ⟨29,2,.seq (.region [⟨(some 2),(.a (.box (.tmp 0))),none⟩,⟨(some 3),(.a (.box (.tmp 1))),none⟩,⟨(some 4),(.a (.new [.nilslice,.bool false])),none⟩])
 (.seq (.dregion [⟨⟨(some 6),(.p (.faddr 0 (.tmp 2))),none⟩,0,5⟩,⟨⟨(some 7),(.load1 (.tmp 6)),none⟩,0,5⟩,⟨⟨(some 8),(.p (.faddr 0 (.tmp 3))),none⟩,0,5⟩,⟨⟨(some 9),(.load1 (.tmp 8)),none⟩,0,5⟩,⟨⟨(some 10),(.a (.bslice [.nilslice,.nilslice] 1 2 [(0,1,(.tmp 7)),(1,1,(.tmp 9))])),none⟩,0,5⟩,⟨⟨(some 11),(.e (.call 215 [(.tmp 10)])),none⟩,0,14⟩,⟨⟨(some 12),(.p (.faddr 1 (.tmp 2))),none⟩,0,14⟩,⟨⟨(some 13),(.load1 (.tmp 12)),none⟩,0,14⟩,⟨⟨(some 14),(.p (.mov (.tmp 13))),none⟩,6,14⟩,⟨⟨(some 15),(.p (.faddr 1 (.tmp 3))),(some (14,true))⟩,6,14⟩,⟨⟨(some 16),(.load1 (.tmp 15)),(some (14,true))⟩,6,14⟩,⟨⟨(some 17),(.p (.pick (.tmp 14) (.tmp 16) (.val (.bool false)))),none⟩,6,14⟩,⟨⟨(some 18),(.p (.build [.nilslice,.bool false] [(0,1,(.tmp 11)),(1,1,(.tmp 17))])),none⟩,6,14⟩,⟨⟨(some 5),(.a (.new [.nilslice,.bool false])),none⟩,0,14⟩,⟨⟨none,(.e (.store 2 (.tmp 5) (.tmp 18))),none⟩,6,15⟩])
 (.seq (.region [⟨(some 19),(.p (.faddr 1 (.tmp 5))),none⟩,⟨(some 20),(.load1 (.tmp 19)),none⟩,⟨(some 21),(.p (.mov (.tmp 20))),none⟩,⟨(some 22),(.p (.faddr 0 (.tmp 5))),(some (21,true))⟩,⟨(some 23),(.load1 (.tmp 22)),(some (21,true))⟩,⟨(some 24),(.p (.lenb (.tmp 23))),(some (21,true))⟩,⟨(some 25),(.p (.bin .leq (.tmp 24) (.val (.int .i64 (.ofNat 32))))),(some (21,true))⟩,⟨(some 26),(.p (.pick (.tmp 21) (.tmp 25) (.val (.bool false)))),none⟩,⟨(some 27),(.p (.faddr 1 (.tmp 5))),none⟩,⟨none,(.e (.store 1 (.tmp 27) (.tmp 26))),none⟩])
 (.seq (.region [⟨(some 28),(.loadn 2 (.tmp 5)),none⟩,⟨none,(.e (.store 2 (.tmp 4) (.tmp 28))),none⟩])
 (.ret)))),[.celln 2 4]⟩
theorem v212 : IsFun Tryz.prog 212 m212 := ⟨_, Tryz.func212, by kernel_rfl, by kernel_rfl⟩
def m213 : Fun := ⟨9,1,.seq (.region [⟨(some 2),(.p (.mov (.val (.nilslice)))),none⟩])
 (.seq (.region [⟨(some 3),(.p (.mov (.tmp 0))),none⟩,⟨(some 4),(.p (.mov (.tmp 0))),none⟩,⟨(some 5),(.p (.lenb (.tmp 4))),none⟩,⟨(some 6),(.p (.mov (.tmp 0))),none⟩,⟨(some 7),(.p (.lenb (.tmp 6))),none⟩,⟨(some 8),(.p (.slc 8 (.tmp 3) none (some (.tmp 5)) (some (.tmp 7)))),none⟩,⟨(some 2),(.p (.mov (.tmp 8))),none⟩])
 (.ret)),[.tmp 2]⟩
theorem v213 : IsFun Tryz.prog 213 m213 := ⟨_, Tryz.func213, by kernel_rfl, by kernel_rfl⟩
def m214 : Fun := ⟨36,1,.seq (.region [⟨(some 2),(.p (.mov (.val (.nilslice)))),none⟩])
 (.seq (.region [⟨(some 3),(.p (.mov (.val (.int .i64 (.ofNat 0))))),none⟩])
 (.seq (.seq (.region [⟨(some 9),(.p (.mov (.tmp 0))),none⟩,⟨(some 10),(.p (.lenb (.tmp 9))),none⟩,⟨(some 11),(.p (.mov (.val (.int .i64 (.ofNat 0))))),none⟩])
 (.block 0 (.loop (.seq (.region [⟨(some 12),(.p (.bin .lss (.tmp 11) (.tmp 10))),none⟩])
 (.seq (.cond (.tmp 12) (.skip)
 (.exit 0))
 (.seq (.block 1 (.seq (.region [⟨(some 13),(.p (.iaddr 1 (.tmp 9) (.tmp 11))),none⟩,⟨(some 14),(.load1 (.tmp 13)),none⟩,⟨(some 5),(.p (.mov (.tmp 14))),none⟩])
 (.seq (.region [⟨(some 15),(.p (.mov (.tmp 3))),none⟩,⟨(some 16),(.p (.mov (.tmp 5))),none⟩,⟨(some 17),(.p (.lenb (.tmp 16))),none⟩,⟨(some 18),(.p (.bin .add (.tmp 15) (.tmp 17))),none⟩,⟨(some 3),(.p (.mov (.tmp 18))),none⟩])
 (.seq (.region [⟨(some 19),(.p (.mov (.tmp 3))),none⟩,⟨(some 20),(.p (.bin .lss (.tmp 19) (.val (.int .i64 (.ofNat 0))))),none⟩])
 (.cond (.tmp 20) (.region [⟨(some 21),(.p (.mkiface 9 (.val (.str [108,101,110,32,111,117,116,32,111,102,32,114,97,110,103,101])))),none⟩,⟨none,(.e (.stop)),none⟩])
 (.skip))))))
 (.region [⟨(some 22),(.p (.bin .add (.tmp 11) (.val (.int .i64 (.ofNat 1))))),none⟩,⟨(some 11),(.p (.mov (.tmp 22))),none⟩])))))))
 (.seq (.region [⟨(some 23),(.p (.mov (.tmp 3))),none⟩,⟨(some 24),(.e (.call 216 [(.val (.nilslice)),(.tmp 23)])),none⟩,⟨(some 6),(.p (.mov (.tmp 24))),none⟩])
 (.seq (.seq (.region [⟨(some 25),(.p (.mov (.tmp 0))),none⟩,⟨(some 26),(.p (.lenb (.tmp 25))),none⟩,⟨(some 27),(.p (.mov (.val (.int .i64 (.ofNat 0))))),none⟩])
 (.block 2 (.loop (.seq (.region [⟨(some 28),(.p (.bin .lss (.tmp 27) (.tmp 26))),none⟩])
 (.seq (.cond (.tmp 28) (.skip)
 (.exit 2))
 (.seq (.block 3 (.seq (.region [⟨(some 29),(.p (.iaddr 1 (.tmp 25) (.tmp 27))),none⟩,⟨(some 30),(.load1 (.tmp 29)),none⟩,⟨(some 8),(.p (.mov (.tmp 30))),none⟩])
 (.region [⟨(some 31),(.p (.mov (.tmp 6))),none⟩,⟨(some 32),(.p (.mov (.tmp 8))),none⟩,⟨(some 33),(.e (.append 8 96 (.tmp 31) (.tmp 32))),none⟩,⟨(some 6),(.p (.mov (.tmp 33))),none⟩])))
 (.region [⟨(some 34),(.p (.bin .add (.tmp 27) (.val (.int .i64 (.ofNat 1))))),none⟩,⟨(some 27),(.p (.mov (.tmp 34))),none⟩])))))))
 (.seq (.region [⟨(some 35),(.p (.mov (.tmp 6))),none⟩,⟨(some 2),(.p (.mov (.tmp 35))),none⟩])
 (.ret)))))),[.tmp 2]⟩
theorem v214 : IsFun Tryz.prog 214 m214 := ⟨_, Tryz.func214, by kernel_rfl, by kernel_rfl⟩
def m215 : Fun := ⟨36,1,.seq (.region [⟨(some 2),(.p (.mov (.val (.nilslice)))),none⟩])
 (.seq (.region [⟨(some 3),(.p (.mov (.val (.int .i64 (.ofNat 0))))),none⟩])
 (.seq (.seq (.region [⟨(some 9),(.p (.mov (.tmp 0))),none⟩,⟨(some 10),(.p (.lenb (.tmp 9))),none⟩,⟨(some 11),(.p (.mov (.val (.int .i64 (.ofNat 0))))),none⟩])
 (.block 0 (.loop (.seq (.region [⟨(some 12),(.p (.bin .lss (.tmp 11) (.tmp 10))),none⟩])
 (.seq (.cond (.tmp 12) (.skip)
 (.exit 0))
 (.seq (.block 1 (.seq (.region [⟨(some 13),(.p (.iaddr 1 (.tmp 9) (.tmp 11))),none⟩,⟨(some 14),(.load1 (.tmp 13)),none⟩,⟨(some 5),(.p (.mov (.tmp 14))),none⟩])
 (.seq (.region [⟨(some 15),(.p (.mov (.tmp 3))),none⟩,⟨(some 16),(.p (.mov (.tmp 5))),none⟩,⟨(some 17),(.p (.lenb (.tmp 16))),none⟩,⟨(some 18),(.p (.bin .add (.tmp 15) (.tmp 17))),none⟩,⟨(some 3),(.p (.mov (.tmp 18))),none⟩])
 (.seq (.region [⟨(some 19),(.p (.mov (.tmp 3))),none⟩,⟨(some 20),(.p (.bin .lss (.tmp 19) (.val (.int .i64 (.ofNat 0))))),none⟩])
 (.cond (.tmp 20) (.region [⟨(some 21),(.p (.mkiface 9 (.val (.str [108,101,110,32,111,117,116,32,111,102,32,114,97,110,103,101])))),none⟩,⟨none,(.e (.stop)),none⟩])
 (.skip))))))
 (.region [⟨(some 22),(.p (.bin .add (.tmp 11) (.val (.int .i64 (.ofNat 1))))),none⟩,⟨(some 11),(.p (.mov (.tmp 22))),none⟩])))))))
 (.seq (.region [⟨(some 23),(.p (.mov (.tmp 3))),none⟩,⟨(some 24),(.e (.call 217 [(.val (.nilslice)),(.tmp 23)])),none⟩,⟨(some 6),(.p (.mov (.tmp 24))),none⟩])
 (.seq (.seq (.region [⟨(some 25),(.p (.mov (.tmp 0))),none⟩,⟨(some 26),(.p (.lenb (.tmp 25))),none⟩,⟨(some 27),(.p (.mov (.val (.int .i64 (.ofNat 0))))),none⟩])
 (.block 2 (.loop (.seq (.region [⟨(some 28),(.p (.bin .lss (.tmp 27) (.tmp 26))),none⟩])
 (.seq (.cond (.tmp 28) (.skip)
 (.exit 2))
 (.seq (.block 3 (.seq (.region [⟨(some 29),(.p (.iaddr 1 (.tmp 25) (.tmp 27))),none⟩,⟨(some 30),(.load1 (.tmp 29)),none⟩,⟨(some 8),(.p (.mov (.tmp 30))),none⟩])
 (.region [⟨(some 31),(.p (.mov (.tmp 6))),none⟩,⟨(some 32),(.p (.mov (.tmp 8))),none⟩,⟨(some 33),(.e (.append 1 24 (.tmp 31) (.tmp 32))),none⟩,⟨(some 6),(.p (.mov (.tmp 33))),none⟩])))
 (.region [⟨(some 34),(.p (.bin .add (.tmp 27) (.val (.int .i64 (.ofNat 1))))),none⟩,⟨(some 27),(.p (.mov (.tmp 34))),none⟩])))))))
 (.seq (.region [⟨(some 35),(.p (.mov (.tmp 6))),none⟩,⟨(some 2),(.p (.mov (.tmp 35))),none⟩])
 (.ret)))))),[.tmp 2]⟩
theorem v215 : IsFun Tryz.prog 215 m215 := ⟨_, Tryz.func215, by kernel_rfl, by kernel_rfl⟩
def m216 : Fun := ⟨27,2,.seq (.region [⟨(some 4),(.p (.mov (.val (.nilslice)))),none⟩])
 (.seq (.seq (.region [⟨(some 5),(.p (.mov (.tmp 1))),none⟩,⟨(some 6),(.p (.bin .lss (.tmp 5) (.val (.int .i64 (.ofNat 0))))),none⟩])
 (.cond (.tmp 6) (.region [⟨(some 7),(.p (.mkiface 9 (.val (.str [99,97,110,110,111,116,32,98,101,32,110,101,103,97,116,105,118,101])))),none⟩,⟨none,(.e (.stop)),none⟩])
 (.skip)))
 (.seq (.seq (.region [⟨(some 8),(.p (.mov (.tmp 1))),none⟩,⟨(some 9),(.p (.mov (.tmp 0))),none⟩,⟨(some 10),(.p (.caps (.tmp 9))),none⟩,⟨(some 11),(.p (.mov (.tmp 0))),none⟩,⟨(some 12),(.p (.lenb (.tmp 11))),none⟩,⟨(some 13),(.p (.bin .sub (.tmp 10) (.tmp 12))),none⟩,⟨(some 14),(.p (.bin .sub (.tmp 8) (.tmp 13))),none⟩,⟨(some 1),(.p (.mov (.tmp 14))),none⟩])
 (.seq (.region [⟨(some 15),(.p (.mov (.tmp 1))),none⟩,⟨(some 16),(.p (.bin .gtr (.tmp 15) (.val (.int .i64 (.ofNat 0))))),none⟩])
 (.cond (.tmp 16) (.region [⟨(some 17),(.p (.mov (.tmp 0))),none⟩,⟨(some 18),(.p (.mov (.tmp 0))),none⟩,⟨(some 19),(.p (.caps (.tmp 18))),none⟩,⟨(some 20),(.p (.slc 8 (.tmp 17) none (some (.tmp 19)) none)),none⟩,⟨(some 21),(.p (.mov (.tmp 1))),none⟩,⟨(some 22),(.e (.appendz [.int .i64 (.ofNat 0),.int .i64 (.ofNat 0),.int .i64 (.ofNat 0),.bool false,.int .i64 (.ofNat 0),.int .i64 (.ofNat 0),.nilslice,.nilslice] 8 96 (.tmp 20) (.tmp 21))),none⟩,⟨(some 23),(.p (.mov (.tmp 0))),none⟩,⟨(some 24),(.p (.lenb (.tmp 23))),none⟩,⟨(some 25),(.p (.slc 8 (.tmp 22) none (some (.tmp 24)) none)),none⟩,⟨(some 0),(.p (.mov (.tmp 25))),none⟩])
 (.skip))))
 (.seq (.region [⟨(some 26),(.p (.mov (.tmp 0))),none⟩,⟨(some 4),(.p (.mov (.tmp 26))),none⟩])
 (.ret)))),[.tmp 4]⟩
theorem v216 : IsFun Tryz.prog 216 m216 := ⟨_, Tryz.func216, by kernel_rfl, by kernel_rfl⟩
def m217 : Fun := ⟨27,2,.seq (.region [⟨(some 4),(.p (.mov (.val (.nilslice)))),none⟩])
 (.seq (.seq (.region [⟨(some 5),(.p (.mov (.tmp 1))),none⟩,⟨(some 6),(.p (.bin .lss (.tmp 5) (.val (.int .i64 (.ofNat 0))))),none⟩])
 (.cond (.tmp 6) (.region [⟨(some 7),(.p (.mkiface 9 (.val (.str [99,97,110,110,111,116,32,98,101,32,110,101,103,97,116,105,118,101])))),none⟩,⟨none,(.e (.stop)),none⟩])
 (.skip)))
 (.seq (.seq (.region [⟨(some 8),(.p (.mov (.tmp 1))),none⟩,⟨(some 9),(.p (.mov (.tmp 0))),none⟩,⟨(some 10),(.p (.caps (.tmp 9))),none⟩,⟨(some 11),(.p (.mov (.tmp 0))),none⟩,⟨(some 12),(.p (.lenb (.tmp 11))),none⟩,⟨(some 13),(.p (.bin .sub (.tmp 10) (.tmp 12))),none⟩,⟨(some 14),(.p (.bin .sub (.tmp 8) (.tmp 13))),none⟩,⟨(some 1),(.p (.mov (.tmp 14))),none⟩])
 (.seq (.region [⟨(some 15),(.p (.mov (.tmp 1))),none⟩,⟨(some 16),(.p (.bin .gtr (.tmp 15) (.val (.int .i64 (.ofNat 0))))),none⟩])
 (.cond (.tmp 16) (.region [⟨(some 17),(.p (.mov (.tmp 0))),none⟩,⟨(some 18),(.p (.mov (.tmp 0))),none⟩,⟨(some 19),(.p (.caps (.tmp 18))),none⟩,⟨(some 20),(.p (.slc 1 (.tmp 17) none (some (.tmp 19)) none)),none⟩,⟨(some 21),(.p (.mov (.tmp 1))),none⟩,⟨(some 22),(.e (.appendz [.nilslice] 1 24 (.tmp 20) (.tmp 21))),none⟩,⟨(some 23),(.p (.mov (.tmp 0))),none⟩,⟨(some 24),(.p (.lenb (.tmp 23))),none⟩,⟨(some 25),(.p (.slc 1 (.tmp 22) none (some (.tmp 24)) none)),none⟩,⟨(some 0),(.p (.mov (.tmp 25))),none⟩])
 (.skip))))
 (.seq (.region [⟨(some 26),(.p (.mov (.tmp 0))),none⟩,⟨(some 4),(.p (.mov (.tmp 26))),none⟩])
 (.ret)))),[.tmp 4]⟩
theorem v217 : IsFun Tryz.prog 217 m217 := ⟨_, Tryz.func217, by kernel_rfl, by kernel_rfl⟩
end Go.Proofs.YtffjinldphmhnaaGreat
end

section
set_option maxRecDepth 100000
namespace Go.Proofs.YtffjinldphmhnaaGreat
open Go.Vm
def funs : T Fun := (.node (.node (.node (.node (.node (.node (.node (.node .leaf (some m127) .leaf) none (.node .leaf (some m191) .leaf)) none .leaf) none (.node (.node .leaf (some m79) (.node .leaf (some m207) .leaf)) none .leaf)) none (.node (.node (.node (.node .leaf (some m135) .leaf) none (.node .leaf (some m199) .leaf)) (some m39) (.node (.node .leaf (some m167) .leaf) none .leaf)) (some m23) (.node (.node .leaf (some m87) (.node .leaf (some m215) .leaf)) none (.node (.node .leaf (some m183) .leaf) none .leaf)))) none (.node (.node (.node (.node (.node .leaf (some m131) .leaf) (some m67) (.node .leaf (some m195) .leaf)) none .leaf) none (.node (.node .leaf (some m83) (.node .leaf (some m211) .leaf)) none (.node .leaf (some m115) .leaf))) none (.node (.node (.node (.node .leaf (some m139) .leaf) (some m75) (.node .leaf (some m203) .leaf)) none (.node (.node .leaf (some m171) .leaf) none .leaf)) (some m27) (.node (.node .leaf (some m91) .leaf) (some m59) (.node (.node .leaf (some m187) .leaf) none .leaf))))) none (.node (.node (.node (.node .leaf (some m33) .leaf) (some m17) (.node (.node (.node .leaf (some m145) .leaf) (some m81) (.node .leaf (some m209) .leaf)) none (.node .leaf (some m113) .leaf))) none (.node (.node (.node (.node .leaf (some m137) .leaf) none .leaf) none (.node (.node .leaf (some m169) .leaf) none .leaf)) (some m25) (.node (.node .leaf (some m89) (.node .leaf (some m217) .leaf)) (some m57) (.node (.node .leaf (some m185) .leaf) none .leaf)))) (some m5) (.node (.node (.node (.node (.node .leaf (some m133) .leaf) (some m69) (.node .leaf (some m197) .leaf)) (some m37) (.node (.node .leaf (some m165) .leaf) (some m101) .leaf)) (some m21) (.node (.node (.node .leaf (some m149) .leaf) (some m85) (.node .leaf (some m213) .leaf)) none .leaf)) none (.node (.node (.node .leaf (some m77) (.node .leaf (some m205) .leaf)) none .leaf) (some m29) (.node (.node .leaf (some m93) .leaf) none (.node (.node .leaf (some m189) .leaf) (some m125) .leaf)))))) none (.node (.node (.node (.node (.node .leaf (some m32) .leaf) none (.node (.node (.node .leaf (some m144) .leaf) (some m80) (.node .leaf (some m208) .leaf)) none (.node (.node .leaf (some m176) .leaf) none .leaf))) none (.node (.node (.node (.node .leaf (some m136) .leaf) (some m72) .leaf) none (.node (.node .leaf (some m168) .leaf) none .leaf)) (some m24) (.node (.node (.node .leaf (some m152) .leaf) (some m88) (.node .leaf (some m216) .leaf)) none (.node (.node .leaf (some m184) .leaf) none .leaf)))) none (.node (.node (.node (.node (.node .leaf (some m132) .leaf) (some m68) (.node .leaf (some m196) .leaf)) (some m36) (.node .leaf (some m100) .leaf)) (some m20) (.node (.node .leaf (some m84) (.node .leaf (some m212) .leaf)) none .leaf)) (some m12) (.node (.node (.node .leaf (some m76) (.node .leaf (some m204) .leaf)) none (.node (.node .leaf (some m172) .leaf) none .leaf)) (some m28) (.node (.node .leaf (some m92) .leaf) none (.node .leaf (some m124) .leaf))))) none (.node (.node (.node (.node (.node (.node .leaf (some m130) .leaf) none .leaf) (some m34) .leaf) (some m18) (.node (.node (.node .leaf (some m146) .leaf) (some m82) (.node .leaf (some m210) .leaf)) none (.node .leaf (some m114) .leaf))) none (.node (.node (.node (.node .leaf (some m138) .leaf) (some m74) .leaf) none (.node (.node .leaf (some m170) .leaf) none .leaf)) (some m26) (.node (.node .leaf (some m90) .leaf) (some m58) (.node (.node .leaf (some m186) .leaf) none .leaf)))) none (.node (.node (.node (.node (.node .leaf (some m134) .leaf) (some m70) (.node .leaf (some m198) .leaf)) (some m38) (.node (.node .leaf (some m166) .leaf) (some m102) .leaf)) none (.node (.node .leaf (some m86) (.node .leaf (some m214) .leaf)) none .leaf)) none (.node (.node (.node .leaf (some m78) (.node .leaf (some m206) .leaf)) none .leaf) (some m30) (.node .leaf none (.node (.node .leaf (some m190) .leaf) (some m126) .leaf)))))))
def ints : List Nat := [2,3,5,6,12,21,58,212,219,221,232,275,276,279,280]
theorem intsOk : IntsOk Tryz.prog ints := ints_of (by kernel_rfl)
def mach (tab : Tab) : Vm.Prog := { funs := funs, env := ⟨tab, ints⟩ }
theorem valid (tab : Tab) : Valid Tryz.prog (mach tab) := valid_of (show AllT (IsFun Tryz.prog) 1 0 funs from ⟨trivial, ⟨trivial, ⟨trivial, ⟨trivial, ⟨trivial, ⟨trivial, ⟨trivial, ⟨v127, trivial, trivial⟩, ⟨v191, trivial, trivial⟩⟩, trivial⟩, ⟨trivial, ⟨v79, trivial, ⟨v207, trivial, trivial⟩⟩, trivial⟩⟩, ⟨v23, ⟨v39, ⟨trivial, ⟨v135, trivial, trivial⟩, ⟨v199, trivial, trivial⟩⟩, ⟨trivial, ⟨v167, trivial, trivial⟩, trivial⟩⟩, ⟨trivial, ⟨v87, trivial, ⟨v215, trivial, trivial⟩⟩, ⟨trivial, ⟨v183, trivial, trivial⟩, trivial⟩⟩⟩⟩, ⟨trivial, ⟨trivial, ⟨trivial, ⟨v67, ⟨v131, trivial, trivial⟩, ⟨v195, trivial, trivial⟩⟩, trivial⟩, ⟨trivial, ⟨v83, trivial, ⟨v211, trivial, trivial⟩⟩, ⟨v115, trivial, trivial⟩⟩⟩, ⟨v27, ⟨trivial, ⟨v75, ⟨v139, trivial, trivial⟩, ⟨v203, trivial, trivial⟩⟩, ⟨trivial, ⟨v171, trivial, trivial⟩, trivial⟩⟩, ⟨v59, ⟨v91, trivial, trivial⟩, ⟨trivial, ⟨v187, trivial, trivial⟩, trivial⟩⟩⟩⟩⟩, ⟨v5, ⟨trivial, ⟨v17, ⟨v33, trivial, trivial⟩, ⟨trivial, ⟨v81, ⟨v145, trivial, trivial⟩, ⟨v209, trivial, trivial⟩⟩, ⟨v113, trivial, trivial⟩⟩⟩, ⟨v25, ⟨trivial, ⟨trivial, ⟨v137, trivial, trivial⟩, trivial⟩, ⟨trivial, ⟨v169, trivial, trivial⟩, trivial⟩⟩, ⟨v57, ⟨v89, trivial, ⟨v217, trivial, trivial⟩⟩, ⟨trivial, ⟨v185, trivial, trivial⟩, trivial⟩⟩⟩⟩, ⟨trivial, ⟨v21, ⟨v37, ⟨v69, ⟨v133, trivial, trivial⟩, ⟨v197, trivial, trivial⟩⟩, ⟨v101, ⟨v165, trivial, trivial⟩, trivial⟩⟩, ⟨trivial, ⟨v85, ⟨v149, trivial, trivial⟩, ⟨v213, trivial, trivial⟩⟩, trivial⟩⟩, ⟨v29, ⟨trivial, ⟨v77, trivial, ⟨v205, trivial, trivial⟩⟩, trivial⟩, ⟨trivial, ⟨v93, trivial, trivial⟩, ⟨v125, ⟨v189, trivial, trivial⟩, trivial⟩⟩⟩⟩⟩⟩, ⟨trivial, ⟨trivial, ⟨trivial, ⟨trivial, ⟨v32, trivial, trivial⟩, ⟨trivial, ⟨v80, ⟨v144, trivial, trivial⟩, ⟨v208, trivial, trivial⟩⟩, ⟨trivial, ⟨v176, trivial, trivial⟩, trivial⟩⟩⟩, ⟨v24, ⟨trivial, ⟨v72, ⟨v136, trivial, trivial⟩, trivial⟩, ⟨trivial, ⟨v168, trivial, trivial⟩, trivial⟩⟩, ⟨trivial, ⟨v88, ⟨v152, trivial, trivial⟩, ⟨v216, trivial, trivial⟩⟩, ⟨trivial, ⟨v184, trivial, trivial⟩, trivial⟩⟩⟩⟩, ⟨v12, ⟨v20, ⟨v36, ⟨v68, ⟨v132, trivial, trivial⟩, ⟨v196, trivial, trivial⟩⟩, ⟨v100, trivial, trivial⟩⟩, ⟨trivial, ⟨v84, trivial, ⟨v212, trivial, trivial⟩⟩, trivial⟩⟩, ⟨v28, ⟨trivial, ⟨v76, trivial, ⟨v204, trivial, trivial⟩⟩, ⟨trivial, ⟨v172, trivial, trivial⟩, trivial⟩⟩, ⟨trivial, ⟨v92, trivial, trivial⟩, ⟨v124, trivial, trivial⟩⟩⟩⟩⟩, ⟨trivial, ⟨trivial, ⟨v18, ⟨v34, ⟨trivial, ⟨v130, trivial, trivial⟩, trivial⟩, trivial⟩, ⟨trivial, ⟨v82, ⟨v146, trivial, trivial⟩, ⟨v210, trivial, trivial⟩⟩, ⟨v114, trivial, trivial⟩⟩⟩, ⟨v26, ⟨trivial, ⟨v74, ⟨v138, trivial, trivial⟩, trivial⟩, ⟨trivial, ⟨v170, trivial, trivial⟩, trivial⟩⟩, ⟨v58, ⟨v90, trivial, trivial⟩, ⟨trivial, ⟨v186, trivial, trivial⟩, trivial⟩⟩⟩⟩, ⟨trivial, ⟨trivial, ⟨v38, ⟨v70, ⟨v134, trivial, trivial⟩, ⟨v198, trivial, trivial⟩⟩, ⟨v102, ⟨v166, trivial, trivial⟩, trivial⟩⟩, ⟨trivial, ⟨v86, trivial, ⟨v214, trivial, trivial⟩⟩, trivial⟩⟩, ⟨v30, ⟨trivial, ⟨v78, trivial, ⟨v206, trivial, trivial⟩⟩, trivial⟩, ⟨trivial, trivial, ⟨v126, ⟨v190, trivial, trivial⟩, trivial⟩⟩⟩⟩⟩⟩⟩)
end Go.Proofs.YtffjinldphmhnaaGreat
end

section
set_option maxRecDepth 100000
namespace Go.Proofs.YtffjinldphmhnaaGreat
open Go.Vm
theorem x188 : IsExt Tryz.prog (188, .cmp) := ⟨_, Tryz.func188, by kernel_rfl, by kernel_rfl, by kernel_rfl, by kernel_rfl⟩
def exts : List (Nat × Ek) := [(188, .cmp)]
theorem extsOk : ∀ x, x ∈ exts → IsExt Tryz.prog x := by
  intro x hx
  unfold exts at hx
  rcases List.mem_cons.1 hx with rfl | hx
  · exact x188
  cases hx
end Go.Proofs.YtffjinldphmhnaaGreat
end

section
set_option maxRecDepth 100000
namespace Go.Proofs.YtffjinldphmhnaaGreat.sa
open Go.Vm Go.Dv Go.Lib
def pr : Vm.Prog := mach []
def ext0 : Ext := orX (sortedX 64 153) (orX (valuesX 151 122) (orX (sortX 71) (extBy exts)))
def xt : Ext := orX (constX [32]) ext0
theorem has4 : Go.Dv.Has pr xt F0 4 Go.Lib.M4 := ⟨by kernel_rfl, fun _ _ => rfl⟩
theorem has5 : Go.Dv.Has pr xt F0 5 Go.Lib.M5 := ⟨by kernel_rfl, fun _ _ => rfl⟩
theorem has13 : Go.Dv.Has pr xt F0 13 Go.Lib.M13 := ⟨by kernel_rfl, fun _ _ => rfl⟩
theorem has14 : Go.Dv.Has pr xt F0 14 Go.Lib.M14 := ⟨by kernel_rfl, fun _ _ => rfl⟩
theorem has23 : Go.Dv.Has pr xt F0 23 Go.Lib.M23 := ⟨by kernel_rfl, fun _ _ => rfl⟩
theorem has24 : Go.Dv.Has pr xt F0 24 Go.Lib.M24 := ⟨by kernel_rfl, fun _ _ => rfl⟩
theorem has25 : Go.Dv.Has pr xt F0 25 Go.Lib.M25 := ⟨by kernel_rfl, fun _ _ => rfl⟩
theorem has49 : Go.Dv.Has pr xt F0 49 Go.Lib.M49 := ⟨by kernel_rfl, fun _ _ => rfl⟩
theorem has50 : Go.Dv.Has pr xt F0 50 Go.Lib.M50 := ⟨by kernel_rfl, fun _ _ => rfl⟩
theorem has220 : Go.Dv.Has pr xt F0 220 Go.Lib.M220 := ⟨by kernel_rfl, fun _ _ => rfl⟩
theorem has239 : Go.Dv.Has pr xt F0 239 Go.Lib.M239 := ⟨by kernel_rfl, fun _ _ => rfl⟩
theorem has255 : Go.Dv.Has pr xt F0 255 Go.Lib.M255 := ⟨by kernel_rfl, fun _ _ => rfl⟩
theorem has264 : Go.Dv.Has pr xt F0 264 Go.Lib.M264 := ⟨by kernel_rfl, fun _ _ => rfl⟩
theorem has265 : Go.Dv.Has pr xt F0 265 Go.Lib.M265 := ⟨by kernel_rfl, fun _ _ => rfl⟩
theorem has266 : Go.Dv.Has pr xt F0 266 Go.Lib.M266 := ⟨by kernel_rfl, fun _ _ => rfl⟩
theorem has268 : Go.Dv.Has pr xt F0 268 Go.Lib.M268 := ⟨by kernel_rfl, fun _ _ => rfl⟩
theorem has279 : Go.Dv.Has pr xt F0 279 Go.Lib.M279 := ⟨by kernel_rfl, fun _ _ => rfl⟩
theorem has303 : Go.Dv.Has pr xt F0 303 Go.Lib.M303 := ⟨by kernel_rfl, fun _ _ => rfl⟩
theorem has304 : Go.Dv.Has pr xt F0 304 Go.Lib.M304 := ⟨by kernel_rfl, fun _ _ => rfl⟩
theorem has305 : Go.Dv.Has pr xt F0 305 Go.Lib.M305 := ⟨by kernel_rfl, fun _ _ => rfl⟩
theorem has306 : Go.Dv.Has pr xt F0 306 Go.Lib.M306 := ⟨by kernel_rfl, fun _ _ => rfl⟩
theorem has307 : Go.Dv.Has pr xt F0 307 Go.Lib.M307 := ⟨by kernel_rfl, fun _ _ => rfl⟩
theorem has308 : Go.Dv.Has pr xt F0 308 Go.Lib.M308 := ⟨by kernel_rfl, fun _ _ => rfl⟩
theorem has309 : Go.Dv.Has pr xt F0 309 Go.Lib.M309 := ⟨by kernel_rfl, fun _ _ => rfl⟩
theorem has314 : Go.Dv.Has pr xt F0 314 Go.Lib.M314 := ⟨by kernel_rfl, fun _ _ => rfl⟩
theorem has315 : Go.Dv.Has pr xt F0 315 Go.Lib.M315 := ⟨by kernel_rfl, fun _ _ => rfl⟩
theorem has316 : Go.Dv.Has pr xt F0 316 Go.Lib.M316 := ⟨by kernel_rfl, fun _ _ => rfl⟩
theorem has317 : Go.Dv.Has pr xt F0 317 Go.Lib.M317 := ⟨by kernel_rfl, fun _ _ => rfl⟩
theorem has318 : Go.Dv.Has pr xt F0 318 Go.Lib.M318 := ⟨by kernel_rfl, fun _ _ => rfl⟩
theorem has319 : Go.Dv.Has pr xt F0 319 Go.Lib.M319 := ⟨by kernel_rfl, fun _ _ => rfl⟩
theorem has320 : Go.Dv.Has pr xt F0 320 Go.Lib.M320 := ⟨by kernel_rfl, fun _ _ => rfl⟩
theorem has321 : Go.Dv.Has pr xt F0 321 Go.Lib.M321 := ⟨by kernel_rfl, fun _ _ => rfl⟩
theorem has327 : Go.Dv.Has pr xt F0 327 Go.Lib.M327 := ⟨by kernel_rfl, fun _ _ => rfl⟩
theorem has411 : Go.Dv.Has pr xt F0 411 Go.Lib.M411 := ⟨by kernel_rfl, fun _ _ => rfl⟩
end Go.Proofs.YtffjinldphmhnaaGreat.sa
end

section
set_option maxRecDepth 100000
namespace Go.Proofs.YtffjinldphmhnaaGreat.sa
open Go.Vm
theorem awakeR : runs (mach []) ext0 1000000 32 [] Tryz.prog.globals.size = true := runs_of (by decide +kernel)
end Go.Proofs.YtffjinldphmhnaaGreat.sa
end

section
set_option maxRecDepth 100000
namespace Go.Proofs.YtffjinldphmhnaaGreat
open Go.RowKit Go.Maps Go.Sort Go.Shelf Go.Vm
attribute [local go_sem] Oper.semAt_some
def renK : Go.Shelf.Ren where
  f := fun x => match x with
    | 7 => 127
    | 10 => 153
    | n => n
  t := fun x => match x with
    | 23 => 82
    | 26 => 3
    | 3 => 52
    | 28 => 124
    | 0 => 0
    | 27 => 123
    | 33 => 75
    | 4 => 4
    | n => n
  g := fun x => x
theorem renKL : SlLaysZI.n7 Tryz.prog renK where
  mixed := by kernel_rfl
  f7 := ⟨Tryz.f127.name, by kernel_rfl, by kernel_rfl⟩
  f10 := ⟨Tryz.f153.name, by kernel_rfl, by kernel_rfl⟩
  t0 := by kernel_rfl
  a0 := fun w => by kernel_rfl
  z0 := fun w => by kernel_rfl
  v0 := fun w => by kernel_rfl
  t4 := by kernel_rfl
  a4 := fun w => by kernel_rfl
  z4 := fun w => by kernel_rfl
  v4 := fun w => by kernel_rfl
  t23 := by kernel_rfl
  a23 := fun w => by kernel_rfl
  z23 := fun w => by kernel_rfl
  v23 := fun w => by kernel_rfl
  t26 := by kernel_rfl
  a26 := fun w => by kernel_rfl
  z26 := fun w => by kernel_rfl
  v26 := fun w => by kernel_rfl
  t27 := by kernel_rfl
  a27 := fun w => by kernel_rfl
  z27 := fun w => by kernel_rfl
  v27 := fun w => by kernel_rfl
  t28 := by kernel_rfl
  a28 := fun w => by kernel_rfl
  z28 := fun w => by kernel_rfl
  v28 := fun w => by kernel_rfl
  t33 := by kernel_rfl
  a33 := fun w => by kernel_rfl
  z33 := fun w => by kernel_rfl
  v33 := fun w => by kernel_rfl
def renS : Go.Shelf.Ren where
  f := fun x => match x with
    | 6 => 64
    | 8 => 121
    | 9 => 71
    | 11 => 151
    | 13 => 129
    | 12 => 128
    | 23 => 163
    | 24 => 164
    | 14 => 154
    | 15 => 155
    | 16 => 156
    | 17 => 157
    | 18 => 158
    | 19 => 159
    | 20 => 160
    | 21 => 161
    | 22 => 162
    | 25 => 178
    | 26 => 179
    | 27 => 180
    | 28 => 181
    | 29 => 182
    | 30 => 146
    | 31 => 194
    | n => n
  t := fun x => match x with
    | 26 => 3
    | 28 => 124
    | 24 => 44
    | 0 => 0
    | 3 => 3
    | 37 => 58
    | 48 => 219
    | 50 => 221
    | 4 => 4
    | 40 => 213
    | 39 => 212
    | 45 => 34
    | 5 => 5
    | 9 => 9
    | 51 => 232
    | 55 => 236
    | 57 => 247
    | 58 => 86
    | 33 => 75
    | n => n
  g := fun x => x
theorem renSL : SlLaysZI.n6 Tryz.prog renS where
  mixed := by kernel_rfl
  f6 := ⟨Tryz.f64.name, by kernel_rfl, by kernel_rfl⟩
  f8 := ⟨Tryz.f121.name, by kernel_rfl, by kernel_rfl⟩
  f11 := ⟨Tryz.f151.name, by kernel_rfl, by kernel_rfl⟩
  t0 := by kernel_rfl
  a0 := fun w => by kernel_rfl
  z0 := fun w => by kernel_rfl
  v0 := fun w => by kernel_rfl
  t24 := by kernel_rfl
  a24 := fun w => by kernel_rfl
  z24 := fun w => by kernel_rfl
  v24 := fun w => by kernel_rfl
  t26 := by kernel_rfl
  a26 := fun w => by kernel_rfl
  z26 := fun w => by kernel_rfl
  v26 := fun w => by kernel_rfl
  t28 := by kernel_rfl
  a28 := fun w => by kernel_rfl
  z28 := fun w => by kernel_rfl
  v28 := fun w => by kernel_rfl
  i26 := by kernel_rfl
def renM : Go.Shelf.Ren where
  f := fun x => match x with
    | 5 => 71
    | 8 => 129
    | 7 => 128
    | 19 => 163
    | 20 => 164
    | 10 => 154
    | 11 => 155
    | 12 => 156
    | 13 => 157
    | 14 => 158
    | 15 => 159
    | 16 => 160
    | 17 => 161
    | 18 => 162
    | 30 => 178
    | 31 => 179
    | 32 => 180
    | 33 => 181
    | 34 => 182
    | 35 => 146
    | 40 => 194
    | n => n
  t := fun x => match x with
    | 23 => 44
    | 25 => 3
    | 3 => 3
    | 32 => 58
    | 22 => 44
    | 0 => 0
    | 44 => 219
    | 46 => 221
    | 4 => 4
    | 36 => 213
    | 35 => 212
    | 41 => 34
    | 5 => 5
    | 9 => 9
    | 53 => 232
    | 57 => 236
    | 63 => 247
    | 64 => 86
    | n => n
  g := fun x => x
theorem renML : SlLaysM.n5 Tryz.prog renM where
  mixed := by kernel_rfl
  f5 := ⟨Tryz.f71.name, by kernel_rfl, by kernel_rfl⟩
  f7 := ⟨Tryz.f128.name, by kernel_rfl, by kernel_rfl⟩
  f8 := by kernel_rfl
  f10 := ⟨Tryz.f154.name, by kernel_rfl, by kernel_rfl⟩
  f11 := ⟨Tryz.f155.name, by kernel_rfl, by kernel_rfl⟩
  f12 := ⟨Tryz.f156.name, by kernel_rfl, by kernel_rfl⟩
  f13 := ⟨Tryz.f157.name, by kernel_rfl, by kernel_rfl⟩
  f14 := ⟨Tryz.f158.name, by kernel_rfl, by kernel_rfl⟩
  f15 := ⟨Tryz.f159.name, by kernel_rfl, by kernel_rfl⟩
  f16 := ⟨Tryz.f160.name, by kernel_rfl, by kernel_rfl⟩
  f17 := ⟨Tryz.f161.name, by kernel_rfl, by kernel_rfl⟩
  f18 := ⟨Tryz.f162.name, by kernel_rfl, by kernel_rfl⟩
  f19 := by kernel_rfl
  f20 := by kernel_rfl
  f30 := ⟨Tryz.f178.name, by kernel_rfl, by kernel_rfl⟩
  f31 := by kernel_rfl
  f32 := by kernel_rfl
  f33 := ⟨Tryz.f181.name, by kernel_rfl, by kernel_rfl⟩
  f34 := ⟨Tryz.f182.name, by kernel_rfl, by kernel_rfl⟩
  f35 := ⟨Tryz.f146.name, by kernel_rfl, by kernel_rfl⟩
  f40 := ⟨Tryz.f194.name, by kernel_rfl, by kernel_rfl⟩
  t0 := by kernel_rfl
  a0 := fun w => by kernel_rfl
  z0 := fun w => by kernel_rfl
  v0 := fun w => by kernel_rfl
  t3 := by kernel_rfl
  a3 := fun w => by kernel_rfl
  z3 := fun w => by kernel_rfl
  v3 := fun w => by kernel_rfl
  t4 := by kernel_rfl
  a4 := fun w => by kernel_rfl
  z4 := fun w => by kernel_rfl
  v4 := fun w => by kernel_rfl
  t5 := by kernel_rfl
  a5 := fun w => by kernel_rfl
  z5 := fun w => by kernel_rfl
  v5 := fun w => by kernel_rfl
  t9 := by kernel_rfl
  a9 := fun w => by kernel_rfl
  z9 := fun w => by kernel_rfl
  v9 := fun w => by kernel_rfl
  t22 := by kernel_rfl
  a22 := fun w => by kernel_rfl
  z22 := fun w => by kernel_rfl
  v22 := fun w => by kernel_rfl
  t23 := by kernel_rfl
  a23 := fun w => by kernel_rfl
  z23 := fun w => by kernel_rfl
  v23 := fun w => by kernel_rfl
  t25 := by kernel_rfl
  a25 := fun w => by kernel_rfl
  z25 := fun w => by kernel_rfl
  v25 := fun w => by kernel_rfl
  t32 := by kernel_rfl
  a32 := fun w => by kernel_rfl
  z32 := fun w => by kernel_rfl
  v32 := fun w => by kernel_rfl
  t35 := by kernel_rfl
  a35 := fun w => by kernel_rfl
  z35 := fun w => by kernel_rfl
  v35 := fun w => by kernel_rfl
  t36 := by kernel_rfl
  a36 := fun w => by kernel_rfl
  z36 := fun w => by kernel_rfl
  v36 := fun w => by kernel_rfl
  t41 := by kernel_rfl
  a41 := fun w => by kernel_rfl
  z41 := fun w => by kernel_rfl
  v41 := fun w => by kernel_rfl
  t44 := by kernel_rfl
  a44 := fun w => by kernel_rfl
  z44 := fun w => by kernel_rfl
  v44 := fun w => by kernel_rfl
  t46 := by kernel_rfl
  a46 := fun w => by kernel_rfl
  z46 := fun w => by kernel_rfl
  v46 := fun w => by kernel_rfl
  t53 := by kernel_rfl
  a53 := fun w => by kernel_rfl
  z53 := fun w => by kernel_rfl
  v53 := fun w => by kernel_rfl
  t57 := by kernel_rfl
  a57 := fun w => by kernel_rfl
  z57 := fun w => by kernel_rfl
  v57 := fun w => by kernel_rfl
  t63 := by kernel_rfl
  a63 := fun w => by kernel_rfl
  z63 := fun w => by kernel_rfl
  v63 := fun w => by kernel_rfl
  t64 := by kernel_rfl
  a64 := fun w => by kernel_rfl
  z64 := fun w => by kernel_rfl
  v64 := fun w => by kernel_rfl
theorem sortsIn (m : Nat) : AnyZI.SortsIn Tryz.prog renS Fence.wide m :=
  ⟨fun blk off cap ss W hH hblk hsz => callsIn_wide.2 (AnyM.slices_Sort_int renML blk off cap ss W hH hblk hsz),
   fun p cap W => callsIn_wide.2 (AnyM.slices_Sort_int_none renML p cap W)⟩
theorem keysSorted : KeysSorted Tryz.prog 64 153 :=
  keysSorted_of (ρ := renK) (σ := renS) renKL renSL sortsIn (enters_of Tryz.func71 (by kernel_rfl) rfl) (enters_of Tryz.func153 (by kernel_rfl) rfl) (by kernel_rfl)
theorem intsSort : IntsSort Tryz.prog 71 where
  enters := by kernel_rfl
  some_ blk off cap zs w hH hb hz := AnyM.slices_Sort_int renML blk off cap zs w hH hb (Nat.lt_of_le_of_lt hz (by decide))
  none_ p cap w := AnyM.slices_Sort_int_none renML p cap w
def upto (f : Nat → Int) (k : Nat) : List Int := (List.range k).map f
theorem upto_succ (f : Nat → Int) (k : Nat) : upto f (k + 1) = upto f k ++ [f k] := by simp [upto, List.range_succ]
theorem upto_length (f : Nat → Int) (k : Nat) : (upto f k).length = k := by simp [upto]
theorem upto_all (zs : List Int) : upto (fun j => zs[j]?.getD 0) zs.length = zs := by
  apply List.ext_getElem
  · simp [upto]
  · intro i h1 h2
    simp [upto, h2]
set_option maxHeartbeats 2000000 in
theorem values_in (n : Nat) (hn : 1 ≤ n) (l Bs n₀ b off len cap : Nat) (zs : List Int) (hreach : len * 8 ≤ 140737488351232) (hb : b < n₀) (J : List Int → World → Prop)
    (hY : ∀ pre x W, J pre W → pre.length < len → YieldAt Fence.wide (n - 1) Tryz.prog l #[.int .i64 x] W fun e W' => e = .returned (.bool true) ∧ J (pre ++ [x]) W' ∧ Below n₀ W W')
    (W : World) (hBs : W.cell? ⟨Bs, 0, none⟩ = some (.slice (some ⟨b, off, none⟩) len cap)) (hc : ∀ j, j < len → W.cell? ⟨b, off + j, none⟩ = some (.int .i64 (zs[j]?.getD 0))) (h0 : J [] W) :
    CallsIn Fence.wide n Tryz.prog 122 #[.func (.yield l) #[] #[], .pointer (some ⟨Bs, 0, none⟩)] W fun e W' => (∃ v, e = .returned v) ∧ J (upto (fun j => zs[j]?.getD 0) len) W' := by
  have hro : Fence.wide.round = none := rfl
  refine callsIn_of_wp Tryz.func122 rfl trivial ?_ hro
  simp only [Tryz.ntmps122, List.size_toArray, List.length_cons, List.length_nil, Nat.reduceAdd, Nat.reduceSub, Array.replicate_succ, Array.replicate_zero, List.push_toArray, List.append_toArray, List.nil_append, List.cons_append]
  gi_wp2
  gi_loopw [7] (fun i wr => ∃ k : Nat, k ≤ len ∧ i = .int .i64 k ∧ J (upto (fun j => zs[j]?.getD 0) k) wr ∧ Below n₀ W wr)
    (fun i _ => len - (numKey i).toNat)
  case atStart => exact ⟨0, Nat.zero_le _, rfl, h0, Below.refl _ _⟩
  case round =>
    obtain ⟨k, hk, rfl, hJs, hnx⟩ := hrel
    have hcx : k < len → wr.cell? ⟨b, off + k, none⟩ = some (.int .i64 (zs[k]?.getD 0)) := fun h => (hnx.cell (p := ⟨b, off + k, none⟩) hb).trans (hc k h)
    by_cases hlt : k < len
    · obtain ⟨fn, tmps, assign, body, hy, hR⟩ := hY _ (zs[k]?.getD 0) wr hJs (by rw [upto_length]; exact hlt)
      have hcx' := hcx hlt
      gi_wp2
      refine hR.mono ?_
      rintro e W3 ⟨rfl, hJ3, hk3⟩
      gi_wp2
      go_roundw
      case rel => exact ⟨k + 1, by omega, by simp, by rw [upto_succ]; exact hJ3, hnx.trans hk3⟩
      case measure => simp [numKey]; omega
    · obtain rfl : k = len := by omega
      gi_wp2
      go_end0
      exact ⟨⟨_, rfl⟩, hJs⟩
set_option maxHeartbeats 1000000 in
theorem values_nil_in (n : Nat) (l Bs : Nat) (a : Option Addr) (cc : Nat) (J : List Int → World → Prop) (W : World) (hBs : W.cell? ⟨Bs, 0, none⟩ = some (.slice a 0 cc)) (h0 : J [] W) :
    CallsIn Fence.wide n Tryz.prog 122 #[.func (.yield l) #[] #[], .pointer (some ⟨Bs, 0, none⟩)] W fun e W' => (∃ v, e = .returned v) ∧ J [] W' := by
  have hro : Fence.wide.round = none := rfl
  refine callsIn_of_wp Tryz.func122 rfl trivial ?_ hro
  simp only [Tryz.ntmps122, List.size_toArray, List.length_cons, List.length_nil, Nat.reduceAdd, Nat.reduceSub, Array.replicate_succ, Array.replicate_zero, List.push_toArray, List.append_toArray, List.nil_append, List.cons_append]
  gi_wp2
  gi_loopw [7] (fun i wr => i = .int .i64 0 ∧ J [] wr) (fun _ _ => 0)
  case atStart => exact ⟨rfl, h0⟩
  case round =>
    obtain ⟨rfl, hJs⟩ := hrel
    gi_wp2
    go_end0
    exact ⟨⟨_, rfl⟩, hJs⟩
theorem valuesApp : ValuesApp Tryz.prog 151 122 where
  enters := by kernel_rfl
  some_ w Bm b off len cap zs hc hz hl hcs hBm hb := by
    refine (callsIn_wide (n := 4)).1 ?_
    have hseq : SeqGivesB 3 Tryz.prog 122 #[.pointer (some ⟨Bm, 0, none⟩)] (fun xs => xs = zs) len w := by
      intro l J W hW hJb hY hJ0
      have hc' := (hW.cell (p := ⟨Bm, 0, none⟩) hBm).trans hc
      refine (values_in 3 (by omega) l Bm w.heap.size b off len cap zs (by omega) hb J (fun pre x W1 hJ1 hlen => ?_) W hc' (fun j hj => (hW.cell (p := ⟨b, off + j, none⟩) hb).trans (hcs j hj)) hJ0).mono ?_
      · obtain ⟨fn, tmps, assign, body, hy, hR⟩ := hY pre x W1 hJ1 hlen
        refine ⟨fn, tmps, assign, body, hy, hR.mono ?_⟩
        rintro e W' ⟨rfl, k1, k2⟩
        exact ⟨rfl, k1, below_pair (hJb _ _ hJ1) (hJb _ _ k1) k2.size⟩
      · rintro e W' ⟨he, hj⟩
        refine ⟨he, _, rfl, ?_⟩
        rw [← hz, upto_all] at hj
        exact hj
    have hml : (1000000 : Nat) ≤ maxLen := by decide
    refine (appendB_in (ρ := renS) { renSL with } 4 (by omega) 122 _ (enters_of Tryz.func122 (by kernel_rfl) rfl) _ len (Nat.le_trans hl hml) (by omega) w hseq).mono ?_
    rintro e w' ⟨v, ss, rfl, rfl, hrow, hnil, hb'⟩
    exact ⟨v, _, rfl, hrow, hnil, hb'⟩
  none_ w Bm a cc hc hBm := by
    refine (callsIn_wide (n := 4)).1 ?_
    have hseq : SeqGivesB 3 Tryz.prog 122 #[.pointer (some ⟨Bm, 0, none⟩)] (fun xs => xs = []) 0 w := by
      intro l J W hW hJb hY hJ0
      have hc' := (hW.cell (p := ⟨Bm, 0, none⟩) hBm).trans hc
      exact (values_nil_in 3 l Bm a cc J W hc' hJ0).mono fun e W' ⟨he, hj⟩ => ⟨he, [], rfl, hj⟩
    refine (appendB_in (ρ := renS) { renSL with } 4 (by omega) 122 _ (enters_of Tryz.func122 (by kernel_rfl) rfl) _ 0 (Nat.zero_le _) (by omega) w hseq).mono ?_
    rintro e w' ⟨v, ss, rfl, rfl, hrow, hnil, hb'⟩
    exact ⟨by rw [hnil.2 rfl], hb'⟩
end Go.Proofs.YtffjinldphmhnaaGreat
end

section
set_option maxRecDepth 100000
namespace Go.Proofs.YtffjinldphmhnaaGreat.sa
open Go.Vm Go.Dv Go.Lib
theorem hawake : FnD pr xt (F0 412) [] (.lit (.bool true)) := by
  intro H ψ S h vs s k
  simp only [VDl] at k
  subst k
  refine wpc_ext (v := .bool true) (h' := h) rfl ⟨ψ, S, _, H, .refl, s, ?_, rfl, rfl⟩
  simp [VD, atomV]
theorem hschm : HSchmR pr xt F0 := ⟨has4, has5, has13, has14⟩
theorem hfit : HFit pr xt F0 := ⟨has220, has239, has255, has264, has265, has266, has268, has279⟩
theorem hdelt : HDelt pr xt F0 := ⟨hschm, has315, has316, has318, has319, has320, has321, has327⟩
theorem htabl : HTabl pr xt F0 := ⟨hfit, hdelt, has303, has304, has305, has306, has307, has308, has309, has314, has317⟩
theorem hlaw : HOwn14 pr xt F0 := ⟨htabl, ⟨⟨has23, has25⟩, has24⟩, ⟨has49, has50⟩, hawake, has411⟩
theorem mixed : Tryz.prog.follows .mixedOrders = true := by kernel_rfl
theorem ext0_rises : Rises ext0 := orX_rises (sortedX_rises _ _) (orX_rises (valuesX_rises _ _) (orX_rises (sortX_rises _) (extBy_rises _)))
theorem ext0_ok {env : Env} : CallOk Tryz.prog env ext0 := orX_ok (sorted_ok keysSorted) (orX_ok (values_ok valuesApp) (orX_ok (sort_ok intsSort) (extBy_ok extsOk)))
theorem xt_ok {env : Env} : CallOk Tryz.prog env xt := orX_ok (constX_ok mixed (valid []) ext0_rises ext0_ok rfl intsOk (n := 1000000) fun f hf => by
  rcases List.mem_cons.1 hf with rfl | hf
  · exact ⟨by kernel_rfl, awakeR⟩
  · cases hf) ext0_ok
theorem xt_rises : Rises xt := orX_rises (constX_rises _) ext0_rises
end Go.Proofs.YtffjinldphmhnaaGreat.sa
end
