/-
  The functions of this seat's program as the small machine's, written by a program of mine (vmprint.lean): part 1.
-/
import Derived.Test.YtcoghkkhjaokmaaGreatDoorRows
import Derived.Test.YtcoghkkhjaokmaaGreatDoorVmTop
set_option maxRecDepth 100000
namespace Go.Proofs.YtcoghkkhjaokmaaGreatDoor
open Go.Vm
def m96 : Fun := ⟨9,2,.seq (.region [⟨(some 4),(.p (.mov (.val (.bool false)))),none⟩])
 (.seq (.region [⟨(some 5),(.p (.mov (.tmp 0))),none⟩,⟨(some 6),(.p (.mov (.tmp 1))),none⟩,⟨(some 7),(.e (.call 128 [(.tmp 5),(.tmp 6)])),none⟩,⟨(some 8),(.p (.bin .geq (.tmp 7) (.val (.int .i64 (.ofNat 0))))),none⟩,⟨(some 4),(.p (.mov (.tmp 8))),none⟩])
 (.ret)),[.tmp 4]⟩
theorem v96 : IsFun Tryz.prog 96 m96 := ⟨_, Tryz.func96, by kernel_rfl, by kernel_rfl⟩
def m97 : Fun := ⟨11,2,.seq (.region [⟨(some 2),(.a (.box (.tmp 0))),none⟩,⟨(some 4),(.p (.mov (.val (.str [])))),none⟩])
 (.seq (.region [⟨(some 5),(.p (.faddr 0 (.tmp 2))),none⟩,⟨(some 6),(.load1 (.tmp 5)),none⟩,⟨(some 7),(.p (.mov (.tmp 1))),none⟩,⟨(some 8),(.p (.iaddr 3 (.tmp 6) (.tmp 7))),none⟩,⟨(some 9),(.p (.faddr 0 (.tmp 8))),none⟩,⟨(some 10),(.load1 (.tmp 9)),none⟩,⟨(some 4),(.p (.mov (.tmp 10))),none⟩])
 (.ret)),[.tmp 4]⟩
theorem v97 : IsFun Tryz.prog 97 m97 := ⟨_, Tryz.func97, by kernel_rfl, by kernel_rfl⟩
def m98 : Fun := ⟨2,0,.seq (.region [⟨(some 0),(.p (.mov (.val (.nilslice)))),none⟩])
 (.seq (.region [⟨(some 1),(.a (.bslice [.str [],.str [],.str [],.str [],.str []] 1 5 [(0,1,(.val (.str []))),(1,1,(.val (.str [99,111,117,110,116]))),(2,1,(.val (.str [115,117,109]))),(3,1,(.val (.str [109,105,110]))),(4,1,(.val (.str [109,97,120])))])),none⟩,⟨(some 0),(.p (.mov (.tmp 1))),none⟩])
 (.ret)),[.tmp 0]⟩
theorem v98 : IsFun Tryz.prog 98 m98 := ⟨_, Tryz.func98, by kernel_rfl, by kernel_rfl⟩
def m100 : Fun := ⟨98,2,.seq (.region [⟨(some 2),(.a (.box (.tmp 0))),none⟩,⟨(some 4),(.a (.new [.int .i64 (.ofNat 0),.nilslice,.int .i64 (.ofNat 0),.int .i64 (.ofNat 0),.int .i64 (.ofNat 0),.bool false,.int .i64 (.ofNat 0),.int .i64 (.ofNat 0),.nilslice,.nilslice,.nilslice,.nilslice,.int .i64 (.ofNat 0),.nilslice])),none⟩,⟨(some 5),(.p (.mov (.val (.bool false)))),none⟩])
 (.seq (.region [⟨(some 23),(.p (.mov (.tmp 1))),none⟩,⟨(some 24),(.e (.call 57 [(.tmp 23),(.val (.str [32]))])),none⟩,⟨(some 22),(.p (.mov (.tmp 24))),none⟩,⟨(some 25),(.p (.ext (.tmp 22) 0)),none⟩,⟨(some 26),(.p (.ext (.tmp 22) 1)),none⟩,⟨(some 27),(.p (.ext (.tmp 22) 2)),none⟩,⟨(some 6),(.p (.mov (.tmp 25))),none⟩,⟨(some 7),(.p (.mov (.tmp 26))),none⟩,⟨(some 8),(.p (.mov (.tmp 27))),none⟩])
 (.seq (.seq (.region [⟨(some 28),(.p (.mov (.tmp 6))),none⟩])
 (.block 0 (.seq (.region [⟨(some 30),(.p (.bin .eql (.tmp 28) (.val (.str [105,110,115,101,114,116])))),none⟩,⟨(some 29),(.p (.mov (.tmp 30))),none⟩])
 (.cond (.tmp 29) (.seq (.region [⟨(some 32),(.p (.mov (.tmp 7))),none⟩,⟨(some 33),(.p (.mkfunc 133 [] [(.tmp 2)])),none⟩,⟨(some 34),(.e (.call 132 [(.tmp 32),(.tmp 33)])),none⟩,⟨(some 31),(.p (.mov (.tmp 34))),none⟩,⟨(some 35),(.p (.ext (.tmp 31) 0)),none⟩,⟨(some 36),(.p (.ext (.tmp 31) 1)),none⟩,⟨(some 9),(.p (.mov (.tmp 35))),none⟩,⟨(some 10),(.p (.mov (.tmp 36))),none⟩])
 (.seq (.region [⟨(some 37),(.p (.mov (.tmp 9))),none⟩,⟨(some 38),(.p (.build [.int .i64 (.ofNat 0),.nilslice,.int .i64 (.ofNat 0),.int .i64 (.ofNat 0),.int .i64 (.ofNat 0),.bool false,.int .i64 (.ofNat 0),.int .i64 (.ofNat 0),.nilslice,.nilslice,.nilslice,.nilslice,.int .i64 (.ofNat 0),.nilslice] [(0,1,(.val (.int .i64 (.ofNat 1)))),(1,1,(.tmp 37))])),none⟩,⟨(some 39),(.p (.mov (.tmp 10))),none⟩,⟨none,(.e (.store 14 (.tmp 4) (.tmp 38))),none⟩,⟨(some 5),(.p (.mov (.tmp 39))),none⟩])
 (.ret)))
 (.seq (.region [⟨(some 41),(.p (.bin .eql (.tmp 28) (.val (.str [117,112,100,97,116,101])))),none⟩,⟨(some 40),(.p (.mov (.tmp 41))),none⟩])
 (.cond (.tmp 40) (.seq (.region [⟨(some 43),(.p (.mov (.tmp 7))),none⟩,⟨(some 44),(.p (.mkfunc 135 [] [(.tmp 2)])),none⟩,⟨(some 45),(.e (.call 134 [(.tmp 43),(.tmp 44)])),none⟩,⟨(some 42),(.p (.mov (.tmp 45))),none⟩,⟨(some 46),(.p (.ext (.tmp 42) 0)),none⟩,⟨(some 47),(.p (.ext (.tmp 42) 1)),none⟩,⟨(some 11),(.p (.mov (.tmp 46))),none⟩,⟨(some 12),(.p (.mov (.tmp 47))),none⟩])
 (.seq (.region [⟨(some 48),(.p (.mov (.tmp 11))),none⟩,⟨(some 49),(.p (.build [.int .i64 (.ofNat 0),.nilslice,.int .i64 (.ofNat 0),.int .i64 (.ofNat 0),.int .i64 (.ofNat 0),.bool false,.int .i64 (.ofNat 0),.int .i64 (.ofNat 0),.nilslice,.nilslice,.nilslice,.nilslice,.int .i64 (.ofNat 0),.nilslice] [(0,1,(.val (.int .i64 (.ofNat 2)))),(10,1,(.tmp 48))])),none⟩,⟨(some 50),(.p (.mov (.tmp 12))),none⟩,⟨none,(.e (.store 14 (.tmp 4) (.tmp 49))),none⟩,⟨(some 5),(.p (.mov (.tmp 50))),none⟩])
 (.ret)))
 (.seq (.region [⟨(some 52),(.p (.bin .eql (.tmp 28) (.val (.str [100,101,108,101,116,101])))),none⟩,⟨(some 51),(.p (.mov (.tmp 52))),none⟩])
 (.cond (.tmp 51) (.seq (.region [⟨(some 53),(.p (.build [.int .i64 (.ofNat 0),.nilslice,.int .i64 (.ofNat 0),.int .i64 (.ofNat 0),.int .i64 (.ofNat 0),.bool false,.int .i64 (.ofNat 0),.int .i64 (.ofNat 0),.nilslice,.nilslice,.nilslice,.nilslice,.int .i64 (.ofNat 0),.nilslice] [(0,1,(.val (.int .i64 (.ofNat 3))))])),none⟩,⟨none,(.e (.store 14 (.tmp 4) (.tmp 53))),none⟩,⟨(some 5),(.p (.mov (.val (.bool true)))),none⟩])
 (.ret))
 (.seq (.region [⟨(some 55),(.p (.bin .eql (.tmp 28) (.val (.str [115,99,97,110])))),none⟩,⟨(some 54),(.p (.mov (.tmp 55))),none⟩])
 (.cond (.tmp 54) (.seq (.region [⟨(some 57),(.p (.mov (.tmp 7))),none⟩,⟨(some 58),(.p (.mkfunc 138 [] [(.tmp 2)])),none⟩,⟨(some 59),(.e (.call 137 [(.tmp 57),(.tmp 58)])),none⟩,⟨(some 56),(.p (.mov (.tmp 59))),none⟩,⟨(some 60),(.p (.ext (.tmp 56) 0)),none⟩,⟨(some 61),(.p (.ext (.tmp 56) 1)),none⟩,⟨(some 13),(.p (.mov (.tmp 60))),none⟩,⟨(some 14),(.p (.mov (.tmp 61))),none⟩])
 (.seq (.region [⟨(some 62),(.p (.mov (.tmp 13))),none⟩,⟨(some 63),(.p (.build [.int .i64 (.ofNat 0),.nilslice,.int .i64 (.ofNat 0),.int .i64 (.ofNat 0),.int .i64 (.ofNat 0),.bool false,.int .i64 (.ofNat 0),.int .i64 (.ofNat 0),.nilslice,.nilslice,.nilslice,.nilslice,.int .i64 (.ofNat 0),.nilslice] [(0,1,(.val (.int .i64 (.ofNat 4)))),(11,1,(.tmp 62))])),none⟩,⟨(some 64),(.p (.mov (.tmp 14))),none⟩,⟨none,(.e (.store 14 (.tmp 4) (.tmp 63))),none⟩,⟨(some 5),(.p (.mov (.tmp 64))),none⟩])
 (.ret)))
 (.seq (.region [⟨(some 66),(.p (.bin .eql (.tmp 28) (.val (.str [97,103,103])))),none⟩,⟨(some 65),(.p (.mov (.tmp 66))),none⟩])
 (.cond (.tmp 65) (.seq (.region [⟨(some 68),(.p (.mov (.tmp 7))),none⟩,⟨(some 69),(.e (.call 57 [(.tmp 68),(.val (.str [32]))])),none⟩,⟨(some 67),(.p (.mov (.tmp 69))),none⟩,⟨(some 70),(.p (.ext (.tmp 67) 0)),none⟩,⟨(some 71),(.p (.ext (.tmp 67) 1)),none⟩,⟨(some 72),(.p (.ext (.tmp 67) 2)),none⟩,⟨(some 15),(.p (.mov (.tmp 70))),none⟩,⟨(some 16),(.p (.mov (.tmp 71))),none⟩,⟨(some 17),(.p (.mov (.tmp 72))),none⟩])
 (.seq (.region [⟨(some 74),(.loadn 1 (.tmp 2)),none⟩,⟨(some 75),(.p (.mov (.tmp 15))),none⟩,⟨(some 76),(.e (.call 120 [(.tmp 74),(.tmp 75)])),none⟩,⟨(some 73),(.p (.mov (.tmp 76))),none⟩,⟨(some 77),(.p (.ext (.tmp 73) 0)),none⟩,⟨(some 78),(.p (.ext (.tmp 73) 1)),none⟩,⟨(some 18),(.p (.mov (.tmp 77))),none⟩,⟨(some 19),(.p (.mov (.tmp 78))),none⟩])
 (.seq (.seq (.region [⟨(some 79),(.p (.mov (.tmp 15))),none⟩,⟨(some 80),(.p (.bin .eql (.tmp 79) (.val (.str [45])))),none⟩])
 (.cond (.tmp 80) (.region [⟨(some 18),(.p (.mov (.val (.int .i64 (.negSucc 0))))),none⟩,⟨(some 19),(.p (.mov (.val (.bool true)))),none⟩])
 (.skip)))
 (.seq (.region [⟨(some 82),(.p (.mov (.tmp 16))),none⟩,⟨(some 83),(.p (.mkfunc 140 [] [(.tmp 2)])),none⟩,⟨(some 84),(.e (.call 139 [(.tmp 82),(.tmp 83)])),none⟩,⟨(some 81),(.p (.mov (.tmp 84))),none⟩,⟨(some 85),(.p (.ext (.tmp 81) 0)),none⟩,⟨(some 86),(.p (.ext (.tmp 81) 1)),none⟩,⟨(some 20),(.p (.mov (.tmp 85))),none⟩,⟨(some 21),(.p (.mov (.tmp 86))),none⟩])
 (.seq (.region [⟨(some 87),(.p (.mov (.tmp 18))),none⟩,⟨(some 88),(.p (.mov (.tmp 20))),none⟩,⟨(some 89),(.p (.build [.int .i64 (.ofNat 0),.nilslice,.int .i64 (.ofNat 0),.int .i64 (.ofNat 0),.int .i64 (.ofNat 0),.bool false,.int .i64 (.ofNat 0),.int .i64 (.ofNat 0),.nilslice,.nilslice,.nilslice,.nilslice,.int .i64 (.ofNat 0),.nilslice] [(0,1,(.val (.int .i64 (.ofNat 5)))),(12,1,(.tmp 87)),(13,1,(.tmp 88))])),none⟩,⟨(some 90),(.p (.mov (.tmp 19))),none⟩,⟨(some 91),(.p (.mov (.tmp 90))),none⟩,⟨(some 92),(.p (.mov (.tmp 21))),(some (91,true))⟩,⟨(some 93),(.p (.pick (.tmp 91) (.tmp 92) (.val (.bool false)))),none⟩,⟨none,(.e (.store 14 (.tmp 4) (.tmp 89))),none⟩,⟨(some 5),(.p (.mov (.tmp 93))),none⟩])
 (.ret))))))
 (.seq (.region [⟨(some 95),(.p (.bin .eql (.tmp 28) (.val (.str [114,111,108,108,98,97,99,107])))),none⟩,⟨(some 94),(.p (.mov (.tmp 95))),none⟩])
 (.cond (.tmp 94) (.seq (.region [⟨(some 96),(.p (.build [.int .i64 (.ofNat 0),.nilslice,.int .i64 (.ofNat 0),.int .i64 (.ofNat 0),.int .i64 (.ofNat 0),.bool false,.int .i64 (.ofNat 0),.int .i64 (.ofNat 0),.nilslice,.nilslice,.nilslice,.nilslice,.int .i64 (.ofNat 0),.nilslice] [(0,1,(.val (.int .i64 (.ofNat 6))))])),none⟩,⟨none,(.e (.store 14 (.tmp 4) (.tmp 96))),none⟩,⟨(some 5),(.p (.mov (.val (.bool true)))),none⟩])
 (.ret))
 (.skip)))))))))))))))
 (.seq (.region [⟨(some 97),(.p (.build [.int .i64 (.ofNat 0),.nilslice,.int .i64 (.ofNat 0),.int .i64 (.ofNat 0),.int .i64 (.ofNat 0),.bool false,.int .i64 (.ofNat 0),.int .i64 (.ofNat 0),.nilslice,.nilslice,.nilslice,.nilslice,.int .i64 (.ofNat 0),.nilslice] [])),none⟩,⟨none,(.e (.store 14 (.tmp 4) (.tmp 97))),none⟩,⟨(some 5),(.p (.mov (.val (.bool false)))),none⟩])
 (.ret)))),[.celln 14 4,.tmp 5]⟩
theorem v100 : IsFun Tryz.prog 100 m100 := ⟨_, Tryz.func100, by kernel_rfl, by kernel_rfl⟩
def m108 : Fun := ⟨112,2,.seq (.region [⟨(some 2),(.a (.box (.tmp 0))),none⟩,⟨(some 3),(.a (.box (.tmp 1))),none⟩,⟨(some 4),(.p (.mov (.val (.bool false)))),none⟩])
 (.seq (.region [⟨(some 6),(.p (.faddr 1 (.tmp 3))),none⟩,⟨(some 7),(.load1 (.tmp 6)),none⟩,⟨(some 8),(.p (.bin .geq (.tmp 7) (.val (.int .i64 (.ofNat 0))))),none⟩,⟨(some 9),(.p (.mov (.tmp 8))),none⟩,⟨(some 10),(.p (.faddr 1 (.tmp 3))),(some (9,true))⟩,⟨(some 11),(.load1 (.tmp 10)),(some (9,true))⟩,⟨(some 12),(.p (.faddr 0 (.tmp 2))),(some (9,true))⟩,⟨(some 13),(.load1 (.tmp 12)),(some (9,true))⟩,⟨(some 14),(.p (.lenb (.tmp 13))),(some (9,true))⟩,⟨(some 15),(.p (.bin .lss (.tmp 11) (.tmp 14))),(some (9,true))⟩,⟨(some 16),(.p (.pick (.tmp 9) (.tmp 15) (.val (.bool false)))),none⟩,⟨(some 5),(.p (.mov (.tmp 16))),none⟩])
 (.seq (.seq (.region [⟨(some 17),(.p (.faddr 0 (.tmp 3))),none⟩,⟨(some 18),(.load1 (.tmp 17)),none⟩])
 (.block 0 (.seq (.region [⟨(some 20),(.p (.bin .eql (.tmp 18) (.val (.int .i64 (.ofNat 1))))),none⟩,⟨(some 19),(.p (.mov (.tmp 20))),none⟩])
 (.cond (.tmp 19) (.seq (.region [⟨(some 21),(.loadn 8 (.tmp 3)),none⟩,⟨(some 22),(.e (.call 147 [(.tmp 21)])),none⟩,⟨(some 23),(.p (.mov (.tmp 22))),none⟩,⟨(some 24),(.p (.faddr 7 (.tmp 3))),(some (23,true))⟩,⟨(some 25),(.load1 (.tmp 24)),(some (23,true))⟩,⟨(some 26),(.p (.lenb (.tmp 25))),(some (23,true))⟩,⟨(some 27),(.p (.bin .eql (.tmp 26) (.val (.int .i64 (.ofNat 0))))),(some (23,true))⟩,⟨(some 28),(.p (.pick (.tmp 23) (.tmp 27) (.val (.bool false)))),none⟩,⟨(some 4),(.p (.mov (.tmp 28))),none⟩])
 (.ret))
 (.seq (.region [⟨(some 30),(.p (.bin .eql (.tmp 18) (.val (.int .i64 (.ofNat 2))))),none⟩,⟨(some 29),(.p (.mov (.tmp 30))),none⟩])
 (.cond (.tmp 29) (.seq (.dregion [⟨⟨(some 31),(.p (.mov (.tmp 5))),none⟩,0,14⟩,⟨⟨(some 32),(.p (.mov (.tmp 31))),none⟩,0,14⟩,⟨⟨(some 33),(.p (.faddr 2 (.tmp 3))),(some (32,true))⟩,0,14⟩,⟨⟨(some 34),(.load1 (.tmp 33)),(some (32,true))⟩,0,14⟩,⟨⟨(some 35),(.p (.bin .geq (.tmp 34) (.val (.int .i64 (.ofNat 1))))),(some (32,true))⟩,0,14⟩,⟨⟨(some 36),(.p (.pick (.tmp 32) (.tmp 35) (.val (.bool false)))),none⟩,0,14⟩,⟨⟨(some 37),(.p (.mov (.tmp 36))),none⟩,0,14⟩,⟨⟨(some 38),(.p (.faddr 2 (.tmp 3))),(some (37,true))⟩,0,14⟩,⟨⟨(some 39),(.load1 (.tmp 38)),(some (37,true))⟩,0,14⟩,⟨⟨(some 40),(.p (.bin .leq (.tmp 39) (.val (.int .i64 (.ofNat 6))))),(some (37,true))⟩,0,14⟩,⟨⟨(some 41),(.p (.pick (.tmp 37) (.tmp 40) (.val (.bool false)))),none⟩,0,14⟩,⟨⟨(some 42),(.p (.mov (.tmp 41))),none⟩,0,14⟩,⟨⟨(some 43),(.p (.faddr 3 (.tmp 3))),(some (42,true))⟩,0,14⟩,⟨⟨(some 44),(.loadn 4 (.tmp 43)),(some (42,true))⟩,0,14⟩,⟨⟨(some 45),(.e (.call 40 [(.tmp 44)])),(some (42,true))⟩,0,42⟩,⟨⟨(some 46),(.p (.pick (.tmp 42) (.tmp 45) (.val (.bool false)))),none⟩,15,42⟩,⟨⟨(some 47),(.p (.mov (.tmp 46))),none⟩,15,42⟩,⟨⟨(some 48),(.p (.faddr 3 (.tmp 3))),(some (47,true))⟩,15,42⟩,⟨⟨(some 49),(.p (.faddr 0 (.tmp 48))),(some (47,true))⟩,15,42⟩,⟨⟨(some 50),(.load1 (.tmp 49)),(some (47,true))⟩,15,42⟩,⟨⟨(some 51),(.p (.not (.tmp 50))),(some (47,true))⟩,15,42⟩,⟨⟨(some 52),(.p (.pick (.tmp 47) (.tmp 51) (.val (.bool false)))),none⟩,15,42⟩,⟨⟨(some 53),(.p (.mov (.tmp 52))),none⟩,15,42⟩,⟨⟨(some 54),(.p (.faddr 3 (.tmp 3))),(some (53,true))⟩,15,42⟩,⟨⟨(some 55),(.p (.faddr 1 (.tmp 54))),(some (53,true))⟩,15,42⟩,⟨⟨(some 56),(.load1 (.tmp 55)),(some (53,true))⟩,15,42⟩,⟨⟨(some 57),(.p (.faddr 0 (.tmp 2))),(some (53,true))⟩,15,42⟩,⟨⟨(some 58),(.load1 (.tmp 57)),(some (53,true))⟩,15,42⟩,⟨⟨(some 59),(.p (.faddr 1 (.tmp 3))),(some (53,true))⟩,15,42⟩,⟨⟨(some 60),(.load1 (.tmp 59)),(some (53,true))⟩,15,42⟩,⟨⟨(some 61),(.p (.iaddr 3 (.tmp 58) (.tmp 60))),(some (53,true))⟩,15,42⟩,⟨⟨(some 62),(.p (.faddr 1 (.tmp 61))),(some (53,true))⟩,15,42⟩,⟨⟨(some 63),(.load1 (.tmp 62)),(some (53,true))⟩,15,42⟩,⟨⟨(some 64),(.p (.bin .eql (.tmp 56) (.tmp 63))),(some (53,true))⟩,15,42⟩,⟨⟨(some 65),(.p (.pick (.tmp 53) (.tmp 64) (.val (.bool false)))),none⟩,15,42⟩,⟨⟨(some 66),(.p (.mov (.tmp 65))),none⟩,15,42⟩,⟨⟨(some 67),(.p (.faddr 7 (.tmp 3))),(some (66,true))⟩,15,42⟩,⟨⟨(some 68),(.load1 (.tmp 67)),(some (66,true))⟩,15,42⟩,⟨⟨(some 69),(.p (.lenb (.tmp 68))),(some (66,true))⟩,15,42⟩,⟨⟨(some 70),(.p (.bin .eql (.tmp 69) (.val (.int .i64 (.ofNat 0))))),(some (66,true))⟩,15,42⟩,⟨⟨(some 71),(.p (.pick (.tmp 66) (.tmp 70) (.val (.bool false)))),none⟩,15,42⟩,⟨⟨(some 4),(.p (.mov (.tmp 71))),none⟩,15,42⟩])
 (.ret))
 (.seq (.region [⟨(some 73),(.p (.bin .eql (.tmp 18) (.val (.int .i64 (.ofNat 3))))),none⟩,⟨(some 72),(.p (.mov (.tmp 73))),none⟩])
 (.cond (.tmp 72) (.seq (.region [⟨(some 74),(.p (.mov (.tmp 5))),none⟩,⟨(some 75),(.p (.mov (.tmp 74))),none⟩,⟨(some 76),(.p (.faddr 2 (.tmp 3))),(some (75,true))⟩,⟨(some 77),(.load1 (.tmp 76)),(some (75,true))⟩,⟨(some 78),(.p (.bin .eql (.tmp 77) (.val (.int .i64 (.ofNat 0))))),(some (75,true))⟩,⟨(some 79),(.p (.pick (.tmp 75) (.tmp 78) (.val (.bool false)))),none⟩,⟨(some 80),(.p (.mov (.tmp 79))),none⟩,⟨(some 81),(.p (.faddr 3 (.tmp 3))),(some (80,true))⟩,⟨(some 82),(.loadn 4 (.tmp 81)),(some (80,true))⟩,⟨(some 83),(.e (.call 148 [(.tmp 82)])),(some (80,true))⟩,⟨(some 84),(.p (.pick (.tmp 80) (.tmp 83) (.val (.bool false)))),none⟩,⟨(some 85),(.p (.mov (.tmp 84))),none⟩,⟨(some 86),(.p (.faddr 7 (.tmp 3))),(some (85,true))⟩,⟨(some 87),(.load1 (.tmp 86)),(some (85,true))⟩,⟨(some 88),(.p (.lenb (.tmp 87))),(some (85,true))⟩,⟨(some 89),(.p (.bin .eql (.tmp 88) (.val (.int .i64 (.ofNat 0))))),(some (85,true))⟩,⟨(some 90),(.p (.pick (.tmp 85) (.tmp 89) (.val (.bool false)))),none⟩,⟨(some 4),(.p (.mov (.tmp 90))),none⟩])
 (.ret))
 (.seq (.seq (.region [⟨(some 92),(.p (.bin .eql (.tmp 18) (.val (.int .i64 (.ofNat 4))))),none⟩,⟨(some 91),(.p (.mov (.tmp 92))),none⟩])
 (.cond (.tmp 91) (.skip)
 (.region [⟨(some 93),(.p (.bin .eql (.tmp 18) (.val (.int .i64 (.ofNat 5))))),none⟩,⟨(some 91),(.p (.mov (.tmp 93))),none⟩])))
 (.cond (.tmp 91) (.seq (.region [⟨(some 94),(.loadn 8 (.tmp 3)),none⟩,⟨(some 95),(.e (.call 147 [(.tmp 94)])),none⟩,⟨(some 96),(.p (.mov (.tmp 95))),none⟩,⟨(some 97),(.p (.faddr 7 (.tmp 3))),(some (96,true))⟩,⟨(some 98),(.load1 (.tmp 97)),(some (96,true))⟩,⟨(some 99),(.p (.lenb (.tmp 98))),(some (96,true))⟩,⟨(some 100),(.p (.bin .leq (.tmp 99) (.val (.int .i64 (.ofNat 8))))),(some (96,true))⟩,⟨(some 101),(.p (.pick (.tmp 96) (.tmp 100) (.val (.bool false)))),none⟩,⟨(some 4),(.p (.mov (.tmp 101))),none⟩])
 (.ret))
 (.seq (.region [⟨(some 103),(.p (.bin .eql (.tmp 18) (.val (.int .i64 (.ofNat 6))))),none⟩,⟨(some 102),(.p (.mov (.tmp 103))),none⟩])
 (.cond (.tmp 102) (.seq (.region [⟨(some 104),(.loadn 8 (.tmp 3)),none⟩,⟨(some 105),(.e (.call 147 [(.tmp 104)])),none⟩,⟨(some 106),(.p (.mov (.tmp 105))),none⟩,⟨(some 107),(.p (.faddr 7 (.tmp 3))),(some (106,true))⟩,⟨(some 108),(.load1 (.tmp 107)),(some (106,true))⟩,⟨(some 109),(.p (.lenb (.tmp 108))),(some (106,true))⟩,⟨(some 110),(.p (.bin .eql (.tmp 109) (.val (.int .i64 (.ofNat 1))))),(some (106,true))⟩,⟨(some 111),(.p (.pick (.tmp 106) (.tmp 110) (.val (.bool false)))),none⟩,⟨(some 4),(.p (.mov (.tmp 111))),none⟩])
 (.ret))
 (.skip)))))))))))))
 (.seq (.region [⟨(some 4),(.p (.mov (.val (.bool false)))),none⟩])
 (.ret)))),[.tmp 4]⟩
theorem v108 : IsFun Tryz.prog 108 m108 := ⟨_, Tryz.func108, by kernel_rfl, by kernel_rfl⟩
def m120 : Fun := ⟨15,2,.seq (.region [⟨(some 2),(.a (.box (.tmp 0))),none⟩,⟨(some 3),(.a (.box (.tmp 1))),none⟩,⟨(some 4),(.p (.mov (.val (.int .i64 (.ofNat 0))))),none⟩,⟨(some 5),(.p (.mov (.val (.bool false)))),none⟩])
 (.seq (.region [⟨(some 7),(.p (.faddr 0 (.tmp 2))),none⟩,⟨(some 8),(.load1 (.tmp 7)),none⟩,⟨(some 9),(.p (.mkfunc 160 [] [(.tmp 3)])),none⟩,⟨(some 10),(.e (.call 121 [(.tmp 8),(.tmp 9)])),none⟩,⟨(some 6),(.p (.mov (.tmp 10))),none⟩])
 (.seq (.region [⟨(some 11),(.p (.mov (.tmp 6))),none⟩,⟨(some 12),(.p (.max [(.tmp 11),(.val (.int .i64 (.ofNat 0)))])),none⟩,⟨(some 13),(.p (.mov (.tmp 6))),none⟩,⟨(some 14),(.p (.bin .geq (.tmp 13) (.val (.int .i64 (.ofNat 0))))),none⟩,⟨(some 4),(.p (.mov (.tmp 12))),none⟩,⟨(some 5),(.p (.mov (.tmp 14))),none⟩])
 (.ret))),[.tmp 4,.tmp 5]⟩
theorem v120 : IsFun Tryz.prog 120 m120 := ⟨_, Tryz.func120, by kernel_rfl, by kernel_rfl⟩
def m121 : Fun := ⟨19,2,.seq (.region [⟨(some 4),(.p (.mov (.val (.int .i64 (.ofNat 0))))),none⟩])
 (.seq (.seq (.region [⟨(some 6),(.p (.mov (.tmp 0))),none⟩,⟨(some 7),(.p (.lenb (.tmp 6))),none⟩,⟨(some 8),(.p (.mov (.val (.int .i64 (.ofNat 0))))),none⟩])
 (.block 0 (.loop (.seq (.region [⟨(some 9),(.p (.bin .lss (.tmp 8) (.tmp 7))),none⟩])
 (.seq (.cond (.tmp 9) (.skip)
 (.exit 0))
 (.seq (.block 1 (.seq (.region [⟨(some 10),(.p (.mov (.tmp 8))),none⟩,⟨(some 5),(.p (.mov (.tmp 10))),none⟩])
 (.seq (.region [⟨(some 11),(.p (.mov (.tmp 1))),none⟩,⟨(some 12),(.p (.mov (.tmp 0))),none⟩,⟨(some 13),(.p (.mov (.tmp 5))),none⟩,⟨(some 14),(.p (.iaddr 3 (.tmp 12) (.tmp 13))),none⟩,⟨(some 15),(.loadn 3 (.tmp 14)),none⟩,⟨(some 16),(.e (.callv (.tmp 11) [(.tmp 15)])),none⟩])
 (.cond (.tmp 16) (.seq (.region [⟨(some 17),(.p (.mov (.tmp 5))),none⟩,⟨(some 4),(.p (.mov (.tmp 17))),none⟩])
 (.ret))
 (.skip)))))
 (.region [⟨(some 18),(.p (.bin .add (.tmp 8) (.val (.int .i64 (.ofNat 1))))),none⟩,⟨(some 8),(.p (.mov (.tmp 18))),none⟩])))))))
 (.seq (.region [⟨(some 4),(.p (.mov (.val (.int .i64 (.negSucc 0))))),none⟩])
 (.ret))),[.tmp 4]⟩
theorem v121 : IsFun Tryz.prog 121 m121 := ⟨_, Tryz.func121, by kernel_rfl, by kernel_rfl⟩
def m122 : Fun := ⟨6,1,.seq (.region [⟨(some 1),(.a (.box (.tmp 0))),none⟩,⟨(some 2),(.p (.mov (.val (.bool false)))),none⟩])
 (.seq (.region [⟨(some 3),(.loadn 8 (.tmp 1)),none⟩,⟨(some 4),(.p (.build [.int .i64 (.ofNat 0),.int .i64 (.ofNat 0),.int .i64 (.ofNat 0),.bool false,.int .i64 (.ofNat 0),.int .i64 (.ofNat 0),.nilslice,.nilslice] [])),none⟩,⟨(some 5),(.e (.call 161 [(.tmp 3),(.tmp 4)])),none⟩,⟨(some 2),(.p (.mov (.tmp 5))),none⟩])
 (.ret)),[.tmp 2]⟩
theorem v122 : IsFun Tryz.prog 122 m122 := ⟨_, Tryz.func122, by kernel_rfl, by kernel_rfl⟩
def m123 : Fun := ⟨23,2,.seq (.region [⟨(some 2),(.a (.box (.tmp 0))),none⟩,⟨(some 3),(.a (.box (.tmp 1))),none⟩,⟨(some 4),(.p (.mov (.val (.bool false)))),none⟩])
 (.seq (.region [⟨(some 5),(.loadn 4 (.tmp 3)),none⟩,⟨(some 6),(.e (.call 40 [(.tmp 5)])),none⟩,⟨(some 7),(.p (.mov (.tmp 6))),none⟩,⟨(some 8),(.p (.faddr 1 (.tmp 3))),(some (7,true))⟩,⟨(some 9),(.load1 (.tmp 8)),(some (7,true))⟩,⟨(some 10),(.p (.faddr 1 (.tmp 2))),(some (7,true))⟩,⟨(some 11),(.load1 (.tmp 10)),(some (7,true))⟩,⟨(some 12),(.p (.bin .eql (.tmp 9) (.tmp 11))),(some (7,true))⟩,⟨(some 13),(.p (.pick (.tmp 7) (.tmp 12) (.val (.bool false)))),none⟩,⟨(some 14),(.p (.mov (.tmp 13))),none⟩,⟨(some 15),(.p (.faddr 2 (.tmp 2))),(some (14,true))⟩,⟨(some 16),(.load1 (.tmp 15)),(some (14,true))⟩,⟨(some 17),(.p (.mov (.tmp 16))),(some (14,true))⟩,⟨(some 18),(.p (.faddr 0 (.tmp 3))),(some (17,false))⟩,⟨(some 19),(.load1 (.tmp 18)),(some (17,false))⟩,⟨(some 20),(.p (.not (.tmp 19))),(some (17,false))⟩,⟨(some 21),(.p (.pick (.tmp 17) (.val (.bool true)) (.tmp 20))),(some (14,true))⟩,⟨(some 22),(.p (.pick (.tmp 14) (.tmp 21) (.val (.bool false)))),none⟩,⟨(some 4),(.p (.mov (.tmp 22))),none⟩])
 (.ret)),[.tmp 4]⟩
theorem v123 : IsFun Tryz.prog 123 m123 := ⟨_, Tryz.func123, by kernel_rfl, by kernel_rfl⟩
def m124 : Fun := ⟨9,2,.seq (.region [⟨(some 4),(.p (.mov (.val (.bool false)))),none⟩])
 (.seq (.region [⟨(some 5),(.p (.mov (.tmp 0))),none⟩,⟨(some 6),(.p (.mov (.tmp 1))),none⟩,⟨(some 7),(.e (.call 162 [(.tmp 5),(.tmp 6)])),none⟩,⟨(some 8),(.p (.bin .geq (.tmp 7) (.val (.int .i64 (.ofNat 0))))),none⟩,⟨(some 4),(.p (.mov (.tmp 8))),none⟩])
 (.ret)),[.tmp 4]⟩
theorem v124 : IsFun Tryz.prog 124 m124 := ⟨_, Tryz.func124, by kernel_rfl, by kernel_rfl⟩
def m125 : Fun := ⟨9,2,.seq (.region [⟨(some 2),(.a (.box (.tmp 0))),none⟩,⟨(some 3),(.p (.mov (.val (.bool false)))),none⟩])
 (.seq (.region [⟨(some 4),(.p (.faddr 0 (.tmp 2))),none⟩,⟨(some 5),(.load1 (.tmp 4)),none⟩,⟨(some 6),(.p (.faddr 0 (.tmp 1))),none⟩,⟨(some 7),(.load1 (.tmp 6)),none⟩,⟨(some 8),(.p (.bin .eql (.tmp 5) (.tmp 7))),none⟩,⟨(some 3),(.p (.mov (.tmp 8))),none⟩])
 (.ret)),[.tmp 3]⟩
theorem v125 : IsFun Tryz.prog 125 m125 := ⟨_, Tryz.func125, by kernel_rfl, by kernel_rfl⟩
def m126 : Fun := ⟨46,2,.seq (.region [⟨(some 2),(.a (.box (.tmp 0))),none⟩,⟨(some 3),(.a (.box (.tmp 1))),none⟩,⟨(some 4),(.p (.mov (.val (.bool false)))),none⟩])
 (.seq (.seq (.dregion [⟨⟨(some 5),(.loadn 1 (.tmp 2)),none⟩,0,3⟩,⟨⟨(some 6),(.p (.faddr 0 (.tmp 3))),none⟩,0,3⟩,⟨⟨(some 7),(.load1 (.tmp 6)),none⟩,0,3⟩,⟨⟨(some 8),(.e (.call 92 [(.tmp 5),(.tmp 7)])),none⟩,0,19⟩,⟨⟨(some 9),(.p (.not (.tmp 8))),none⟩,4,19⟩,⟨⟨(some 10),(.p (.mov (.tmp 9))),none⟩,4,19⟩,⟨⟨(some 11),(.p (.faddr 0 (.tmp 3))),(some (10,false))⟩,4,19⟩,⟨⟨(some 12),(.load1 (.tmp 11)),(some (10,false))⟩,4,19⟩,⟨⟨(some 13),(.p (.bin .eql (.tmp 12) (.val (.int .i64 (.ofNat 0))))),(some (10,false))⟩,4,19⟩,⟨⟨(some 14),(.p (.pick (.tmp 10) (.val (.bool true)) (.tmp 13))),none⟩,4,19⟩,⟨⟨(some 15),(.p (.mov (.tmp 14))),none⟩,4,19⟩,⟨⟨(some 16),(.p (.faddr 0 (.tmp 2))),(some (15,false))⟩,4,19⟩,⟨⟨(some 17),(.load1 (.tmp 16)),(some (15,false))⟩,4,19⟩,⟨⟨(some 18),(.p (.faddr 0 (.tmp 3))),(some (15,false))⟩,4,19⟩,⟨⟨(some 19),(.load1 (.tmp 18)),(some (15,false))⟩,4,19⟩,⟨⟨(some 20),(.p (.iaddr 3 (.tmp 17) (.tmp 19))),(some (15,false))⟩,4,19⟩,⟨⟨(some 21),(.loadn 3 (.tmp 20)),(some (15,false))⟩,4,19⟩,⟨⟨(some 22),(.p (.faddr 2 (.tmp 3))),(some (15,false))⟩,4,19⟩,⟨⟨(some 23),(.loadn 4 (.tmp 22)),(some (15,false))⟩,4,19⟩,⟨⟨(some 24),(.e (.call 123 [(.tmp 21),(.tmp 23)])),(some (15,false))⟩,4,22⟩,⟨⟨(some 25),(.p (.not (.tmp 24))),(some (15,false))⟩,20,22⟩,⟨⟨(some 26),(.p (.pick (.tmp 15) (.val (.bool true)) (.tmp 25))),none⟩,20,22⟩])
 (.cond (.tmp 26) (.seq (.region [⟨(some 4),(.p (.mov (.val (.bool false)))),none⟩])
 (.ret))
 (.skip)))
 (.seq (.region [⟨(some 27),(.p (.faddr 1 (.tmp 3))),none⟩,⟨(some 28),(.load1 (.tmp 27)),none⟩,⟨(some 29),(.p (.not (.tmp 28))),none⟩,⟨(some 30),(.p (.mov (.tmp 29))),none⟩,⟨(some 31),(.p (.faddr 0 (.tmp 2))),(some (30,false))⟩,⟨(some 32),(.load1 (.tmp 31)),(some (30,false))⟩,⟨(some 33),(.p (.faddr 0 (.tmp 3))),(some (30,false))⟩,⟨(some 34),(.load1 (.tmp 33)),(some (30,false))⟩,⟨(some 35),(.p (.iaddr 3 (.tmp 32) (.tmp 34))),(some (30,false))⟩,⟨(some 36),(.p (.faddr 1 (.tmp 35))),(some (30,false))⟩,⟨(some 37),(.load1 (.tmp 36)),(some (30,false))⟩,⟨(some 38),(.p (.bin .eql (.tmp 37) (.val (.int .i64 (.ofNat 1))))),(some (30,false))⟩,⟨(some 39),(.p (.mov (.tmp 38))),(some (30,false))⟩,⟨(some 40),(.p (.faddr 2 (.tmp 3))),(some (39,true))⟩,⟨(some 41),(.p (.faddr 0 (.tmp 40))),(some (39,true))⟩,⟨(some 42),(.load1 (.tmp 41)),(some (39,true))⟩,⟨(some 43),(.p (.not (.tmp 42))),(some (39,true))⟩,⟨(some 44),(.p (.pick (.tmp 39) (.tmp 43) (.val (.bool false)))),(some (30,false))⟩,⟨(some 45),(.p (.pick (.tmp 30) (.val (.bool true)) (.tmp 44))),none⟩,⟨(some 4),(.p (.mov (.tmp 45))),none⟩])
 (.ret))),[.tmp 4]⟩
theorem v126 : IsFun Tryz.prog 126 m126 := ⟨_, Tryz.func126, by kernel_rfl, by kernel_rfl⟩
def m127 : Fun := ⟨19,2,.seq (.region [⟨(some 4),(.p (.mov (.val (.int .i64 (.ofNat 0))))),none⟩])
 (.seq (.seq (.region [⟨(some 6),(.p (.mov (.tmp 0))),none⟩,⟨(some 7),(.p (.lenb (.tmp 6))),none⟩,⟨(some 8),(.p (.mov (.val (.int .i64 (.ofNat 0))))),none⟩])
 (.block 0 (.loop (.seq (.region [⟨(some 9),(.p (.bin .lss (.tmp 8) (.tmp 7))),none⟩])
 (.seq (.cond (.tmp 9) (.skip)
 (.exit 0))
 (.seq (.block 1 (.seq (.region [⟨(some 10),(.p (.mov (.tmp 8))),none⟩,⟨(some 5),(.p (.mov (.tmp 10))),none⟩])
 (.seq (.region [⟨(some 11),(.p (.mov (.tmp 1))),none⟩,⟨(some 12),(.p (.mov (.tmp 0))),none⟩,⟨(some 13),(.p (.mov (.tmp 5))),none⟩,⟨(some 14),(.p (.iaddr 1 (.tmp 12) (.tmp 13))),none⟩,⟨(some 15),(.load1 (.tmp 14)),none⟩,⟨(some 16),(.e (.callv (.tmp 11) [(.tmp 15)])),none⟩])
 (.cond (.tmp 16) (.seq (.region [⟨(some 17),(.p (.mov (.tmp 5))),none⟩,⟨(some 4),(.p (.mov (.tmp 17))),none⟩])
 (.ret))
 (.skip)))))
 (.region [⟨(some 18),(.p (.bin .add (.tmp 8) (.val (.int .i64 (.ofNat 1))))),none⟩,⟨(some 8),(.p (.mov (.tmp 18))),none⟩])))))))
 (.seq (.region [⟨(some 4),(.p (.mov (.val (.int .i64 (.negSucc 0))))),none⟩])
 (.ret))),[.tmp 4]⟩
theorem v127 : IsFun Tryz.prog 127 m127 := ⟨_, Tryz.func127, by kernel_rfl, by kernel_rfl⟩
def m128 : Fun := ⟨19,2,.seq (.region [⟨(some 4),(.p (.mov (.val (.int .i64 (.ofNat 0))))),none⟩])
 (.seq (.seq (.region [⟨(some 6),(.p (.mov (.tmp 0))),none⟩,⟨(some 7),(.p (.lenb (.tmp 6))),none⟩,⟨(some 8),(.p (.mov (.val (.int .i64 (.ofNat 0))))),none⟩])
 (.block 0 (.loop (.seq (.region [⟨(some 9),(.p (.bin .lss (.tmp 8) (.tmp 7))),none⟩])
 (.seq (.cond (.tmp 9) (.skip)
 (.exit 0))
 (.seq (.block 1 (.seq (.region [⟨(some 10),(.p (.mov (.tmp 8))),none⟩,⟨(some 5),(.p (.mov (.tmp 10))),none⟩])
 (.seq (.region [⟨(some 11),(.p (.mov (.tmp 1))),none⟩,⟨(some 12),(.p (.mov (.tmp 0))),none⟩,⟨(some 13),(.p (.mov (.tmp 5))),none⟩,⟨(some 14),(.p (.iaddr 2 (.tmp 12) (.tmp 13))),none⟩,⟨(some 15),(.loadn 2 (.tmp 14)),none⟩,⟨(some 16),(.e (.callv (.tmp 11) [(.tmp 15)])),none⟩])
 (.cond (.tmp 16) (.seq (.region [⟨(some 17),(.p (.mov (.tmp 5))),none⟩,⟨(some 4),(.p (.mov (.tmp 17))),none⟩])
 (.ret))
 (.skip)))))
 (.region [⟨(some 18),(.p (.bin .add (.tmp 8) (.val (.int .i64 (.ofNat 1))))),none⟩,⟨(some 8),(.p (.mov (.tmp 18))),none⟩])))))))
 (.seq (.region [⟨(some 4),(.p (.mov (.val (.int .i64 (.negSucc 0))))),none⟩])
 (.ret))),[.tmp 4]⟩
theorem v128 : IsFun Tryz.prog 128 m128 := ⟨_, Tryz.func128, by kernel_rfl, by kernel_rfl⟩
def m132 : Fun := ⟨34,2,.seq (.region [⟨(some 4),(.p (.mov (.val (.nilslice)))),none⟩,⟨(some 5),(.p (.mov (.val (.bool false)))),none⟩])
 (.seq (.region [⟨(some 6),(.p (.mov (.val (.nilslice)))),none⟩])
 (.seq (.seq (.region [⟨(some 11),(.p (.mov (.tmp 0))),none⟩,⟨(some 12),(.e (.call 56 [(.tmp 11),(.val (.str [44]))])),none⟩,⟨(some 13),(.p (.lenb (.tmp 12))),none⟩,⟨(some 14),(.p (.mov (.val (.int .i64 (.ofNat 0))))),none⟩])
 (.block 0 (.loop (.seq (.region [⟨(some 15),(.p (.bin .lss (.tmp 14) (.tmp 13))),none⟩])
 (.seq (.cond (.tmp 15) (.skip)
 (.exit 0))
 (.seq (.block 1 (.seq (.region [⟨(some 16),(.p (.mov (.tmp 14))),none⟩,⟨(some 17),(.p (.iaddr 1 (.tmp 12) (.tmp 14))),none⟩,⟨(some 18),(.load1 (.tmp 17)),none⟩,⟨(some 7),(.p (.mov (.tmp 16))),none⟩,⟨(some 8),(.p (.mov (.tmp 18))),none⟩])
 (.seq (.region [⟨(some 20),(.p (.mov (.tmp 1))),none⟩,⟨(some 21),(.p (.mov (.tmp 7))),none⟩,⟨(some 22),(.p (.mov (.tmp 8))),none⟩,⟨(some 23),(.e (.callv (.tmp 20) [(.tmp 21),(.tmp 22)])),none⟩,⟨(some 19),(.p (.mov (.tmp 23))),none⟩,⟨(some 24),(.p (.ext (.tmp 19) 0)),none⟩,⟨(some 25),(.p (.ext (.tmp 19) 1)),none⟩,⟨(some 9),(.a (.new [.bool false,.int .i64 (.ofNat 0),.int .i64 (.ofNat 0),.nilslice])),none⟩,⟨none,(.e (.store 4 (.tmp 9) (.tmp 24))),none⟩,⟨(some 10),(.p (.mov (.tmp 25))),none⟩])
 (.seq (.seq (.region [⟨(some 26),(.p (.mov (.tmp 10))),none⟩,⟨(some 27),(.p (.not (.tmp 26))),none⟩])
 (.cond (.tmp 27) (.seq (.region [⟨(some 4),(.p (.mov (.val (.nilslice)))),none⟩,⟨(some 5),(.p (.mov (.val (.bool false)))),none⟩])
 (.ret))
 (.skip)))
 (.region [⟨(some 28),(.p (.mov (.tmp 6))),none⟩,⟨(some 29),(.loadn 4 (.tmp 9)),none⟩,⟨(some 30),(.a (.bslice [.bool false,.int .i64 (.ofNat 0),.int .i64 (.ofNat 0),.nilslice] 4 1 [(0,4,(.tmp 29))])),none⟩,⟨(some 31),(.e (.append 4 48 (.tmp 28) (.tmp 30))),none⟩,⟨(some 6),(.p (.mov (.tmp 31))),none⟩])))))
 (.region [⟨(some 32),(.p (.bin .add (.tmp 14) (.val (.int .i64 (.ofNat 1))))),none⟩,⟨(some 14),(.p (.mov (.tmp 32))),none⟩])))))))
 (.seq (.region [⟨(some 33),(.p (.mov (.tmp 6))),none⟩,⟨(some 4),(.p (.mov (.tmp 33))),none⟩,⟨(some 5),(.p (.mov (.val (.bool true)))),none⟩])
 (.ret)))),[.tmp 4,.tmp 5]⟩
theorem v132 : IsFun Tryz.prog 132 m132 := ⟨_, Tryz.func132, by kernel_rfl, by kernel_rfl⟩
def m133 : Fun := ⟨23,3,.seq (.region [⟨(some 5),(.a (.new [.bool false,.int .i64 (.ofNat 0),.int .i64 (.ofNat 0),.nilslice])),none⟩,⟨(some 6),(.p (.mov (.val (.bool false)))),none⟩])
 (.seq (.seq (.region [⟨(some 7),(.p (.mov (.tmp 0))),none⟩,⟨(some 8),(.p (.faddr 0 (.tmp 2))),none⟩,⟨(some 9),(.load1 (.tmp 8)),none⟩,⟨(some 10),(.p (.lenb (.tmp 9))),none⟩,⟨(some 11),(.p (.bin .geq (.tmp 7) (.tmp 10))),none⟩])
 (.cond (.tmp 11) (.seq (.region [⟨(some 12),(.p (.build [.bool false,.int .i64 (.ofNat 0),.int .i64 (.ofNat 0),.nilslice] [])),none⟩,⟨none,(.e (.store 4 (.tmp 5) (.tmp 12))),none⟩,⟨(some 6),(.p (.mov (.val (.bool false)))),none⟩])
 (.ret))
 (.skip)))
 (.seq (.region [⟨(some 13),(.p (.faddr 0 (.tmp 2))),none⟩,⟨(some 14),(.load1 (.tmp 13)),none⟩,⟨(some 15),(.p (.mov (.tmp 0))),none⟩,⟨(some 16),(.p (.iaddr 3 (.tmp 14) (.tmp 15))),none⟩,⟨(some 17),(.p (.faddr 1 (.tmp 16))),none⟩,⟨(some 18),(.load1 (.tmp 17)),none⟩,⟨(some 19),(.p (.mov (.tmp 1))),none⟩,⟨(some 20),(.e (.call 14 [(.tmp 18),(.tmp 19)])),none⟩,⟨(some 21),(.p (.ext (.tmp 20) 0)),none⟩,⟨(some 22),(.p (.ext (.tmp 20) 1)),none⟩,⟨none,(.e (.store 4 (.tmp 5) (.tmp 21))),none⟩,⟨(some 6),(.p (.mov (.tmp 22))),none⟩])
 (.ret))),[.celln 4 5,.tmp 6]⟩
theorem v133 : IsFun Tryz.prog 133 m133 := ⟨_, Tryz.func133, by kernel_rfl, by kernel_rfl⟩
def m134 : Fun := ⟨34,2,.seq (.region [⟨(some 4),(.p (.mov (.val (.nilslice)))),none⟩,⟨(some 5),(.p (.mov (.val (.bool false)))),none⟩])
 (.seq (.region [⟨(some 6),(.p (.mov (.val (.nilslice)))),none⟩])
 (.seq (.seq (.region [⟨(some 11),(.p (.mov (.tmp 0))),none⟩,⟨(some 12),(.e (.call 56 [(.tmp 11),(.val (.str [44]))])),none⟩,⟨(some 13),(.p (.lenb (.tmp 12))),none⟩,⟨(some 14),(.p (.mov (.val (.int .i64 (.ofNat 0))))),none⟩])
 (.block 0 (.loop (.seq (.region [⟨(some 15),(.p (.bin .lss (.tmp 14) (.tmp 13))),none⟩])
 (.seq (.cond (.tmp 15) (.skip)
 (.exit 0))
 (.seq (.block 1 (.seq (.region [⟨(some 16),(.p (.mov (.tmp 14))),none⟩,⟨(some 17),(.p (.iaddr 1 (.tmp 12) (.tmp 14))),none⟩,⟨(some 18),(.load1 (.tmp 17)),none⟩,⟨(some 7),(.p (.mov (.tmp 16))),none⟩,⟨(some 8),(.p (.mov (.tmp 18))),none⟩])
 (.seq (.region [⟨(some 20),(.p (.mov (.tmp 1))),none⟩,⟨(some 21),(.p (.mov (.tmp 7))),none⟩,⟨(some 22),(.p (.mov (.tmp 8))),none⟩,⟨(some 23),(.e (.callv (.tmp 20) [(.tmp 21),(.tmp 22)])),none⟩,⟨(some 19),(.p (.mov (.tmp 23))),none⟩,⟨(some 24),(.p (.ext (.tmp 19) 0)),none⟩,⟨(some 25),(.p (.ext (.tmp 19) 1)),none⟩,⟨(some 9),(.a (.new [.int .i64 (.ofNat 0),.bool false,.bool false,.int .i64 (.ofNat 0),.int .i64 (.ofNat 0),.nilslice])),none⟩,⟨none,(.e (.store 6 (.tmp 9) (.tmp 24))),none⟩,⟨(some 10),(.p (.mov (.tmp 25))),none⟩])
 (.seq (.seq (.region [⟨(some 26),(.p (.mov (.tmp 10))),none⟩,⟨(some 27),(.p (.not (.tmp 26))),none⟩])
 (.cond (.tmp 27) (.seq (.region [⟨(some 4),(.p (.mov (.val (.nilslice)))),none⟩,⟨(some 5),(.p (.mov (.val (.bool false)))),none⟩])
 (.ret))
 (.skip)))
 (.region [⟨(some 28),(.p (.mov (.tmp 6))),none⟩,⟨(some 29),(.loadn 6 (.tmp 9)),none⟩,⟨(some 30),(.a (.bslice [.int .i64 (.ofNat 0),.bool false,.bool false,.int .i64 (.ofNat 0),.int .i64 (.ofNat 0),.nilslice] 6 1 [(0,6,(.tmp 29))])),none⟩,⟨(some 31),(.e (.append 6 64 (.tmp 28) (.tmp 30))),none⟩,⟨(some 6),(.p (.mov (.tmp 31))),none⟩])))))
 (.region [⟨(some 32),(.p (.bin .add (.tmp 14) (.val (.int .i64 (.ofNat 1))))),none⟩,⟨(some 14),(.p (.mov (.tmp 32))),none⟩])))))))
 (.seq (.region [⟨(some 33),(.p (.mov (.tmp 6))),none⟩,⟨(some 4),(.p (.mov (.tmp 33))),none⟩,⟨(some 5),(.p (.mov (.val (.bool true)))),none⟩])
 (.ret)))),[.tmp 4,.tmp 5]⟩
theorem v134 : IsFun Tryz.prog 134 m134 := ⟨_, Tryz.func134, by kernel_rfl, by kernel_rfl⟩
def m135 : Fun := ⟨12,3,.seq (.region [⟨(some 5),(.a (.new [.int .i64 (.ofNat 0),.bool false,.bool false,.int .i64 (.ofNat 0),.int .i64 (.ofNat 0),.nilslice])),none⟩,⟨(some 6),(.p (.mov (.val (.bool false)))),none⟩])
 (.seq (.region [⟨(some 7),(.loadn 1 (.tmp 2)),none⟩,⟨(some 8),(.p (.mov (.tmp 1))),none⟩,⟨(some 9),(.e (.call 136 [(.tmp 7),(.tmp 8)])),none⟩,⟨(some 10),(.p (.ext (.tmp 9) 0)),none⟩,⟨(some 11),(.p (.ext (.tmp 9) 1)),none⟩,⟨none,(.e (.store 6 (.tmp 5) (.tmp 10))),none⟩,⟨(some 6),(.p (.mov (.tmp 11))),none⟩])
 (.ret)),[.celln 6 5,.tmp 6]⟩
theorem v135 : IsFun Tryz.prog 135 m135 := ⟨_, Tryz.func135, by kernel_rfl, by kernel_rfl⟩
def m136 : Fun := ⟨50,2,.seq (.region [⟨(some 2),(.a (.box (.tmp 0))),none⟩,⟨(some 4),(.a (.new [.int .i64 (.ofNat 0),.bool false,.bool false,.int .i64 (.ofNat 0),.int .i64 (.ofNat 0),.nilslice])),none⟩,⟨(some 5),(.p (.mov (.val (.bool false)))),none⟩])
 (.seq (.region [⟨(some 15),(.p (.mov (.tmp 1))),none⟩,⟨(some 16),(.e (.call 57 [(.tmp 15),(.val (.str [61]))])),none⟩,⟨(some 14),(.p (.mov (.tmp 16))),none⟩,⟨(some 17),(.p (.ext (.tmp 14) 0)),none⟩,⟨(some 18),(.p (.ext (.tmp 14) 1)),none⟩,⟨(some 19),(.p (.ext (.tmp 14) 2)),none⟩,⟨(some 6),(.p (.mov (.tmp 17))),none⟩,⟨(some 7),(.p (.mov (.tmp 18))),none⟩,⟨(some 8),(.p (.mov (.tmp 19))),none⟩])
 (.seq (.region [⟨(some 21),(.p (.mov (.tmp 6))),none⟩,⟨(some 22),(.e (.call 58 [(.tmp 21),(.val (.str [43]))])),none⟩,⟨(some 20),(.p (.mov (.tmp 22))),none⟩,⟨(some 23),(.p (.ext (.tmp 20) 0)),none⟩,⟨(some 24),(.p (.ext (.tmp 20) 1)),none⟩,⟨(some 6),(.p (.mov (.tmp 23))),none⟩,⟨(some 9),(.p (.mov (.tmp 24))),none⟩])
 (.seq (.region [⟨(some 26),(.loadn 1 (.tmp 2)),none⟩,⟨(some 27),(.p (.mov (.tmp 6))),none⟩,⟨(some 28),(.e (.call 120 [(.tmp 26),(.tmp 27)])),none⟩,⟨(some 25),(.p (.mov (.tmp 28))),none⟩,⟨(some 29),(.p (.ext (.tmp 25) 0)),none⟩,⟨(some 30),(.p (.ext (.tmp 25) 1)),none⟩,⟨(some 10),(.p (.mov (.tmp 29))),none⟩,⟨(some 11),(.p (.mov (.tmp 30))),none⟩])
 (.seq (.seq (.region [⟨(some 31),(.p (.mov (.tmp 11))),none⟩,⟨(some 32),(.p (.not (.tmp 31))),none⟩])
 (.cond (.tmp 32) (.seq (.region [⟨(some 33),(.p (.build [.int .i64 (.ofNat 0),.bool false,.bool false,.int .i64 (.ofNat 0),.int .i64 (.ofNat 0),.nilslice] [])),none⟩,⟨none,(.e (.store 6 (.tmp 4) (.tmp 33))),none⟩,⟨(some 5),(.p (.mov (.val (.bool false)))),none⟩])
 (.ret))
 (.skip)))
 (.seq (.region [⟨(some 35),(.p (.faddr 0 (.tmp 2))),none⟩,⟨(some 36),(.load1 (.tmp 35)),none⟩,⟨(some 37),(.p (.mov (.tmp 10))),none⟩,⟨(some 38),(.p (.iaddr 3 (.tmp 36) (.tmp 37))),none⟩,⟨(some 39),(.p (.faddr 1 (.tmp 38))),none⟩,⟨(some 40),(.load1 (.tmp 39)),none⟩,⟨(some 41),(.p (.mov (.tmp 7))),none⟩,⟨(some 42),(.e (.call 14 [(.tmp 40),(.tmp 41)])),none⟩,⟨(some 34),(.p (.mov (.tmp 42))),none⟩,⟨(some 43),(.p (.ext (.tmp 34) 0)),none⟩,⟨(some 44),(.p (.ext (.tmp 34) 1)),none⟩,⟨(some 12),(.a (.new [.bool false,.int .i64 (.ofNat 0),.int .i64 (.ofNat 0),.nilslice])),none⟩,⟨none,(.e (.store 4 (.tmp 12) (.tmp 43))),none⟩,⟨(some 13),(.p (.mov (.tmp 44))),none⟩])
 (.seq (.region [⟨(some 45),(.p (.mov (.tmp 10))),none⟩,⟨(some 46),(.p (.mov (.tmp 9))),none⟩,⟨(some 47),(.loadn 4 (.tmp 12)),none⟩,⟨(some 48),(.p (.build [.int .i64 (.ofNat 0),.bool false,.bool false,.int .i64 (.ofNat 0),.int .i64 (.ofNat 0),.nilslice] [(0,1,(.tmp 45)),(1,1,(.tmp 46)),(2,4,(.tmp 47))])),none⟩,⟨(some 49),(.p (.mov (.tmp 13))),none⟩,⟨none,(.e (.store 6 (.tmp 4) (.tmp 48))),none⟩,⟨(some 5),(.p (.mov (.tmp 49))),none⟩])
 (.ret))))))),[.celln 6 4,.tmp 5]⟩
theorem v136 : IsFun Tryz.prog 136 m136 := ⟨_, Tryz.func136, by kernel_rfl, by kernel_rfl⟩
def m137 : Fun := ⟨34,2,.seq (.region [⟨(some 4),(.p (.mov (.val (.nilslice)))),none⟩,⟨(some 5),(.p (.mov (.val (.bool false)))),none⟩])
 (.seq (.region [⟨(some 6),(.p (.mov (.val (.nilslice)))),none⟩])
 (.seq (.seq (.region [⟨(some 11),(.p (.mov (.tmp 0))),none⟩,⟨(some 12),(.e (.call 56 [(.tmp 11),(.val (.str [44]))])),none⟩,⟨(some 13),(.p (.lenb (.tmp 12))),none⟩,⟨(some 14),(.p (.mov (.val (.int .i64 (.ofNat 0))))),none⟩])
 (.block 0 (.loop (.seq (.region [⟨(some 15),(.p (.bin .lss (.tmp 14) (.tmp 13))),none⟩])
 (.seq (.cond (.tmp 15) (.skip)
 (.exit 0))
 (.seq (.block 1 (.seq (.region [⟨(some 16),(.p (.mov (.tmp 14))),none⟩,⟨(some 17),(.p (.iaddr 1 (.tmp 12) (.tmp 14))),none⟩,⟨(some 18),(.load1 (.tmp 17)),none⟩,⟨(some 7),(.p (.mov (.tmp 16))),none⟩,⟨(some 8),(.p (.mov (.tmp 18))),none⟩])
 (.seq (.region [⟨(some 20),(.p (.mov (.tmp 1))),none⟩,⟨(some 21),(.p (.mov (.tmp 7))),none⟩,⟨(some 22),(.p (.mov (.tmp 8))),none⟩,⟨(some 23),(.e (.callv (.tmp 20) [(.tmp 21),(.tmp 22)])),none⟩,⟨(some 19),(.p (.mov (.tmp 23))),none⟩,⟨(some 24),(.p (.ext (.tmp 19) 0)),none⟩,⟨(some 25),(.p (.ext (.tmp 19) 1)),none⟩,⟨(some 9),(.p (.mov (.tmp 24))),none⟩,⟨(some 10),(.p (.mov (.tmp 25))),none⟩])
 (.seq (.seq (.region [⟨(some 26),(.p (.mov (.tmp 10))),none⟩,⟨(some 27),(.p (.not (.tmp 26))),none⟩])
 (.cond (.tmp 27) (.seq (.region [⟨(some 4),(.p (.mov (.val (.nilslice)))),none⟩,⟨(some 5),(.p (.mov (.val (.bool false)))),none⟩])
 (.ret))
 (.skip)))
 (.region [⟨(some 28),(.p (.mov (.tmp 6))),none⟩,⟨(some 29),(.p (.mov (.tmp 9))),none⟩,⟨(some 30),(.a (.bslice [.int .i64 (.ofNat 0)] 1 1 [(0,1,(.tmp 29))])),none⟩,⟨(some 31),(.e (.append 1 8 (.tmp 28) (.tmp 30))),none⟩,⟨(some 6),(.p (.mov (.tmp 31))),none⟩])))))
 (.region [⟨(some 32),(.p (.bin .add (.tmp 14) (.val (.int .i64 (.ofNat 1))))),none⟩,⟨(some 14),(.p (.mov (.tmp 32))),none⟩])))))))
 (.seq (.region [⟨(some 33),(.p (.mov (.tmp 6))),none⟩,⟨(some 4),(.p (.mov (.tmp 33))),none⟩,⟨(some 5),(.p (.mov (.val (.bool true)))),none⟩])
 (.ret)))),[.tmp 4,.tmp 5]⟩
theorem v137 : IsFun Tryz.prog 137 m137 := ⟨_, Tryz.func137, by kernel_rfl, by kernel_rfl⟩
def m138 : Fun := ⟨12,3,.seq (.region [⟨(some 5),(.p (.mov (.val (.int .i64 (.ofNat 0))))),none⟩,⟨(some 6),(.p (.mov (.val (.bool false)))),none⟩])
 (.seq (.region [⟨(some 7),(.loadn 1 (.tmp 2)),none⟩,⟨(some 8),(.p (.mov (.tmp 1))),none⟩,⟨(some 9),(.e (.call 120 [(.tmp 7),(.tmp 8)])),none⟩,⟨(some 10),(.p (.ext (.tmp 9) 0)),none⟩,⟨(some 11),(.p (.ext (.tmp 9) 1)),none⟩,⟨(some 5),(.p (.mov (.tmp 10))),none⟩,⟨(some 6),(.p (.mov (.tmp 11))),none⟩])
 (.ret)),[.tmp 5,.tmp 6]⟩
theorem v138 : IsFun Tryz.prog 138 m138 := ⟨_, Tryz.func138, by kernel_rfl, by kernel_rfl⟩
def m139 : Fun := ⟨34,2,.seq (.region [⟨(some 4),(.p (.mov (.val (.nilslice)))),none⟩,⟨(some 5),(.p (.mov (.val (.bool false)))),none⟩])
 (.seq (.region [⟨(some 6),(.p (.mov (.val (.nilslice)))),none⟩])
 (.seq (.seq (.region [⟨(some 11),(.p (.mov (.tmp 0))),none⟩,⟨(some 12),(.e (.call 56 [(.tmp 11),(.val (.str [44]))])),none⟩,⟨(some 13),(.p (.lenb (.tmp 12))),none⟩,⟨(some 14),(.p (.mov (.val (.int .i64 (.ofNat 0))))),none⟩])
 (.block 0 (.loop (.seq (.region [⟨(some 15),(.p (.bin .lss (.tmp 14) (.tmp 13))),none⟩])
 (.seq (.cond (.tmp 15) (.skip)
 (.exit 0))
 (.seq (.block 1 (.seq (.region [⟨(some 16),(.p (.mov (.tmp 14))),none⟩,⟨(some 17),(.p (.iaddr 1 (.tmp 12) (.tmp 14))),none⟩,⟨(some 18),(.load1 (.tmp 17)),none⟩,⟨(some 7),(.p (.mov (.tmp 16))),none⟩,⟨(some 8),(.p (.mov (.tmp 18))),none⟩])
 (.seq (.region [⟨(some 20),(.p (.mov (.tmp 1))),none⟩,⟨(some 21),(.p (.mov (.tmp 7))),none⟩,⟨(some 22),(.p (.mov (.tmp 8))),none⟩,⟨(some 23),(.e (.callv (.tmp 20) [(.tmp 21),(.tmp 22)])),none⟩,⟨(some 19),(.p (.mov (.tmp 23))),none⟩,⟨(some 24),(.p (.ext (.tmp 19) 0)),none⟩,⟨(some 25),(.p (.ext (.tmp 19) 1)),none⟩,⟨(some 9),(.a (.new [.int .i64 (.ofNat 0),.int .i64 (.ofNat 0)])),none⟩,⟨none,(.e (.store 2 (.tmp 9) (.tmp 24))),none⟩,⟨(some 10),(.p (.mov (.tmp 25))),none⟩])
 (.seq (.seq (.region [⟨(some 26),(.p (.mov (.tmp 10))),none⟩,⟨(some 27),(.p (.not (.tmp 26))),none⟩])
 (.cond (.tmp 27) (.seq (.region [⟨(some 4),(.p (.mov (.val (.nilslice)))),none⟩,⟨(some 5),(.p (.mov (.val (.bool false)))),none⟩])
 (.ret))
 (.skip)))
 (.region [⟨(some 28),(.p (.mov (.tmp 6))),none⟩,⟨(some 29),(.loadn 2 (.tmp 9)),none⟩,⟨(some 30),(.a (.bslice [.int .i64 (.ofNat 0),.int .i64 (.ofNat 0)] 2 1 [(0,2,(.tmp 29))])),none⟩,⟨(some 31),(.e (.append 2 16 (.tmp 28) (.tmp 30))),none⟩,⟨(some 6),(.p (.mov (.tmp 31))),none⟩])))))
 (.region [⟨(some 32),(.p (.bin .add (.tmp 14) (.val (.int .i64 (.ofNat 1))))),none⟩,⟨(some 14),(.p (.mov (.tmp 32))),none⟩])))))))
 (.seq (.region [⟨(some 33),(.p (.mov (.tmp 6))),none⟩,⟨(some 4),(.p (.mov (.tmp 33))),none⟩,⟨(some 5),(.p (.mov (.val (.bool true)))),none⟩])
 (.ret)))),[.tmp 4,.tmp 5]⟩
theorem v139 : IsFun Tryz.prog 139 m139 := ⟨_, Tryz.func139, by kernel_rfl, by kernel_rfl⟩
def m140 : Fun := ⟨12,3,.seq (.region [⟨(some 5),(.a (.new [.int .i64 (.ofNat 0),.int .i64 (.ofNat 0)])),none⟩,⟨(some 6),(.p (.mov (.val (.bool false)))),none⟩])
 (.seq (.region [⟨(some 7),(.loadn 1 (.tmp 2)),none⟩,⟨(some 8),(.p (.mov (.tmp 1))),none⟩,⟨(some 9),(.e (.call 141 [(.tmp 7),(.tmp 8)])),none⟩,⟨(some 10),(.p (.ext (.tmp 9) 0)),none⟩,⟨(some 11),(.p (.ext (.tmp 9) 1)),none⟩,⟨none,(.e (.store 2 (.tmp 5) (.tmp 10))),none⟩,⟨(some 6),(.p (.mov (.tmp 11))),none⟩])
 (.ret)),[.celln 2 5,.tmp 6]⟩
theorem v140 : IsFun Tryz.prog 140 m140 := ⟨_, Tryz.func140, by kernel_rfl, by kernel_rfl⟩
def m141 : Fun := ⟨37,2,.seq (.region [⟨(some 2),(.a (.box (.tmp 0))),none⟩,⟨(some 4),(.a (.new [.int .i64 (.ofNat 0),.int .i64 (.ofNat 0)])),none⟩,⟨(some 5),(.p (.mov (.val (.bool false)))),none⟩])
 (.seq (.region [⟨(some 13),(.p (.mov (.tmp 1))),none⟩,⟨(some 14),(.e (.call 57 [(.tmp 13),(.val (.str [40]))])),none⟩,⟨(some 12),(.p (.mov (.tmp 14))),none⟩,⟨(some 15),(.p (.ext (.tmp 12) 0)),none⟩,⟨(some 16),(.p (.ext (.tmp 12) 1)),none⟩,⟨(some 17),(.p (.ext (.tmp 12) 2)),none⟩,⟨(some 6),(.p (.mov (.tmp 15))),none⟩,⟨(some 7),(.p (.mov (.tmp 16))),none⟩,⟨(some 8),(.p (.mov (.tmp 17))),none⟩])
 (.seq (.region [⟨(some 18),(.e (.call 98 [])),none⟩,⟨(some 19),(.p (.mov (.tmp 6))),none⟩,⟨(some 20),(.e (.call 59 [(.tmp 18),(.tmp 19)])),none⟩,⟨(some 21),(.p (.max [(.tmp 20),(.val (.int .i64 (.ofNat 0)))])),none⟩,⟨(some 22),(.p (.build [.int .i64 (.ofNat 0),.int .i64 (.ofNat 0)] [(0,1,(.tmp 21))])),none⟩,⟨(some 9),(.a (.new [.int .i64 (.ofNat 0),.int .i64 (.ofNat 0)])),none⟩,⟨none,(.e (.store 2 (.tmp 9) (.tmp 22))),none⟩])
 (.seq (.seq (.region [⟨(some 23),(.p (.mov (.tmp 8))),none⟩,⟨(some 24),(.p (.not (.tmp 23))),none⟩])
 (.cond (.tmp 24) (.seq (.region [⟨(some 25),(.loadn 2 (.tmp 9)),none⟩,⟨none,(.e (.store 2 (.tmp 4) (.tmp 25))),none⟩,⟨(some 5),(.p (.mov (.val (.bool true)))),none⟩])
 (.ret))
 (.skip)))
 (.seq (.dregion [⟨⟨(some 28),(.p (.mov (.tmp 7))),none⟩,0,1⟩,⟨⟨(some 29),(.e (.call 164 [(.tmp 28),(.val (.str [41]))])),none⟩,0,3⟩,⟨⟨(some 27),(.loadn 1 (.tmp 2)),none⟩,0,3⟩,⟨⟨(some 30),(.e (.call 120 [(.tmp 27),(.tmp 29)])),none⟩,2,9⟩,⟨⟨(some 26),(.p (.mov (.tmp 30))),none⟩,4,9⟩,⟨⟨(some 31),(.p (.ext (.tmp 26) 0)),none⟩,4,9⟩,⟨⟨(some 32),(.p (.ext (.tmp 26) 1)),none⟩,4,9⟩,⟨⟨(some 10),(.p (.mov (.tmp 31))),none⟩,4,9⟩,⟨⟨(some 11),(.p (.mov (.tmp 32))),none⟩,4,9⟩])
 (.seq (.region [⟨(some 33),(.p (.mov (.tmp 10))),none⟩,⟨(some 34),(.p (.faddr 1 (.tmp 9))),none⟩,⟨none,(.e (.store 1 (.tmp 34) (.tmp 33))),none⟩])
 (.seq (.region [⟨(some 35),(.loadn 2 (.tmp 9)),none⟩,⟨(some 36),(.p (.mov (.tmp 11))),none⟩,⟨none,(.e (.store 2 (.tmp 4) (.tmp 35))),none⟩,⟨(some 5),(.p (.mov (.tmp 36))),none⟩])
 (.ret))))))),[.celln 2 4,.tmp 5]⟩
theorem v141 : IsFun Tryz.prog 141 m141 := ⟨_, Tryz.func141, by kernel_rfl, by kernel_rfl⟩
def m147 : Fun := ⟨16,1,.seq (.region [⟨(some 1),(.a (.box (.tmp 0))),none⟩,⟨(some 2),(.p (.mov (.val (.bool false)))),none⟩])
 (.seq (.region [⟨(some 3),(.p (.faddr 1 (.tmp 1))),none⟩,⟨(some 4),(.load1 (.tmp 3)),none⟩,⟨(some 5),(.p (.bin .eql (.tmp 4) (.val (.int .i64 (.ofNat 0))))),none⟩,⟨(some 6),(.p (.mov (.tmp 5))),none⟩,⟨(some 7),(.p (.faddr 2 (.tmp 1))),(some (6,true))⟩,⟨(some 8),(.load1 (.tmp 7)),(some (6,true))⟩,⟨(some 9),(.p (.bin .eql (.tmp 8) (.val (.int .i64 (.ofNat 0))))),(some (6,true))⟩,⟨(some 10),(.p (.pick (.tmp 6) (.tmp 9) (.val (.bool false)))),none⟩,⟨(some 11),(.p (.mov (.tmp 10))),none⟩,⟨(some 12),(.p (.faddr 3 (.tmp 1))),(some (11,true))⟩,⟨(some 13),(.loadn 4 (.tmp 12)),(some (11,true))⟩,⟨(some 14),(.e (.call 148 [(.tmp 13)])),(some (11,true))⟩,⟨(some 15),(.p (.pick (.tmp 11) (.tmp 14) (.val (.bool false)))),none⟩,⟨(some 2),(.p (.mov (.tmp 15))),none⟩])
 (.ret)),[.tmp 2]⟩
theorem v147 : IsFun Tryz.prog 147 m147 := ⟨_, Tryz.func147, by kernel_rfl, by kernel_rfl⟩
def m148 : Fun := ⟨6,1,.seq (.region [⟨(some 1),(.a (.box (.tmp 0))),none⟩,⟨(some 2),(.p (.mov (.val (.bool false)))),none⟩])
 (.seq (.region [⟨(some 3),(.loadn 4 (.tmp 1)),none⟩,⟨(some 4),(.p (.build [.bool false,.int .i64 (.ofNat 0),.int .i64 (.ofNat 0),.nilslice] [])),none⟩,⟨(some 5),(.e (.call 170 [(.tmp 3),(.tmp 4)])),none⟩,⟨(some 2),(.p (.mov (.tmp 5))),none⟩])
 (.ret)),[.tmp 2]⟩
theorem v148 : IsFun Tryz.prog 148 m148 := ⟨_, Tryz.func148, by kernel_rfl, by kernel_rfl⟩
def m160 : Fun := ⟨8,2,.seq (.region [⟨(some 2),(.a (.box (.tmp 0))),none⟩,⟨(some 3),(.p (.mov (.val (.bool false)))),none⟩])
 (.seq (.region [⟨(some 4),(.p (.faddr 0 (.tmp 2))),none⟩,⟨(some 5),(.load1 (.tmp 4)),none⟩,⟨(some 6),(.load1 (.tmp 1)),none⟩,⟨(some 7),(.p (.bin .eql (.tmp 5) (.tmp 6))),none⟩,⟨(some 3),(.p (.mov (.tmp 7))),none⟩])
 (.ret)),[.tmp 3]⟩
theorem v160 : IsFun Tryz.prog 160 m160 := ⟨_, Tryz.func160, by kernel_rfl, by kernel_rfl⟩
def m161 : Fun := ⟨38,2,.seq (.region [⟨(some 2),(.a (.box (.tmp 0))),none⟩,⟨(some 3),(.a (.box (.tmp 1))),none⟩,⟨(some 4),(.p (.mov (.val (.bool false)))),none⟩])
 (.seq (.region [⟨(some 5),(.p (.faddr 0 (.tmp 2))),none⟩,⟨(some 6),(.load1 (.tmp 5)),none⟩,⟨(some 7),(.p (.faddr 0 (.tmp 3))),none⟩,⟨(some 8),(.load1 (.tmp 7)),none⟩,⟨(some 9),(.p (.bin .eql (.tmp 6) (.tmp 8))),none⟩,⟨(some 10),(.p (.mov (.tmp 9))),none⟩,⟨(some 11),(.p (.faddr 1 (.tmp 2))),(some (10,true))⟩,⟨(some 12),(.load1 (.tmp 11)),(some (10,true))⟩,⟨(some 13),(.p (.faddr 1 (.tmp 3))),(some (10,true))⟩,⟨(some 14),(.load1 (.tmp 13)),(some (10,true))⟩,⟨(some 15),(.p (.bin .eql (.tmp 12) (.tmp 14))),(some (10,true))⟩,⟨(some 16),(.p (.pick (.tmp 10) (.tmp 15) (.val (.bool false)))),none⟩,⟨(some 17),(.p (.mov (.tmp 16))),none⟩,⟨(some 18),(.p (.faddr 2 (.tmp 2))),(some (17,true))⟩,⟨(some 19),(.load1 (.tmp 18)),(some (17,true))⟩,⟨(some 20),(.p (.faddr 2 (.tmp 3))),(some (17,true))⟩,⟨(some 21),(.load1 (.tmp 20)),(some (17,true))⟩,⟨(some 22),(.p (.bin .eql (.tmp 19) (.tmp 21))),(some (17,true))⟩,⟨(some 23),(.p (.pick (.tmp 17) (.tmp 22) (.val (.bool false)))),none⟩,⟨(some 24),(.p (.mov (.tmp 23))),none⟩,⟨(some 25),(.p (.faddr 3 (.tmp 2))),(some (24,true))⟩,⟨(some 26),(.loadn 4 (.tmp 25)),(some (24,true))⟩,⟨(some 27),(.p (.faddr 3 (.tmp 3))),(some (24,true))⟩,⟨(some 28),(.loadn 4 (.tmp 27)),(some (24,true))⟩,⟨(some 29),(.e (.call 170 [(.tmp 26),(.tmp 28)])),(some (24,true))⟩,⟨(some 30),(.p (.pick (.tmp 24) (.tmp 29) (.val (.bool false)))),none⟩,⟨(some 31),(.p (.mov (.tmp 30))),none⟩,⟨(some 32),(.p (.faddr 7 (.tmp 2))),(some (31,true))⟩,⟨(some 33),(.load1 (.tmp 32)),(some (31,true))⟩,⟨(some 34),(.p (.faddr 7 (.tmp 3))),(some (31,true))⟩,⟨(some 35),(.load1 (.tmp 34)),(some (31,true))⟩,⟨(some 36),(.e (.call 174 [(.tmp 33),(.tmp 35),(.val (.func 161 [] []))])),(some (31,true))⟩,⟨(some 37),(.p (.pick (.tmp 31) (.tmp 36) (.val (.bool false)))),none⟩,⟨(some 4),(.p (.mov (.tmp 37))),none⟩])
 (.ret)),[.tmp 4]⟩
theorem v161 : IsFun Tryz.prog 161 m161 := ⟨_, Tryz.func161, by kernel_rfl, by kernel_rfl⟩
def m162 : Fun := ⟨19,2,.seq (.region [⟨(some 4),(.p (.mov (.val (.int .i64 (.ofNat 0))))),none⟩])
 (.seq (.seq (.region [⟨(some 6),(.p (.mov (.tmp 0))),none⟩,⟨(some 7),(.p (.lenb (.tmp 6))),none⟩,⟨(some 8),(.p (.mov (.val (.int .i64 (.ofNat 0))))),none⟩])
 (.block 0 (.loop (.seq (.region [⟨(some 9),(.p (.bin .lss (.tmp 8) (.tmp 7))),none⟩])
 (.seq (.cond (.tmp 9) (.skip)
 (.exit 0))
 (.seq (.block 1 (.seq (.region [⟨(some 10),(.p (.mov (.tmp 8))),none⟩,⟨(some 5),(.p (.mov (.tmp 10))),none⟩])
 (.seq (.region [⟨(some 11),(.p (.mov (.tmp 1))),none⟩,⟨(some 12),(.p (.mov (.tmp 0))),none⟩,⟨(some 13),(.p (.mov (.tmp 5))),none⟩,⟨(some 14),(.p (.iaddr 6 (.tmp 12) (.tmp 13))),none⟩,⟨(some 15),(.loadn 6 (.tmp 14)),none⟩,⟨(some 16),(.e (.callv (.tmp 11) [(.tmp 15)])),none⟩])
 (.cond (.tmp 16) (.seq (.region [⟨(some 17),(.p (.mov (.tmp 5))),none⟩,⟨(some 4),(.p (.mov (.tmp 17))),none⟩])
 (.ret))
 (.skip)))))
 (.region [⟨(some 18),(.p (.bin .add (.tmp 8) (.val (.int .i64 (.ofNat 1))))),none⟩,⟨(some 8),(.p (.mov (.tmp 18))),none⟩])))))))
 (.seq (.region [⟨(some 4),(.p (.mov (.val (.int .i64 (.negSucc 0))))),none⟩])
 (.ret))),[.tmp 4]⟩
theorem v162 : IsFun Tryz.prog 162 m162 := ⟨_, Tryz.func162, by kernel_rfl, by kernel_rfl⟩
def m170 : Fun := ⟨31,2,.seq (.region [⟨(some 2),(.a (.box (.tmp 0))),none⟩,⟨(some 3),(.a (.box (.tmp 1))),none⟩,⟨(some 4),(.p (.mov (.val (.bool false)))),none⟩])
 (.seq (.region [⟨(some 5),(.p (.faddr 0 (.tmp 2))),none⟩,⟨(some 6),(.load1 (.tmp 5)),none⟩,⟨(some 7),(.p (.faddr 0 (.tmp 3))),none⟩,⟨(some 8),(.load1 (.tmp 7)),none⟩,⟨(some 9),(.p (.eq .bool false (.tmp 6) (.tmp 8))),none⟩,⟨(some 10),(.p (.mov (.tmp 9))),none⟩,⟨(some 11),(.p (.faddr 1 (.tmp 2))),(some (10,true))⟩,⟨(some 12),(.load1 (.tmp 11)),(some (10,true))⟩,⟨(some 13),(.p (.faddr 1 (.tmp 3))),(some (10,true))⟩,⟨(some 14),(.load1 (.tmp 13)),(some (10,true))⟩,⟨(some 15),(.p (.bin .eql (.tmp 12) (.tmp 14))),(some (10,true))⟩,⟨(some 16),(.p (.pick (.tmp 10) (.tmp 15) (.val (.bool false)))),none⟩,⟨(some 17),(.p (.mov (.tmp 16))),none⟩,⟨(some 18),(.p (.faddr 2 (.tmp 2))),(some (17,true))⟩,⟨(some 19),(.load1 (.tmp 18)),(some (17,true))⟩,⟨(some 20),(.p (.faddr 2 (.tmp 3))),(some (17,true))⟩,⟨(some 21),(.load1 (.tmp 20)),(some (17,true))⟩,⟨(some 22),(.p (.bin .eql (.tmp 19) (.tmp 21))),(some (17,true))⟩,⟨(some 23),(.p (.pick (.tmp 17) (.tmp 22) (.val (.bool false)))),none⟩,⟨(some 24),(.p (.mov (.tmp 23))),none⟩,⟨(some 25),(.p (.faddr 3 (.tmp 2))),(some (24,true))⟩,⟨(some 26),(.load1 (.tmp 25)),(some (24,true))⟩,⟨(some 27),(.p (.faddr 3 (.tmp 3))),(some (24,true))⟩,⟨(some 28),(.load1 (.tmp 27)),(some (24,true))⟩,⟨(some 29),(.e (.call 177 [(.tmp 26),(.tmp 28)])),(some (24,true))⟩,⟨(some 30),(.p (.pick (.tmp 24) (.tmp 29) (.val (.bool false)))),none⟩,⟨(some 4),(.p (.mov (.tmp 30))),none⟩])
 (.ret)),[.tmp 4]⟩
theorem v170 : IsFun Tryz.prog 170 m170 := ⟨_, Tryz.func170, by kernel_rfl, by kernel_rfl⟩
def m174 : Fun := ⟨32,3,.seq (.region [⟨(some 6),(.p (.mov (.val (.bool false)))),none⟩])
 (.seq (.seq (.region [⟨(some 10),(.p (.mov (.tmp 0))),none⟩,⟨(some 11),(.p (.lenb (.tmp 10))),none⟩,⟨(some 12),(.p (.mov (.tmp 1))),none⟩,⟨(some 13),(.p (.lenb (.tmp 12))),none⟩,⟨(some 14),(.p (.bin .neq (.tmp 11) (.tmp 13))),none⟩])
 (.cond (.tmp 14) (.seq (.region [⟨(some 6),(.p (.mov (.val (.bool false)))),none⟩])
 (.ret))
 (.skip)))
 (.seq (.seq (.region [⟨(some 15),(.p (.mov (.tmp 0))),none⟩,⟨(some 16),(.p (.lenb (.tmp 15))),none⟩,⟨(some 17),(.p (.mov (.val (.int .i64 (.ofNat 0))))),none⟩])
 (.block 0 (.loop (.seq (.region [⟨(some 18),(.p (.bin .lss (.tmp 17) (.tmp 16))),none⟩])
 (.seq (.cond (.tmp 18) (.skip)
 (.exit 0))
 (.seq (.block 1 (.seq (.region [⟨(some 19),(.p (.mov (.tmp 17))),none⟩,⟨(some 20),(.p (.iaddr 8 (.tmp 15) (.tmp 17))),none⟩,⟨(some 21),(.loadn 8 (.tmp 20)),none⟩,⟨(some 8),(.a (.new [.int .i64 (.ofNat 0),.int .i64 (.ofNat 0),.int .i64 (.ofNat 0),.bool false,.int .i64 (.ofNat 0),.int .i64 (.ofNat 0),.nilslice,.nilslice])),none⟩,⟨(some 7),(.p (.mov (.tmp 19))),none⟩,⟨none,(.e (.store 8 (.tmp 8) (.tmp 21))),none⟩])
 (.seq (.region [⟨(some 22),(.p (.mov (.tmp 1))),none⟩,⟨(some 23),(.p (.mov (.tmp 7))),none⟩,⟨(some 24),(.p (.iaddr 8 (.tmp 22) (.tmp 23))),none⟩,⟨(some 25),(.loadn 8 (.tmp 24)),none⟩,⟨(some 9),(.a (.new [.int .i64 (.ofNat 0),.int .i64 (.ofNat 0),.int .i64 (.ofNat 0),.bool false,.int .i64 (.ofNat 0),.int .i64 (.ofNat 0),.nilslice,.nilslice])),none⟩,⟨none,(.e (.store 8 (.tmp 9) (.tmp 25))),none⟩])
 (.seq (.region [⟨(some 26),(.p (.mov (.tmp 2))),none⟩,⟨(some 27),(.loadn 8 (.tmp 8)),none⟩,⟨(some 28),(.loadn 8 (.tmp 9)),none⟩,⟨(some 29),(.e (.callv (.tmp 26) [(.tmp 27),(.tmp 28)])),none⟩,⟨(some 30),(.p (.not (.tmp 29))),none⟩])
 (.cond (.tmp 30) (.seq (.region [⟨(some 6),(.p (.mov (.val (.bool false)))),none⟩])
 (.ret))
 (.skip))))))
 (.region [⟨(some 31),(.p (.bin .add (.tmp 17) (.val (.int .i64 (.ofNat 1))))),none⟩,⟨(some 17),(.p (.mov (.tmp 31))),none⟩])))))))
 (.seq (.region [⟨(some 6),(.p (.mov (.val (.bool true)))),none⟩])
 (.ret)))),[.tmp 6]⟩
theorem v174 : IsFun Tryz.prog 174 m174 := ⟨_, Tryz.func174, by kernel_rfl, by kernel_rfl⟩
def m177 : Fun := ⟨10,2,.seq (.region [⟨(some 4),(.p (.mov (.val (.bool false)))),none⟩])
 (.seq (.region [⟨(some 5),(.p (.mov (.tmp 0))),none⟩,⟨(some 6),(.e (.text (.tmp 5))),none⟩,⟨(some 7),(.p (.mov (.tmp 1))),none⟩,⟨(some 8),(.e (.text (.tmp 7))),none⟩,⟨(some 9),(.p (.bin .eql (.tmp 6) (.tmp 8))),none⟩,⟨(some 4),(.p (.mov (.tmp 9))),none⟩])
 (.ret)),[.tmp 4]⟩
theorem v177 : IsFun Tryz.prog 177 m177 := ⟨_, Tryz.func177, by kernel_rfl, by kernel_rfl⟩
end Go.Proofs.YtcoghkkhjaokmaaGreatDoor
