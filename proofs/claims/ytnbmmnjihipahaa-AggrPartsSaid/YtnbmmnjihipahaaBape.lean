/-
  Texts that the claim's last one rests on, joined.
-/
import Derived.Test.YtnbmmnjihipahaaRows
import Derived.Test.YtnbmmnjihipahaaBapb
import Derived.Test.YtnbmmnjihipahaaBapc
import Derived.Test.YtnbmmnjihipahaaBapd

section
set_option maxRecDepth 100000
namespace Go.Proofs.Ytnbmmnjihipahaa
open Go.Vm
def m4 : Fun := ⟨139,3,.seq (.region [⟨(some 6),(.p (.mov (.val (.bool false)))),none⟩])
 (.seq (.region [⟨(some 18),(.p (.mov (.tmp 0))),none⟩,⟨(some 19),(.e (.call 17 [(.tmp 18)])),none⟩,⟨(some 7),(.a (.new [.nilslice])),none⟩,⟨none,(.e (.store 1 (.tmp 7) (.tmp 19))),none⟩])
 (.seq (.region [⟨(some 20),(.loadn 1 (.tmp 7)),none⟩,⟨(some 21),(.p (.mov (.tmp 1))),none⟩,⟨(some 22),(.e (.call 18 [(.tmp 20),(.tmp 21)])),none⟩,⟨(some 8),(.p (.mov (.tmp 22))),none⟩])
 (.seq (.region [⟨(some 23),(.p (.mov (.tmp 2))),none⟩,⟨(some 24),(.p (.bin .and (.tmp 23) (.val (.int .i64 (.ofNat 255))))),none⟩,⟨(some 25),(.p (.faddr 0 (.tmp 7))),none⟩,⟨(some 26),(.load1 (.tmp 25)),none⟩,⟨(some 27),(.p (.lenb (.tmp 26))),none⟩,⟨(some 28),(.p (.bin .rem (.tmp 24) (.tmp 27))),none⟩,⟨(some 9),(.p (.mov (.tmp 28))),none⟩])
 (.seq (.region [⟨(some 30),(.p (.mov (.tmp 8))),none⟩,⟨(some 31),(.p (.mov (.tmp 9))),none⟩,⟨(some 32),(.p (.build [.int .i64 (.ofNat 0),.int .i64 (.ofNat 0)] [(0,1,(.val (.int .i64 (.ofNat 1))))])),none⟩,⟨(some 33),(.p (.build [.int .i64 (.ofNat 0),.int .i64 (.ofNat 0)] [(0,1,(.val (.int .i64 (.ofNat 2))))])),none⟩,⟨(some 34),(.a (.bslice [.int .i64 (.ofNat 0),.int .i64 (.ofNat 0),.int .i64 (.ofNat 0),.int .i64 (.ofNat 0)] 2 2 [(0,2,(.tmp 32)),(2,2,(.tmp 33))])),none⟩,⟨(some 35),(.e (.call 15 [(.tmp 30),(.tmp 31),(.tmp 34)])),none⟩,⟨(some 29),(.p (.mov (.tmp 35))),none⟩,⟨(some 36),(.p (.ext (.tmp 29) 0)),none⟩,⟨(some 37),(.p (.ext (.tmp 29) 1)),none⟩,⟨(some 10),(.p (.mov (.tmp 36))),none⟩,⟨(some 11),(.p (.mov (.tmp 37))),none⟩])
 (.seq (.region [⟨(some 39),(.p (.mov (.tmp 8))),none⟩,⟨(some 40),(.p (.build [.int .i64 (.ofNat 0),.int .i64 (.ofNat 0)] [(0,1,(.val (.int .i64 (.ofNat 1))))])),none⟩,⟨(some 41),(.p (.build [.int .i64 (.ofNat 0),.int .i64 (.ofNat 0)] [(0,1,(.val (.int .i64 (.ofNat 2))))])),none⟩,⟨(some 42),(.a (.bslice [.int .i64 (.ofNat 0),.int .i64 (.ofNat 0),.int .i64 (.ofNat 0),.int .i64 (.ofNat 0)] 2 2 [(0,2,(.tmp 40)),(2,2,(.tmp 41))])),none⟩,⟨(some 43),(.e (.call 15 [(.tmp 39),(.val (.int .i64 (.negSucc 0))),(.tmp 42)])),none⟩,⟨(some 38),(.p (.mov (.tmp 43))),none⟩,⟨(some 44),(.p (.ext (.tmp 38) 0)),none⟩,⟨(some 45),(.p (.ext (.tmp 38) 1)),none⟩,⟨(some 12),(.p (.mov (.tmp 44))),none⟩,⟨(some 13),(.p (.mov (.tmp 45))),none⟩])
 (.seq (.seq (.region [⟨(some 46),(.p (.mov (.tmp 11))),none⟩,⟨(some 47),(.p (.not (.tmp 46))),none⟩,⟨(some 48),(.p (.mov (.tmp 47))),none⟩,⟨(some 49),(.p (.mov (.tmp 13))),(some (48,false))⟩,⟨(some 50),(.p (.not (.tmp 49))),(some (48,false))⟩,⟨(some 51),(.p (.pick (.tmp 48) (.val (.bool true)) (.tmp 50))),none⟩,⟨(some 52),(.p (.mov (.tmp 51))),none⟩,⟨(some 53),(.p (.mov (.tmp 12))),(some (52,false))⟩,⟨(some 54),(.p (.lenb (.tmp 53))),(some (52,false))⟩,⟨(some 55),(.p (.bin .neq (.tmp 54) (.val (.int .i64 (.ofNat 1))))),(some (52,false))⟩,⟨(some 56),(.p (.pick (.tmp 52) (.val (.bool true)) (.tmp 55))),none⟩,⟨(some 57),(.p (.mov (.tmp 56))),none⟩,⟨(some 58),(.p (.mov (.tmp 12))),(some (57,false))⟩,⟨(some 59),(.p (.iaddr 1 (.tmp 58) (.val (.int .i64 (.ofNat 0))))),(some (57,false))⟩,⟨(some 60),(.load1 (.tmp 59)),(some (57,false))⟩,⟨(some 61),(.p (.lenb (.tmp 60))),(some (57,false))⟩,⟨(some 62),(.p (.bin .neq (.tmp 61) (.val (.int .i64 (.ofNat 2))))),(some (57,false))⟩,⟨(some 63),(.p (.pick (.tmp 57) (.val (.bool true)) (.tmp 62))),none⟩])
 (.cond (.tmp 63) (.seq (.region [⟨(some 6),(.p (.mov (.val (.bool false)))),none⟩])
 (.ret))
 (.skip)))
 (.seq (.region [⟨(some 14),(.p (.mov (.val (.int .i64 (.ofNat 0))))),none⟩,⟨(some 15),(.p (.mov (.val (.int .i64 (.ofNat 0))))),none⟩])
 (.seq (.seq (.region [⟨(some 64),(.p (.mov (.tmp 10))),none⟩,⟨(some 65),(.p (.lenb (.tmp 64))),none⟩,⟨(some 66),(.p (.mov (.val (.int .i64 (.ofNat 0))))),none⟩])
 (.block 0 (.loop (.seq (.region [⟨(some 67),(.p (.bin .lss (.tmp 66) (.tmp 65))),none⟩])
 (.seq (.cond (.tmp 67) (.skip)
 (.exit 0))
 (.seq (.block 1 (.seq (.region [⟨(some 68),(.p (.mov (.tmp 66))),none⟩,⟨(some 69),(.p (.iaddr 1 (.tmp 64) (.tmp 66))),none⟩,⟨(some 70),(.load1 (.tmp 69)),none⟩,⟨(some 16),(.p (.mov (.tmp 68))),none⟩,⟨(some 17),(.p (.mov (.tmp 70))),none⟩])
 (.seq (.seq (.dregion [⟨⟨(some 71),(.p (.mov (.tmp 17))),none⟩,0,24⟩,⟨⟨(some 72),(.p (.lenb (.tmp 71))),none⟩,0,24⟩,⟨⟨(some 73),(.p (.bin .neq (.tmp 72) (.val (.int .i64 (.ofNat 3))))),none⟩,0,24⟩,⟨⟨(some 74),(.p (.mov (.tmp 73))),none⟩,0,24⟩,⟨⟨(some 75),(.p (.mov (.tmp 17))),(some (74,false))⟩,0,24⟩,⟨⟨(some 76),(.p (.iaddr 4 (.tmp 75) (.val (.int .i64 (.ofNat 1))))),(some (74,false))⟩,0,24⟩,⟨⟨(some 77),(.p (.faddr 2 (.tmp 76))),(some (74,false))⟩,0,24⟩,⟨⟨(some 78),(.load1 (.tmp 77)),(some (74,false))⟩,0,24⟩,⟨⟨(some 79),(.p (.bin .lss (.tmp 78) (.val (.int .i64 (.ofNat 1))))),(some (74,false))⟩,0,24⟩,⟨⟨(some 80),(.p (.pick (.tmp 74) (.val (.bool true)) (.tmp 79))),none⟩,0,24⟩,⟨⟨(some 81),(.p (.mov (.tmp 80))),none⟩,0,24⟩,⟨⟨(some 82),(.p (.mov (.tmp 16))),(some (81,false))⟩,0,24⟩,⟨⟨(some 83),(.p (.bin .gtr (.tmp 82) (.val (.int .i64 (.ofNat 0))))),(some (81,false))⟩,0,24⟩,⟨⟨(some 84),(.p (.mov (.tmp 83))),(some (81,false))⟩,0,24⟩,⟨⟨(some 85),(.p (.mov (.tmp 10))),(some (84,true))⟩,0,24⟩,⟨⟨(some 86),(.p (.mov (.tmp 16))),(some (84,true))⟩,0,24⟩,⟨⟨(some 87),(.p (.bin .sub (.tmp 86) (.val (.int .i64 (.ofNat 1))))),(some (84,true))⟩,0,24⟩,⟨⟨(some 88),(.p (.iaddr 1 (.tmp 85) (.tmp 87))),(some (84,true))⟩,0,24⟩,⟨⟨(some 89),(.load1 (.tmp 88)),(some (84,true))⟩,0,24⟩,⟨⟨(some 90),(.p (.iaddr 4 (.tmp 89) (.val (.int .i64 (.ofNat 0))))),(some (84,true))⟩,0,24⟩,⟨⟨(some 91),(.loadn 4 (.tmp 90)),(some (84,true))⟩,0,24⟩,⟨⟨(some 92),(.p (.mov (.tmp 17))),(some (84,true))⟩,0,24⟩,⟨⟨(some 93),(.p (.iaddr 4 (.tmp 92) (.val (.int .i64 (.ofNat 0))))),(some (84,true))⟩,0,24⟩,⟨⟨(some 94),(.loadn 4 (.tmp 93)),(some (84,true))⟩,0,24⟩,⟨⟨(some 95),(.e (.call 19 [(.tmp 91),(.tmp 94)])),(some (84,true))⟩,0,28⟩,⟨⟨(some 96),(.p (.bin .geq (.tmp 95) (.val (.int .i64 (.ofNat 0))))),(some (84,true))⟩,25,28⟩,⟨⟨(some 97),(.p (.pick (.tmp 84) (.tmp 96) (.val (.bool false)))),(some (81,false))⟩,25,28⟩,⟨⟨(some 98),(.p (.pick (.tmp 81) (.val (.bool true)) (.tmp 97))),none⟩,25,28⟩])
 (.cond (.tmp 98) (.seq (.region [⟨(some 6),(.p (.mov (.val (.bool false)))),none⟩])
 (.ret))
 (.skip)))
 (.dregion [⟨⟨(some 99),(.p (.mov (.tmp 14))),none⟩,0,14⟩,⟨⟨(some 100),(.p (.mov (.tmp 17))),none⟩,0,14⟩,⟨⟨(some 101),(.p (.iaddr 4 (.tmp 100) (.val (.int .i64 (.ofNat 1))))),none⟩,0,14⟩,⟨⟨(some 102),(.p (.faddr 2 (.tmp 101))),none⟩,0,14⟩,⟨⟨(some 103),(.load1 (.tmp 102)),none⟩,0,14⟩,⟨⟨(some 104),(.p (.bin .add (.tmp 99) (.tmp 103))),none⟩,0,14⟩,⟨⟨(some 105),(.p (.mov (.tmp 15))),none⟩,0,14⟩,⟨⟨(some 106),(.p (.mov (.tmp 17))),none⟩,0,14⟩,⟨⟨(some 107),(.p (.iaddr 4 (.tmp 106) (.val (.int .i64 (.ofNat 2))))),none⟩,0,14⟩,⟨⟨(some 108),(.p (.faddr 2 (.tmp 107))),none⟩,0,14⟩,⟨⟨(some 109),(.load1 (.tmp 108)),none⟩,0,14⟩,⟨⟨(some 110),(.p (.bin .add (.tmp 105) (.tmp 109))),none⟩,0,14⟩,⟨⟨(some 14),(.p (.mov (.tmp 104))),none⟩,0,14⟩,⟨⟨(some 15),(.p (.mov (.tmp 110))),none⟩,0,14⟩]))))
 (.region [⟨(some 111),(.p (.bin .add (.tmp 66) (.val (.int .i64 (.ofNat 1))))),none⟩,⟨(some 66),(.p (.mov (.tmp 111))),none⟩])))))))
 (.seq (.region [⟨(some 112),(.p (.mov (.tmp 14))),none⟩,⟨(some 113),(.p (.mov (.tmp 12))),none⟩,⟨(some 114),(.p (.iaddr 1 (.tmp 113) (.val (.int .i64 (.ofNat 0))))),none⟩,⟨(some 115),(.load1 (.tmp 114)),none⟩,⟨(some 116),(.p (.iaddr 4 (.tmp 115) (.val (.int .i64 (.ofNat 0))))),none⟩,⟨(some 117),(.p (.faddr 2 (.tmp 116))),none⟩,⟨(some 118),(.load1 (.tmp 117)),none⟩,⟨(some 119),(.p (.bin .eql (.tmp 112) (.tmp 118))),none⟩,⟨(some 120),(.p (.mov (.tmp 119))),none⟩,⟨(some 121),(.p (.mov (.tmp 15))),(some (120,true))⟩,⟨(some 122),(.p (.mov (.tmp 12))),(some (120,true))⟩,⟨(some 123),(.p (.iaddr 1 (.tmp 122) (.val (.int .i64 (.ofNat 0))))),(some (120,true))⟩,⟨(some 124),(.load1 (.tmp 123)),(some (120,true))⟩,⟨(some 125),(.p (.iaddr 4 (.tmp 124) (.val (.int .i64 (.ofNat 1))))),(some (120,true))⟩,⟨(some 126),(.p (.faddr 2 (.tmp 125))),(some (120,true))⟩,⟨(some 127),(.load1 (.tmp 126)),(some (120,true))⟩,⟨(some 128),(.p (.bin .eql (.tmp 121) (.tmp 127))),(some (120,true))⟩,⟨(some 129),(.p (.pick (.tmp 120) (.tmp 128) (.val (.bool false)))),none⟩,⟨(some 130),(.p (.mov (.tmp 129))),none⟩,⟨(some 131),(.p (.mov (.tmp 14))),(some (130,true))⟩,⟨(some 132),(.p (.mov (.tmp 8))),(some (130,true))⟩,⟨(some 133),(.p (.lenb (.tmp 132))),(some (130,true))⟩,⟨(some 134),(.p (.bin .eql (.tmp 131) (.tmp 133))),(some (130,true))⟩,⟨(some 135),(.p (.pick (.tmp 130) (.tmp 134) (.val (.bool false)))),none⟩,⟨(some 136),(.p (.mov (.tmp 135))),none⟩,⟨(some 137),(.e (.call 16 [])),(some (136,true))⟩,⟨(some 138),(.p (.pick (.tmp 136) (.tmp 137) (.val (.bool false)))),none⟩,⟨(some 6),(.p (.mov (.tmp 138))),none⟩])
 (.ret)))))))))),[.tmp 6]⟩
theorem v4 : IsFun Try.prog 4 m4 := ⟨_, Try.func4, by kernel_rfl, by kernel_rfl⟩
def m15 : Fun := ⟨79,3,.seq (.region [⟨(some 4),(.a (.box (.tmp 1))),none⟩,⟨(some 6),(.p (.mov (.val (.nilslice)))),none⟩,⟨(some 7),(.p (.mov (.val (.bool false)))),none⟩])
 (.seq (.seq (.region [⟨(some 16),(.load1 (.tmp 4)),none⟩,⟨(some 17),(.p (.bin .lss (.tmp 16) (.val (.int .i64 (.ofNat 0))))),none⟩])
 (.cond (.tmp 17) (.seq (.region [⟨(some 19),(.p (.mov (.tmp 0))),none⟩,⟨(some 20),(.p (.mov (.tmp 2))),none⟩,⟨(some 21),(.e (.call 52 [(.val (.nilslice)),(.tmp 19),(.tmp 20)])),none⟩,⟨(some 18),(.p (.mov (.tmp 21))),none⟩,⟨(some 22),(.p (.ext (.tmp 18) 0)),none⟩,⟨(some 23),(.p (.ext (.tmp 18) 1)),none⟩,⟨(some 8),(.p (.mov (.tmp 22))),none⟩,⟨(some 9),(.p (.mov (.tmp 23))),none⟩])
 (.seq (.seq (.region [⟨(some 24),(.p (.mov (.tmp 9))),none⟩,⟨(some 25),(.p (.not (.tmp 24))),none⟩])
 (.cond (.tmp 25) (.seq (.region [⟨(some 6),(.p (.mov (.val (.nilslice)))),none⟩,⟨(some 7),(.p (.mov (.val (.bool false)))),none⟩])
 (.ret))
 (.skip)))
 (.seq (.region [⟨(some 26),(.p (.mov (.tmp 8))),none⟩,⟨(some 27),(.a (.bslice [.nilslice] 1 1 [(0,1,(.tmp 26))])),none⟩,⟨(some 6),(.p (.mov (.tmp 27))),none⟩,⟨(some 7),(.p (.mov (.val (.bool true)))),none⟩])
 (.ret))))
 (.skip)))
 (.seq (.region [⟨(some 28),(.p (.mov (.tmp 0))),none⟩,⟨(some 29),(.e (.call 53 [(.tmp 28)])),none⟩,⟨(some 10),(.p (.mov (.tmp 29))),none⟩])
 (.seq (.region [⟨(some 30),(.p (.mov (.tmp 10))),none⟩,⟨(some 31),(.p (.mkfunc 55 [] [(.tmp 4)])),none⟩,⟨(some 32),(.e (.call 54 [(.tmp 30),(.tmp 31)])),none⟩])
 (.seq (.region [⟨(some 11),(.p (.mov (.val (.nilslice)))),none⟩])
 (.seq (.block 0 (.loop (.seq (.seq (.region [⟨(some 33),(.p (.mov (.tmp 10))),none⟩,⟨(some 34),(.p (.lenb (.tmp 33))),none⟩,⟨(some 35),(.p (.bin .gtr (.tmp 34) (.val (.int .i64 (.ofNat 0))))),none⟩])
 (.cond (.tmp 35) (.skip)
 (.exit 0)))
 (.block 1 (.seq (.dregion [⟨⟨(some 36),(.p (.mov (.tmp 10))),none⟩,0,4⟩,⟨⟨(some 37),(.p (.iaddr 1 (.tmp 36) (.val (.int .i64 (.ofNat 0))))),none⟩,0,4⟩,⟨⟨(some 38),(.load1 (.tmp 37)),none⟩,0,4⟩,⟨⟨(some 39),(.load1 (.tmp 4)),none⟩,0,4⟩,⟨⟨(some 40),(.e (.call 57 [(.tmp 38),(.tmp 39)])),none⟩,0,6⟩,⟨⟨(some 12),(.a (.new [.bool false,.int .i64 (.ofNat 0),.int .i64 (.ofNat 0),.nilslice])),none⟩,0,6⟩,⟨⟨none,(.e (.store 4 (.tmp 12) (.tmp 40))),none⟩,5,7⟩])
 (.seq (.region [⟨(some 13),(.p (.mov (.val (.int .i64 (.ofNat 1))))),none⟩])
 (.seq (.block 2 (.loop (.seq (.seq (.dregion [⟨⟨(some 41),(.p (.mov (.tmp 13))),none⟩,0,10⟩,⟨⟨(some 42),(.p (.mov (.tmp 10))),none⟩,0,10⟩,⟨⟨(some 43),(.p (.lenb (.tmp 42))),none⟩,0,10⟩,⟨⟨(some 44),(.p (.bin .lss (.tmp 41) (.tmp 43))),none⟩,0,10⟩,⟨⟨(some 45),(.p (.mov (.tmp 44))),none⟩,0,10⟩,⟨⟨(some 46),(.p (.mov (.tmp 10))),(some (45,true))⟩,0,10⟩,⟨⟨(some 47),(.p (.mov (.tmp 13))),(some (45,true))⟩,0,10⟩,⟨⟨(some 48),(.p (.iaddr 1 (.tmp 46) (.tmp 47))),(some (45,true))⟩,0,10⟩,⟨⟨(some 49),(.load1 (.tmp 48)),(some (45,true))⟩,0,10⟩,⟨⟨(some 50),(.load1 (.tmp 4)),(some (45,true))⟩,0,10⟩,⟨⟨(some 51),(.e (.call 57 [(.tmp 49),(.tmp 50)])),(some (45,true))⟩,0,12⟩,⟨⟨(some 52),(.loadn 4 (.tmp 12)),(some (45,true))⟩,0,12⟩,⟨⟨(some 53),(.e (.call 56 [(.tmp 51),(.tmp 52)])),(some (45,true))⟩,11,15⟩,⟨⟨(some 54),(.p (.bin .eql (.tmp 53) (.val (.int .i64 (.ofNat 0))))),(some (45,true))⟩,13,15⟩,⟨⟨(some 55),(.p (.pick (.tmp 45) (.tmp 54) (.val (.bool false)))),none⟩,13,15⟩])
 (.cond (.tmp 55) (.skip)
 (.exit 2)))
 (.block 3 (.region [⟨(some 56),(.p (.mov (.tmp 13))),none⟩,⟨(some 57),(.p (.bin .add (.tmp 56) (.val (.int .i64 (.ofNat 1))))),none⟩,⟨(some 13),(.p (.mov (.tmp 57))),none⟩])))))
 (.seq (.dregion [⟨⟨(some 59),(.loadn 4 (.tmp 12)),none⟩,0,6⟩,⟨⟨(some 60),(.a (.bslice [.bool false,.int .i64 (.ofNat 0),.int .i64 (.ofNat 0),.nilslice] 4 1 [(0,4,(.tmp 59))])),none⟩,0,6⟩,⟨⟨(some 61),(.p (.mov (.tmp 10))),none⟩,0,6⟩,⟨⟨(some 62),(.p (.mov (.tmp 13))),none⟩,0,6⟩,⟨⟨(some 63),(.p (.slc 1 (.tmp 61) none (some (.tmp 62)) none)),none⟩,0,6⟩,⟨⟨(some 64),(.p (.mov (.tmp 2))),none⟩,0,6⟩,⟨⟨(some 65),(.e (.call 52 [(.tmp 60),(.tmp 63),(.tmp 64)])),none⟩,0,12⟩,⟨⟨(some 58),(.p (.mov (.tmp 65))),none⟩,7,12⟩,⟨⟨(some 66),(.p (.ext (.tmp 58) 0)),none⟩,7,12⟩,⟨⟨(some 67),(.p (.ext (.tmp 58) 1)),none⟩,7,12⟩,⟨⟨(some 14),(.p (.mov (.tmp 66))),none⟩,7,12⟩,⟨⟨(some 15),(.p (.mov (.tmp 67))),none⟩,7,12⟩])
 (.seq (.seq (.region [⟨(some 68),(.p (.mov (.tmp 15))),none⟩,⟨(some 69),(.p (.not (.tmp 68))),none⟩])
 (.cond (.tmp 69) (.seq (.region [⟨(some 6),(.p (.mov (.val (.nilslice)))),none⟩,⟨(some 7),(.p (.mov (.val (.bool false)))),none⟩])
 (.ret))
 (.skip)))
 (.seq (.region [⟨(some 70),(.p (.mov (.tmp 11))),none⟩,⟨(some 71),(.p (.mov (.tmp 14))),none⟩,⟨(some 72),(.a (.bslice [.nilslice] 1 1 [(0,1,(.tmp 71))])),none⟩,⟨(some 73),(.e (.append 1 24 (.tmp 70) (.tmp 72))),none⟩,⟨(some 11),(.p (.mov (.tmp 73))),none⟩])
 (.region [⟨(some 74),(.p (.mov (.tmp 10))),none⟩,⟨(some 75),(.p (.mov (.tmp 13))),none⟩,⟨(some 76),(.p (.slc 1 (.tmp 74) (some (.tmp 75)) none none)),none⟩,⟨(some 10),(.p (.mov (.tmp 76))),none⟩])))))))))))
 (.seq (.region [⟨(some 77),(.p (.mov (.tmp 11))),none⟩,⟨(some 78),(.e (.call 58 [(.tmp 77)])),none⟩,⟨(some 6),(.p (.mov (.tmp 78))),none⟩,⟨(some 7),(.p (.mov (.val (.bool true)))),none⟩])
 (.ret))))))),[.tmp 6,.tmp 7]⟩
theorem v15 : IsFun Try.prog 15 m15 := ⟨_, Try.func15, by kernel_rfl, by kernel_rfl⟩
def m16 : Fun := ⟨155,0,.seq (.region [⟨(some 0),(.p (.mov (.val (.bool false)))),none⟩])
 (.seq (.region [⟨(some 1),(.p (.mov (.val (.func 59 [] [])))),none⟩])
 (.seq (.region [⟨(some 13),(.p (.build [.bool false,.int .i64 (.ofNat 0),.int .i64 (.ofNat 0),.nilslice] [(1,1,(.val (.int .i64 (.ofNat 1)))),(0,1,(.val (.bool true)))])),none⟩,⟨(some 2),(.a (.new [.bool false,.int .i64 (.ofNat 0),.int .i64 (.ofNat 0),.nilslice])),none⟩,⟨none,(.e (.store 4 (.tmp 2) (.tmp 13))),none⟩])
 (.seq (.dregion [⟨⟨(some 14),(.p (.mov (.tmp 1))),none⟩,0,1⟩,⟨⟨(some 15),(.e (.callv (.tmp 14) [(.val (.int .i64 (.ofNat 2)))])),none⟩,0,3⟩,⟨⟨(some 16),(.p (.mov (.tmp 1))),none⟩,0,3⟩,⟨⟨(some 17),(.e (.callv (.tmp 16) [(.val (.int .i64 (.ofNat 9223372036854775807)))])),none⟩,2,5⟩,⟨⟨(some 19),(.p (.mov (.tmp 1))),none⟩,0,5⟩,⟨⟨(some 20),(.e (.callv (.tmp 19) [(.val (.int .i64 (.ofNat 1)))])),none⟩,4,7⟩,⟨⟨(some 21),(.p (.mov (.tmp 1))),none⟩,0,7⟩,⟨⟨(some 22),(.e (.callv (.tmp 21) [(.val (.int .i64 (.ofNat 1)))])),none⟩,6,9⟩,⟨⟨(some 24),(.p (.mov (.tmp 1))),none⟩,0,9⟩,⟨⟨(some 25),(.e (.callv (.tmp 24) [(.val (.int .i64 (.ofNat 3)))])),none⟩,8,11⟩,⟨⟨(some 28),(.p (.mov (.tmp 1))),none⟩,0,11⟩,⟨⟨(some 29),(.e (.callv (.tmp 28) [(.val (.int .i64 (.ofNat 2)))])),none⟩,10,13⟩,⟨⟨(some 30),(.p (.mov (.tmp 1))),none⟩,0,13⟩,⟨⟨(some 31),(.e (.callv (.tmp 30) [(.val (.int .i64 (.negSucc 4)))])),none⟩,12,21⟩,⟨⟨(some 18),(.a (.bslice [.bool false,.int .i64 (.ofNat 0),.int .i64 (.ofNat 0),.nilslice,.bool false,.int .i64 (.ofNat 0),.int .i64 (.ofNat 0),.nilslice] 4 2 [(0,4,(.tmp 15)),(4,4,(.tmp 17))])),none⟩,4,21⟩,⟨⟨(some 23),(.a (.bslice [.bool false,.int .i64 (.ofNat 0),.int .i64 (.ofNat 0),.nilslice,.bool false,.int .i64 (.ofNat 0),.int .i64 (.ofNat 0),.nilslice] 4 2 [(0,4,(.tmp 20)),(4,4,(.tmp 22))])),none⟩,8,21⟩,⟨⟨(some 26),(.loadn 4 (.tmp 2)),none⟩,0,21⟩,⟨⟨(some 27),(.a (.bslice [.bool false,.int .i64 (.ofNat 0),.int .i64 (.ofNat 0),.nilslice,.bool false,.int .i64 (.ofNat 0),.int .i64 (.ofNat 0),.nilslice] 4 2 [(0,4,(.tmp 25)),(4,4,(.tmp 26))])),none⟩,10,21⟩,⟨⟨(some 32),(.a (.bslice [.bool false,.int .i64 (.ofNat 0),.int .i64 (.ofNat 0),.nilslice,.bool false,.int .i64 (.ofNat 0),.int .i64 (.ofNat 0),.nilslice] 4 2 [(0,4,(.tmp 29)),(4,4,(.tmp 31))])),none⟩,14,21⟩,⟨⟨(some 33),(.a (.bslice [.nilslice,.nilslice,.nilslice,.nilslice] 1 4 [(0,1,(.tmp 18)),(1,1,(.tmp 23)),(2,1,(.tmp 27)),(3,1,(.tmp 32))])),none⟩,14,21⟩,⟨⟨(some 3),(.p (.mov (.tmp 33))),none⟩,14,21⟩])
 (.seq (.region [⟨(some 35),(.p (.mov (.tmp 3))),none⟩,⟨(some 36),(.p (.build [.int .i64 (.ofNat 0),.int .i64 (.ofNat 0)] [(0,1,(.val (.int .i64 (.ofNat 1))))])),none⟩,⟨(some 37),(.p (.build [.int .i64 (.ofNat 0),.int .i64 (.ofNat 0)] [(0,1,(.val (.int .i64 (.ofNat 2)))),(1,1,(.val (.int .i64 (.ofNat 1))))])),none⟩,⟨(some 38),(.a (.bslice [.int .i64 (.ofNat 0),.int .i64 (.ofNat 0),.int .i64 (.ofNat 0),.int .i64 (.ofNat 0)] 2 2 [(0,2,(.tmp 36)),(2,2,(.tmp 37))])),none⟩,⟨(some 39),(.e (.call 15 [(.tmp 35),(.val (.int .i64 (.ofNat 0))),(.tmp 38)])),none⟩,⟨(some 34),(.p (.mov (.tmp 39))),none⟩,⟨(some 40),(.p (.ext (.tmp 34) 0)),none⟩,⟨(some 41),(.p (.ext (.tmp 34) 1)),none⟩,⟨(some 4),(.p (.mov (.tmp 40))),none⟩,⟨(some 5),(.p (.mov (.tmp 41))),none⟩])
 (.seq (.region [⟨(some 43),(.p (.mov (.tmp 3))),none⟩,⟨(some 44),(.p (.slc 1 (.tmp 43) none (some (.val (.int .i64 (.ofNat 2)))) none)),none⟩,⟨(some 45),(.p (.build [.int .i64 (.ofNat 0),.int .i64 (.ofNat 0)] [(0,1,(.val (.int .i64 (.ofNat 2)))),(1,1,(.val (.int .i64 (.ofNat 1))))])),none⟩,⟨(some 46),(.a (.bslice [.int .i64 (.ofNat 0),.int .i64 (.ofNat 0)] 2 1 [(0,2,(.tmp 45))])),none⟩,⟨(some 47),(.e (.call 15 [(.tmp 44),(.val (.int .i64 (.negSucc 0))),(.tmp 46)])),none⟩,⟨(some 42),(.p (.mov (.tmp 47))),none⟩,⟨(some 48),(.p (.ext (.tmp 42) 0)),none⟩,⟨(some 49),(.p (.ext (.tmp 42) 1)),none⟩,⟨(some 6),(.p (.mov (.tmp 48))),none⟩,⟨(some 7),(.p (.mov (.tmp 49))),none⟩])
 (.seq (.region [⟨(some 51),(.p (.build [.int .i64 (.ofNat 0),.int .i64 (.ofNat 0)] [(0,1,(.val (.int .i64 (.ofNat 1))))])),none⟩,⟨(some 52),(.p (.build [.int .i64 (.ofNat 0),.int .i64 (.ofNat 0)] [(0,1,(.val (.int .i64 (.ofNat 3)))),(1,1,(.val (.int .i64 (.ofNat 1))))])),none⟩,⟨(some 53),(.a (.bslice [.int .i64 (.ofNat 0),.int .i64 (.ofNat 0),.int .i64 (.ofNat 0),.int .i64 (.ofNat 0)] 2 2 [(0,2,(.tmp 51)),(2,2,(.tmp 52))])),none⟩,⟨(some 54),(.e (.call 15 [(.val (.nilslice)),(.val (.int .i64 (.negSucc 0))),(.tmp 53)])),none⟩,⟨(some 50),(.p (.mov (.tmp 54))),none⟩,⟨(some 55),(.p (.ext (.tmp 50) 0)),none⟩,⟨(some 56),(.p (.ext (.tmp 50) 1)),none⟩,⟨(some 8),(.p (.mov (.tmp 55))),none⟩,⟨(some 9),(.p (.mov (.tmp 56))),none⟩])
 (.seq (.dregion [⟨⟨(some 58),(.p (.mov (.tmp 1))),none⟩,0,1⟩,⟨⟨(some 59),(.e (.callv (.tmp 58) [(.val (.int .i64 (.ofNat 1)))])),none⟩,0,3⟩,⟨⟨(some 62),(.p (.mov (.tmp 1))),none⟩,0,3⟩,⟨⟨(some 63),(.e (.callv (.tmp 62) [(.val (.int .i64 (.ofNat 5)))])),none⟩,2,8⟩,⟨⟨(some 60),(.loadn 4 (.tmp 2)),none⟩,0,8⟩,⟨⟨(some 61),(.a (.bslice [.bool false,.int .i64 (.ofNat 0),.int .i64 (.ofNat 0),.nilslice,.bool false,.int .i64 (.ofNat 0),.int .i64 (.ofNat 0),.nilslice] 4 2 [(0,4,(.tmp 59)),(4,4,(.tmp 60))])),none⟩,2,8⟩,⟨⟨(some 64),(.p (.build [.int .i64 (.ofNat 0),.bool false,.bool false,.int .i64 (.ofNat 0),.int .i64 (.ofNat 0),.nilslice] [(0,1,(.val (.int .i64 (.ofNat 1)))),(1,1,(.val (.bool true))),(2,4,(.tmp 63))])),none⟩,4,8⟩,⟨⟨(some 65),(.a (.bslice [.int .i64 (.ofNat 0),.bool false,.bool false,.int .i64 (.ofNat 0),.int .i64 (.ofNat 0),.nilslice] 6 1 [(0,6,(.tmp 64))])),none⟩,4,8⟩,⟨⟨(some 66),(.e (.call 23 [(.tmp 61),(.tmp 65)])),none⟩,4,14⟩,⟨⟨(some 57),(.p (.mov (.tmp 66))),none⟩,9,14⟩,⟨⟨(some 67),(.p (.ext (.tmp 57) 0)),none⟩,9,14⟩,⟨⟨(some 68),(.p (.ext (.tmp 57) 1)),none⟩,9,14⟩,⟨⟨(some 10),(.p (.mov (.tmp 67))),none⟩,9,14⟩,⟨⟨(some 11),(.p (.mov (.tmp 68))),none⟩,9,14⟩])
 (.seq (.region [⟨(some 69),(.p (.mov (.tmp 3))),none⟩,⟨(some 70),(.a (.bslice [.int .i64 (.ofNat 0)] 1 1 [(0,1,(.val (.int .i64 (.ofNat 1))))])),none⟩,⟨(some 71),(.e (.call 22 [(.tmp 69),(.tmp 70)])),none⟩,⟨(some 12),(.p (.mov (.tmp 71))),none⟩])
 (.seq (.region [⟨(some 72),(.p (.mov (.tmp 5))),none⟩,⟨(some 73),(.p (.mov (.tmp 72))),none⟩,⟨(some 74),(.p (.mov (.tmp 4))),(some (73,true))⟩,⟨(some 75),(.p (.mov (.tmp 1))),(some (73,true))⟩,⟨(some 76),(.e (.callv (.tmp 75) [(.val (.int .i64 (.ofNat 1)))])),(some (73,true))⟩,⟨(some 77),(.p (.mov (.tmp 1))),(some (73,true))⟩,⟨(some 78),(.e (.callv (.tmp 77) [(.val (.int .i64 (.ofNat 1)))])),(some (73,true))⟩,⟨(some 79),(.p (.mov (.tmp 1))),(some (73,true))⟩,⟨(some 80),(.e (.callv (.tmp 79) [(.val (.int .i64 (.ofNat 1)))])),(some (73,true))⟩,⟨(some 81),(.a (.bslice [.bool false,.int .i64 (.ofNat 0),.int .i64 (.ofNat 0),.nilslice,.bool false,.int .i64 (.ofNat 0),.int .i64 (.ofNat 0),.nilslice,.bool false,.int .i64 (.ofNat 0),.int .i64 (.ofNat 0),.nilslice] 4 3 [(0,4,(.tmp 76)),(4,4,(.tmp 78)),(8,4,(.tmp 80))])),(some (73,true))⟩,⟨(some 82),(.p (.mov (.tmp 1))),(some (73,true))⟩,⟨(some 83),(.e (.callv (.tmp 82) [(.val (.int .i64 (.ofNat 2)))])),(some (73,true))⟩,⟨(some 84),(.p (.mov (.tmp 1))),(some (73,true))⟩,⟨(some 85),(.e (.callv (.tmp 84) [(.val (.int .i64 (.ofNat 2)))])),(some (73,true))⟩,⟨(some 86),(.p (.mov (.tmp 1))),(some (73,true))⟩,⟨(some 87),(.e (.callv (.tmp 86) [(.val (.int .i64 (.ofNat 9223372036854775802)))])),(some (73,true))⟩,⟨(some 88),(.a (.bslice [.bool false,.int .i64 (.ofNat 0),.int .i64 (.ofNat 0),.nilslice,.bool false,.int .i64 (.ofNat 0),.int .i64 (.ofNat 0),.nilslice,.bool false,.int .i64 (.ofNat 0),.int .i64 (.ofNat 0),.nilslice] 4 3 [(0,4,(.tmp 83)),(4,4,(.tmp 85)),(8,4,(.tmp 87))])),(some (73,true))⟩,⟨(some 89),(.p (.mov (.tmp 1))),(some (73,true))⟩,⟨(some 90),(.e (.callv (.tmp 89) [(.val (.int .i64 (.ofNat 3)))])),(some (73,true))⟩,⟨(some 91),(.p (.mov (.tmp 1))),(some (73,true))⟩,⟨(some 92),(.e (.callv (.tmp 91) [(.val (.int .i64 (.ofNat 1)))])),(some (73,true))⟩,⟨(some 93),(.p (.mov (.tmp 1))),(some (73,true))⟩,⟨(some 94),(.e (.callv (.tmp 93) [(.val (.int .i64 (.ofNat 0)))])),(some (73,true))⟩,⟨(some 95),(.a (.bslice [.bool false,.int .i64 (.ofNat 0),.int .i64 (.ofNat 0),.nilslice,.bool false,.int .i64 (.ofNat 0),.int .i64 (.ofNat 0),.nilslice,.bool false,.int .i64 (.ofNat 0),.int .i64 (.ofNat 0),.nilslice] 4 3 [(0,4,(.tmp 90)),(4,4,(.tmp 92)),(8,4,(.tmp 94))])),(some (73,true))⟩,⟨(some 96),(.a (.bslice [.nilslice,.nilslice,.nilslice] 1 3 [(0,1,(.tmp 81)),(1,1,(.tmp 88)),(2,1,(.tmp 95))])),(some (73,true))⟩,⟨(some 97),(.e (.call 24 [(.tmp 74),(.tmp 96)])),(some (73,true))⟩,⟨(some 98),(.p (.pick (.tmp 73) (.tmp 97) (.val (.bool false)))),none⟩,⟨(some 99),(.p (.mov (.tmp 98))),none⟩,⟨(some 100),(.p (.mov (.tmp 7))),(some (99,true))⟩,⟨(some 101),(.p (.not (.tmp 100))),(some (99,true))⟩,⟨(some 102),(.p (.pick (.tmp 99) (.tmp 101) (.val (.bool false)))),none⟩,⟨(some 103),(.p (.mov (.tmp 102))),none⟩,⟨(some 104),(.p (.mov (.tmp 9))),(some (103,true))⟩,⟨(some 105),(.p (.pick (.tmp 103) (.tmp 104) (.val (.bool false)))),none⟩,⟨(some 106),(.p (.mov (.tmp 105))),none⟩,⟨(some 107),(.p (.mov (.tmp 8))),(some (106,true))⟩,⟨(some 108),(.p (.mov (.tmp 1))),(some (106,true))⟩,⟨(some 109),(.e (.callv (.tmp 108) [(.val (.int .i64 (.ofNat 0)))])),(some (106,true))⟩,⟨(some 110),(.p (.build [.bool false,.int .i64 (.ofNat 0),.int .i64 (.ofNat 0),.nilslice] [(0,1,(.val (.bool true)))])),(some (106,true))⟩,⟨(some 111),(.a (.bslice [.bool false,.int .i64 (.ofNat 0),.int .i64 (.ofNat 0),.nilslice,.bool false,.int .i64 (.ofNat 0),.int .i64 (.ofNat 0),.nilslice] 4 2 [(0,4,(.tmp 109)),(4,4,(.tmp 110))])),(some (106,true))⟩,⟨(some 112),(.a (.bslice [.nilslice] 1 1 [(0,1,(.tmp 111))])),(some (106,true))⟩,⟨(some 113),(.e (.call 24 [(.tmp 107),(.tmp 112)])),(some (106,true))⟩,⟨(some 114),(.p (.pick (.tmp 106) (.tmp 113) (.val (.bool false)))),none⟩,⟨(some 115),(.p (.mov (.tmp 114))),none⟩,⟨(some 116),(.p (.mov (.tmp 11))),(some (115,true))⟩,⟨(some 117),(.p (.pick (.tmp 115) (.tmp 116) (.val (.bool false)))),none⟩,⟨(some 118),(.p (.mov (.tmp 117))),none⟩,⟨(some 119),(.p (.mov (.tmp 10))),(some (118,true))⟩,⟨(some 120),(.p (.lenb (.tmp 119))),(some (118,true))⟩,⟨(some 121),(.p (.bin .eql (.tmp 120) (.val (.int .i64 (.ofNat 2))))),(some (118,true))⟩,⟨(some 122),(.p (.pick (.tmp 118) (.tmp 121) (.val (.bool false)))),none⟩,⟨(some 123),(.p (.mov (.tmp 122))),none⟩,⟨(some 124),(.p (.mov (.tmp 10))),(some (123,true))⟩,⟨(some 125),(.p (.iaddr 4 (.tmp 124) (.val (.int .i64 (.ofNat 1))))),(some (123,true))⟩,⟨(some 126),(.p (.faddr 0 (.tmp 125))),(some (123,true))⟩,⟨(some 127),(.load1 (.tmp 126)),(some (123,true))⟩,⟨(some 128),(.p (.pick (.tmp 123) (.tmp 127) (.val (.bool false)))),none⟩,⟨(some 129),(.p (.mov (.tmp 128))),none⟩,⟨(some 130),(.p (.mov (.tmp 12))),(some (129,true))⟩,⟨(some 131),(.p (.lenb (.tmp 130))),(some (129,true))⟩,⟨(some 132),(.p (.bin .eql (.tmp 131) (.val (.int .i64 (.ofNat 4))))),(some (129,true))⟩,⟨(some 133),(.p (.pick (.tmp 129) (.tmp 132) (.val (.bool false)))),none⟩,⟨(some 134),(.p (.mov (.tmp 133))),none⟩,⟨(some 135),(.p (.mov (.tmp 12))),(some (134,true))⟩,⟨(some 136),(.p (.iaddr 1 (.tmp 135) (.val (.int .i64 (.ofNat 0))))),(some (134,true))⟩,⟨(some 137),(.load1 (.tmp 136)),(some (134,true))⟩,⟨(some 138),(.p (.lenb (.tmp 137))),(some (134,true))⟩,⟨(some 139),(.p (.bin .eql (.tmp 138) (.val (.int .i64 (.ofNat 1))))),(some (134,true))⟩,⟨(some 140),(.p (.pick (.tmp 134) (.tmp 139) (.val (.bool false)))),none⟩,⟨(some 141),(.p (.mov (.tmp 140))),none⟩,⟨(some 142),(.p (.mov (.tmp 12))),(some (141,true))⟩,⟨(some 143),(.p (.iaddr 1 (.tmp 142) (.val (.int .i64 (.ofNat 0))))),(some (141,true))⟩,⟨(some 144),(.load1 (.tmp 143)),(some (141,true))⟩,⟨(some 145),(.p (.iaddr 4 (.tmp 144) (.val (.int .i64 (.ofNat 0))))),(some (141,true))⟩,⟨(some 146),(.p (.faddr 0 (.tmp 145))),(some (141,true))⟩,⟨(some 147),(.load1 (.tmp 146)),(some (141,true))⟩,⟨(some 148),(.p (.pick (.tmp 141) (.tmp 147) (.val (.bool false)))),none⟩,⟨(some 149),(.p (.mov (.tmp 148))),none⟩,⟨(some 150),(.p (.mov (.tmp 3))),(some (149,true))⟩,⟨(some 151),(.e (.call 21 [(.tmp 150)])),(some (149,true))⟩,⟨(some 152),(.p (.lenb (.tmp 151))),(some (149,true))⟩,⟨(some 153),(.p (.bin .eql (.tmp 152) (.val (.int .i64 (.ofNat 4))))),(some (149,true))⟩,⟨(some 154),(.p (.pick (.tmp 149) (.tmp 153) (.val (.bool false)))),none⟩,⟨(some 0),(.p (.mov (.tmp 154))),none⟩])
 (.ret)))))))))),[.tmp 0]⟩
theorem v16 : IsFun Try.prog 16 m16 := ⟨_, Try.func16, by kernel_rfl, by kernel_rfl⟩
def m17 : Fun := ⟨48,1,.seq (.region [⟨(some 2),(.a (.new [.nilslice])),none⟩])
 (.seq (.region [⟨(some 6),(.p (.build [.str [],.int .i64 (.ofNat 0),.bool false] [(0,1,(.val (.str [107,101,121]))),(1,1,(.val (.int .i64 (.ofNat 1))))])),none⟩,⟨(some 7),(.a (.bslice [.str [],.int .i64 (.ofNat 0),.bool false] 3 1 [(0,3,(.tmp 6))])),none⟩,⟨(some 8),(.p (.build [.nilslice] [(0,1,(.tmp 7))])),none⟩,⟨(some 3),(.a (.new [.nilslice])),none⟩,⟨none,(.e (.store 1 (.tmp 3) (.tmp 8))),none⟩])
 (.seq (.region [⟨(some 9),(.a (.bslice [.str [],.str [],.str [],.str [],.str []] 1 5 [(0,1,(.val (.str [97]))),(1,1,(.val (.str [98,98]))),(2,1,(.val (.str [99,99,99]))),(3,1,(.val (.str [110,117,108,108]))),(4,1,(.val (.str [97,110,100])))])),none⟩,⟨(some 4),(.p (.mov (.tmp 9))),none⟩])
 (.seq (.seq (.region [⟨(some 5),(.p (.mov (.val (.int .i64 (.ofNat 0))))),none⟩])
 (.block 0 (.loop (.seq (.seq (.region [⟨(some 10),(.p (.mov (.tmp 5))),none⟩,⟨(some 11),(.p (.mov (.tmp 0))),none⟩,⟨(some 12),(.p (.bin .and (.tmp 11) (.val (.int .i64 (.ofNat 255))))),none⟩,⟨(some 13),(.p (.bin .rem (.tmp 12) (.val (.int .i64 (.ofNat 6))))),none⟩,⟨(some 14),(.p (.bin .lss (.tmp 10) (.tmp 13))),none⟩,⟨(some 15),(.p (.mov (.tmp 14))),none⟩,⟨(some 16),(.p (.mov (.tmp 5))),(some (15,true))⟩,⟨(some 17),(.p (.bin .lss (.tmp 16) (.val (.int .i64 (.ofNat 5))))),(some (15,true))⟩,⟨(some 18),(.p (.pick (.tmp 15) (.tmp 17) (.val (.bool false)))),none⟩])
 (.cond (.tmp 18) (.skip)
 (.exit 0)))
 (.seq (.block 1 (.dregion [⟨⟨(some 21),(.p (.faddr 0 (.tmp 3))),none⟩,0,24⟩,⟨⟨(some 22),(.load1 (.tmp 21)),none⟩,0,24⟩,⟨⟨(some 23),(.p (.mov (.tmp 4))),none⟩,0,24⟩,⟨⟨(some 24),(.p (.mov (.tmp 5))),none⟩,0,24⟩,⟨⟨(some 25),(.p (.iaddr 1 (.tmp 23) (.tmp 24))),none⟩,0,24⟩,⟨⟨(some 26),(.load1 (.tmp 25)),none⟩,0,24⟩,⟨⟨(some 27),(.p (.mov (.tmp 0))),none⟩,0,24⟩,⟨⟨(some 28),(.p (.mov (.tmp 5))),none⟩,0,24⟩,⟨⟨(some 29),(.p (.bin .mul (.val (.int .i64 (.ofNat 2))) (.tmp 28))),none⟩,0,24⟩,⟨⟨(some 30),(.p (.bin .add (.val (.int .i64 (.ofNat 8))) (.tmp 29))),none⟩,0,24⟩,⟨⟨(some 31),(.p (.conv (.int .u64) (.tmp 30))),none⟩,0,24⟩,⟨⟨(some 32),(.p (.bin .shr (.tmp 27) (.tmp 31))),none⟩,0,24⟩,⟨⟨(some 33),(.p (.bin .and (.tmp 32) (.val (.int .i64 (.ofNat 1))))),none⟩,0,24⟩,⟨⟨(some 34),(.p (.bin .add (.tmp 33) (.val (.int .i64 (.ofNat 1))))),none⟩,0,24⟩,⟨⟨(some 35),(.p (.mov (.tmp 0))),none⟩,0,24⟩,⟨⟨(some 36),(.p (.mov (.tmp 5))),none⟩,0,24⟩,⟨⟨(some 37),(.p (.bin .mul (.val (.int .i64 (.ofNat 2))) (.tmp 36))),none⟩,0,24⟩,⟨⟨(some 38),(.p (.bin .add (.val (.int .i64 (.ofNat 9))) (.tmp 37))),none⟩,0,24⟩,⟨⟨(some 39),(.p (.conv (.int .u64) (.tmp 38))),none⟩,0,24⟩,⟨⟨(some 40),(.p (.bin .shr (.tmp 35) (.tmp 39))),none⟩,0,24⟩,⟨⟨(some 41),(.p (.bin .and (.tmp 40) (.val (.int .i64 (.ofNat 1))))),none⟩,0,24⟩,⟨⟨(some 42),(.p (.bin .eql (.tmp 41) (.val (.int .i64 (.ofNat 1))))),none⟩,0,24⟩,⟨⟨(some 43),(.p (.build [.str [],.int .i64 (.ofNat 0),.bool false] [(0,1,(.tmp 26)),(1,1,(.tmp 34)),(2,1,(.tmp 42))])),none⟩,0,24⟩,⟨⟨(some 44),(.a (.bslice [.str [],.int .i64 (.ofNat 0),.bool false] 3 1 [(0,3,(.tmp 43))])),none⟩,0,24⟩,⟨⟨(some 45),(.e (.append 3 32 (.tmp 22) (.tmp 44))),none⟩,0,26⟩,⟨⟨(some 46),(.p (.faddr 0 (.tmp 3))),none⟩,25,26⟩,⟨⟨none,(.e (.store 1 (.tmp 46) (.tmp 45))),none⟩,25,27⟩]))
 (.region [⟨(some 19),(.p (.mov (.tmp 5))),none⟩,⟨(some 20),(.p (.bin .add (.tmp 19) (.val (.int .i64 (.ofNat 1))))),none⟩,⟨(some 5),(.p (.mov (.tmp 20))),none⟩]))))))
 (.seq (.region [⟨(some 47),(.loadn 1 (.tmp 3)),none⟩,⟨none,(.e (.store 1 (.tmp 2) (.tmp 47))),none⟩])
 (.ret))))),[.celln 1 2]⟩
theorem v17 : IsFun Try.prog 17 m17 := ⟨_, Try.func17, by kernel_rfl, by kernel_rfl⟩
def m18 : Fun := ⟨40,2,.seq (.region [⟨(some 2),(.a (.box (.tmp 0))),none⟩,⟨(some 4),(.p (.mov (.val (.nilslice)))),none⟩])
 (.seq (.region [⟨(some 5),(.p (.mov (.val (.nilslice)))),none⟩])
 (.seq (.seq (.region [⟨(some 6),(.p (.mov (.val (.int .i64 (.ofNat 0))))),none⟩])
 (.block 0 (.loop (.seq (.seq (.region [⟨(some 8),(.p (.mov (.tmp 6))),none⟩,⟨(some 9),(.p (.mov (.tmp 1))),none⟩,⟨(some 10),(.p (.lenb (.tmp 9))),none⟩,⟨(some 11),(.p (.bin .lss (.tmp 8) (.tmp 10))),none⟩,⟨(some 12),(.p (.mov (.tmp 11))),none⟩,⟨(some 13),(.p (.mov (.tmp 6))),(some (12,true))⟩,⟨(some 14),(.p (.bin .lss (.tmp 13) (.val (.int .i64 (.ofNat 40))))),(some (12,true))⟩,⟨(some 15),(.p (.pick (.tmp 12) (.tmp 14) (.val (.bool false)))),none⟩])
 (.cond (.tmp 15) (.skip)
 (.exit 0)))
 (.seq (.block 1 (.seq (.dregion [⟨⟨(some 18),(.loadn 1 (.tmp 2)),none⟩,0,5⟩,⟨⟨(some 19),(.p (.mov (.tmp 1))),none⟩,0,5⟩,⟨⟨(some 20),(.p (.mov (.tmp 6))),none⟩,0,5⟩,⟨⟨(some 21),(.p (.iaddr 1 (.tmp 19) (.tmp 20))),none⟩,0,5⟩,⟨⟨(some 22),(.load1 (.tmp 21)),none⟩,0,5⟩,⟨⟨(some 23),(.e (.call 25 [(.tmp 18),(.tmp 22)])),none⟩,0,7⟩,⟨⟨(some 7),(.p (.mov (.tmp 23))),none⟩,6,7⟩])
 (.seq (.region [⟨(some 24),(.p (.mov (.tmp 7))),none⟩,⟨(some 25),(.p (.mov (.tmp 6))),none⟩,⟨(some 26),(.p (.bin .mul (.tmp 25) (.val (.int .i64 (.ofNat 3))))),none⟩,⟨(some 27),(.p (.mov (.tmp 1))),none⟩,⟨(some 28),(.p (.mov (.tmp 6))),none⟩,⟨(some 29),(.p (.iaddr 1 (.tmp 27) (.tmp 28))),none⟩,⟨(some 30),(.load1 (.tmp 29)),none⟩,⟨(some 31),(.p (.bin .and (.tmp 30) (.val (.int .i64 (.ofNat 1))))),none⟩,⟨(some 32),(.p (.bin .add (.tmp 26) (.tmp 31))),none⟩,⟨(some 33),(.p (.iaddr 4 (.tmp 24) (.val (.int .i64 (.ofNat 0))))),none⟩,⟨(some 34),(.p (.faddr 2 (.tmp 33))),none⟩,⟨none,(.e (.store 1 (.tmp 34) (.tmp 32))),none⟩])
 (.region [⟨(some 35),(.p (.mov (.tmp 5))),none⟩,⟨(some 36),(.p (.mov (.tmp 7))),none⟩,⟨(some 37),(.a (.bslice [.nilslice] 1 1 [(0,1,(.tmp 36))])),none⟩,⟨(some 38),(.e (.append 1 24 (.tmp 35) (.tmp 37))),none⟩,⟨(some 5),(.p (.mov (.tmp 38))),none⟩]))))
 (.region [⟨(some 16),(.p (.mov (.tmp 6))),none⟩,⟨(some 17),(.p (.bin .add (.tmp 16) (.val (.int .i64 (.ofNat 1))))),none⟩,⟨(some 6),(.p (.mov (.tmp 17))),none⟩]))))))
 (.seq (.region [⟨(some 39),(.p (.mov (.tmp 5))),none⟩,⟨(some 4),(.p (.mov (.tmp 39))),none⟩])
 (.ret)))),[.tmp 4]⟩
theorem v18 : IsFun Try.prog 18 m18 := ⟨_, Try.func18, by kernel_rfl, by kernel_rfl⟩
def m19 : Fun := ⟨55,2,.seq (.region [⟨(some 2),(.a (.box (.tmp 0))),none⟩,⟨(some 3),(.a (.box (.tmp 1))),none⟩,⟨(some 4),(.p (.mov (.val (.int .i64 (.ofNat 0))))),none⟩])
 (.seq (.block 0 (.seq (.region [⟨(some 6),(.p (.faddr 0 (.tmp 2))),none⟩,⟨(some 7),(.load1 (.tmp 6)),none⟩,⟨(some 8),(.p (.mov (.tmp 7))),none⟩,⟨(some 9),(.p (.faddr 0 (.tmp 3))),(some (8,false))⟩,⟨(some 10),(.load1 (.tmp 9)),(some (8,false))⟩,⟨(some 11),(.p (.pick (.tmp 8) (.val (.bool true)) (.tmp 10))),none⟩,⟨(some 5),(.p (.mov (.tmp 11))),none⟩])
 (.cond (.tmp 5) (.seq (.seq (.region [⟨(some 12),(.p (.faddr 0 (.tmp 2))),none⟩,⟨(some 13),(.load1 (.tmp 12)),none⟩,⟨(some 14),(.p (.faddr 0 (.tmp 3))),none⟩,⟨(some 15),(.load1 (.tmp 14)),none⟩,⟨(some 16),(.p (.eq .bool false (.tmp 13) (.tmp 15))),none⟩])
 (.cond (.tmp 16) (.seq (.region [⟨(some 4),(.p (.mov (.val (.int .i64 (.ofNat 0))))),none⟩])
 (.ret))
 (.skip)))
 (.seq (.seq (.region [⟨(some 17),(.p (.faddr 0 (.tmp 2))),none⟩,⟨(some 18),(.load1 (.tmp 17)),none⟩])
 (.cond (.tmp 18) (.seq (.region [⟨(some 4),(.p (.mov (.val (.int .i64 (.negSucc 0))))),none⟩])
 (.ret))
 (.skip)))
 (.seq (.region [⟨(some 4),(.p (.mov (.val (.int .i64 (.ofNat 1))))),none⟩])
 (.ret))))
 (.seq (.region [⟨(some 20),(.p (.faddr 1 (.tmp 2))),none⟩,⟨(some 21),(.load1 (.tmp 20)),none⟩,⟨(some 22),(.p (.bin .eql (.tmp 21) (.val (.int .i64 (.ofNat 1))))),none⟩,⟨(some 23),(.p (.mov (.tmp 22))),none⟩,⟨(some 24),(.p (.faddr 2 (.tmp 2))),(some (23,true))⟩,⟨(some 25),(.load1 (.tmp 24)),(some (23,true))⟩,⟨(some 26),(.p (.faddr 2 (.tmp 3))),(some (23,true))⟩,⟨(some 27),(.load1 (.tmp 26)),(some (23,true))⟩,⟨(some 28),(.p (.bin .neq (.tmp 25) (.tmp 27))),(some (23,true))⟩,⟨(some 29),(.p (.pick (.tmp 23) (.tmp 28) (.val (.bool false)))),none⟩,⟨(some 19),(.p (.mov (.tmp 29))),none⟩])
 (.cond (.tmp 19) (.seq (.seq (.region [⟨(some 30),(.p (.faddr 2 (.tmp 2))),none⟩,⟨(some 31),(.load1 (.tmp 30)),none⟩,⟨(some 32),(.p (.faddr 2 (.tmp 3))),none⟩,⟨(some 33),(.load1 (.tmp 32)),none⟩,⟨(some 34),(.p (.bin .lss (.tmp 31) (.tmp 33))),none⟩])
 (.cond (.tmp 34) (.seq (.region [⟨(some 4),(.p (.mov (.val (.int .i64 (.negSucc 0))))),none⟩])
 (.ret))
 (.skip)))
 (.seq (.region [⟨(some 4),(.p (.mov (.val (.int .i64 (.ofNat 1))))),none⟩])
 (.ret)))
 (.seq (.region [⟨(some 36),(.p (.faddr 1 (.tmp 2))),none⟩,⟨(some 37),(.load1 (.tmp 36)),none⟩,⟨(some 38),(.p (.bin .eql (.tmp 37) (.val (.int .i64 (.ofNat 2))))),none⟩,⟨(some 39),(.p (.mov (.tmp 38))),none⟩,⟨(some 40),(.p (.faddr 3 (.tmp 2))),(some (39,true))⟩,⟨(some 41),(.load1 (.tmp 40)),(some (39,true))⟩,⟨(some 42),(.e (.text (.tmp 41))),(some (39,true))⟩,⟨(some 43),(.p (.faddr 3 (.tmp 3))),(some (39,true))⟩,⟨(some 44),(.load1 (.tmp 43)),(some (39,true))⟩,⟨(some 45),(.e (.text (.tmp 44))),(some (39,true))⟩,⟨(some 46),(.p (.bin .neq (.tmp 42) (.tmp 45))),(some (39,true))⟩,⟨(some 47),(.p (.pick (.tmp 39) (.tmp 46) (.val (.bool false)))),none⟩,⟨(some 35),(.p (.mov (.tmp 47))),none⟩])
 (.cond (.tmp 35) (.seq (.seq (.region [⟨(some 48),(.p (.faddr 3 (.tmp 2))),none⟩,⟨(some 49),(.load1 (.tmp 48)),none⟩,⟨(some 50),(.e (.text (.tmp 49))),none⟩,⟨(some 51),(.p (.faddr 3 (.tmp 3))),none⟩,⟨(some 52),(.load1 (.tmp 51)),none⟩,⟨(some 53),(.e (.text (.tmp 52))),none⟩,⟨(some 54),(.p (.bin .lss (.tmp 50) (.tmp 53))),none⟩])
 (.cond (.tmp 54) (.seq (.region [⟨(some 4),(.p (.mov (.val (.int .i64 (.negSucc 0))))),none⟩])
 (.ret))
 (.skip)))
 (.seq (.region [⟨(some 4),(.p (.mov (.val (.int .i64 (.ofNat 1))))),none⟩])
 (.ret)))
 (.skip))))))))
 (.seq (.region [⟨(some 4),(.p (.mov (.val (.int .i64 (.ofNat 0))))),none⟩])
 (.ret))),[.tmp 4]⟩
theorem v19 : IsFun Try.prog 19 m19 := ⟨_, Try.func19, by kernel_rfl, by kernel_rfl⟩
def m21 : Fun := ⟨9,1,.seq (.region [⟨(some 2),(.p (.mov (.val (.nilslice)))),none⟩])
 (.seq (.region [⟨(some 4),(.p (.mov (.tmp 0))),none⟩,⟨(some 5),(.e (.call 53 [(.tmp 4)])),none⟩,⟨(some 3),(.p (.mov (.tmp 5))),none⟩])
 (.seq (.region [⟨(some 6),(.p (.mov (.tmp 3))),none⟩,⟨(some 7),(.e (.call 54 [(.tmp 6),(.val (.func 60 [] []))])),none⟩])
 (.seq (.region [⟨(some 8),(.p (.mov (.tmp 3))),none⟩,⟨(some 2),(.p (.mov (.tmp 8))),none⟩])
 (.ret)))),[.tmp 2]⟩
theorem v21 : IsFun Try.prog 21 m21 := ⟨_, Try.func21, by kernel_rfl, by kernel_rfl⟩
def m22 : Fun := ⟨37,2,.seq (.region [⟨(some 4),(.p (.mov (.val (.nilslice)))),none⟩])
 (.seq (.region [⟨(some 5),(.p (.mov (.val (.nilslice)))),none⟩])
 (.seq (.seq (.region [⟨(some 11),(.p (.mov (.tmp 0))),none⟩,⟨(some 12),(.p (.lenb (.tmp 11))),none⟩,⟨(some 13),(.p (.mov (.val (.int .i64 (.ofNat 0))))),none⟩])
 (.block 0 (.loop (.seq (.region [⟨(some 14),(.p (.bin .lss (.tmp 13) (.tmp 12))),none⟩])
 (.seq (.cond (.tmp 14) (.skip)
 (.exit 0))
 (.seq (.block 1 (.seq (.region [⟨(some 15),(.p (.iaddr 1 (.tmp 11) (.tmp 13))),none⟩,⟨(some 16),(.load1 (.tmp 15)),none⟩,⟨(some 7),(.p (.mov (.tmp 16))),none⟩])
 (.seq (.region [⟨(some 8),(.p (.mov (.val (.nilslice)))),none⟩])
 (.seq (.seq (.region [⟨(some 17),(.p (.mov (.tmp 1))),none⟩,⟨(some 18),(.p (.lenb (.tmp 17))),none⟩,⟨(some 19),(.p (.mov (.val (.int .i64 (.ofNat 0))))),none⟩])
 (.block 2 (.loop (.seq (.region [⟨(some 20),(.p (.bin .lss (.tmp 19) (.tmp 18))),none⟩])
 (.seq (.cond (.tmp 20) (.skip)
 (.exit 2))
 (.seq (.block 3 (.seq (.region [⟨(some 21),(.p (.iaddr 1 (.tmp 17) (.tmp 19))),none⟩,⟨(some 22),(.load1 (.tmp 21)),none⟩,⟨(some 10),(.p (.mov (.tmp 22))),none⟩])
 (.region [⟨(some 23),(.p (.mov (.tmp 8))),none⟩,⟨(some 24),(.p (.mov (.tmp 7))),none⟩,⟨(some 25),(.p (.mov (.tmp 10))),none⟩,⟨(some 26),(.e (.call 57 [(.tmp 24),(.tmp 25)])),none⟩,⟨(some 27),(.a (.bslice [.bool false,.int .i64 (.ofNat 0),.int .i64 (.ofNat 0),.nilslice] 4 1 [(0,4,(.tmp 26))])),none⟩,⟨(some 28),(.e (.append 4 48 (.tmp 23) (.tmp 27))),none⟩,⟨(some 8),(.p (.mov (.tmp 28))),none⟩])))
 (.region [⟨(some 29),(.p (.bin .add (.tmp 19) (.val (.int .i64 (.ofNat 1))))),none⟩,⟨(some 19),(.p (.mov (.tmp 29))),none⟩])))))))
 (.region [⟨(some 30),(.p (.mov (.tmp 5))),none⟩,⟨(some 31),(.p (.mov (.tmp 8))),none⟩,⟨(some 32),(.a (.bslice [.nilslice] 1 1 [(0,1,(.tmp 31))])),none⟩,⟨(some 33),(.e (.append 1 24 (.tmp 30) (.tmp 32))),none⟩,⟨(some 5),(.p (.mov (.tmp 33))),none⟩])))))
 (.region [⟨(some 34),(.p (.bin .add (.tmp 13) (.val (.int .i64 (.ofNat 1))))),none⟩,⟨(some 13),(.p (.mov (.tmp 34))),none⟩])))))))
 (.seq (.region [⟨(some 35),(.p (.mov (.tmp 5))),none⟩,⟨(some 36),(.e (.call 21 [(.tmp 35)])),none⟩,⟨(some 4),(.p (.mov (.tmp 36))),none⟩])
 (.ret)))),[.tmp 4]⟩
theorem v22 : IsFun Try.prog 22 m22 := ⟨_, Try.func22, by kernel_rfl, by kernel_rfl⟩
def m23 : Fun := ⟨68,2,.seq (.region [⟨(some 4),(.p (.mov (.val (.nilslice)))),none⟩,⟨(some 5),(.p (.mov (.val (.bool false)))),none⟩])
 (.seq (.region [⟨(some 12),(.p (.mov (.tmp 0))),none⟩,⟨(some 13),(.e (.call 61 [(.tmp 12)])),none⟩,⟨(some 6),(.p (.mov (.tmp 13))),none⟩])
 (.seq (.seq (.region [⟨(some 14),(.p (.mov (.tmp 1))),none⟩,⟨(some 15),(.p (.lenb (.tmp 14))),none⟩,⟨(some 16),(.p (.mov (.val (.int .i64 (.ofNat 0))))),none⟩])
 (.block 0 (.loop (.seq (.region [⟨(some 17),(.p (.bin .lss (.tmp 16) (.tmp 15))),none⟩])
 (.seq (.cond (.tmp 17) (.skip)
 (.exit 0))
 (.seq (.block 1 (.seq (.region [⟨(some 18),(.p (.iaddr 6 (.tmp 14) (.tmp 16))),none⟩,⟨(some 19),(.loadn 6 (.tmp 18)),none⟩,⟨(some 8),(.a (.new [.int .i64 (.ofNat 0),.bool false,.bool false,.int .i64 (.ofNat 0),.int .i64 (.ofNat 0),.nilslice])),none⟩,⟨none,(.e (.store 6 (.tmp 8) (.tmp 19))),none⟩])
 (.seq (.seq (.region [⟨(some 20),(.p (.faddr 0 (.tmp 8))),none⟩,⟨(some 21),(.load1 (.tmp 20)),none⟩,⟨(some 22),(.p (.bin .lss (.tmp 21) (.val (.int .i64 (.ofNat 0))))),none⟩,⟨(some 23),(.p (.mov (.tmp 22))),none⟩,⟨(some 24),(.p (.faddr 0 (.tmp 8))),(some (23,false))⟩,⟨(some 25),(.load1 (.tmp 24)),(some (23,false))⟩,⟨(some 26),(.p (.mov (.tmp 6))),(some (23,false))⟩,⟨(some 27),(.p (.lenb (.tmp 26))),(some (23,false))⟩,⟨(some 28),(.p (.bin .geq (.tmp 25) (.tmp 27))),(some (23,false))⟩,⟨(some 29),(.p (.pick (.tmp 23) (.val (.bool true)) (.tmp 28))),none⟩])
 (.cond (.tmp 29) (.exit 1)
 (.skip)))
 (.seq (.region [⟨(some 30),(.p (.mov (.tmp 6))),none⟩,⟨(some 31),(.p (.faddr 0 (.tmp 8))),none⟩,⟨(some 32),(.load1 (.tmp 31)),none⟩,⟨(some 33),(.p (.iaddr 4 (.tmp 30) (.tmp 32))),none⟩,⟨(some 9),(.p (.mov (.tmp 33))),none⟩])
 (.block 2 (.seq (.region [⟨(some 35),(.p (.faddr 1 (.tmp 8))),none⟩,⟨(some 36),(.load1 (.tmp 35)),none⟩,⟨(some 37),(.p (.not (.tmp 36))),none⟩,⟨(some 34),(.p (.mov (.tmp 37))),none⟩])
 (.cond (.tmp 34) (.region [⟨(some 38),(.p (.mov (.tmp 9))),none⟩,⟨(some 39),(.p (.faddr 2 (.tmp 8))),none⟩,⟨(some 40),(.loadn 4 (.tmp 39)),none⟩,⟨(some 41),(.e (.call 62 [(.tmp 40)])),none⟩,⟨(some 42),(.p (.nilchk (.tmp 38))),none⟩,⟨none,(.e (.store 4 (.tmp 42) (.tmp 41))),none⟩])
 (.seq (.region [⟨(some 44),(.p (.mov (.tmp 9))),none⟩,⟨(some 45),(.p (.nilchk (.tmp 44))),none⟩,⟨(some 46),(.p (.faddr 0 (.tmp 45))),none⟩,⟨(some 47),(.load1 (.tmp 46)),none⟩,⟨(some 48),(.p (.not (.tmp 47))),none⟩,⟨(some 43),(.p (.mov (.tmp 48))),none⟩])
 (.cond (.tmp 43) (.seq (.dregion [⟨⟨(some 50),(.p (.mov (.tmp 9))),none⟩,0,7⟩,⟨⟨(some 51),(.p (.nilchk (.tmp 50))),none⟩,0,7⟩,⟨⟨(some 52),(.p (.faddr 2 (.tmp 51))),none⟩,0,7⟩,⟨⟨(some 53),(.load1 (.tmp 52)),none⟩,0,7⟩,⟨⟨(some 54),(.p (.faddr 2 (.tmp 8))),none⟩,0,7⟩,⟨⟨(some 55),(.p (.faddr 2 (.tmp 54))),none⟩,0,7⟩,⟨⟨(some 56),(.load1 (.tmp 55)),none⟩,0,7⟩,⟨⟨(some 57),(.e (.call 63 [(.tmp 53),(.tmp 56)])),none⟩,0,13⟩,⟨⟨(some 49),(.p (.mov (.tmp 57))),none⟩,8,13⟩,⟨⟨(some 58),(.p (.ext (.tmp 49) 0)),none⟩,8,13⟩,⟨⟨(some 59),(.p (.ext (.tmp 49) 1)),none⟩,8,13⟩,⟨⟨(some 10),(.p (.mov (.tmp 58))),none⟩,8,13⟩,⟨⟨(some 11),(.p (.mov (.tmp 59))),none⟩,8,13⟩])
 (.seq (.seq (.region [⟨(some 60),(.p (.mov (.tmp 11))),none⟩,⟨(some 61),(.p (.not (.tmp 60))),none⟩])
 (.cond (.tmp 61) (.seq (.region [⟨(some 4),(.p (.mov (.val (.nilslice)))),none⟩,⟨(some 5),(.p (.mov (.val (.bool false)))),none⟩])
 (.ret))
 (.skip)))
 (.region [⟨(some 62),(.p (.mov (.tmp 9))),none⟩,⟨(some 63),(.p (.mov (.tmp 10))),none⟩,⟨(some 64),(.p (.nilchk (.tmp 62))),none⟩,⟨(some 65),(.p (.faddr 2 (.tmp 64))),none⟩,⟨none,(.e (.store 1 (.tmp 65) (.tmp 63))),none⟩])))
 (.skip))))))))))
 (.region [⟨(some 66),(.p (.bin .add (.tmp 16) (.val (.int .i64 (.ofNat 1))))),none⟩,⟨(some 16),(.p (.mov (.tmp 66))),none⟩])))))))
 (.seq (.region [⟨(some 67),(.p (.mov (.tmp 6))),none⟩,⟨(some 4),(.p (.mov (.tmp 67))),none⟩,⟨(some 5),(.p (.mov (.val (.bool true)))),none⟩])
 (.ret)))),[.tmp 4,.tmp 5]⟩
theorem v23 : IsFun Try.prog 23 m23 := ⟨_, Try.func23, by kernel_rfl, by kernel_rfl⟩
def m24 : Fun := ⟨27,2,.seq (.region [⟨(some 4),(.p (.mov (.val (.bool false)))),none⟩])
 (.seq (.seq (.region [⟨(some 6),(.p (.mov (.tmp 0))),none⟩,⟨(some 7),(.p (.lenb (.tmp 6))),none⟩,⟨(some 8),(.p (.mov (.tmp 1))),none⟩,⟨(some 9),(.p (.lenb (.tmp 8))),none⟩,⟨(some 10),(.p (.bin .neq (.tmp 7) (.tmp 9))),none⟩])
 (.cond (.tmp 10) (.seq (.region [⟨(some 4),(.p (.mov (.val (.bool false)))),none⟩])
 (.ret))
 (.skip)))
 (.seq (.seq (.region [⟨(some 5),(.p (.mov (.val (.int .i64 (.ofNat 0))))),none⟩])
 (.block 0 (.loop (.seq (.seq (.region [⟨(some 11),(.p (.mov (.tmp 5))),none⟩,⟨(some 12),(.p (.mov (.tmp 0))),none⟩,⟨(some 13),(.p (.lenb (.tmp 12))),none⟩,⟨(some 14),(.p (.bin .lss (.tmp 11) (.tmp 13))),none⟩])
 (.cond (.tmp 14) (.skip)
 (.exit 0)))
 (.seq (.block 1 (.seq (.dregion [⟨⟨(some 17),(.p (.mov (.tmp 0))),none⟩,0,8⟩,⟨⟨(some 18),(.p (.mov (.tmp 5))),none⟩,0,8⟩,⟨⟨(some 19),(.p (.iaddr 1 (.tmp 17) (.tmp 18))),none⟩,0,8⟩,⟨⟨(some 20),(.load1 (.tmp 19)),none⟩,0,8⟩,⟨⟨(some 21),(.p (.mov (.tmp 1))),none⟩,0,8⟩,⟨⟨(some 22),(.p (.mov (.tmp 5))),none⟩,0,8⟩,⟨⟨(some 23),(.p (.iaddr 1 (.tmp 21) (.tmp 22))),none⟩,0,8⟩,⟨⟨(some 24),(.load1 (.tmp 23)),none⟩,0,8⟩,⟨⟨(some 25),(.e (.call 31 [(.tmp 20),(.tmp 24)])),none⟩,0,10⟩,⟨⟨(some 26),(.p (.not (.tmp 25))),none⟩,9,10⟩])
 (.cond (.tmp 26) (.seq (.region [⟨(some 4),(.p (.mov (.val (.bool false)))),none⟩])
 (.ret))
 (.skip))))
 (.region [⟨(some 15),(.p (.mov (.tmp 5))),none⟩,⟨(some 16),(.p (.bin .add (.tmp 15) (.val (.int .i64 (.ofNat 1))))),none⟩,⟨(some 5),(.p (.mov (.tmp 16))),none⟩]))))))
 (.seq (.region [⟨(some 4),(.p (.mov (.val (.bool true)))),none⟩])
 (.ret)))),[.tmp 4]⟩
theorem v24 : IsFun Try.prog 24 m24 := ⟨_, Try.func24, by kernel_rfl, by kernel_rfl⟩
def m25 : Fun := ⟨39,2,.seq (.region [⟨(some 2),(.a (.box (.tmp 0))),none⟩,⟨(some 4),(.p (.mov (.val (.nilslice)))),none⟩])
 (.seq (.region [⟨(some 5),(.p (.mov (.val (.nilslice)))),none⟩])
 (.seq (.seq (.region [⟨(some 8),(.p (.faddr 0 (.tmp 2))),none⟩,⟨(some 9),(.load1 (.tmp 8)),none⟩,⟨(some 10),(.p (.lenb (.tmp 9))),none⟩,⟨(some 11),(.p (.mov (.val (.int .i64 (.ofNat 0))))),none⟩])
 (.block 0 (.loop (.seq (.region [⟨(some 12),(.p (.bin .lss (.tmp 11) (.tmp 10))),none⟩])
 (.seq (.cond (.tmp 12) (.skip)
 (.exit 0))
 (.seq (.block 1 (.seq (.region [⟨(some 13),(.p (.mov (.tmp 11))),none⟩,⟨(some 14),(.p (.iaddr 3 (.tmp 9) (.tmp 11))),none⟩,⟨(some 15),(.loadn 3 (.tmp 14)),none⟩,⟨(some 7),(.a (.new [.str [],.int .i64 (.ofNat 0),.bool false])),none⟩,⟨(some 6),(.p (.mov (.tmp 13))),none⟩,⟨none,(.e (.store 3 (.tmp 7) (.tmp 15))),none⟩])
 (.seq (.seq (.region [⟨(some 16),(.p (.mov (.tmp 6))),none⟩,⟨(some 17),(.p (.bin .eql (.tmp 16) (.val (.int .i64 (.ofNat 0))))),none⟩])
 (.cond (.tmp 17) (.seq (.region [⟨(some 18),(.p (.mov (.tmp 5))),none⟩,⟨(some 19),(.p (.mov (.tmp 1))),none⟩,⟨(some 20),(.p (.bin .and (.tmp 19) (.val (.int .i64 (.ofNat 15))))),none⟩,⟨(some 21),(.p (.build [.bool false,.int .i64 (.ofNat 0),.int .i64 (.ofNat 0),.nilslice] [(1,1,(.val (.int .i64 (.ofNat 1)))),(2,1,(.tmp 20))])),none⟩,⟨(some 22),(.a (.bslice [.bool false,.int .i64 (.ofNat 0),.int .i64 (.ofNat 0),.nilslice] 4 1 [(0,4,(.tmp 21))])),none⟩,⟨(some 23),(.e (.append 4 48 (.tmp 18) (.tmp 22))),none⟩,⟨(some 5),(.p (.mov (.tmp 23))),none⟩])
 (.exit 1))
 (.skip)))
 (.region [⟨(some 24),(.p (.mov (.tmp 5))),none⟩,⟨(some 25),(.loadn 3 (.tmp 7)),none⟩,⟨(some 26),(.p (.mov (.tmp 1))),none⟩,⟨(some 27),(.p (.mov (.tmp 6))),none⟩,⟨(some 28),(.p (.bin .mul (.val (.int .i64 (.ofNat 3))) (.tmp 27))),none⟩,⟨(some 29),(.p (.conv (.int .u64) (.tmp 28))),none⟩,⟨(some 30),(.p (.bin .shr (.tmp 26) (.tmp 29))),none⟩,⟨(some 31),(.p (.mov (.tmp 1))),none⟩,⟨(some 32),(.p (.bin .shr (.tmp 31) (.val (.int .u64 (.ofNat 17))))),none⟩,⟨(some 33),(.p (.bin .xor (.tmp 30) (.tmp 32))),none⟩,⟨(some 34),(.e (.call 27 [(.tmp 25),(.tmp 33)])),none⟩,⟨(some 35),(.a (.bslice [.bool false,.int .i64 (.ofNat 0),.int .i64 (.ofNat 0),.nilslice] 4 1 [(0,4,(.tmp 34))])),none⟩,⟨(some 36),(.e (.append 4 48 (.tmp 24) (.tmp 35))),none⟩,⟨(some 5),(.p (.mov (.tmp 36))),none⟩]))))
 (.region [⟨(some 37),(.p (.bin .add (.tmp 11) (.val (.int .i64 (.ofNat 1))))),none⟩,⟨(some 11),(.p (.mov (.tmp 37))),none⟩])))))))
 (.seq (.region [⟨(some 38),(.p (.mov (.tmp 5))),none⟩,⟨(some 4),(.p (.mov (.tmp 38))),none⟩])
 (.ret)))),[.tmp 4]⟩
theorem v25 : IsFun Try.prog 25 m25 := ⟨_, Try.func25, by kernel_rfl, by kernel_rfl⟩
def m27 : Fun := ⟨62,2,.seq (.region [⟨(some 2),(.a (.box (.tmp 0))),none⟩,⟨(some 4),(.a (.new [.bool false,.int .i64 (.ofNat 0),.int .i64 (.ofNat 0),.nilslice])),none⟩])
 (.seq (.seq (.region [⟨(some 6),(.p (.faddr 2 (.tmp 2))),none⟩,⟨(some 7),(.load1 (.tmp 6)),none⟩,⟨(some 8),(.p (.mov (.tmp 7))),none⟩,⟨(some 9),(.p (.mov (.tmp 1))),(some (8,true))⟩,⟨(some 10),(.p (.bin .and (.tmp 9) (.val (.int .i64 (.ofNat 7))))),(some (8,true))⟩,⟨(some 11),(.p (.bin .eql (.tmp 10) (.val (.int .i64 (.ofNat 0))))),(some (8,true))⟩,⟨(some 12),(.p (.pick (.tmp 8) (.tmp 11) (.val (.bool false)))),none⟩])
 (.cond (.tmp 12) (.seq (.region [⟨(some 13),(.p (.faddr 1 (.tmp 2))),none⟩,⟨(some 14),(.load1 (.tmp 13)),none⟩,⟨(some 15),(.p (.build [.bool false,.int .i64 (.ofNat 0),.int .i64 (.ofNat 0),.nilslice] [(1,1,(.tmp 14)),(0,1,(.val (.bool true)))])),none⟩,⟨none,(.e (.store 4 (.tmp 4) (.tmp 15))),none⟩])
 (.ret))
 (.skip)))
 (.seq (.region [⟨(some 16),(.p (.faddr 1 (.tmp 2))),none⟩,⟨(some 17),(.load1 (.tmp 16)),none⟩,⟨(some 18),(.p (.build [.bool false,.int .i64 (.ofNat 0),.int .i64 (.ofNat 0),.nilslice] [(1,1,(.tmp 17))])),none⟩,⟨(some 5),(.a (.new [.bool false,.int .i64 (.ofNat 0),.int .i64 (.ofNat 0),.nilslice])),none⟩,⟨none,(.e (.store 4 (.tmp 5) (.tmp 18))),none⟩])
 (.seq (.seq (.region [⟨(some 19),(.p (.faddr 1 (.tmp 2))),none⟩,⟨(some 20),(.load1 (.tmp 19)),none⟩,⟨(some 21),(.p (.bin .eql (.tmp 20) (.val (.int .i64 (.ofNat 1))))),none⟩])
 (.cond (.tmp 21) (.seq (.region [⟨(some 22),(.p (.mov (.tmp 1))),none⟩,⟨(some 23),(.p (.bin .shr (.tmp 22) (.val (.int .u64 (.ofNat 3))))),none⟩,⟨(some 24),(.p (.bin .and (.tmp 23) (.val (.int .i64 (.ofNat 7))))),none⟩,⟨(some 25),(.p (.faddr 2 (.tmp 5))),none⟩,⟨none,(.e (.store 1 (.tmp 25) (.tmp 24))),none⟩])
 (.seq (.seq (.region [⟨(some 26),(.p (.mov (.tmp 1))),none⟩,⟨(some 27),(.p (.bin .shr (.tmp 26) (.val (.int .u64 (.ofNat 6))))),none⟩,⟨(some 28),(.p (.bin .and (.tmp 27) (.val (.int .i64 (.ofNat 15))))),none⟩])
 (.block 0 (.seq (.region [⟨(some 30),(.p (.bin .eql (.tmp 28) (.val (.int .i64 (.ofNat 0))))),none⟩,⟨(some 29),(.p (.mov (.tmp 30))),none⟩])
 (.cond (.tmp 29) (.region [⟨(some 31),(.p (.mov (.tmp 1))),none⟩,⟨(some 32),(.p (.bin .mul (.tmp 31) (.val (.int .i64 (.ofNat 712544676207699905))))),none⟩,⟨(some 33),(.p (.faddr 2 (.tmp 5))),none⟩,⟨none,(.e (.store 1 (.tmp 33) (.tmp 32))),none⟩])
 (.seq (.region [⟨(some 35),(.p (.bin .eql (.tmp 28) (.val (.int .i64 (.ofNat 1))))),none⟩,⟨(some 34),(.p (.mov (.tmp 35))),none⟩])
 (.cond (.tmp 34) (.region [⟨(some 36),(.p (.faddr 2 (.tmp 5))),none⟩,⟨(some 37),(.load1 (.tmp 36)),none⟩,⟨(some 38),(.p (.neg (.tmp 37))),none⟩,⟨(some 39),(.p (.faddr 2 (.tmp 5))),none⟩,⟨none,(.e (.store 1 (.tmp 39) (.tmp 38))),none⟩])
 (.seq (.region [⟨(some 41),(.p (.bin .eql (.tmp 28) (.val (.int .i64 (.ofNat 2))))),none⟩,⟨(some 40),(.p (.mov (.tmp 41))),none⟩])
 (.cond (.tmp 40) (.region [⟨(some 42),(.p (.faddr 2 (.tmp 5))),none⟩,⟨(some 43),(.load1 (.tmp 42)),none⟩,⟨(some 44),(.p (.bin .sub (.val (.int .i64 (.ofNat 9223372036854775807))) (.tmp 43))),none⟩,⟨(some 45),(.p (.faddr 2 (.tmp 5))),none⟩,⟨none,(.e (.store 1 (.tmp 45) (.tmp 44))),none⟩])
 (.skip)))))))))
 (.seq (.region [⟨(some 46),(.loadn 4 (.tmp 5)),none⟩,⟨none,(.e (.store 4 (.tmp 4) (.tmp 46))),none⟩])
 (.ret))))
 (.skip)))
 (.seq (.region [⟨(some 47),(.a (.bslice [.int .u8 (.ofNat 0),.int .u8 (.ofNat 0),.int .u8 (.ofNat 0),.int .u8 (.ofNat 0),.int .u8 (.ofNat 0),.int .u8 (.ofNat 0),.int .u8 (.ofNat 0),.int .u8 (.ofNat 0)] 1 8 [(0,1,(.val (.int .u8 (.ofNat 97)))),(1,1,(.val (.int .u8 (.ofNat 98)))),(2,1,(.val (.int .u8 (.ofNat 99)))),(3,1,(.val (.int .u8 (.ofNat 97)))),(4,1,(.val (.int .u8 (.ofNat 98)))),(5,1,(.val (.int .u8 (.ofNat 99)))),(6,1,(.val (.int .u8 (.ofNat 97)))),(7,1,(.val (.int .u8 (.ofNat 98))))])),none⟩,⟨(some 48),(.e (.mark (.tmp 47))),none⟩,⟨(some 49),(.p (.mov (.tmp 1))),none⟩,⟨(some 50),(.p (.bin .shr (.tmp 49) (.val (.int .u64 (.ofNat 3))))),none⟩,⟨(some 51),(.p (.bin .and (.tmp 50) (.val (.int .i64 (.ofNat 3))))),none⟩,⟨(some 52),(.p (.mov (.tmp 1))),none⟩,⟨(some 53),(.p (.bin .shr (.tmp 52) (.val (.int .u64 (.ofNat 3))))),none⟩,⟨(some 54),(.p (.bin .and (.tmp 53) (.val (.int .i64 (.ofNat 3))))),none⟩,⟨(some 55),(.p (.mov (.tmp 1))),none⟩,⟨(some 56),(.p (.bin .shr (.tmp 55) (.val (.int .u64 (.ofNat 5))))),none⟩,⟨(some 57),(.p (.bin .and (.tmp 56) (.val (.int .i64 (.ofNat 3))))),none⟩,⟨(some 58),(.p (.bin .add (.tmp 54) (.tmp 57))),none⟩,⟨(some 59),(.p (.slc 1 (.tmp 48) (some (.tmp 51)) (some (.tmp 58)) none)),none⟩,⟨(some 60),(.p (.faddr 3 (.tmp 5))),none⟩,⟨none,(.e (.store 1 (.tmp 60) (.tmp 59))),none⟩])
 (.seq (.region [⟨(some 61),(.loadn 4 (.tmp 5)),none⟩,⟨none,(.e (.store 4 (.tmp 4) (.tmp 61))),none⟩])
 (.ret)))))),[.celln 4 4]⟩
theorem v27 : IsFun Try.prog 27 m27 := ⟨_, Try.func27, by kernel_rfl, by kernel_rfl⟩
def m31 : Fun := ⟨27,2,.seq (.region [⟨(some 4),(.p (.mov (.val (.bool false)))),none⟩])
 (.seq (.seq (.region [⟨(some 6),(.p (.mov (.tmp 0))),none⟩,⟨(some 7),(.p (.lenb (.tmp 6))),none⟩,⟨(some 8),(.p (.mov (.tmp 1))),none⟩,⟨(some 9),(.p (.lenb (.tmp 8))),none⟩,⟨(some 10),(.p (.bin .neq (.tmp 7) (.tmp 9))),none⟩])
 (.cond (.tmp 10) (.seq (.region [⟨(some 4),(.p (.mov (.val (.bool false)))),none⟩])
 (.ret))
 (.skip)))
 (.seq (.seq (.region [⟨(some 5),(.p (.mov (.val (.int .i64 (.ofNat 0))))),none⟩])
 (.block 0 (.loop (.seq (.seq (.region [⟨(some 11),(.p (.mov (.tmp 5))),none⟩,⟨(some 12),(.p (.mov (.tmp 0))),none⟩,⟨(some 13),(.p (.lenb (.tmp 12))),none⟩,⟨(some 14),(.p (.bin .lss (.tmp 11) (.tmp 13))),none⟩])
 (.cond (.tmp 14) (.skip)
 (.exit 0)))
 (.seq (.block 1 (.seq (.dregion [⟨⟨(some 17),(.p (.mov (.tmp 0))),none⟩,0,8⟩,⟨⟨(some 18),(.p (.mov (.tmp 5))),none⟩,0,8⟩,⟨⟨(some 19),(.p (.iaddr 4 (.tmp 17) (.tmp 18))),none⟩,0,8⟩,⟨⟨(some 20),(.loadn 4 (.tmp 19)),none⟩,0,8⟩,⟨⟨(some 21),(.p (.mov (.tmp 1))),none⟩,0,8⟩,⟨⟨(some 22),(.p (.mov (.tmp 5))),none⟩,0,8⟩,⟨⟨(some 23),(.p (.iaddr 4 (.tmp 21) (.tmp 22))),none⟩,0,8⟩,⟨⟨(some 24),(.loadn 4 (.tmp 23)),none⟩,0,8⟩,⟨⟨(some 25),(.e (.call 67 [(.tmp 20),(.tmp 24)])),none⟩,0,10⟩,⟨⟨(some 26),(.p (.not (.tmp 25))),none⟩,9,10⟩])
 (.cond (.tmp 26) (.seq (.region [⟨(some 4),(.p (.mov (.val (.bool false)))),none⟩])
 (.ret))
 (.skip))))
 (.region [⟨(some 15),(.p (.mov (.tmp 5))),none⟩,⟨(some 16),(.p (.bin .add (.tmp 15) (.val (.int .i64 (.ofNat 1))))),none⟩,⟨(some 5),(.p (.mov (.tmp 16))),none⟩]))))))
 (.seq (.region [⟨(some 4),(.p (.mov (.val (.bool true)))),none⟩])
 (.ret)))),[.tmp 4]⟩
theorem v31 : IsFun Try.prog 31 m31 := ⟨_, Try.func31, by kernel_rfl, by kernel_rfl⟩
def m52 : Fun := ⟨35,3,.seq (.region [⟨(some 6),(.p (.mov (.val (.nilslice)))),none⟩,⟨(some 7),(.p (.mov (.val (.bool false)))),none⟩])
 (.seq (.region [⟨(some 13),(.p (.mov (.tmp 0))),none⟩,⟨(some 8),(.p (.mov (.tmp 13))),none⟩])
 (.seq (.seq (.region [⟨(some 14),(.p (.mov (.tmp 2))),none⟩,⟨(some 15),(.p (.lenb (.tmp 14))),none⟩,⟨(some 16),(.p (.mov (.val (.int .i64 (.ofNat 0))))),none⟩])
 (.block 0 (.loop (.seq (.region [⟨(some 17),(.p (.bin .lss (.tmp 16) (.tmp 15))),none⟩])
 (.seq (.cond (.tmp 17) (.skip)
 (.exit 0))
 (.seq (.block 1 (.seq (.region [⟨(some 18),(.p (.iaddr 2 (.tmp 14) (.tmp 16))),none⟩,⟨(some 19),(.loadn 2 (.tmp 18)),none⟩,⟨(some 10),(.a (.new [.int .i64 (.ofNat 0),.int .i64 (.ofNat 0)])),none⟩,⟨none,(.e (.store 2 (.tmp 10) (.tmp 19))),none⟩])
 (.seq (.region [⟨(some 21),(.p (.mov (.tmp 1))),none⟩,⟨(some 22),(.loadn 2 (.tmp 10)),none⟩,⟨(some 23),(.e (.call 84 [(.tmp 21),(.tmp 22)])),none⟩,⟨(some 20),(.p (.mov (.tmp 23))),none⟩,⟨(some 24),(.p (.ext (.tmp 20) 0)),none⟩,⟨(some 25),(.p (.ext (.tmp 20) 1)),none⟩,⟨(some 11),(.a (.new [.bool false,.int .i64 (.ofNat 0),.int .i64 (.ofNat 0),.nilslice])),none⟩,⟨none,(.e (.store 4 (.tmp 11) (.tmp 24))),none⟩,⟨(some 12),(.p (.mov (.tmp 25))),none⟩])
 (.seq (.seq (.region [⟨(some 26),(.p (.mov (.tmp 12))),none⟩,⟨(some 27),(.p (.not (.tmp 26))),none⟩])
 (.cond (.tmp 27) (.seq (.region [⟨(some 6),(.p (.mov (.val (.nilslice)))),none⟩,⟨(some 7),(.p (.mov (.val (.bool false)))),none⟩])
 (.ret))
 (.skip)))
 (.region [⟨(some 28),(.p (.mov (.tmp 8))),none⟩,⟨(some 29),(.loadn 4 (.tmp 11)),none⟩,⟨(some 30),(.a (.bslice [.bool false,.int .i64 (.ofNat 0),.int .i64 (.ofNat 0),.nilslice] 4 1 [(0,4,(.tmp 29))])),none⟩,⟨(some 31),(.e (.append 4 48 (.tmp 28) (.tmp 30))),none⟩,⟨(some 8),(.p (.mov (.tmp 31))),none⟩])))))
 (.region [⟨(some 32),(.p (.bin .add (.tmp 16) (.val (.int .i64 (.ofNat 1))))),none⟩,⟨(some 16),(.p (.mov (.tmp 32))),none⟩])))))))
 (.seq (.region [⟨(some 33),(.p (.mov (.tmp 8))),none⟩,⟨(some 34),(.e (.call 85 [(.tmp 33)])),none⟩,⟨(some 6),(.p (.mov (.tmp 34))),none⟩,⟨(some 7),(.p (.mov (.val (.bool true)))),none⟩])
 (.ret)))),[.tmp 6,.tmp 7]⟩
theorem v52 : IsFun Try.prog 52 m52 := ⟨_, Try.func52, by kernel_rfl, by kernel_rfl⟩
def m53 : Fun := ⟨20,1,.seq (.region [⟨(some 2),(.p (.mov (.val (.nilslice)))),none⟩])
 (.seq (.region [⟨(some 3),(.p (.mov (.val (.nilslice)))),none⟩])
 (.seq (.seq (.region [⟨(some 6),(.p (.mov (.tmp 0))),none⟩,⟨(some 7),(.p (.lenb (.tmp 6))),none⟩,⟨(some 8),(.p (.mov (.val (.int .i64 (.ofNat 0))))),none⟩])
 (.block 0 (.loop (.seq (.region [⟨(some 9),(.p (.bin .lss (.tmp 8) (.tmp 7))),none⟩])
 (.seq (.cond (.tmp 9) (.skip)
 (.exit 0))
 (.seq (.block 1 (.seq (.region [⟨(some 10),(.p (.iaddr 1 (.tmp 6) (.tmp 8))),none⟩,⟨(some 11),(.load1 (.tmp 10)),none⟩,⟨(some 5),(.p (.mov (.tmp 11))),none⟩])
 (.region [⟨(some 12),(.p (.mov (.tmp 3))),none⟩,⟨(some 13),(.p (.mov (.tmp 5))),none⟩,⟨(some 14),(.e (.call 61 [(.tmp 13)])),none⟩,⟨(some 15),(.a (.bslice [.nilslice] 1 1 [(0,1,(.tmp 14))])),none⟩,⟨(some 16),(.e (.append 1 24 (.tmp 12) (.tmp 15))),none⟩,⟨(some 3),(.p (.mov (.tmp 16))),none⟩])))
 (.region [⟨(some 17),(.p (.bin .add (.tmp 8) (.val (.int .i64 (.ofNat 1))))),none⟩,⟨(some 8),(.p (.mov (.tmp 17))),none⟩])))))))
 (.seq (.region [⟨(some 18),(.p (.mov (.tmp 3))),none⟩,⟨(some 19),(.e (.call 58 [(.tmp 18)])),none⟩,⟨(some 2),(.p (.mov (.tmp 19))),none⟩])
 (.ret)))),[.tmp 2]⟩
theorem v53 : IsFun Try.prog 53 m53 := ⟨_, Try.func53, by kernel_rfl, by kernel_rfl⟩
def m54 : Fun := ⟨9,2,.region [⟨(some 4),(.p (.mov (.tmp 0))),none⟩,⟨(some 5),(.p (.mov (.tmp 0))),none⟩,⟨(some 6),(.p (.lenb (.tmp 5))),none⟩,⟨(some 7),(.p (.mov (.tmp 1))),none⟩,⟨(some 8),(.e (.call 86 [(.tmp 4),(.tmp 6),(.tmp 7)])),none⟩],[]⟩
theorem v54 : IsFun Try.prog 54 m54 := ⟨_, Try.func54, by kernel_rfl, by kernel_rfl⟩
def m55 : Fun := ⟨13,3,.seq (.region [⟨(some 5),(.p (.mov (.val (.int .i64 (.ofNat 0))))),none⟩])
 (.seq (.dregion [⟨⟨(some 6),(.p (.mov (.tmp 0))),none⟩,0,2⟩,⟨⟨(some 7),(.load1 (.tmp 2)),none⟩,0,2⟩,⟨⟨(some 8),(.e (.call 57 [(.tmp 6),(.tmp 7)])),none⟩,0,5⟩,⟨⟨(some 9),(.p (.mov (.tmp 1))),none⟩,0,5⟩,⟨⟨(some 10),(.load1 (.tmp 2)),none⟩,0,5⟩,⟨⟨(some 11),(.e (.call 57 [(.tmp 9),(.tmp 10)])),none⟩,3,6⟩,⟨⟨(some 12),(.e (.call 56 [(.tmp 8),(.tmp 11)])),none⟩,6,8⟩,⟨⟨(some 5),(.p (.mov (.tmp 12))),none⟩,7,8⟩])
 (.ret)),[.tmp 5]⟩
theorem v55 : IsFun Try.prog 55 m55 := ⟨_, Try.func55, by kernel_rfl, by kernel_rfl⟩
def m56 : Fun := ⟨34,2,.seq (.region [⟨(some 2),(.a (.box (.tmp 0))),none⟩,⟨(some 3),(.a (.box (.tmp 1))),none⟩,⟨(some 4),(.p (.mov (.val (.int .i64 (.ofNat 0))))),none⟩])
 (.seq (.seq (.dregion [⟨⟨(some 6),(.loadn 4 (.tmp 2)),none⟩,0,1⟩,⟨⟨(some 7),(.e (.call 88 [(.tmp 6)])),none⟩,0,3⟩,⟨⟨(some 8),(.loadn 4 (.tmp 3)),none⟩,0,3⟩,⟨⟨(some 9),(.e (.call 88 [(.tmp 8)])),none⟩,2,4⟩,⟨⟨(some 10),(.e (.call 87 [(.tmp 7),(.tmp 9)])),none⟩,4,6⟩,⟨⟨(some 5),(.p (.mov (.tmp 10))),none⟩,5,6⟩])
 (.seq (.region [⟨(some 11),(.p (.mov (.tmp 5))),none⟩,⟨(some 12),(.p (.bin .neq (.tmp 11) (.val (.int .i64 (.ofNat 0))))),none⟩,⟨(some 13),(.p (.mov (.tmp 12))),none⟩,⟨(some 14),(.p (.faddr 0 (.tmp 2))),(some (13,false))⟩,⟨(some 15),(.load1 (.tmp 14)),(some (13,false))⟩,⟨(some 16),(.p (.pick (.tmp 13) (.val (.bool true)) (.tmp 15))),none⟩])
 (.cond (.tmp 16) (.seq (.region [⟨(some 17),(.p (.mov (.tmp 5))),none⟩,⟨(some 4),(.p (.mov (.tmp 17))),none⟩])
 (.ret))
 (.skip))))
 (.seq (.seq (.region [⟨(some 18),(.p (.faddr 1 (.tmp 2))),none⟩,⟨(some 19),(.load1 (.tmp 18)),none⟩])
 (.block 0 (.seq (.region [⟨(some 21),(.p (.bin .eql (.tmp 19) (.val (.int .i64 (.ofNat 1))))),none⟩,⟨(some 20),(.p (.mov (.tmp 21))),none⟩])
 (.cond (.tmp 20) (.seq (.region [⟨(some 22),(.p (.faddr 2 (.tmp 2))),none⟩,⟨(some 23),(.load1 (.tmp 22)),none⟩,⟨(some 24),(.p (.faddr 2 (.tmp 3))),none⟩,⟨(some 25),(.load1 (.tmp 24)),none⟩,⟨(some 26),(.e (.call 89 [(.tmp 23),(.tmp 25)])),none⟩,⟨(some 4),(.p (.mov (.tmp 26))),none⟩])
 (.ret))
 (.seq (.region [⟨(some 28),(.p (.bin .eql (.tmp 19) (.val (.int .i64 (.ofNat 2))))),none⟩,⟨(some 27),(.p (.mov (.tmp 28))),none⟩])
 (.cond (.tmp 27) (.seq (.region [⟨(some 29),(.p (.faddr 3 (.tmp 2))),none⟩,⟨(some 30),(.load1 (.tmp 29)),none⟩,⟨(some 31),(.p (.faddr 3 (.tmp 3))),none⟩,⟨(some 32),(.load1 (.tmp 31)),none⟩,⟨(some 33),(.e (.call 90 [(.tmp 30),(.tmp 32)])),none⟩,⟨(some 4),(.p (.mov (.tmp 33))),none⟩])
 (.ret))
 (.skip)))))))
 (.seq (.region [⟨(some 4),(.p (.mov (.val (.int .i64 (.ofNat 0))))),none⟩])
 (.ret)))),[.tmp 4]⟩
theorem v56 : IsFun Try.prog 56 m56 := ⟨_, Try.func56, by kernel_rfl, by kernel_rfl⟩
def m57 : Fun := ⟨19,2,.seq (.region [⟨(some 4),(.a (.new [.bool false,.int .i64 (.ofNat 0),.int .i64 (.ofNat 0),.nilslice])),none⟩])
 (.seq (.seq (.region [⟨(some 5),(.p (.mov (.tmp 1))),none⟩,⟨(some 6),(.p (.bin .lss (.tmp 5) (.val (.int .i64 (.ofNat 0))))),none⟩,⟨(some 7),(.p (.mov (.tmp 6))),none⟩,⟨(some 8),(.p (.mov (.tmp 1))),(some (7,false))⟩,⟨(some 9),(.p (.mov (.tmp 0))),(some (7,false))⟩,⟨(some 10),(.p (.lenb (.tmp 9))),(some (7,false))⟩,⟨(some 11),(.p (.bin .geq (.tmp 8) (.tmp 10))),(some (7,false))⟩,⟨(some 12),(.p (.pick (.tmp 7) (.val (.bool true)) (.tmp 11))),none⟩])
 (.cond (.tmp 12) (.seq (.region [⟨(some 13),(.p (.build [.bool false,.int .i64 (.ofNat 0),.int .i64 (.ofNat 0),.nilslice] [])),none⟩,⟨none,(.e (.store 4 (.tmp 4) (.tmp 13))),none⟩])
 (.ret))
 (.skip)))
 (.seq (.region [⟨(some 14),(.p (.mov (.tmp 0))),none⟩,⟨(some 15),(.p (.mov (.tmp 1))),none⟩,⟨(some 16),(.p (.iaddr 4 (.tmp 14) (.tmp 15))),none⟩,⟨(some 17),(.loadn 4 (.tmp 16)),none⟩,⟨(some 18),(.e (.call 62 [(.tmp 17)])),none⟩,⟨none,(.e (.store 4 (.tmp 4) (.tmp 18))),none⟩])
 (.ret))),[.celln 4 4]⟩
theorem v57 : IsFun Try.prog 57 m57 := ⟨_, Try.func57, by kernel_rfl, by kernel_rfl⟩
def m58 : Fun := ⟨9,1,.seq (.region [⟨(some 2),(.p (.mov (.val (.nilslice)))),none⟩])
 (.seq (.region [⟨(some 3),(.p (.mov (.tmp 0))),none⟩,⟨(some 4),(.p (.mov (.tmp 0))),none⟩,⟨(some 5),(.p (.lenb (.tmp 4))),none⟩,⟨(some 6),(.p (.mov (.tmp 0))),none⟩,⟨(some 7),(.p (.lenb (.tmp 6))),none⟩,⟨(some 8),(.p (.slc 1 (.tmp 3) none (some (.tmp 5)) (some (.tmp 7)))),none⟩,⟨(some 2),(.p (.mov (.tmp 8))),none⟩])
 (.ret)),[.tmp 2]⟩
theorem v58 : IsFun Try.prog 58 m58 := ⟨_, Try.func58, by kernel_rfl, by kernel_rfl⟩
def m59 : Fun := ⟨5,1,.seq (.region [⟨(some 2),(.a (.new [.bool false,.int .i64 (.ofNat 0),.int .i64 (.ofNat 0),.nilslice])),none⟩])
 (.seq (.region [⟨(some 3),(.p (.mov (.tmp 0))),none⟩,⟨(some 4),(.p (.build [.bool false,.int .i64 (.ofNat 0),.int .i64 (.ofNat 0),.nilslice] [(1,1,(.val (.int .i64 (.ofNat 1)))),(2,1,(.tmp 3))])),none⟩,⟨none,(.e (.store 4 (.tmp 2) (.tmp 4))),none⟩])
 (.ret)),[.celln 4 2]⟩
theorem v59 : IsFun Try.prog 59 m59 := ⟨_, Try.func59, by kernel_rfl, by kernel_rfl⟩
def m60 : Fun := ⟨8,2,.seq (.region [⟨(some 4),(.p (.mov (.val (.int .i64 (.ofNat 0))))),none⟩])
 (.seq (.region [⟨(some 5),(.p (.mov (.tmp 0))),none⟩,⟨(some 6),(.p (.mov (.tmp 1))),none⟩,⟨(some 7),(.e (.call 91 [(.tmp 5),(.tmp 6),(.val (.func 56 [] []))])),none⟩,⟨(some 4),(.p (.mov (.tmp 7))),none⟩])
 (.ret)),[.tmp 4]⟩
theorem v60 : IsFun Try.prog 60 m60 := ⟨_, Try.func60, by kernel_rfl, by kernel_rfl⟩
def m61 : Fun := ⟨20,1,.seq (.region [⟨(some 2),(.p (.mov (.val (.nilslice)))),none⟩])
 (.seq (.region [⟨(some 3),(.p (.mov (.val (.nilslice)))),none⟩])
 (.seq (.seq (.region [⟨(some 6),(.p (.mov (.tmp 0))),none⟩,⟨(some 7),(.p (.lenb (.tmp 6))),none⟩,⟨(some 8),(.p (.mov (.val (.int .i64 (.ofNat 0))))),none⟩])
 (.block 0 (.loop (.seq (.region [⟨(some 9),(.p (.bin .lss (.tmp 8) (.tmp 7))),none⟩])
 (.seq (.cond (.tmp 9) (.skip)
 (.exit 0))
 (.seq (.block 1 (.seq (.region [⟨(some 10),(.p (.iaddr 4 (.tmp 6) (.tmp 8))),none⟩,⟨(some 11),(.loadn 4 (.tmp 10)),none⟩,⟨(some 5),(.a (.new [.bool false,.int .i64 (.ofNat 0),.int .i64 (.ofNat 0),.nilslice])),none⟩,⟨none,(.e (.store 4 (.tmp 5) (.tmp 11))),none⟩])
 (.region [⟨(some 12),(.p (.mov (.tmp 3))),none⟩,⟨(some 13),(.loadn 4 (.tmp 5)),none⟩,⟨(some 14),(.e (.call 62 [(.tmp 13)])),none⟩,⟨(some 15),(.a (.bslice [.bool false,.int .i64 (.ofNat 0),.int .i64 (.ofNat 0),.nilslice] 4 1 [(0,4,(.tmp 14))])),none⟩,⟨(some 16),(.e (.append 4 48 (.tmp 12) (.tmp 15))),none⟩,⟨(some 3),(.p (.mov (.tmp 16))),none⟩])))
 (.region [⟨(some 17),(.p (.bin .add (.tmp 8) (.val (.int .i64 (.ofNat 1))))),none⟩,⟨(some 8),(.p (.mov (.tmp 17))),none⟩])))))))
 (.seq (.region [⟨(some 18),(.p (.mov (.tmp 3))),none⟩,⟨(some 19),(.e (.call 85 [(.tmp 18)])),none⟩,⟨(some 2),(.p (.mov (.tmp 19))),none⟩])
 (.ret)))),[.tmp 2]⟩
theorem v61 : IsFun Try.prog 61 m61 := ⟨_, Try.func61, by kernel_rfl, by kernel_rfl⟩
def m62 : Fun := ⟨8,1,.seq (.region [⟨(some 1),(.a (.box (.tmp 0))),none⟩,⟨(some 2),(.a (.new [.bool false,.int .i64 (.ofNat 0),.int .i64 (.ofNat 0),.nilslice])),none⟩])
 (.seq (.region [⟨(some 3),(.p (.faddr 3 (.tmp 1))),none⟩,⟨(some 4),(.load1 (.tmp 3)),none⟩,⟨(some 5),(.e (.call 92 [(.tmp 4)])),none⟩,⟨(some 6),(.p (.faddr 3 (.tmp 1))),none⟩,⟨none,(.e (.store 1 (.tmp 6) (.tmp 5))),none⟩])
 (.seq (.region [⟨(some 7),(.loadn 4 (.tmp 1)),none⟩,⟨none,(.e (.store 4 (.tmp 2) (.tmp 7))),none⟩])
 (.ret))),[.celln 4 2]⟩
theorem v62 : IsFun Try.prog 62 m62 := ⟨_, Try.func62, by kernel_rfl, by kernel_rfl⟩
def m63 : Fun := ⟨21,2,.seq (.region [⟨(some 4),(.p (.mov (.val (.int .i64 (.ofNat 0))))),none⟩,⟨(some 5),(.p (.mov (.val (.bool false)))),none⟩])
 (.seq (.region [⟨(some 6),(.a (.new [.int .i64 (.ofNat 0),.int .u64 (.ofNat 0)])),none⟩])
 (.seq (.region [⟨(some 7),(.p (.mov (.tmp 0))),none⟩,⟨(some 8),(.e (.call 93 [(.tmp 6),(.tmp 7)])),none⟩])
 (.seq (.region [⟨(some 9),(.p (.mov (.tmp 1))),none⟩,⟨(some 10),(.e (.call 93 [(.tmp 6),(.tmp 9)])),none⟩])
 (.seq (.dregion [⟨⟨(some 11),(.p (.faddr 1 (.tmp 6))),none⟩,0,12⟩,⟨⟨(some 12),(.load1 (.tmp 11)),none⟩,0,12⟩,⟨⟨(some 13),(.p (.conv (.int .i64) (.tmp 12))),none⟩,0,12⟩,⟨⟨(some 14),(.p (.faddr 0 (.tmp 6))),none⟩,0,12⟩,⟨⟨(some 15),(.load1 (.tmp 14)),none⟩,0,12⟩,⟨⟨(some 16),(.p (.faddr 1 (.tmp 6))),none⟩,0,12⟩,⟨⟨(some 17),(.load1 (.tmp 16)),none⟩,0,12⟩,⟨⟨(some 18),(.p (.conv (.int .i64) (.tmp 17))),none⟩,0,12⟩,⟨⟨(some 19),(.p (.bin .shr (.tmp 18) (.val (.int .u64 (.ofNat 63))))),none⟩,0,12⟩,⟨⟨(some 20),(.p (.bin .eql (.tmp 15) (.tmp 19))),none⟩,0,12⟩,⟨⟨(some 4),(.p (.mov (.tmp 13))),none⟩,0,12⟩,⟨⟨(some 5),(.p (.mov (.tmp 20))),none⟩,0,12⟩])
 (.ret))))),[.tmp 4,.tmp 5]⟩
theorem v63 : IsFun Try.prog 63 m63 := ⟨_, Try.func63, by kernel_rfl, by kernel_rfl⟩
def m64 : Fun := ⟨38,2,.seq (.region [⟨(some 4),(.p (.mov (.val (.int .i64 (.ofNat 0))))),none⟩])
 (.seq (.seq (.region [⟨(some 5),(.p (.mov (.val (.int .i64 (.ofNat 0))))),none⟩])
 (.block 0 (.loop (.seq (.seq (.region [⟨(some 7),(.p (.mov (.tmp 5))),none⟩,⟨(some 8),(.p (.mov (.tmp 0))),none⟩,⟨(some 9),(.p (.lenb (.tmp 8))),none⟩,⟨(some 10),(.p (.bin .lss (.tmp 7) (.tmp 9))),none⟩,⟨(some 11),(.p (.mov (.tmp 10))),none⟩,⟨(some 12),(.p (.mov (.tmp 5))),(some (11,true))⟩,⟨(some 13),(.p (.mov (.tmp 1))),(some (11,true))⟩,⟨(some 14),(.p (.lenb (.tmp 13))),(some (11,true))⟩,⟨(some 15),(.p (.bin .lss (.tmp 12) (.tmp 14))),(some (11,true))⟩,⟨(some 16),(.p (.pick (.tmp 11) (.tmp 15) (.val (.bool false)))),none⟩])
 (.cond (.tmp 16) (.skip)
 (.exit 0)))
 (.seq (.block 1 (.seq (.dregion [⟨⟨(some 19),(.p (.mov (.tmp 0))),none⟩,0,8⟩,⟨⟨(some 20),(.p (.mov (.tmp 5))),none⟩,0,8⟩,⟨⟨(some 21),(.p (.iaddr 4 (.tmp 19) (.tmp 20))),none⟩,0,8⟩,⟨⟨(some 22),(.loadn 4 (.tmp 21)),none⟩,0,8⟩,⟨⟨(some 23),(.p (.mov (.tmp 1))),none⟩,0,8⟩,⟨⟨(some 24),(.p (.mov (.tmp 5))),none⟩,0,8⟩,⟨⟨(some 25),(.p (.iaddr 4 (.tmp 23) (.tmp 24))),none⟩,0,8⟩,⟨⟨(some 26),(.loadn 4 (.tmp 25)),none⟩,0,8⟩,⟨⟨(some 27),(.e (.call 19 [(.tmp 22),(.tmp 26)])),none⟩,0,10⟩,⟨⟨(some 6),(.p (.mov (.tmp 27))),none⟩,9,10⟩])
 (.seq (.region [⟨(some 28),(.p (.mov (.tmp 6))),none⟩,⟨(some 29),(.p (.bin .neq (.tmp 28) (.val (.int .i64 (.ofNat 0))))),none⟩])
 (.cond (.tmp 29) (.seq (.region [⟨(some 30),(.p (.mov (.tmp 6))),none⟩,⟨(some 4),(.p (.mov (.tmp 30))),none⟩])
 (.ret))
 (.skip)))))
 (.region [⟨(some 17),(.p (.mov (.tmp 5))),none⟩,⟨(some 18),(.p (.bin .add (.tmp 17) (.val (.int .i64 (.ofNat 1))))),none⟩,⟨(some 5),(.p (.mov (.tmp 18))),none⟩]))))))
 (.seq (.region [⟨(some 31),(.p (.mov (.tmp 0))),none⟩,⟨(some 32),(.p (.lenb (.tmp 31))),none⟩,⟨(some 33),(.p (.mov (.tmp 1))),none⟩,⟨(some 34),(.p (.lenb (.tmp 33))),none⟩,⟨(some 35),(.p (.bin .sub (.tmp 32) (.tmp 34))),none⟩,⟨(some 36),(.p (.max [(.tmp 35),(.val (.int .i64 (.negSucc 0)))])),none⟩,⟨(some 37),(.p (.min [(.tmp 36),(.val (.int .i64 (.ofNat 1)))])),none⟩,⟨(some 4),(.p (.mov (.tmp 37))),none⟩])
 (.ret))),[.tmp 4]⟩
theorem v64 : IsFun Try.prog 64 m64 := ⟨_, Try.func64, by kernel_rfl, by kernel_rfl⟩
def m67 : Fun := ⟨33,2,.seq (.region [⟨(some 2),(.a (.box (.tmp 0))),none⟩,⟨(some 3),(.a (.box (.tmp 1))),none⟩,⟨(some 4),(.p (.mov (.val (.bool false)))),none⟩])
 (.seq (.region [⟨(some 5),(.p (.faddr 0 (.tmp 2))),none⟩,⟨(some 6),(.load1 (.tmp 5)),none⟩,⟨(some 7),(.p (.faddr 0 (.tmp 3))),none⟩,⟨(some 8),(.load1 (.tmp 7)),none⟩,⟨(some 9),(.p (.eq .bool false (.tmp 6) (.tmp 8))),none⟩,⟨(some 10),(.p (.mov (.tmp 9))),none⟩,⟨(some 11),(.p (.faddr 1 (.tmp 2))),(some (10,true))⟩,⟨(some 12),(.load1 (.tmp 11)),(some (10,true))⟩,⟨(some 13),(.p (.faddr 1 (.tmp 3))),(some (10,true))⟩,⟨(some 14),(.load1 (.tmp 13)),(some (10,true))⟩,⟨(some 15),(.p (.bin .eql (.tmp 12) (.tmp 14))),(some (10,true))⟩,⟨(some 16),(.p (.pick (.tmp 10) (.tmp 15) (.val (.bool false)))),none⟩,⟨(some 17),(.p (.mov (.tmp 16))),none⟩,⟨(some 18),(.p (.faddr 2 (.tmp 2))),(some (17,true))⟩,⟨(some 19),(.load1 (.tmp 18)),(some (17,true))⟩,⟨(some 20),(.p (.faddr 2 (.tmp 3))),(some (17,true))⟩,⟨(some 21),(.load1 (.tmp 20)),(some (17,true))⟩,⟨(some 22),(.p (.bin .eql (.tmp 19) (.tmp 21))),(some (17,true))⟩,⟨(some 23),(.p (.pick (.tmp 17) (.tmp 22) (.val (.bool false)))),none⟩,⟨(some 24),(.p (.mov (.tmp 23))),none⟩,⟨(some 25),(.p (.faddr 3 (.tmp 2))),(some (24,true))⟩,⟨(some 26),(.load1 (.tmp 25)),(some (24,true))⟩,⟨(some 27),(.e (.text (.tmp 26))),(some (24,true))⟩,⟨(some 28),(.p (.faddr 3 (.tmp 3))),(some (24,true))⟩,⟨(some 29),(.load1 (.tmp 28)),(some (24,true))⟩,⟨(some 30),(.e (.text (.tmp 29))),(some (24,true))⟩,⟨(some 31),(.p (.bin .eql (.tmp 27) (.tmp 30))),(some (24,true))⟩,⟨(some 32),(.p (.pick (.tmp 24) (.tmp 31) (.val (.bool false)))),none⟩,⟨(some 4),(.p (.mov (.tmp 32))),none⟩])
 (.ret)),[.tmp 4]⟩
theorem v67 : IsFun Try.prog 67 m67 := ⟨_, Try.func67, by kernel_rfl, by kernel_rfl⟩
def m84 : Fun := ⟨31,2,.seq (.region [⟨(some 3),(.a (.box (.tmp 1))),none⟩,⟨(some 4),(.a (.new [.bool false,.int .i64 (.ofNat 0),.int .i64 (.ofNat 0),.nilslice])),none⟩,⟨(some 5),(.p (.mov (.val (.bool false)))),none⟩])
 (.seq (.seq (.region [⟨(some 6),(.p (.faddr 0 (.tmp 3))),none⟩,⟨(some 7),(.load1 (.tmp 6)),none⟩])
 (.block 0 (.seq (.region [⟨(some 9),(.p (.bin .eql (.tmp 7) (.val (.int .i64 (.ofNat 1))))),none⟩,⟨(some 8),(.p (.mov (.tmp 9))),none⟩])
 (.cond (.tmp 8) (.seq (.region [⟨(some 10),(.p (.mov (.tmp 0))),none⟩,⟨(some 11),(.p (.lenb (.tmp 10))),none⟩,⟨(some 12),(.p (.build [.bool false,.int .i64 (.ofNat 0),.int .i64 (.ofNat 0),.nilslice] [(1,1,(.val (.int .i64 (.ofNat 1)))),(2,1,(.tmp 11))])),none⟩,⟨none,(.e (.store 4 (.tmp 4) (.tmp 12))),none⟩,⟨(some 5),(.p (.mov (.val (.bool true)))),none⟩])
 (.ret))
 (.seq (.region [⟨(some 14),(.p (.bin .eql (.tmp 7) (.val (.int .i64 (.ofNat 2))))),none⟩,⟨(some 13),(.p (.mov (.tmp 14))),none⟩])
 (.cond (.tmp 13) (.seq (.region [⟨(some 15),(.p (.mov (.tmp 0))),none⟩,⟨(some 16),(.p (.faddr 1 (.tmp 3))),none⟩,⟨(some 17),(.load1 (.tmp 16)),none⟩,⟨(some 18),(.e (.call 112 [(.tmp 15),(.tmp 17)])),none⟩,⟨(some 19),(.p (.ext (.tmp 18) 0)),none⟩,⟨(some 20),(.p (.ext (.tmp 18) 1)),none⟩,⟨none,(.e (.store 4 (.tmp 4) (.tmp 19))),none⟩,⟨(some 5),(.p (.mov (.tmp 20))),none⟩])
 (.ret))
 (.seq (.region [⟨(some 22),(.p (.bin .eql (.tmp 7) (.val (.int .i64 (.ofNat 3))))),none⟩,⟨(some 21),(.p (.mov (.tmp 22))),none⟩])
 (.cond (.tmp 21) (.seq (.region [⟨(some 23),(.p (.mov (.tmp 0))),none⟩,⟨(some 24),(.p (.faddr 1 (.tmp 3))),none⟩,⟨(some 25),(.load1 (.tmp 24)),none⟩,⟨(some 26),(.e (.call 113 [(.tmp 23),(.tmp 25),(.val (.int .i64 (.negSucc 0)))])),none⟩,⟨none,(.e (.store 4 (.tmp 4) (.tmp 26))),none⟩,⟨(some 5),(.p (.mov (.val (.bool true)))),none⟩])
 (.ret))
 (.skip)))))))))
 (.seq (.region [⟨(some 27),(.p (.mov (.tmp 0))),none⟩,⟨(some 28),(.p (.faddr 1 (.tmp 3))),none⟩,⟨(some 29),(.load1 (.tmp 28)),none⟩,⟨(some 30),(.e (.call 113 [(.tmp 27),(.tmp 29),(.val (.int .i64 (.ofNat 1)))])),none⟩,⟨none,(.e (.store 4 (.tmp 4) (.tmp 30))),none⟩,⟨(some 5),(.p (.mov (.val (.bool true)))),none⟩])
 (.ret))),[.celln 4 4,.tmp 5]⟩
theorem v84 : IsFun Try.prog 84 m84 := ⟨_, Try.func84, by kernel_rfl, by kernel_rfl⟩
def m85 : Fun := ⟨9,1,.seq (.region [⟨(some 2),(.p (.mov (.val (.nilslice)))),none⟩])
 (.seq (.region [⟨(some 3),(.p (.mov (.tmp 0))),none⟩,⟨(some 4),(.p (.mov (.tmp 0))),none⟩,⟨(some 5),(.p (.lenb (.tmp 4))),none⟩,⟨(some 6),(.p (.mov (.tmp 0))),none⟩,⟨(some 7),(.p (.lenb (.tmp 6))),none⟩,⟨(some 8),(.p (.slc 4 (.tmp 3) none (some (.tmp 5)) (some (.tmp 7)))),none⟩,⟨(some 2),(.p (.mov (.tmp 8))),none⟩])
 (.ret)),[.tmp 2]⟩
theorem v85 : IsFun Try.prog 85 m85 := ⟨_, Try.func85, by kernel_rfl, by kernel_rfl⟩
def m86 : Fun := ⟨63,3,.seq (.region [⟨(some 6),(.p (.mov (.val (.int .i64 (.ofNat 20))))),none⟩])
 (.seq (.region [⟨(some 10),(.p (.mov (.tmp 6))),none⟩,⟨(some 7),(.p (.mov (.val (.int .i64 (.ofNat 0))))),none⟩,⟨(some 8),(.p (.mov (.tmp 10))),none⟩])
 (.seq (.block 0 (.loop (.seq (.seq (.region [⟨(some 11),(.p (.mov (.tmp 8))),none⟩,⟨(some 12),(.p (.mov (.tmp 1))),none⟩,⟨(some 13),(.p (.bin .leq (.tmp 11) (.tmp 12))),none⟩])
 (.cond (.tmp 13) (.skip)
 (.exit 0)))
 (.block 1 (.seq (.region [⟨(some 14),(.p (.mov (.tmp 0))),none⟩,⟨(some 15),(.p (.mov (.tmp 7))),none⟩,⟨(some 16),(.p (.mov (.tmp 8))),none⟩,⟨(some 17),(.p (.mov (.tmp 2))),none⟩,⟨(some 18),(.e (.call 114 [(.tmp 14),(.tmp 15),(.tmp 16),(.tmp 17)])),none⟩])
 (.seq (.region [⟨(some 19),(.p (.mov (.tmp 8))),none⟩,⟨(some 7),(.p (.mov (.tmp 19))),none⟩])
 (.region [⟨(some 20),(.p (.mov (.tmp 8))),none⟩,⟨(some 21),(.p (.mov (.tmp 6))),none⟩,⟨(some 22),(.p (.bin .add (.tmp 20) (.tmp 21))),none⟩,⟨(some 8),(.p (.mov (.tmp 22))),none⟩])))))))
 (.seq (.region [⟨(some 23),(.p (.mov (.tmp 0))),none⟩,⟨(some 24),(.p (.mov (.tmp 7))),none⟩,⟨(some 25),(.p (.mov (.tmp 1))),none⟩,⟨(some 26),(.p (.mov (.tmp 2))),none⟩,⟨(some 27),(.e (.call 114 [(.tmp 23),(.tmp 24),(.tmp 25),(.tmp 26)])),none⟩])
 (.block 2 (.loop (.seq (.seq (.region [⟨(some 28),(.p (.mov (.tmp 6))),none⟩,⟨(some 29),(.p (.mov (.tmp 1))),none⟩,⟨(some 30),(.p (.bin .lss (.tmp 28) (.tmp 29))),none⟩])
 (.cond (.tmp 30) (.skip)
 (.exit 2)))
 (.block 3 (.seq (.region [⟨(some 31),(.p (.mov (.tmp 6))),none⟩,⟨(some 32),(.p (.bin .mul (.val (.int .i64 (.ofNat 2))) (.tmp 31))),none⟩,⟨(some 7),(.p (.mov (.val (.int .i64 (.ofNat 0))))),none⟩,⟨(some 8),(.p (.mov (.tmp 32))),none⟩])
 (.seq (.block 4 (.loop (.seq (.seq (.region [⟨(some 33),(.p (.mov (.tmp 8))),none⟩,⟨(some 34),(.p (.mov (.tmp 1))),none⟩,⟨(some 35),(.p (.bin .leq (.tmp 33) (.tmp 34))),none⟩])
 (.cond (.tmp 35) (.skip)
 (.exit 4)))
 (.block 5 (.seq (.region [⟨(some 36),(.p (.mov (.tmp 0))),none⟩,⟨(some 37),(.p (.mov (.tmp 7))),none⟩,⟨(some 38),(.p (.mov (.tmp 7))),none⟩,⟨(some 39),(.p (.mov (.tmp 6))),none⟩,⟨(some 40),(.p (.bin .add (.tmp 38) (.tmp 39))),none⟩,⟨(some 41),(.p (.mov (.tmp 8))),none⟩,⟨(some 42),(.p (.mov (.tmp 2))),none⟩,⟨(some 43),(.e (.call 115 [(.tmp 36),(.tmp 37),(.tmp 40),(.tmp 41),(.tmp 42)])),none⟩])
 (.seq (.region [⟨(some 44),(.p (.mov (.tmp 8))),none⟩,⟨(some 7),(.p (.mov (.tmp 44))),none⟩])
 (.region [⟨(some 45),(.p (.mov (.tmp 8))),none⟩,⟨(some 46),(.p (.mov (.tmp 6))),none⟩,⟨(some 47),(.p (.bin .mul (.val (.int .i64 (.ofNat 2))) (.tmp 46))),none⟩,⟨(some 48),(.p (.bin .add (.tmp 45) (.tmp 47))),none⟩,⟨(some 8),(.p (.mov (.tmp 48))),none⟩])))))))
 (.seq (.seq (.region [⟨(some 49),(.p (.mov (.tmp 7))),none⟩,⟨(some 50),(.p (.mov (.tmp 6))),none⟩,⟨(some 51),(.p (.bin .add (.tmp 49) (.tmp 50))),none⟩,⟨(some 9),(.p (.mov (.tmp 51))),none⟩])
 (.seq (.region [⟨(some 52),(.p (.mov (.tmp 9))),none⟩,⟨(some 53),(.p (.mov (.tmp 1))),none⟩,⟨(some 54),(.p (.bin .lss (.tmp 52) (.tmp 53))),none⟩])
 (.cond (.tmp 54) (.region [⟨(some 55),(.p (.mov (.tmp 0))),none⟩,⟨(some 56),(.p (.mov (.tmp 7))),none⟩,⟨(some 57),(.p (.mov (.tmp 9))),none⟩,⟨(some 58),(.p (.mov (.tmp 1))),none⟩,⟨(some 59),(.p (.mov (.tmp 2))),none⟩,⟨(some 60),(.e (.call 115 [(.tmp 55),(.tmp 56),(.tmp 57),(.tmp 58),(.tmp 59)])),none⟩])
 (.skip))))
 (.region [⟨(some 61),(.p (.mov (.tmp 6))),none⟩,⟨(some 62),(.p (.bin .mul (.tmp 61) (.val (.int .i64 (.ofNat 2))))),none⟩,⟨(some 6),(.p (.mov (.tmp 62))),none⟩]))))))))))),[]⟩
theorem v86 : IsFun Try.prog 86 m86 := ⟨_, Try.func86, by kernel_rfl, by kernel_rfl⟩
def m87 : Fun := ⟨20,2,.seq (.region [⟨(some 4),(.p (.mov (.val (.int .i64 (.ofNat 0))))),none⟩])
 (.seq (.region [⟨(some 7),(.p (.mov (.tmp 0))),none⟩,⟨(some 8),(.e (.call 116 [(.tmp 7)])),none⟩,⟨(some 5),(.p (.mov (.tmp 8))),none⟩])
 (.seq (.region [⟨(some 9),(.p (.mov (.tmp 1))),none⟩,⟨(some 10),(.e (.call 116 [(.tmp 9)])),none⟩,⟨(some 6),(.p (.mov (.tmp 10))),none⟩])
 (.seq (.seq (.region [⟨(some 11),(.p (.mov (.tmp 5))),none⟩])
 (.cond (.tmp 11) (.seq (.seq (.region [⟨(some 12),(.p (.mov (.tmp 6))),none⟩])
 (.cond (.tmp 12) (.seq (.region [⟨(some 4),(.p (.mov (.val (.int .i64 (.ofNat 0))))),none⟩])
 (.ret))
 (.skip)))
 (.seq (.region [⟨(some 4),(.p (.mov (.val (.int .i64 (.negSucc 0))))),none⟩])
 (.ret)))
 (.skip)))
 (.seq (.seq (.region [⟨(some 13),(.p (.mov (.tmp 6))),none⟩])
 (.cond (.tmp 13) (.seq (.region [⟨(some 4),(.p (.mov (.val (.int .i64 (.ofNat 1))))),none⟩])
 (.ret))
 (.skip)))
 (.seq (.seq (.region [⟨(some 14),(.p (.mov (.tmp 0))),none⟩,⟨(some 15),(.p (.mov (.tmp 1))),none⟩,⟨(some 16),(.p (.bin .lss (.tmp 14) (.tmp 15))),none⟩])
 (.cond (.tmp 16) (.seq (.region [⟨(some 4),(.p (.mov (.val (.int .i64 (.negSucc 0))))),none⟩])
 (.ret))
 (.skip)))
 (.seq (.seq (.region [⟨(some 17),(.p (.mov (.tmp 0))),none⟩,⟨(some 18),(.p (.mov (.tmp 1))),none⟩,⟨(some 19),(.p (.bin .gtr (.tmp 17) (.tmp 18))),none⟩])
 (.cond (.tmp 19) (.seq (.region [⟨(some 4),(.p (.mov (.val (.int .i64 (.ofNat 1))))),none⟩])
 (.ret))
 (.skip)))
 (.seq (.region [⟨(some 4),(.p (.mov (.val (.int .i64 (.ofNat 0))))),none⟩])
 (.ret)))))))),[.tmp 4]⟩
theorem v87 : IsFun Try.prog 87 m87 := ⟨_, Try.func87, by kernel_rfl, by kernel_rfl⟩
def m88 : Fun := ⟨5,1,.seq (.region [⟨(some 1),(.a (.box (.tmp 0))),none⟩,⟨(some 2),(.p (.mov (.val (.int .i64 (.ofNat 0))))),none⟩])
 (.seq (.seq (.region [⟨(some 3),(.p (.faddr 0 (.tmp 1))),none⟩,⟨(some 4),(.load1 (.tmp 3)),none⟩])
 (.cond (.tmp 4) (.seq (.region [⟨(some 2),(.p (.mov (.val (.int .i64 (.ofNat 0))))),none⟩])
 (.ret))
 (.skip)))
 (.seq (.region [⟨(some 2),(.p (.mov (.val (.int .i64 (.ofNat 1))))),none⟩])
 (.ret))),[.tmp 2]⟩
theorem v88 : IsFun Try.prog 88 m88 := ⟨_, Try.func88, by kernel_rfl, by kernel_rfl⟩
def m89 : Fun := ⟨20,2,.seq (.region [⟨(some 4),(.p (.mov (.val (.int .i64 (.ofNat 0))))),none⟩])
 (.seq (.region [⟨(some 7),(.p (.mov (.tmp 0))),none⟩,⟨(some 8),(.e (.call 117 [(.tmp 7)])),none⟩,⟨(some 5),(.p (.mov (.tmp 8))),none⟩])
 (.seq (.region [⟨(some 9),(.p (.mov (.tmp 1))),none⟩,⟨(some 10),(.e (.call 117 [(.tmp 9)])),none⟩,⟨(some 6),(.p (.mov (.tmp 10))),none⟩])
 (.seq (.seq (.region [⟨(some 11),(.p (.mov (.tmp 5))),none⟩])
 (.cond (.tmp 11) (.seq (.seq (.region [⟨(some 12),(.p (.mov (.tmp 6))),none⟩])
 (.cond (.tmp 12) (.seq (.region [⟨(some 4),(.p (.mov (.val (.int .i64 (.ofNat 0))))),none⟩])
 (.ret))
 (.skip)))
 (.seq (.region [⟨(some 4),(.p (.mov (.val (.int .i64 (.negSucc 0))))),none⟩])
 (.ret)))
 (.skip)))
 (.seq (.seq (.region [⟨(some 13),(.p (.mov (.tmp 6))),none⟩])
 (.cond (.tmp 13) (.seq (.region [⟨(some 4),(.p (.mov (.val (.int .i64 (.ofNat 1))))),none⟩])
 (.ret))
 (.skip)))
 (.seq (.seq (.region [⟨(some 14),(.p (.mov (.tmp 0))),none⟩,⟨(some 15),(.p (.mov (.tmp 1))),none⟩,⟨(some 16),(.p (.bin .lss (.tmp 14) (.tmp 15))),none⟩])
 (.cond (.tmp 16) (.seq (.region [⟨(some 4),(.p (.mov (.val (.int .i64 (.negSucc 0))))),none⟩])
 (.ret))
 (.skip)))
 (.seq (.seq (.region [⟨(some 17),(.p (.mov (.tmp 0))),none⟩,⟨(some 18),(.p (.mov (.tmp 1))),none⟩,⟨(some 19),(.p (.bin .gtr (.tmp 17) (.tmp 18))),none⟩])
 (.cond (.tmp 19) (.seq (.region [⟨(some 4),(.p (.mov (.val (.int .i64 (.ofNat 1))))),none⟩])
 (.ret))
 (.skip)))
 (.seq (.region [⟨(some 4),(.p (.mov (.val (.int .i64 (.ofNat 0))))),none⟩])
 (.ret)))))))),[.tmp 4]⟩
theorem v89 : IsFun Try.prog 89 m89 := ⟨_, Try.func89, by kernel_rfl, by kernel_rfl⟩
def m90 : Fun := ⟨8,2,.seq (.region [⟨(some 4),(.p (.mov (.val (.int .i64 (.ofNat 0))))),none⟩])
 (.seq (.region [⟨(some 5),(.p (.mov (.tmp 0))),none⟩,⟨(some 6),(.p (.mov (.tmp 1))),none⟩,⟨(some 7),(.e (.extern 118 [(.tmp 5),(.tmp 6)])),none⟩,⟨(some 4),(.p (.mov (.tmp 7))),none⟩])
 (.ret)),[.tmp 4]⟩
theorem v90 : IsFun Try.prog 90 m90 := ⟨_, Try.func90, by kernel_rfl, by kernel_rfl⟩
def m91 : Fun := ⟨39,3,.seq (.region [⟨(some 6),(.p (.mov (.val (.int .i64 (.ofNat 0))))),none⟩])
 (.seq (.seq (.region [⟨(some 11),(.p (.mov (.tmp 0))),none⟩,⟨(some 12),(.p (.lenb (.tmp 11))),none⟩,⟨(some 13),(.p (.mov (.val (.int .i64 (.ofNat 0))))),none⟩])
 (.block 0 (.loop (.seq (.region [⟨(some 14),(.p (.bin .lss (.tmp 13) (.tmp 12))),none⟩])
 (.seq (.cond (.tmp 14) (.skip)
 (.exit 0))
 (.seq (.block 1 (.seq (.region [⟨(some 15),(.p (.mov (.tmp 13))),none⟩,⟨(some 16),(.p (.iaddr 4 (.tmp 11) (.tmp 13))),none⟩,⟨(some 17),(.loadn 4 (.tmp 16)),none⟩,⟨(some 8),(.a (.new [.bool false,.int .i64 (.ofNat 0),.int .i64 (.ofNat 0),.nilslice])),none⟩,⟨(some 7),(.p (.mov (.tmp 15))),none⟩,⟨none,(.e (.store 4 (.tmp 8) (.tmp 17))),none⟩])
 (.seq (.seq (.region [⟨(some 18),(.p (.mov (.tmp 7))),none⟩,⟨(some 19),(.p (.mov (.tmp 1))),none⟩,⟨(some 20),(.p (.lenb (.tmp 19))),none⟩,⟨(some 21),(.p (.bin .geq (.tmp 18) (.tmp 20))),none⟩])
 (.cond (.tmp 21) (.seq (.region [⟨(some 6),(.p (.mov (.val (.int .i64 (.ofNat 1))))),none⟩])
 (.ret))
 (.skip)))
 (.seq (.region [⟨(some 22),(.p (.mov (.tmp 1))),none⟩,⟨(some 23),(.p (.mov (.tmp 7))),none⟩,⟨(some 24),(.p (.iaddr 4 (.tmp 22) (.tmp 23))),none⟩,⟨(some 25),(.loadn 4 (.tmp 24)),none⟩,⟨(some 9),(.a (.new [.bool false,.int .i64 (.ofNat 0),.int .i64 (.ofNat 0),.nilslice])),none⟩,⟨none,(.e (.store 4 (.tmp 9) (.tmp 25))),none⟩])
 (.seq (.region [⟨(some 26),(.p (.mov (.tmp 2))),none⟩,⟨(some 27),(.loadn 4 (.tmp 8)),none⟩,⟨(some 28),(.loadn 4 (.tmp 9)),none⟩,⟨(some 29),(.e (.callv (.tmp 26) [(.tmp 27),(.tmp 28)])),none⟩,⟨(some 10),(.p (.mov (.tmp 29))),none⟩])
 (.seq (.region [⟨(some 30),(.p (.mov (.tmp 10))),none⟩,⟨(some 31),(.p (.bin .neq (.tmp 30) (.val (.int .i64 (.ofNat 0))))),none⟩])
 (.cond (.tmp 31) (.seq (.region [⟨(some 32),(.p (.mov (.tmp 10))),none⟩,⟨(some 6),(.p (.mov (.tmp 32))),none⟩])
 (.ret))
 (.skip))))))))
 (.region [⟨(some 33),(.p (.bin .add (.tmp 13) (.val (.int .i64 (.ofNat 1))))),none⟩,⟨(some 13),(.p (.mov (.tmp 33))),none⟩])))))))
 (.seq (.seq (.region [⟨(some 34),(.p (.mov (.tmp 0))),none⟩,⟨(some 35),(.p (.lenb (.tmp 34))),none⟩,⟨(some 36),(.p (.mov (.tmp 1))),none⟩,⟨(some 37),(.p (.lenb (.tmp 36))),none⟩,⟨(some 38),(.p (.bin .lss (.tmp 35) (.tmp 37))),none⟩])
 (.cond (.tmp 38) (.seq (.region [⟨(some 6),(.p (.mov (.val (.int .i64 (.negSucc 0))))),none⟩])
 (.ret))
 (.skip)))
 (.seq (.region [⟨(some 6),(.p (.mov (.val (.int .i64 (.ofNat 0))))),none⟩])
 (.ret)))),[.tmp 6]⟩
theorem v91 : IsFun Try.prog 91 m91 := ⟨_, Try.func91, by kernel_rfl, by kernel_rfl⟩
def m92 : Fun := ⟨8,1,.seq (.region [⟨(some 2),(.p (.mov (.val (.nilslice)))),none⟩])
 (.seq (.seq (.region [⟨(some 3),(.p (.mov (.tmp 0))),none⟩,⟨(some 4),(.p (.eq .slice false (.tmp 3) (.val (.nilslice)))),none⟩])
 (.cond (.tmp 4) (.seq (.region [⟨(some 2),(.p (.mov (.val (.nilslice)))),none⟩])
 (.ret))
 (.skip)))
 (.seq (.region [⟨(some 5),(.a (.bslice [] 1 0 [])),none⟩,⟨(some 6),(.p (.mov (.tmp 0))),none⟩,⟨(some 7),(.e (.append 1 1 (.tmp 5) (.tmp 6))),none⟩,⟨(some 2),(.p (.mov (.tmp 7))),none⟩])
 (.ret))),[.tmp 2]⟩
theorem v92 : IsFun Try.prog 92 m92 := ⟨_, Try.func92, by kernel_rfl, by kernel_rfl⟩
def m93 : Fun := ⟨32,2,.seq (.region [⟨(some 7),(.p (.mov (.tmp 0))),none⟩,⟨(some 8),(.p (.nilchk (.tmp 7))),none⟩,⟨(some 9),(.p (.faddr 1 (.tmp 8))),none⟩,⟨(some 10),(.load1 (.tmp 9)),none⟩,⟨(some 11),(.p (.mov (.tmp 1))),none⟩,⟨(some 12),(.p (.conv (.int .u64) (.tmp 11))),none⟩,⟨(some 13),(.e (.extern 119 [(.tmp 10),(.tmp 12),(.val (.int .u64 (.ofNat 0)))])),none⟩,⟨(some 6),(.p (.mov (.tmp 13))),none⟩,⟨(some 14),(.p (.ext (.tmp 6) 0)),none⟩,⟨(some 15),(.p (.ext (.tmp 6) 1)),none⟩,⟨(some 4),(.p (.mov (.tmp 14))),none⟩,⟨(some 5),(.p (.mov (.tmp 15))),none⟩])
 (.seq (.region [⟨(some 16),(.p (.mov (.tmp 0))),none⟩,⟨(some 17),(.p (.mov (.tmp 4))),none⟩,⟨(some 18),(.p (.nilchk (.tmp 16))),none⟩,⟨(some 19),(.p (.faddr 1 (.tmp 18))),none⟩,⟨none,(.e (.store 1 (.tmp 19) (.tmp 17))),none⟩])
 (.region [⟨(some 20),(.p (.mov (.tmp 0))),none⟩,⟨(some 21),(.p (.nilchk (.tmp 20))),none⟩,⟨(some 22),(.p (.faddr 0 (.tmp 21))),none⟩,⟨(some 23),(.load1 (.tmp 22)),none⟩,⟨(some 24),(.p (.mov (.tmp 1))),none⟩,⟨(some 25),(.p (.bin .shr (.tmp 24) (.val (.int .u64 (.ofNat 63))))),none⟩,⟨(some 26),(.p (.mov (.tmp 5))),none⟩,⟨(some 27),(.p (.conv (.int .i64) (.tmp 26))),none⟩,⟨(some 28),(.p (.bin .add (.tmp 25) (.tmp 27))),none⟩,⟨(some 29),(.p (.bin .add (.tmp 23) (.tmp 28))),none⟩,⟨(some 30),(.p (.nilchk (.tmp 20))),none⟩,⟨(some 31),(.p (.faddr 0 (.tmp 30))),none⟩,⟨none,(.e (.store 1 (.tmp 31) (.tmp 29))),none⟩])),[]⟩
theorem v93 : IsFun Try.prog 93 m93 := ⟨_, Try.func93, by kernel_rfl, by kernel_rfl⟩
def m112 : Fun := ⟨38,2,.seq (.region [⟨(some 4),(.a (.new [.bool false,.int .i64 (.ofNat 0),.int .i64 (.ofNat 0),.nilslice])),none⟩,⟨(some 5),(.p (.mov (.val (.bool false)))),none⟩])
 (.seq (.region [⟨(some 6),(.a (.new [.int .i64 (.ofNat 0),.int .u64 (.ofNat 0)])),none⟩])
 (.seq (.seq (.region [⟨(some 10),(.p (.mov (.tmp 0))),none⟩,⟨(some 11),(.p (.lenb (.tmp 10))),none⟩,⟨(some 12),(.p (.mov (.val (.int .i64 (.ofNat 0))))),none⟩])
 (.block 0 (.loop (.seq (.region [⟨(some 13),(.p (.bin .lss (.tmp 12) (.tmp 11))),none⟩])
 (.seq (.cond (.tmp 13) (.skip)
 (.exit 0))
 (.seq (.block 1 (.seq (.region [⟨(some 14),(.p (.iaddr 1 (.tmp 10) (.tmp 12))),none⟩,⟨(some 15),(.load1 (.tmp 14)),none⟩,⟨(some 8),(.p (.mov (.tmp 15))),none⟩])
 (.seq (.region [⟨(some 16),(.p (.mov (.tmp 8))),none⟩,⟨(some 17),(.p (.mov (.tmp 1))),none⟩,⟨(some 18),(.e (.call 57 [(.tmp 16),(.tmp 17)])),none⟩,⟨(some 9),(.a (.new [.bool false,.int .i64 (.ofNat 0),.int .i64 (.ofNat 0),.nilslice])),none⟩,⟨none,(.e (.store 4 (.tmp 9) (.tmp 18))),none⟩])
 (.seq (.region [⟨(some 19),(.p (.faddr 0 (.tmp 9))),none⟩,⟨(some 20),(.load1 (.tmp 19)),none⟩,⟨(some 21),(.p (.not (.tmp 20))),none⟩])
 (.cond (.tmp 21) (.region [⟨(some 22),(.p (.faddr 2 (.tmp 9))),none⟩,⟨(some 23),(.load1 (.tmp 22)),none⟩,⟨(some 24),(.e (.call 93 [(.tmp 6),(.tmp 23)])),none⟩])
 (.skip))))))
 (.region [⟨(some 25),(.p (.bin .add (.tmp 12) (.val (.int .i64 (.ofNat 1))))),none⟩,⟨(some 12),(.p (.mov (.tmp 25))),none⟩])))))))
 (.seq (.seq (.region [⟨(some 26),(.p (.faddr 0 (.tmp 6))),none⟩,⟨(some 27),(.load1 (.tmp 26)),none⟩,⟨(some 28),(.p (.faddr 1 (.tmp 6))),none⟩,⟨(some 29),(.load1 (.tmp 28)),none⟩,⟨(some 30),(.p (.conv (.int .i64) (.tmp 29))),none⟩,⟨(some 31),(.p (.bin .shr (.tmp 30) (.val (.int .u64 (.ofNat 63))))),none⟩,⟨(some 32),(.p (.bin .neq (.tmp 27) (.tmp 31))),none⟩])
 (.cond (.tmp 32) (.seq (.region [⟨(some 33),(.p (.build [.bool false,.int .i64 (.ofNat 0),.int .i64 (.ofNat 0),.nilslice] [])),none⟩,⟨none,(.e (.store 4 (.tmp 4) (.tmp 33))),none⟩,⟨(some 5),(.p (.mov (.val (.bool false)))),none⟩])
 (.ret))
 (.skip)))
 (.seq (.region [⟨(some 34),(.p (.faddr 1 (.tmp 6))),none⟩,⟨(some 35),(.load1 (.tmp 34)),none⟩,⟨(some 36),(.p (.conv (.int .i64) (.tmp 35))),none⟩,⟨(some 37),(.p (.build [.bool false,.int .i64 (.ofNat 0),.int .i64 (.ofNat 0),.nilslice] [(1,1,(.val (.int .i64 (.ofNat 1)))),(2,1,(.tmp 36))])),none⟩,⟨none,(.e (.store 4 (.tmp 4) (.tmp 37))),none⟩,⟨(some 5),(.p (.mov (.val (.bool true)))),none⟩])
 (.ret))))),[.celln 4 4,.tmp 5]⟩
theorem v112 : IsFun Try.prog 112 m112 := ⟨_, Try.func112, by kernel_rfl, by kernel_rfl⟩
def m113 : Fun := ⟨41,3,.seq (.region [⟨(some 6),(.a (.new [.bool false,.int .i64 (.ofNat 0),.int .i64 (.ofNat 0),.nilslice])),none⟩])
 (.seq (.region [⟨(some 11),(.p (.build [.bool false,.int .i64 (.ofNat 0),.int .i64 (.ofNat 0),.nilslice] [(0,1,(.val (.bool true)))])),none⟩,⟨(some 7),(.a (.new [.bool false,.int .i64 (.ofNat 0),.int .i64 (.ofNat 0),.nilslice])),none⟩,⟨none,(.e (.store 4 (.tmp 7) (.tmp 11))),none⟩])
 (.seq (.seq (.region [⟨(some 12),(.p (.mov (.tmp 0))),none⟩,⟨(some 13),(.p (.lenb (.tmp 12))),none⟩,⟨(some 14),(.p (.mov (.val (.int .i64 (.ofNat 0))))),none⟩])
 (.block 0 (.loop (.seq (.region [⟨(some 15),(.p (.bin .lss (.tmp 14) (.tmp 13))),none⟩])
 (.seq (.cond (.tmp 15) (.skip)
 (.exit 0))
 (.seq (.block 1 (.seq (.region [⟨(some 16),(.p (.iaddr 1 (.tmp 12) (.tmp 14))),none⟩,⟨(some 17),(.load1 (.tmp 16)),none⟩,⟨(some 9),(.p (.mov (.tmp 17))),none⟩])
 (.seq (.region [⟨(some 18),(.p (.mov (.tmp 9))),none⟩,⟨(some 19),(.p (.mov (.tmp 1))),none⟩,⟨(some 20),(.e (.call 57 [(.tmp 18),(.tmp 19)])),none⟩,⟨(some 10),(.a (.new [.bool false,.int .i64 (.ofNat 0),.int .i64 (.ofNat 0),.nilslice])),none⟩,⟨none,(.e (.store 4 (.tmp 10) (.tmp 20))),none⟩])
 (.block 2 (.seq (.region [⟨(some 22),(.p (.faddr 0 (.tmp 10))),none⟩,⟨(some 23),(.load1 (.tmp 22)),none⟩,⟨(some 21),(.p (.mov (.tmp 23))),none⟩])
 (.cond (.tmp 21) (.region [⟨(some 24),(.p (.faddr 1 (.tmp 10))),none⟩,⟨(some 25),(.load1 (.tmp 24)),none⟩,⟨(some 26),(.p (.faddr 1 (.tmp 7))),none⟩,⟨none,(.e (.store 1 (.tmp 26) (.tmp 25))),none⟩])
 (.seq (.region [⟨(some 28),(.p (.faddr 0 (.tmp 7))),none⟩,⟨(some 29),(.load1 (.tmp 28)),none⟩,⟨(some 30),(.p (.mov (.tmp 29))),none⟩,⟨(some 31),(.loadn 4 (.tmp 10)),(some (30,false))⟩,⟨(some 32),(.loadn 4 (.tmp 7)),(some (30,false))⟩,⟨(some 33),(.e (.call 56 [(.tmp 31),(.tmp 32)])),(some (30,false))⟩,⟨(some 34),(.p (.mov (.tmp 2))),(some (30,false))⟩,⟨(some 35),(.p (.bin .mul (.tmp 33) (.tmp 34))),(some (30,false))⟩,⟨(some 36),(.p (.bin .gtr (.tmp 35) (.val (.int .i64 (.ofNat 0))))),(some (30,false))⟩,⟨(some 37),(.p (.pick (.tmp 30) (.val (.bool true)) (.tmp 36))),none⟩,⟨(some 27),(.p (.mov (.tmp 37))),none⟩])
 (.cond (.tmp 27) (.region [⟨(some 38),(.loadn 4 (.tmp 10)),none⟩,⟨none,(.e (.store 4 (.tmp 7) (.tmp 38))),none⟩])
 (.skip)))))))))
 (.region [⟨(some 39),(.p (.bin .add (.tmp 14) (.val (.int .i64 (.ofNat 1))))),none⟩,⟨(some 14),(.p (.mov (.tmp 39))),none⟩])))))))
 (.seq (.region [⟨(some 40),(.loadn 4 (.tmp 7)),none⟩,⟨none,(.e (.store 4 (.tmp 6) (.tmp 40))),none⟩])
 (.ret)))),[.celln 4 6]⟩
theorem v113 : IsFun Try.prog 113 m113 := ⟨_, Try.func113, by kernel_rfl, by kernel_rfl⟩
def m114 : Fun := ⟨53,4,.seq (.region [⟨(some 10),(.p (.mov (.tmp 1))),none⟩,⟨(some 11),(.p (.bin .add (.tmp 10) (.val (.int .i64 (.ofNat 1))))),none⟩,⟨(some 8),(.p (.mov (.tmp 11))),none⟩])
 (.block 0 (.loop (.seq (.seq (.region [⟨(some 12),(.p (.mov (.tmp 8))),none⟩,⟨(some 13),(.p (.mov (.tmp 2))),none⟩,⟨(some 14),(.p (.bin .lss (.tmp 12) (.tmp 13))),none⟩])
 (.cond (.tmp 14) (.skip)
 (.exit 0)))
 (.seq (.block 1 (.seq (.region [⟨(some 17),(.p (.mov (.tmp 8))),none⟩,⟨(some 9),(.p (.mov (.tmp 17))),none⟩])
 (.block 2 (.loop (.seq (.seq (.dregion [⟨⟨(some 18),(.p (.mov (.tmp 9))),none⟩,0,14⟩,⟨⟨(some 19),(.p (.mov (.tmp 1))),none⟩,0,14⟩,⟨⟨(some 20),(.p (.bin .gtr (.tmp 18) (.tmp 19))),none⟩,0,14⟩,⟨⟨(some 21),(.p (.mov (.tmp 20))),none⟩,0,14⟩,⟨⟨(some 22),(.p (.mov (.tmp 3))),(some (21,true))⟩,0,14⟩,⟨⟨(some 23),(.p (.mov (.tmp 0))),(some (21,true))⟩,0,14⟩,⟨⟨(some 24),(.p (.mov (.tmp 9))),(some (21,true))⟩,0,14⟩,⟨⟨(some 25),(.p (.iaddr 1 (.tmp 23) (.tmp 24))),(some (21,true))⟩,0,14⟩,⟨⟨(some 26),(.load1 (.tmp 25)),(some (21,true))⟩,0,14⟩,⟨⟨(some 27),(.p (.mov (.tmp 0))),(some (21,true))⟩,0,14⟩,⟨⟨(some 28),(.p (.mov (.tmp 9))),(some (21,true))⟩,0,14⟩,⟨⟨(some 29),(.p (.bin .sub (.tmp 28) (.val (.int .i64 (.ofNat 1))))),(some (21,true))⟩,0,14⟩,⟨⟨(some 30),(.p (.iaddr 1 (.tmp 27) (.tmp 29))),(some (21,true))⟩,0,14⟩,⟨⟨(some 31),(.load1 (.tmp 30)),(some (21,true))⟩,0,14⟩,⟨⟨(some 32),(.e (.callv (.tmp 22) [(.tmp 26),(.tmp 31)])),(some (21,true))⟩,0,17⟩,⟨⟨(some 33),(.p (.bin .lss (.tmp 32) (.val (.int .i64 (.ofNat 0))))),(some (21,true))⟩,15,17⟩,⟨⟨(some 34),(.p (.pick (.tmp 21) (.tmp 33) (.val (.bool false)))),none⟩,15,17⟩])
 (.cond (.tmp 34) (.skip)
 (.exit 2)))
 (.seq (.block 3 (.dregion [⟨⟨(some 37),(.p (.mov (.tmp 0))),none⟩,0,12⟩,⟨⟨(some 38),(.p (.mov (.tmp 9))),none⟩,0,12⟩,⟨⟨(some 42),(.p (.mov (.tmp 0))),none⟩,0,12⟩,⟨⟨(some 43),(.p (.mov (.tmp 9))),none⟩,0,12⟩,⟨⟨(some 44),(.p (.bin .sub (.tmp 43) (.val (.int .i64 (.ofNat 1))))),none⟩,0,12⟩,⟨⟨(some 45),(.p (.iaddr 1 (.tmp 42) (.tmp 44))),none⟩,0,12⟩,⟨⟨(some 46),(.load1 (.tmp 45)),none⟩,0,12⟩,⟨⟨(some 47),(.p (.mov (.tmp 0))),none⟩,0,12⟩,⟨⟨(some 48),(.p (.mov (.tmp 9))),none⟩,0,12⟩,⟨⟨(some 49),(.p (.iaddr 1 (.tmp 47) (.tmp 48))),none⟩,0,12⟩,⟨⟨(some 50),(.load1 (.tmp 49)),none⟩,0,12⟩,⟨⟨(some 51),(.p (.iaddr 1 (.tmp 37) (.tmp 38))),none⟩,0,12⟩,⟨⟨none,(.e (.store 1 (.tmp 51) (.tmp 46))),none⟩,0,17⟩,⟨⟨(some 39),(.p (.mov (.tmp 0))),none⟩,0,17⟩,⟨⟨(some 40),(.p (.mov (.tmp 9))),none⟩,0,17⟩,⟨⟨(some 41),(.p (.bin .sub (.tmp 40) (.val (.int .i64 (.ofNat 1))))),none⟩,0,17⟩,⟨⟨(some 52),(.p (.iaddr 1 (.tmp 39) (.tmp 41))),none⟩,13,17⟩,⟨⟨none,(.e (.store 1 (.tmp 52) (.tmp 50))),none⟩,13,18⟩]))
 (.region [⟨(some 35),(.p (.mov (.tmp 9))),none⟩,⟨(some 36),(.p (.bin .sub (.tmp 35) (.val (.int .i64 (.ofNat 1))))),none⟩,⟨(some 9),(.p (.mov (.tmp 36))),none⟩])))))))
 (.region [⟨(some 15),(.p (.mov (.tmp 8))),none⟩,⟨(some 16),(.p (.bin .add (.tmp 15) (.val (.int .i64 (.ofNat 1))))),none⟩,⟨(some 8),(.p (.mov (.tmp 16))),none⟩]))))),[]⟩
theorem v114 : IsFun Try.prog 114 m114 := ⟨_, Try.func114, by kernel_rfl, by kernel_rfl⟩
def m115 : Fun := ⟨220,5,.seq (.seq (.region [⟨(some 25),(.p (.mov (.tmp 2))),none⟩,⟨(some 26),(.p (.mov (.tmp 1))),none⟩,⟨(some 27),(.p (.bin .sub (.tmp 25) (.tmp 26))),none⟩,⟨(some 28),(.p (.bin .eql (.tmp 27) (.val (.int .i64 (.ofNat 1))))),none⟩])
 (.cond (.tmp 28) (.seq (.region [⟨(some 29),(.p (.mov (.tmp 2))),none⟩,⟨(some 10),(.p (.mov (.tmp 29))),none⟩])
 (.seq (.region [⟨(some 30),(.p (.mov (.tmp 3))),none⟩,⟨(some 11),(.p (.mov (.tmp 30))),none⟩])
 (.seq (.block 0 (.loop (.seq (.seq (.region [⟨(some 31),(.p (.mov (.tmp 10))),none⟩,⟨(some 32),(.p (.mov (.tmp 11))),none⟩,⟨(some 33),(.p (.bin .lss (.tmp 31) (.tmp 32))),none⟩])
 (.cond (.tmp 33) (.skip)
 (.exit 0)))
 (.block 1 (.seq (.region [⟨(some 34),(.p (.mov (.tmp 10))),none⟩,⟨(some 35),(.p (.mov (.tmp 11))),none⟩,⟨(some 36),(.p (.bin .add (.tmp 34) (.tmp 35))),none⟩,⟨(some 37),(.p (.conv (.int .u64) (.tmp 36))),none⟩,⟨(some 38),(.p (.bin .shr (.tmp 37) (.val (.int .u64 (.ofNat 1))))),none⟩,⟨(some 39),(.p (.conv (.int .i64) (.tmp 38))),none⟩,⟨(some 12),(.p (.mov (.tmp 39))),none⟩])
 (.seq (.dregion [⟨⟨(some 40),(.p (.mov (.tmp 4))),none⟩,0,9⟩,⟨⟨(some 41),(.p (.mov (.tmp 0))),none⟩,0,9⟩,⟨⟨(some 42),(.p (.mov (.tmp 12))),none⟩,0,9⟩,⟨⟨(some 43),(.p (.iaddr 1 (.tmp 41) (.tmp 42))),none⟩,0,9⟩,⟨⟨(some 44),(.load1 (.tmp 43)),none⟩,0,9⟩,⟨⟨(some 45),(.p (.mov (.tmp 0))),none⟩,0,9⟩,⟨⟨(some 46),(.p (.mov (.tmp 1))),none⟩,0,9⟩,⟨⟨(some 47),(.p (.iaddr 1 (.tmp 45) (.tmp 46))),none⟩,0,9⟩,⟨⟨(some 48),(.load1 (.tmp 47)),none⟩,0,9⟩,⟨⟨(some 49),(.e (.callv (.tmp 40) [(.tmp 44),(.tmp 48)])),none⟩,0,11⟩,⟨⟨(some 50),(.p (.bin .lss (.tmp 49) (.val (.int .i64 (.ofNat 0))))),none⟩,10,11⟩])
 (.cond (.tmp 50) (.region [⟨(some 51),(.p (.mov (.tmp 12))),none⟩,⟨(some 52),(.p (.bin .add (.tmp 51) (.val (.int .i64 (.ofNat 1))))),none⟩,⟨(some 10),(.p (.mov (.tmp 52))),none⟩])
 (.region [⟨(some 53),(.p (.mov (.tmp 12))),none⟩,⟨(some 11),(.p (.mov (.tmp 53))),none⟩]))))))))
 (.seq (.seq (.region [⟨(some 54),(.p (.mov (.tmp 1))),none⟩,⟨(some 13),(.p (.mov (.tmp 54))),none⟩])
 (.block 2 (.loop (.seq (.seq (.region [⟨(some 55),(.p (.mov (.tmp 13))),none⟩,⟨(some 56),(.p (.mov (.tmp 10))),none⟩,⟨(some 57),(.p (.bin .sub (.tmp 56) (.val (.int .i64 (.ofNat 1))))),none⟩,⟨(some 58),(.p (.bin .lss (.tmp 55) (.tmp 57))),none⟩])
 (.cond (.tmp 58) (.skip)
 (.exit 2)))
 (.seq (.block 3 (.dregion [⟨⟨(some 61),(.p (.mov (.tmp 0))),none⟩,0,12⟩,⟨⟨(some 62),(.p (.mov (.tmp 13))),none⟩,0,12⟩,⟨⟨(some 66),(.p (.mov (.tmp 0))),none⟩,0,12⟩,⟨⟨(some 67),(.p (.mov (.tmp 13))),none⟩,0,12⟩,⟨⟨(some 68),(.p (.bin .add (.tmp 67) (.val (.int .i64 (.ofNat 1))))),none⟩,0,12⟩,⟨⟨(some 69),(.p (.iaddr 1 (.tmp 66) (.tmp 68))),none⟩,0,12⟩,⟨⟨(some 70),(.load1 (.tmp 69)),none⟩,0,12⟩,⟨⟨(some 71),(.p (.mov (.tmp 0))),none⟩,0,12⟩,⟨⟨(some 72),(.p (.mov (.tmp 13))),none⟩,0,12⟩,⟨⟨(some 73),(.p (.iaddr 1 (.tmp 71) (.tmp 72))),none⟩,0,12⟩,⟨⟨(some 74),(.load1 (.tmp 73)),none⟩,0,12⟩,⟨⟨(some 75),(.p (.iaddr 1 (.tmp 61) (.tmp 62))),none⟩,0,12⟩,⟨⟨none,(.e (.store 1 (.tmp 75) (.tmp 70))),none⟩,0,17⟩,⟨⟨(some 63),(.p (.mov (.tmp 0))),none⟩,0,17⟩,⟨⟨(some 64),(.p (.mov (.tmp 13))),none⟩,0,17⟩,⟨⟨(some 65),(.p (.bin .add (.tmp 64) (.val (.int .i64 (.ofNat 1))))),none⟩,0,17⟩,⟨⟨(some 76),(.p (.iaddr 1 (.tmp 63) (.tmp 65))),none⟩,13,17⟩,⟨⟨none,(.e (.store 1 (.tmp 76) (.tmp 74))),none⟩,13,18⟩]))
 (.region [⟨(some 59),(.p (.mov (.tmp 13))),none⟩,⟨(some 60),(.p (.bin .add (.tmp 59) (.val (.int .i64 (.ofNat 1))))),none⟩,⟨(some 13),(.p (.mov (.tmp 60))),none⟩]))))))
 (.ret)))))
 (.skip)))
 (.seq (.seq (.region [⟨(some 77),(.p (.mov (.tmp 3))),none⟩,⟨(some 78),(.p (.mov (.tmp 2))),none⟩,⟨(some 79),(.p (.bin .sub (.tmp 77) (.tmp 78))),none⟩,⟨(some 80),(.p (.bin .eql (.tmp 79) (.val (.int .i64 (.ofNat 1))))),none⟩])
 (.cond (.tmp 80) (.seq (.region [⟨(some 81),(.p (.mov (.tmp 1))),none⟩,⟨(some 14),(.p (.mov (.tmp 81))),none⟩])
 (.seq (.region [⟨(some 82),(.p (.mov (.tmp 2))),none⟩,⟨(some 15),(.p (.mov (.tmp 82))),none⟩])
 (.seq (.block 4 (.loop (.seq (.seq (.region [⟨(some 83),(.p (.mov (.tmp 14))),none⟩,⟨(some 84),(.p (.mov (.tmp 15))),none⟩,⟨(some 85),(.p (.bin .lss (.tmp 83) (.tmp 84))),none⟩])
 (.cond (.tmp 85) (.skip)
 (.exit 4)))
 (.block 5 (.seq (.region [⟨(some 86),(.p (.mov (.tmp 14))),none⟩,⟨(some 87),(.p (.mov (.tmp 15))),none⟩,⟨(some 88),(.p (.bin .add (.tmp 86) (.tmp 87))),none⟩,⟨(some 89),(.p (.conv (.int .u64) (.tmp 88))),none⟩,⟨(some 90),(.p (.bin .shr (.tmp 89) (.val (.int .u64 (.ofNat 1))))),none⟩,⟨(some 91),(.p (.conv (.int .i64) (.tmp 90))),none⟩,⟨(some 16),(.p (.mov (.tmp 91))),none⟩])
 (.seq (.dregion [⟨⟨(some 92),(.p (.mov (.tmp 4))),none⟩,0,9⟩,⟨⟨(some 93),(.p (.mov (.tmp 0))),none⟩,0,9⟩,⟨⟨(some 94),(.p (.mov (.tmp 2))),none⟩,0,9⟩,⟨⟨(some 95),(.p (.iaddr 1 (.tmp 93) (.tmp 94))),none⟩,0,9⟩,⟨⟨(some 96),(.load1 (.tmp 95)),none⟩,0,9⟩,⟨⟨(some 97),(.p (.mov (.tmp 0))),none⟩,0,9⟩,⟨⟨(some 98),(.p (.mov (.tmp 16))),none⟩,0,9⟩,⟨⟨(some 99),(.p (.iaddr 1 (.tmp 97) (.tmp 98))),none⟩,0,9⟩,⟨⟨(some 100),(.load1 (.tmp 99)),none⟩,0,9⟩,⟨⟨(some 101),(.e (.callv (.tmp 92) [(.tmp 96),(.tmp 100)])),none⟩,0,12⟩,⟨⟨(some 102),(.p (.bin .lss (.tmp 101) (.val (.int .i64 (.ofNat 0))))),none⟩,10,12⟩,⟨⟨(some 103),(.p (.not (.tmp 102))),none⟩,10,12⟩])
 (.cond (.tmp 103) (.region [⟨(some 104),(.p (.mov (.tmp 16))),none⟩,⟨(some 105),(.p (.bin .add (.tmp 104) (.val (.int .i64 (.ofNat 1))))),none⟩,⟨(some 14),(.p (.mov (.tmp 105))),none⟩])
 (.region [⟨(some 106),(.p (.mov (.tmp 16))),none⟩,⟨(some 15),(.p (.mov (.tmp 106))),none⟩]))))))))
 (.seq (.seq (.region [⟨(some 107),(.p (.mov (.tmp 2))),none⟩,⟨(some 17),(.p (.mov (.tmp 107))),none⟩])
 (.block 6 (.loop (.seq (.seq (.region [⟨(some 108),(.p (.mov (.tmp 17))),none⟩,⟨(some 109),(.p (.mov (.tmp 14))),none⟩,⟨(some 110),(.p (.bin .gtr (.tmp 108) (.tmp 109))),none⟩])
 (.cond (.tmp 110) (.skip)
 (.exit 6)))
 (.seq (.block 7 (.dregion [⟨⟨(some 113),(.p (.mov (.tmp 0))),none⟩,0,12⟩,⟨⟨(some 114),(.p (.mov (.tmp 17))),none⟩,0,12⟩,⟨⟨(some 118),(.p (.mov (.tmp 0))),none⟩,0,12⟩,⟨⟨(some 119),(.p (.mov (.tmp 17))),none⟩,0,12⟩,⟨⟨(some 120),(.p (.bin .sub (.tmp 119) (.val (.int .i64 (.ofNat 1))))),none⟩,0,12⟩,⟨⟨(some 121),(.p (.iaddr 1 (.tmp 118) (.tmp 120))),none⟩,0,12⟩,⟨⟨(some 122),(.load1 (.tmp 121)),none⟩,0,12⟩,⟨⟨(some 123),(.p (.mov (.tmp 0))),none⟩,0,12⟩,⟨⟨(some 124),(.p (.mov (.tmp 17))),none⟩,0,12⟩,⟨⟨(some 125),(.p (.iaddr 1 (.tmp 123) (.tmp 124))),none⟩,0,12⟩,⟨⟨(some 126),(.load1 (.tmp 125)),none⟩,0,12⟩,⟨⟨(some 127),(.p (.iaddr 1 (.tmp 113) (.tmp 114))),none⟩,0,12⟩,⟨⟨none,(.e (.store 1 (.tmp 127) (.tmp 122))),none⟩,0,17⟩,⟨⟨(some 115),(.p (.mov (.tmp 0))),none⟩,0,17⟩,⟨⟨(some 116),(.p (.mov (.tmp 17))),none⟩,0,17⟩,⟨⟨(some 117),(.p (.bin .sub (.tmp 116) (.val (.int .i64 (.ofNat 1))))),none⟩,0,17⟩,⟨⟨(some 128),(.p (.iaddr 1 (.tmp 115) (.tmp 117))),none⟩,13,17⟩,⟨⟨none,(.e (.store 1 (.tmp 128) (.tmp 126))),none⟩,13,18⟩]))
 (.region [⟨(some 111),(.p (.mov (.tmp 17))),none⟩,⟨(some 112),(.p (.bin .sub (.tmp 111) (.val (.int .i64 (.ofNat 1))))),none⟩,⟨(some 17),(.p (.mov (.tmp 112))),none⟩]))))))
 (.ret)))))
 (.skip)))
 (.seq (.region [⟨(some 129),(.p (.mov (.tmp 1))),none⟩,⟨(some 130),(.p (.mov (.tmp 3))),none⟩,⟨(some 131),(.p (.bin .add (.tmp 129) (.tmp 130))),none⟩,⟨(some 132),(.p (.conv (.int .u64) (.tmp 131))),none⟩,⟨(some 133),(.p (.bin .shr (.tmp 132) (.val (.int .u64 (.ofNat 1))))),none⟩,⟨(some 134),(.p (.conv (.int .i64) (.tmp 133))),none⟩,⟨(some 18),(.p (.mov (.tmp 134))),none⟩])
 (.seq (.region [⟨(some 135),(.p (.mov (.tmp 18))),none⟩,⟨(some 136),(.p (.mov (.tmp 2))),none⟩,⟨(some 137),(.p (.bin .add (.tmp 135) (.tmp 136))),none⟩,⟨(some 19),(.p (.mov (.tmp 137))),none⟩])
 (.seq (.region [⟨(some 20),(.p (.mov (.val (.int .i64 (.ofNat 0))))),none⟩,⟨(some 21),(.p (.mov (.val (.int .i64 (.ofNat 0))))),none⟩])
 (.seq (.seq (.region [⟨(some 138),(.p (.mov (.tmp 2))),none⟩,⟨(some 139),(.p (.mov (.tmp 18))),none⟩,⟨(some 140),(.p (.bin .gtr (.tmp 138) (.tmp 139))),none⟩])
 (.cond (.tmp 140) (.seq (.region [⟨(some 141),(.p (.mov (.tmp 19))),none⟩,⟨(some 142),(.p (.mov (.tmp 3))),none⟩,⟨(some 143),(.p (.bin .sub (.tmp 141) (.tmp 142))),none⟩,⟨(some 20),(.p (.mov (.tmp 143))),none⟩])
 (.region [⟨(some 144),(.p (.mov (.tmp 18))),none⟩,⟨(some 21),(.p (.mov (.tmp 144))),none⟩]))
 (.seq (.region [⟨(some 145),(.p (.mov (.tmp 1))),none⟩,⟨(some 20),(.p (.mov (.tmp 145))),none⟩])
 (.region [⟨(some 146),(.p (.mov (.tmp 2))),none⟩,⟨(some 21),(.p (.mov (.tmp 146))),none⟩]))))
 (.seq (.region [⟨(some 147),(.p (.mov (.tmp 19))),none⟩,⟨(some 148),(.p (.bin .sub (.tmp 147) (.val (.int .i64 (.ofNat 1))))),none⟩,⟨(some 22),(.p (.mov (.tmp 148))),none⟩])
 (.seq (.block 8 (.loop (.seq (.seq (.region [⟨(some 149),(.p (.mov (.tmp 20))),none⟩,⟨(some 150),(.p (.mov (.tmp 21))),none⟩,⟨(some 151),(.p (.bin .lss (.tmp 149) (.tmp 150))),none⟩])
 (.cond (.tmp 151) (.skip)
 (.exit 8)))
 (.block 9 (.seq (.region [⟨(some 152),(.p (.mov (.tmp 20))),none⟩,⟨(some 153),(.p (.mov (.tmp 21))),none⟩,⟨(some 154),(.p (.bin .add (.tmp 152) (.tmp 153))),none⟩,⟨(some 155),(.p (.conv (.int .u64) (.tmp 154))),none⟩,⟨(some 156),(.p (.bin .shr (.tmp 155) (.val (.int .u64 (.ofNat 1))))),none⟩,⟨(some 157),(.p (.conv (.int .i64) (.tmp 156))),none⟩,⟨(some 23),(.p (.mov (.tmp 157))),none⟩])
 (.seq (.dregion [⟨⟨(some 158),(.p (.mov (.tmp 4))),none⟩,0,11⟩,⟨⟨(some 159),(.p (.mov (.tmp 0))),none⟩,0,11⟩,⟨⟨(some 160),(.p (.mov (.tmp 22))),none⟩,0,11⟩,⟨⟨(some 161),(.p (.mov (.tmp 23))),none⟩,0,11⟩,⟨⟨(some 162),(.p (.bin .sub (.tmp 160) (.tmp 161))),none⟩,0,11⟩,⟨⟨(some 163),(.p (.iaddr 1 (.tmp 159) (.tmp 162))),none⟩,0,11⟩,⟨⟨(some 164),(.load1 (.tmp 163)),none⟩,0,11⟩,⟨⟨(some 165),(.p (.mov (.tmp 0))),none⟩,0,11⟩,⟨⟨(some 166),(.p (.mov (.tmp 23))),none⟩,0,11⟩,⟨⟨(some 167),(.p (.iaddr 1 (.tmp 165) (.tmp 166))),none⟩,0,11⟩,⟨⟨(some 168),(.load1 (.tmp 167)),none⟩,0,11⟩,⟨⟨(some 169),(.e (.callv (.tmp 158) [(.tmp 164),(.tmp 168)])),none⟩,0,14⟩,⟨⟨(some 170),(.p (.bin .lss (.tmp 169) (.val (.int .i64 (.ofNat 0))))),none⟩,12,14⟩,⟨⟨(some 171),(.p (.not (.tmp 170))),none⟩,12,14⟩])
 (.cond (.tmp 171) (.region [⟨(some 172),(.p (.mov (.tmp 23))),none⟩,⟨(some 173),(.p (.bin .add (.tmp 172) (.val (.int .i64 (.ofNat 1))))),none⟩,⟨(some 20),(.p (.mov (.tmp 173))),none⟩])
 (.region [⟨(some 174),(.p (.mov (.tmp 23))),none⟩,⟨(some 21),(.p (.mov (.tmp 174))),none⟩]))))))))
 (.seq (.region [⟨(some 175),(.p (.mov (.tmp 19))),none⟩,⟨(some 176),(.p (.mov (.tmp 20))),none⟩,⟨(some 177),(.p (.bin .sub (.tmp 175) (.tmp 176))),none⟩,⟨(some 24),(.p (.mov (.tmp 177))),none⟩])
 (.seq (.seq (.region [⟨(some 178),(.p (.mov (.tmp 20))),none⟩,⟨(some 179),(.p (.mov (.tmp 2))),none⟩,⟨(some 180),(.p (.bin .lss (.tmp 178) (.tmp 179))),none⟩,⟨(some 181),(.p (.mov (.tmp 180))),none⟩,⟨(some 182),(.p (.mov (.tmp 2))),(some (181,true))⟩,⟨(some 183),(.p (.mov (.tmp 24))),(some (181,true))⟩,⟨(some 184),(.p (.bin .lss (.tmp 182) (.tmp 183))),(some (181,true))⟩,⟨(some 185),(.p (.pick (.tmp 181) (.tmp 184) (.val (.bool false)))),none⟩])
 (.cond (.tmp 185) (.region [⟨(some 186),(.p (.mov (.tmp 0))),none⟩,⟨(some 187),(.p (.mov (.tmp 20))),none⟩,⟨(some 188),(.p (.mov (.tmp 2))),none⟩,⟨(some 189),(.p (.mov (.tmp 24))),none⟩,⟨(some 190),(.p (.mov (.tmp 4))),none⟩,⟨(some 191),(.e (.call 127 [(.tmp 186),(.tmp 187),(.tmp 188),(.tmp 189),(.tmp 190)])),none⟩])
 (.skip)))
 (.seq (.seq (.region [⟨(some 192),(.p (.mov (.tmp 1))),none⟩,⟨(some 193),(.p (.mov (.tmp 20))),none⟩,⟨(some 194),(.p (.bin .lss (.tmp 192) (.tmp 193))),none⟩,⟨(some 195),(.p (.mov (.tmp 194))),none⟩,⟨(some 196),(.p (.mov (.tmp 20))),(some (195,true))⟩,⟨(some 197),(.p (.mov (.tmp 18))),(some (195,true))⟩,⟨(some 198),(.p (.bin .lss (.tmp 196) (.tmp 197))),(some (195,true))⟩,⟨(some 199),(.p (.pick (.tmp 195) (.tmp 198) (.val (.bool false)))),none⟩])
 (.cond (.tmp 199) (.region [⟨(some 200),(.p (.mov (.tmp 0))),none⟩,⟨(some 201),(.p (.mov (.tmp 1))),none⟩,⟨(some 202),(.p (.mov (.tmp 20))),none⟩,⟨(some 203),(.p (.mov (.tmp 18))),none⟩,⟨(some 204),(.p (.mov (.tmp 4))),none⟩,⟨(some 205),(.e (.call 115 [(.tmp 200),(.tmp 201),(.tmp 202),(.tmp 203),(.tmp 204)])),none⟩])
 (.skip)))
 (.seq (.region [⟨(some 206),(.p (.mov (.tmp 18))),none⟩,⟨(some 207),(.p (.mov (.tmp 24))),none⟩,⟨(some 208),(.p (.bin .lss (.tmp 206) (.tmp 207))),none⟩,⟨(some 209),(.p (.mov (.tmp 208))),none⟩,⟨(some 210),(.p (.mov (.tmp 24))),(some (209,true))⟩,⟨(some 211),(.p (.mov (.tmp 3))),(some (209,true))⟩,⟨(some 212),(.p (.bin .lss (.tmp 210) (.tmp 211))),(some (209,true))⟩,⟨(some 213),(.p (.pick (.tmp 209) (.tmp 212) (.val (.bool false)))),none⟩])
 (.cond (.tmp 213) (.region [⟨(some 214),(.p (.mov (.tmp 0))),none⟩,⟨(some 215),(.p (.mov (.tmp 18))),none⟩,⟨(some 216),(.p (.mov (.tmp 24))),none⟩,⟨(some 217),(.p (.mov (.tmp 3))),none⟩,⟨(some 218),(.p (.mov (.tmp 4))),none⟩,⟨(some 219),(.e (.call 115 [(.tmp 214),(.tmp 215),(.tmp 216),(.tmp 217),(.tmp 218)])),none⟩])
 (.skip))))))))))))),[]⟩
theorem v115 : IsFun Try.prog 115 m115 := ⟨_, Try.func115, by kernel_rfl, by kernel_rfl⟩
def m116 : Fun := ⟨6,1,.seq (.region [⟨(some 2),(.p (.mov (.val (.bool false)))),none⟩])
 (.seq (.region [⟨(some 3),(.p (.mov (.tmp 0))),none⟩,⟨(some 4),(.p (.mov (.tmp 0))),none⟩,⟨(some 5),(.p (.bin .neq (.tmp 3) (.tmp 4))),none⟩,⟨(some 2),(.p (.mov (.tmp 5))),none⟩])
 (.ret)),[.tmp 2]⟩
theorem v116 : IsFun Try.prog 116 m116 := ⟨_, Try.func116, by kernel_rfl, by kernel_rfl⟩
def m117 : Fun := ⟨6,1,.seq (.region [⟨(some 2),(.p (.mov (.val (.bool false)))),none⟩])
 (.seq (.region [⟨(some 3),(.p (.mov (.tmp 0))),none⟩,⟨(some 4),(.p (.mov (.tmp 0))),none⟩,⟨(some 5),(.p (.bin .neq (.tmp 3) (.tmp 4))),none⟩,⟨(some 2),(.p (.mov (.tmp 5))),none⟩])
 (.ret)),[.tmp 2]⟩
theorem v117 : IsFun Try.prog 117 m117 := ⟨_, Try.func117, by kernel_rfl, by kernel_rfl⟩
def m127 : Fun := ⟨58,5,.seq (.region [⟨(some 12),(.p (.mov (.tmp 2))),none⟩,⟨(some 13),(.p (.mov (.tmp 1))),none⟩,⟨(some 14),(.p (.bin .sub (.tmp 12) (.tmp 13))),none⟩,⟨(some 10),(.p (.mov (.tmp 14))),none⟩])
 (.seq (.region [⟨(some 15),(.p (.mov (.tmp 3))),none⟩,⟨(some 16),(.p (.mov (.tmp 2))),none⟩,⟨(some 17),(.p (.bin .sub (.tmp 15) (.tmp 16))),none⟩,⟨(some 11),(.p (.mov (.tmp 17))),none⟩])
 (.seq (.block 0 (.loop (.seq (.seq (.region [⟨(some 18),(.p (.mov (.tmp 10))),none⟩,⟨(some 19),(.p (.mov (.tmp 11))),none⟩,⟨(some 20),(.p (.bin .neq (.tmp 18) (.tmp 19))),none⟩])
 (.cond (.tmp 20) (.skip)
 (.exit 0)))
 (.block 1 (.seq (.region [⟨(some 21),(.p (.mov (.tmp 10))),none⟩,⟨(some 22),(.p (.mov (.tmp 11))),none⟩,⟨(some 23),(.p (.bin .gtr (.tmp 21) (.tmp 22))),none⟩])
 (.cond (.tmp 23) (.seq (.region [⟨(some 24),(.p (.mov (.tmp 0))),none⟩,⟨(some 25),(.p (.mov (.tmp 2))),none⟩,⟨(some 26),(.p (.mov (.tmp 10))),none⟩,⟨(some 27),(.p (.bin .sub (.tmp 25) (.tmp 26))),none⟩,⟨(some 28),(.p (.mov (.tmp 2))),none⟩,⟨(some 29),(.p (.mov (.tmp 11))),none⟩,⟨(some 30),(.p (.mov (.tmp 4))),none⟩,⟨(some 31),(.e (.call 132 [(.tmp 24),(.tmp 27),(.tmp 28),(.tmp 29),(.tmp 30)])),none⟩])
 (.region [⟨(some 32),(.p (.mov (.tmp 10))),none⟩,⟨(some 33),(.p (.mov (.tmp 11))),none⟩,⟨(some 34),(.p (.bin .sub (.tmp 32) (.tmp 33))),none⟩,⟨(some 10),(.p (.mov (.tmp 34))),none⟩]))
 (.seq (.region [⟨(some 35),(.p (.mov (.tmp 0))),none⟩,⟨(some 36),(.p (.mov (.tmp 2))),none⟩,⟨(some 37),(.p (.mov (.tmp 10))),none⟩,⟨(some 38),(.p (.bin .sub (.tmp 36) (.tmp 37))),none⟩,⟨(some 39),(.p (.mov (.tmp 2))),none⟩,⟨(some 40),(.p (.mov (.tmp 11))),none⟩,⟨(some 41),(.p (.bin .add (.tmp 39) (.tmp 40))),none⟩,⟨(some 42),(.p (.mov (.tmp 10))),none⟩,⟨(some 43),(.p (.bin .sub (.tmp 41) (.tmp 42))),none⟩,⟨(some 44),(.p (.mov (.tmp 10))),none⟩,⟨(some 45),(.p (.mov (.tmp 4))),none⟩,⟨(some 46),(.e (.call 132 [(.tmp 35),(.tmp 38),(.tmp 43),(.tmp 44),(.tmp 45)])),none⟩])
 (.region [⟨(some 47),(.p (.mov (.tmp 11))),none⟩,⟨(some 48),(.p (.mov (.tmp 10))),none⟩,⟨(some 49),(.p (.bin .sub (.tmp 47) (.tmp 48))),none⟩,⟨(some 11),(.p (.mov (.tmp 49))),none⟩]))))))))
 (.region [⟨(some 50),(.p (.mov (.tmp 0))),none⟩,⟨(some 51),(.p (.mov (.tmp 2))),none⟩,⟨(some 52),(.p (.mov (.tmp 10))),none⟩,⟨(some 53),(.p (.bin .sub (.tmp 51) (.tmp 52))),none⟩,⟨(some 54),(.p (.mov (.tmp 2))),none⟩,⟨(some 55),(.p (.mov (.tmp 10))),none⟩,⟨(some 56),(.p (.mov (.tmp 4))),none⟩,⟨(some 57),(.e (.call 132 [(.tmp 50),(.tmp 53),(.tmp 54),(.tmp 55),(.tmp 56)])),none⟩]))),[]⟩
theorem v127 : IsFun Try.prog 127 m127 := ⟨_, Try.func127, by kernel_rfl, by kernel_rfl⟩
def m131 : Fun := ⟨8,2,.seq (.region [⟨(some 4),(.p (.mov (.val (.bool false)))),none⟩])
 (.seq (.region [⟨(some 5),(.p (.mov (.tmp 0))),none⟩,⟨(some 6),(.p (.mov (.tmp 1))),none⟩,⟨(some 7),(.e (.call 135 [(.tmp 5),(.tmp 6),(.val (.func 136 [] []))])),none⟩,⟨(some 4),(.p (.mov (.tmp 7))),none⟩])
 (.ret)),[.tmp 4]⟩
theorem v131 : IsFun Try.prog 131 m131 := ⟨_, Try.func131, by kernel_rfl, by kernel_rfl⟩
def m132 : Fun := ⟨38,5,.seq (.region [⟨(some 10),(.p (.mov (.val (.int .i64 (.ofNat 0))))),none⟩])
 (.block 0 (.loop (.seq (.seq (.region [⟨(some 11),(.p (.mov (.tmp 10))),none⟩,⟨(some 12),(.p (.mov (.tmp 3))),none⟩,⟨(some 13),(.p (.bin .lss (.tmp 11) (.tmp 12))),none⟩])
 (.cond (.tmp 13) (.skip)
 (.exit 0)))
 (.seq (.block 1 (.dregion [⟨⟨(some 16),(.p (.mov (.tmp 0))),none⟩,0,17⟩,⟨⟨(some 17),(.p (.mov (.tmp 1))),none⟩,0,17⟩,⟨⟨(some 18),(.p (.mov (.tmp 10))),none⟩,0,17⟩,⟨⟨(some 19),(.p (.bin .add (.tmp 17) (.tmp 18))),none⟩,0,17⟩,⟨⟨(some 24),(.p (.mov (.tmp 0))),none⟩,0,17⟩,⟨⟨(some 25),(.p (.mov (.tmp 2))),none⟩,0,17⟩,⟨⟨(some 26),(.p (.mov (.tmp 10))),none⟩,0,17⟩,⟨⟨(some 27),(.p (.bin .add (.tmp 25) (.tmp 26))),none⟩,0,17⟩,⟨⟨(some 28),(.p (.iaddr 1 (.tmp 24) (.tmp 27))),none⟩,0,17⟩,⟨⟨(some 29),(.load1 (.tmp 28)),none⟩,0,17⟩,⟨⟨(some 30),(.p (.mov (.tmp 0))),none⟩,0,17⟩,⟨⟨(some 31),(.p (.mov (.tmp 1))),none⟩,0,17⟩,⟨⟨(some 32),(.p (.mov (.tmp 10))),none⟩,0,17⟩,⟨⟨(some 33),(.p (.bin .add (.tmp 31) (.tmp 32))),none⟩,0,17⟩,⟨⟨(some 34),(.p (.iaddr 1 (.tmp 30) (.tmp 33))),none⟩,0,17⟩,⟨⟨(some 35),(.load1 (.tmp 34)),none⟩,0,17⟩,⟨⟨(some 36),(.p (.iaddr 1 (.tmp 16) (.tmp 19))),none⟩,0,17⟩,⟨⟨none,(.e (.store 1 (.tmp 36) (.tmp 29))),none⟩,0,23⟩,⟨⟨(some 20),(.p (.mov (.tmp 0))),none⟩,0,23⟩,⟨⟨(some 21),(.p (.mov (.tmp 2))),none⟩,0,23⟩,⟨⟨(some 22),(.p (.mov (.tmp 10))),none⟩,0,23⟩,⟨⟨(some 23),(.p (.bin .add (.tmp 21) (.tmp 22))),none⟩,0,23⟩,⟨⟨(some 37),(.p (.iaddr 1 (.tmp 20) (.tmp 23))),none⟩,18,23⟩,⟨⟨none,(.e (.store 1 (.tmp 37) (.tmp 35))),none⟩,18,24⟩]))
 (.region [⟨(some 14),(.p (.mov (.tmp 10))),none⟩,⟨(some 15),(.p (.bin .add (.tmp 14) (.val (.int .i64 (.ofNat 1))))),none⟩,⟨(some 10),(.p (.mov (.tmp 15))),none⟩]))))),[]⟩
theorem v132 : IsFun Try.prog 132 m132 := ⟨_, Try.func132, by kernel_rfl, by kernel_rfl⟩
end Go.Proofs.Ytnbmmnjihipahaa
end

section
set_option maxRecDepth 100000
namespace Go.Proofs.Ytnbmmnjihipahaa
open Go.Vm
def m135 : Fun := ⟨32,3,.seq (.region [⟨(some 6),(.p (.mov (.val (.bool false)))),none⟩])
 (.seq (.seq (.region [⟨(some 10),(.p (.mov (.tmp 0))),none⟩,⟨(some 11),(.p (.lenb (.tmp 10))),none⟩,⟨(some 12),(.p (.mov (.tmp 1))),none⟩,⟨(some 13),(.p (.lenb (.tmp 12))),none⟩,⟨(some 14),(.p (.bin .neq (.tmp 11) (.tmp 13))),none⟩])
 (.cond (.tmp 14) (.seq (.region [⟨(some 6),(.p (.mov (.val (.bool false)))),none⟩])
 (.ret))
 (.skip)))
 (.seq (.seq (.region [⟨(some 15),(.p (.mov (.tmp 0))),none⟩,⟨(some 16),(.p (.lenb (.tmp 15))),none⟩,⟨(some 17),(.p (.mov (.val (.int .i64 (.ofNat 0))))),none⟩])
 (.block 0 (.loop (.seq (.region [⟨(some 18),(.p (.bin .lss (.tmp 17) (.tmp 16))),none⟩])
 (.seq (.cond (.tmp 18) (.skip)
 (.exit 0))
 (.seq (.block 1 (.seq (.region [⟨(some 19),(.p (.mov (.tmp 17))),none⟩,⟨(some 20),(.p (.iaddr 1 (.tmp 15) (.tmp 17))),none⟩,⟨(some 21),(.load1 (.tmp 20)),none⟩,⟨(some 7),(.p (.mov (.tmp 19))),none⟩,⟨(some 8),(.p (.mov (.tmp 21))),none⟩])
 (.seq (.region [⟨(some 22),(.p (.mov (.tmp 1))),none⟩,⟨(some 23),(.p (.mov (.tmp 7))),none⟩,⟨(some 24),(.p (.iaddr 1 (.tmp 22) (.tmp 23))),none⟩,⟨(some 25),(.load1 (.tmp 24)),none⟩,⟨(some 9),(.p (.mov (.tmp 25))),none⟩])
 (.seq (.region [⟨(some 26),(.p (.mov (.tmp 2))),none⟩,⟨(some 27),(.p (.mov (.tmp 8))),none⟩,⟨(some 28),(.p (.mov (.tmp 9))),none⟩,⟨(some 29),(.e (.callv (.tmp 26) [(.tmp 27),(.tmp 28)])),none⟩,⟨(some 30),(.p (.not (.tmp 29))),none⟩])
 (.cond (.tmp 30) (.seq (.region [⟨(some 6),(.p (.mov (.val (.bool false)))),none⟩])
 (.ret))
 (.skip))))))
 (.region [⟨(some 31),(.p (.bin .add (.tmp 17) (.val (.int .i64 (.ofNat 1))))),none⟩,⟨(some 17),(.p (.mov (.tmp 31))),none⟩])))))))
 (.seq (.region [⟨(some 6),(.p (.mov (.val (.bool true)))),none⟩])
 (.ret)))),[.tmp 6]⟩
theorem v135 : IsFun Try.prog 135 m135 := ⟨_, Try.func135, by kernel_rfl, by kernel_rfl⟩
def m136 : Fun := ⟨8,2,.seq (.region [⟨(some 4),(.p (.mov (.val (.bool false)))),none⟩])
 (.seq (.region [⟨(some 5),(.p (.mov (.tmp 0))),none⟩,⟨(some 6),(.p (.mov (.tmp 1))),none⟩,⟨(some 7),(.e (.call 137 [(.tmp 5),(.tmp 6),(.val (.func 138 [] []))])),none⟩,⟨(some 4),(.p (.mov (.tmp 7))),none⟩])
 (.ret)),[.tmp 4]⟩
theorem v136 : IsFun Try.prog 136 m136 := ⟨_, Try.func136, by kernel_rfl, by kernel_rfl⟩
def m137 : Fun := ⟨32,3,.seq (.region [⟨(some 6),(.p (.mov (.val (.bool false)))),none⟩])
 (.seq (.seq (.region [⟨(some 10),(.p (.mov (.tmp 0))),none⟩,⟨(some 11),(.p (.lenb (.tmp 10))),none⟩,⟨(some 12),(.p (.mov (.tmp 1))),none⟩,⟨(some 13),(.p (.lenb (.tmp 12))),none⟩,⟨(some 14),(.p (.bin .neq (.tmp 11) (.tmp 13))),none⟩])
 (.cond (.tmp 14) (.seq (.region [⟨(some 6),(.p (.mov (.val (.bool false)))),none⟩])
 (.ret))
 (.skip)))
 (.seq (.seq (.region [⟨(some 15),(.p (.mov (.tmp 0))),none⟩,⟨(some 16),(.p (.lenb (.tmp 15))),none⟩,⟨(some 17),(.p (.mov (.val (.int .i64 (.ofNat 0))))),none⟩])
 (.block 0 (.loop (.seq (.region [⟨(some 18),(.p (.bin .lss (.tmp 17) (.tmp 16))),none⟩])
 (.seq (.cond (.tmp 18) (.skip)
 (.exit 0))
 (.seq (.block 1 (.seq (.region [⟨(some 19),(.p (.mov (.tmp 17))),none⟩,⟨(some 20),(.p (.iaddr 4 (.tmp 15) (.tmp 17))),none⟩,⟨(some 21),(.loadn 4 (.tmp 20)),none⟩,⟨(some 8),(.a (.new [.bool false,.int .i64 (.ofNat 0),.int .i64 (.ofNat 0),.nilslice])),none⟩,⟨(some 7),(.p (.mov (.tmp 19))),none⟩,⟨none,(.e (.store 4 (.tmp 8) (.tmp 21))),none⟩])
 (.seq (.region [⟨(some 22),(.p (.mov (.tmp 1))),none⟩,⟨(some 23),(.p (.mov (.tmp 7))),none⟩,⟨(some 24),(.p (.iaddr 4 (.tmp 22) (.tmp 23))),none⟩,⟨(some 25),(.loadn 4 (.tmp 24)),none⟩,⟨(some 9),(.a (.new [.bool false,.int .i64 (.ofNat 0),.int .i64 (.ofNat 0),.nilslice])),none⟩,⟨none,(.e (.store 4 (.tmp 9) (.tmp 25))),none⟩])
 (.seq (.region [⟨(some 26),(.p (.mov (.tmp 2))),none⟩,⟨(some 27),(.loadn 4 (.tmp 8)),none⟩,⟨(some 28),(.loadn 4 (.tmp 9)),none⟩,⟨(some 29),(.e (.callv (.tmp 26) [(.tmp 27),(.tmp 28)])),none⟩,⟨(some 30),(.p (.not (.tmp 29))),none⟩])
 (.cond (.tmp 30) (.seq (.region [⟨(some 6),(.p (.mov (.val (.bool false)))),none⟩])
 (.ret))
 (.skip))))))
 (.region [⟨(some 31),(.p (.bin .add (.tmp 17) (.val (.int .i64 (.ofNat 1))))),none⟩,⟨(some 17),(.p (.mov (.tmp 31))),none⟩])))))))
 (.seq (.region [⟨(some 6),(.p (.mov (.val (.bool true)))),none⟩])
 (.ret)))),[.tmp 6]⟩
theorem v137 : IsFun Try.prog 137 m137 := ⟨_, Try.func137, by kernel_rfl, by kernel_rfl⟩
def m138 : Fun := ⟨31,2,.seq (.region [⟨(some 2),(.a (.box (.tmp 0))),none⟩,⟨(some 3),(.a (.box (.tmp 1))),none⟩,⟨(some 4),(.p (.mov (.val (.bool false)))),none⟩])
 (.seq (.region [⟨(some 5),(.p (.faddr 0 (.tmp 2))),none⟩,⟨(some 6),(.load1 (.tmp 5)),none⟩,⟨(some 7),(.p (.faddr 0 (.tmp 3))),none⟩,⟨(some 8),(.load1 (.tmp 7)),none⟩,⟨(some 9),(.p (.eq .bool false (.tmp 6) (.tmp 8))),none⟩,⟨(some 10),(.p (.mov (.tmp 9))),none⟩,⟨(some 11),(.p (.faddr 1 (.tmp 2))),(some (10,true))⟩,⟨(some 12),(.load1 (.tmp 11)),(some (10,true))⟩,⟨(some 13),(.p (.faddr 1 (.tmp 3))),(some (10,true))⟩,⟨(some 14),(.load1 (.tmp 13)),(some (10,true))⟩,⟨(some 15),(.p (.bin .eql (.tmp 12) (.tmp 14))),(some (10,true))⟩,⟨(some 16),(.p (.pick (.tmp 10) (.tmp 15) (.val (.bool false)))),none⟩,⟨(some 17),(.p (.mov (.tmp 16))),none⟩,⟨(some 18),(.p (.faddr 2 (.tmp 2))),(some (17,true))⟩,⟨(some 19),(.load1 (.tmp 18)),(some (17,true))⟩,⟨(some 20),(.p (.faddr 2 (.tmp 3))),(some (17,true))⟩,⟨(some 21),(.load1 (.tmp 20)),(some (17,true))⟩,⟨(some 22),(.p (.bin .eql (.tmp 19) (.tmp 21))),(some (17,true))⟩,⟨(some 23),(.p (.pick (.tmp 17) (.tmp 22) (.val (.bool false)))),none⟩,⟨(some 24),(.p (.mov (.tmp 23))),none⟩,⟨(some 25),(.p (.faddr 3 (.tmp 2))),(some (24,true))⟩,⟨(some 26),(.load1 (.tmp 25)),(some (24,true))⟩,⟨(some 27),(.p (.faddr 3 (.tmp 3))),(some (24,true))⟩,⟨(some 28),(.load1 (.tmp 27)),(some (24,true))⟩,⟨(some 29),(.e (.call 140 [(.tmp 26),(.tmp 28)])),(some (24,true))⟩,⟨(some 30),(.p (.pick (.tmp 24) (.tmp 29) (.val (.bool false)))),none⟩,⟨(some 4),(.p (.mov (.tmp 30))),none⟩])
 (.ret)),[.tmp 4]⟩
theorem v138 : IsFun Try.prog 138 m138 := ⟨_, Try.func138, by kernel_rfl, by kernel_rfl⟩
def m140 : Fun := ⟨10,2,.seq (.region [⟨(some 4),(.p (.mov (.val (.bool false)))),none⟩])
 (.seq (.region [⟨(some 5),(.p (.mov (.tmp 0))),none⟩,⟨(some 6),(.e (.text (.tmp 5))),none⟩,⟨(some 7),(.p (.mov (.tmp 1))),none⟩,⟨(some 8),(.e (.text (.tmp 7))),none⟩,⟨(some 9),(.p (.bin .eql (.tmp 6) (.tmp 8))),none⟩,⟨(some 4),(.p (.mov (.tmp 9))),none⟩])
 (.ret)),[.tmp 4]⟩
theorem v140 : IsFun Try.prog 140 m140 := ⟨_, Try.func140, by kernel_rfl, by kernel_rfl⟩
end Go.Proofs.Ytnbmmnjihipahaa
end

section
set_option maxRecDepth 100000
namespace Go.Proofs.Ytnbmmnjihipahaa
open Go.Vm
def funs : T Fun := (.node (.node (.node (.node (.node (.node (.node (.node .leaf (some m127) .leaf) (some m63) .leaf) (some m31) .leaf) (some m15) .leaf) none (.node (.node (.node (.node .leaf (some m135) .leaf) none .leaf) none .leaf) (some m23) (.node (.node .leaf (some m87) .leaf) (some m55) .leaf))) none (.node (.node (.node (.node (.node .leaf (some m131) .leaf) (some m67) .leaf) none .leaf) (some m19) (.node .leaf none (.node .leaf (some m115) .leaf))) none (.node .leaf (some m27) (.node (.node .leaf (some m91) .leaf) (some m59) .leaf)))) none (.node (.node (.node .leaf (some m17) (.node .leaf none (.node .leaf (some m113) .leaf))) none (.node (.node (.node (.node .leaf (some m137) .leaf) none .leaf) none .leaf) (some m25) (.node (.node .leaf (some m89) .leaf) (some m57) .leaf))) none (.node (.node .leaf (some m21) (.node (.node .leaf (some m85) .leaf) (some m53) (.node .leaf (some m117) .leaf))) none (.node .leaf none (.node (.node .leaf (some m93) .leaf) (some m61) .leaf))))) none (.node (.node (.node (.node (.node (.node .leaf (some m64) .leaf) none .leaf) (some m16) (.node .leaf none (.node .leaf (some m112) .leaf))) none (.node (.node (.node (.node .leaf (some m136) .leaf) none .leaf) none .leaf) (some m24) (.node (.node .leaf (some m88) .leaf) (some m56) .leaf))) (some m4) (.node (.node (.node (.node (.node .leaf (some m132) .leaf) none .leaf) none .leaf) none (.node (.node .leaf (some m84) .leaf) (some m52) (.node .leaf (some m116) .leaf))) none (.node (.node (.node (.node .leaf (some m140) .leaf) none .leaf) none .leaf) none (.node (.node .leaf (some m92) .leaf) (some m60) .leaf)))) none (.node (.node (.node .leaf (some m18) (.node .leaf none (.node .leaf (some m114) .leaf))) none (.node (.node (.node (.node .leaf (some m138) .leaf) none .leaf) none .leaf) none (.node (.node .leaf (some m90) .leaf) (some m58) .leaf))) none (.node (.node .leaf (some m22) (.node (.node .leaf (some m86) .leaf) (some m54) .leaf)) none (.node .leaf none (.node .leaf (some m62) .leaf))))))
def ints : List Nat := [2,3,5,6,12,21,56,72,147,191,192,193,196,197]
theorem intsOk : IntsOk Try.prog ints := ints_of (by kernel_rfl)
def mach (tab : Tab) : Vm.Prog := ⟨funs, ⟨tab, ints⟩⟩
theorem valid (tab : Tab) : Valid Try.prog (mach tab) := valid_of (show AllT (IsFun Try.prog) 1 0 funs from ⟨trivial, ⟨trivial, ⟨trivial, ⟨trivial, ⟨v15, ⟨v31, ⟨v63, ⟨v127, trivial, trivial⟩, trivial⟩, trivial⟩, trivial⟩, ⟨v23, ⟨trivial, ⟨trivial, ⟨v135, trivial, trivial⟩, trivial⟩, trivial⟩, ⟨v55, ⟨v87, trivial, trivial⟩, trivial⟩⟩⟩, ⟨trivial, ⟨v19, ⟨trivial, ⟨v67, ⟨v131, trivial, trivial⟩, trivial⟩, trivial⟩, ⟨trivial, trivial, ⟨v115, trivial, trivial⟩⟩⟩, ⟨v27, trivial, ⟨v59, ⟨v91, trivial, trivial⟩, trivial⟩⟩⟩⟩, ⟨trivial, ⟨trivial, ⟨v17, trivial, ⟨trivial, trivial, ⟨v113, trivial, trivial⟩⟩⟩, ⟨v25, ⟨trivial, ⟨trivial, ⟨v137, trivial, trivial⟩, trivial⟩, trivial⟩, ⟨v57, ⟨v89, trivial, trivial⟩, trivial⟩⟩⟩, ⟨trivial, ⟨v21, trivial, ⟨v53, ⟨v85, trivial, trivial⟩, ⟨v117, trivial, trivial⟩⟩⟩, ⟨trivial, trivial, ⟨v61, ⟨v93, trivial, trivial⟩, trivial⟩⟩⟩⟩⟩, ⟨trivial, ⟨v4, ⟨trivial, ⟨v16, ⟨trivial, ⟨v64, trivial, trivial⟩, trivial⟩, ⟨trivial, trivial, ⟨v112, trivial, trivial⟩⟩⟩, ⟨v24, ⟨trivial, ⟨trivial, ⟨v136, trivial, trivial⟩, trivial⟩, trivial⟩, ⟨v56, ⟨v88, trivial, trivial⟩, trivial⟩⟩⟩, ⟨trivial, ⟨trivial, ⟨trivial, ⟨trivial, ⟨v132, trivial, trivial⟩, trivial⟩, trivial⟩, ⟨v52, ⟨v84, trivial, trivial⟩, ⟨v116, trivial, trivial⟩⟩⟩, ⟨trivial, ⟨trivial, ⟨trivial, ⟨v140, trivial, trivial⟩, trivial⟩, trivial⟩, ⟨v60, ⟨v92, trivial, trivial⟩, trivial⟩⟩⟩⟩, ⟨trivial, ⟨trivial, ⟨v18, trivial, ⟨trivial, trivial, ⟨v114, trivial, trivial⟩⟩⟩, ⟨trivial, ⟨trivial, ⟨trivial, ⟨v138, trivial, trivial⟩, trivial⟩, trivial⟩, ⟨v58, ⟨v90, trivial, trivial⟩, trivial⟩⟩⟩, ⟨trivial, ⟨v22, trivial, ⟨v54, ⟨v86, trivial, trivial⟩, trivial⟩⟩, ⟨trivial, trivial, ⟨v62, trivial, trivial⟩⟩⟩⟩⟩⟩)
end Go.Proofs.Ytnbmmnjihipahaa
end

section
set_option maxRecDepth 100000
namespace Go.Proofs.Ytnbmmnjihipahaa
open Go.Vm
theorem x118 : IsExt Try.prog (118, .cmp) := ⟨_, Try.func118, by kernel_rfl, by kernel_rfl, by kernel_rfl, by kernel_rfl⟩
theorem x119 : IsExt Try.prog (119, .add64) := ⟨_, Try.func119, by kernel_rfl, by kernel_rfl, by kernel_rfl, by kernel_rfl⟩
def exts : List (Nat × Ek) := [(118, .cmp), (119, .add64)]
theorem extsOk : ∀ x, x ∈ exts → IsExt Try.prog x := by
  intro x hx
  unfold exts at hx
  rcases List.mem_cons.1 hx with rfl | hx
  · exact x118
  rcases List.mem_cons.1 hx with rfl | hx
  · exact x119
  cases hx
end Go.Proofs.Ytnbmmnjihipahaa
end

section
set_option maxRecDepth 100000
namespace Go.Proofs.Ytnbmmnjihipahaa.aggrParts
open Go.Vm Go.Dv Go.Lib
def F0 (i : Nat) : Nat := ([0, 56, 60, 57, 61, 62, 138, 131, 88, 87, 89, 90, 91, 85, 92, 140, 135, 136, 116, 117, 118, 137, 18, 17, 25, 27, 54, 86, 114, 115, 127, 132, 15, 21, 22, 23, 52, 53, 55, 58, 63, 84, 93, 112, 113, 119, 19, 64, 24, 31, 67, 4, 16] : List Nat).getD i 0
def pr : Vm.Prog := mach []
def xt : Ext := orX (constX [16]) (extBy exts)
theorem has1 : Go.Dv.Has pr xt F0 1 Go.Lib.M1 := ⟨by kernel_rfl, fun _ _ => rfl⟩
theorem has2 : Go.Dv.Has pr xt F0 2 Go.Lib.M2 := ⟨by kernel_rfl, fun _ _ => rfl⟩
theorem has3 : Go.Dv.Has pr xt F0 3 Go.Lib.M3 := ⟨by kernel_rfl, fun _ _ => rfl⟩
theorem has4 : Go.Dv.Has pr xt F0 4 Go.Lib.M4 := ⟨by kernel_rfl, fun _ _ => rfl⟩
theorem has5 : Go.Dv.Has pr xt F0 5 Go.Lib.M5 := ⟨by kernel_rfl, fun _ _ => rfl⟩
theorem has6 : Go.Dv.Has pr xt F0 6 Go.Lib.M6 := ⟨by kernel_rfl, fun _ _ => rfl⟩
theorem has7 : Go.Dv.Has pr xt F0 7 Go.Lib.M7 := ⟨by kernel_rfl, fun _ _ => rfl⟩
theorem has8 : Go.Dv.Has pr xt F0 8 Go.Lib.M8 := ⟨by kernel_rfl, fun _ _ => rfl⟩
theorem has9 : Go.Dv.Has pr xt F0 9 Go.Lib.M9 := ⟨by kernel_rfl, fun _ _ => rfl⟩
theorem has10 : Go.Dv.Has pr xt F0 10 Go.Lib.M10 := ⟨by kernel_rfl, fun _ _ => rfl⟩
theorem has11 : Go.Dv.Has pr xt F0 11 Go.Lib.M11 := ⟨by kernel_rfl, fun _ _ => rfl⟩
theorem has12 : Go.Dv.Has pr xt F0 12 Go.Lib.M12 := ⟨by kernel_rfl, fun _ _ => rfl⟩
theorem has13 : Go.Dv.Has pr xt F0 13 Go.Lib.M13 := ⟨by kernel_rfl, fun _ _ => rfl⟩
theorem has14 : Go.Dv.Has pr xt F0 14 Go.Lib.M14 := ⟨by kernel_rfl, fun _ _ => rfl⟩
theorem has15 : Go.Dv.Has pr xt F0 15 Go.Lib.M15 := ⟨by kernel_rfl, fun _ _ => rfl⟩
theorem has16 : Go.Dv.Has pr xt F0 16 Go.Lib.M16 := ⟨by kernel_rfl, fun _ _ => rfl⟩
theorem has17 : Go.Dv.Has pr xt F0 17 Go.Lib.M17 := ⟨by kernel_rfl, fun _ _ => rfl⟩
theorem has18 : Go.Dv.Has pr xt F0 18 Go.Lib.M18 := ⟨by kernel_rfl, fun _ _ => rfl⟩
theorem has19 : Go.Dv.Has pr xt F0 19 Go.Lib.M19 := ⟨by kernel_rfl, fun _ _ => rfl⟩
theorem has21 : Go.Dv.Has pr xt F0 21 Go.Lib.M21 := ⟨by kernel_rfl, fun _ _ => rfl⟩
theorem has22 : Go.Dv.Has pr xt F0 22 Go.Lib.M22 := ⟨by kernel_rfl, fun _ _ => rfl⟩
theorem has23 : Go.Dv.Has pr xt F0 23 Go.Lib.M23 := ⟨by kernel_rfl, fun _ _ => rfl⟩
theorem has24 : Go.Dv.Has pr xt F0 24 Go.Lib.M24 := ⟨by kernel_rfl, fun _ _ => rfl⟩
theorem has25 : Go.Dv.Has pr xt F0 25 Go.Lib.M25 := ⟨by kernel_rfl, fun _ _ => rfl⟩
theorem has26 : Go.Dv.Has pr xt F0 26 Go.Lib.M26 := ⟨by kernel_rfl, fun _ _ => rfl⟩
theorem has27 : Go.Dv.Has pr xt F0 27 Go.Lib.M27 := ⟨by kernel_rfl, fun _ _ => rfl⟩
theorem has28 : Go.Dv.Has pr xt F0 28 Go.Lib.M28 := ⟨by kernel_rfl, fun _ _ => rfl⟩
theorem has29 : Go.Dv.Has pr xt F0 29 Go.Lib.M29 := ⟨by kernel_rfl, fun _ _ => rfl⟩
theorem has30 : Go.Dv.Has pr xt F0 30 Go.Lib.M30 := ⟨by kernel_rfl, fun _ _ => rfl⟩
theorem has31 : Go.Dv.Has pr xt F0 31 Go.Lib.M31 := ⟨by kernel_rfl, fun _ _ => rfl⟩
theorem has32 : Go.Dv.Has pr xt F0 32 Go.Lib.M32 := ⟨by kernel_rfl, fun _ _ => rfl⟩
theorem has33 : Go.Dv.Has pr xt F0 33 Go.Lib.M33 := ⟨by kernel_rfl, fun _ _ => rfl⟩
theorem has34 : Go.Dv.Has pr xt F0 34 Go.Lib.M34 := ⟨by kernel_rfl, fun _ _ => rfl⟩
theorem has35 : Go.Dv.Has pr xt F0 35 Go.Lib.M35 := ⟨by kernel_rfl, fun _ _ => rfl⟩
theorem has36 : Go.Dv.Has pr xt F0 36 Go.Lib.M36 := ⟨by kernel_rfl, fun _ _ => rfl⟩
theorem has37 : Go.Dv.Has pr xt F0 37 Go.Lib.M37 := ⟨by kernel_rfl, fun _ _ => rfl⟩
theorem has38 : Go.Dv.Has pr xt F0 38 Go.Lib.M38 := ⟨by kernel_rfl, fun _ _ => rfl⟩
theorem has39 : Go.Dv.Has pr xt F0 39 Go.Lib.M39 := ⟨by kernel_rfl, fun _ _ => rfl⟩
theorem has40 : Go.Dv.Has pr xt F0 40 Go.Lib.M40 := ⟨by kernel_rfl, fun _ _ => rfl⟩
theorem has41 : Go.Dv.Has pr xt F0 41 Go.Lib.M41 := ⟨by kernel_rfl, fun _ _ => rfl⟩
theorem has42 : Go.Dv.Has pr xt F0 42 Go.Lib.M42 := ⟨by kernel_rfl, fun _ _ => rfl⟩
theorem has43 : Go.Dv.Has pr xt F0 43 Go.Lib.M43 := ⟨by kernel_rfl, fun _ _ => rfl⟩
theorem has44 : Go.Dv.Has pr xt F0 44 Go.Lib.M44 := ⟨by kernel_rfl, fun _ _ => rfl⟩
theorem has46 : Go.Dv.Has pr xt F0 46 Go.Lib.M46 := ⟨by kernel_rfl, fun _ _ => rfl⟩
theorem has47 : Go.Dv.Has pr xt F0 47 Go.Lib.M47 := ⟨by kernel_rfl, fun _ _ => rfl⟩
theorem has48 : Go.Dv.Has pr xt F0 48 Go.Lib.M48 := ⟨by kernel_rfl, fun _ _ => rfl⟩
theorem has49 : Go.Dv.Has pr xt F0 49 Go.Lib.M49 := ⟨by kernel_rfl, fun _ _ => rfl⟩
theorem has50 : Go.Dv.Has pr xt F0 50 Go.Lib.M50 := ⟨by kernel_rfl, fun _ _ => rfl⟩
theorem has51 : Go.Dv.Has pr xt F0 51 Go.Lib.M51 := ⟨by kernel_rfl, fun _ _ => rfl⟩
end Go.Proofs.Ytnbmmnjihipahaa.aggrParts
end

section
set_option maxRecDepth 100000
namespace Go.Proofs.Ytnbmmnjihipahaa.aggrParts
open Go.Vm
theorem awake16 : runs (mach []) (extBy exts) 1000000 16 [] Try.prog.globals.size = true := by decide +kernel
end Go.Proofs.Ytnbmmnjihipahaa.aggrParts
end

section
set_option maxRecDepth 100000
namespace Go.Proofs.Ytnbmmnjihipahaa.aggrParts
open Go.Vm Go.Dv Go.Lib
theorem x20 : ∀ args h, xt (F0 20) args h = extV .cmp args h := fun _ _ => rfl
theorem x45 : ∀ args h, xt (F0 45) args h = extV .add64 args h := fun _ _ => rfl
theorem hschm : HSchm pr xt F0 := ⟨has1, has2, has3, has4, has5, has6, has7, has8, has9, has10, has11, has12, has13, has14, has15, has16, has17, has18, has19, has21, x20⟩
theorem hlaw6 : HLaw6 pr xt F0 := ⟨has22, has23, has24, has25⟩
theorem hsrt : HSrt pr xt F0 := ⟨has26, has27, has28, has29, has30, has31⟩
theorem haggr : HAggr pr xt F0 := ⟨hsrt, hschm, has32, has33, has34, has35, has36, has37, has38, has39, has40, has41, has42, has43, has44⟩
theorem href6 : HRef6 pr xt F0 := ⟨has46, has47, has48, has49, has50⟩
theorem hawake : FnD pr xt (F0 52) [] (.lit (.bool true)) := by
  intro H ψ S h vs s k
  simp only [VDl] at k
  subst k
  refine wpc_ext (v := .bool true) (h' := h) rfl ⟨ψ, S, _, H, .refl, s, ?_, rfl, rfl⟩
  simp [VD, atomV]
theorem hlaw : HLaw16 pr xt F0 := ⟨haggr, hlaw6, href6, x45, hawake, has51⟩
theorem mixed : Try.prog.follows .mixedOrders = true := by kernel_rfl
theorem xt_ok {env : Env} : CallOk Try.prog env xt := orX_ok (constX_ok mixed (valid []) (extBy_rises _) (extBy_ok extsOk) rfl intsOk (n := 1000000) fun f hf => by
  rcases List.mem_cons.1 hf with rfl | hf
  · exact ⟨by kernel_rfl, awake16⟩
  · cases hf) (extBy_ok extsOk)
theorem xt_rises : Rises xt := orX_rises (constX_rises _) (extBy_rises _)
end Go.Proofs.Ytnbmmnjihipahaa.aggrParts
end
