/-
  Texts that the claim's last one rests on, joined.
-/
import Derived.Test.YtnbmmnjihipahaaRows
import Derived.Test.YtnbmmnjihipahaaBModlBackj
import Derived.Test.YtnbmmnjihipahaaBModlBackg
import Derived.Test.YtnbmmnjihipahaaBModlBacki
import Derived.Test.YtnbmmnjihipahaaBModlBackh
import Derived.Test.YtnbmmnjihipahaaBModlBackf
import Derived.Test.YtnbmmnjihipahaaBModlBackc

section
set_option maxRecDepth 100000
namespace Go.Proofs.Ytnbmmnjihipahaa
open Go.Vm
def m11 : Fun := Go.Lib.M102 Go.Proofs.Ytnbmmnjihipahaa.sa.F0
theorem v11 : IsFun Try.prog 11 m11 := ⟨_, Try.func11, by kernel_rfl, by kernel_rfl⟩
def m15 : Fun := Go.Lib.M32 Go.Proofs.Ytnbmmnjihipahaa.sa.F0
theorem v15 : IsFun Try.prog 15 m15 := ⟨_, Try.func15, by kernel_rfl, by kernel_rfl⟩
def m17 : Fun := Go.Lib.M23 Go.Proofs.Ytnbmmnjihipahaa.sa.F0
theorem v17 : IsFun Try.prog 17 m17 := ⟨_, Try.func17, by kernel_rfl, by kernel_rfl⟩
def m18 : Fun := Go.Lib.M22 Go.Proofs.Ytnbmmnjihipahaa.sa.F0
theorem v18 : IsFun Try.prog 18 m18 := ⟨_, Try.func18, by kernel_rfl, by kernel_rfl⟩
def m19 : Fun := Go.Lib.M46 Go.Proofs.Ytnbmmnjihipahaa.sa.F0
theorem v19 : IsFun Try.prog 19 m19 := ⟨_, Try.func19, by kernel_rfl, by kernel_rfl⟩
def m21 : Fun := Go.Lib.M33 Go.Proofs.Ytnbmmnjihipahaa.sa.F0
theorem v21 : IsFun Try.prog 21 m21 := ⟨_, Try.func21, by kernel_rfl, by kernel_rfl⟩
def m22 : Fun := Go.Lib.M34 Go.Proofs.Ytnbmmnjihipahaa.sa.F0
theorem v22 : IsFun Try.prog 22 m22 := ⟨_, Try.func22, by kernel_rfl, by kernel_rfl⟩
def m23 : Fun := Go.Lib.M35 Go.Proofs.Ytnbmmnjihipahaa.sa.F0
theorem v23 : IsFun Try.prog 23 m23 := ⟨_, Try.func23, by kernel_rfl, by kernel_rfl⟩
def m24 : Fun := Go.Lib.M48 Go.Proofs.Ytnbmmnjihipahaa.sa.F0
theorem v24 : IsFun Try.prog 24 m24 := ⟨_, Try.func24, by kernel_rfl, by kernel_rfl⟩
def m25 : Fun := Go.Lib.M24 Go.Proofs.Ytnbmmnjihipahaa.sa.F0
theorem v25 : IsFun Try.prog 25 m25 := ⟨_, Try.func25, by kernel_rfl, by kernel_rfl⟩
def m27 : Fun := Go.Lib.M25 Go.Proofs.Ytnbmmnjihipahaa.sa.F0
theorem v27 : IsFun Try.prog 27 m27 := ⟨_, Try.func27, by kernel_rfl, by kernel_rfl⟩
def m31 : Fun := Go.Lib.M49 Go.Proofs.Ytnbmmnjihipahaa.sa.F0
theorem v31 : IsFun Try.prog 31 m31 := ⟨_, Try.func31, by kernel_rfl, by kernel_rfl⟩
def m33 : Fun := Go.Lib.M70 Go.Proofs.Ytnbmmnjihipahaa.sa.F0
theorem v33 : IsFun Try.prog 33 m33 := ⟨_, Try.func33, by kernel_rfl, by kernel_rfl⟩
def m34 : Fun := ⟨122,0,.seq (.region [⟨(some 0),(.p (.mov (.val (.bool false)))),none⟩])
 (.seq (.region [⟨(some 10),(.p (.build [.str [],.int .i64 (.ofNat 0),.bool false] [(0,1,(.val (.str [107,101,121]))),(1,1,(.val (.int .i64 (.ofNat 1))))])),none⟩,⟨(some 11),(.p (.build [.str [],.int .i64 (.ofNat 0),.bool false] [(0,1,(.val (.str [97]))),(1,1,(.val (.int .i64 (.ofNat 1))))])),none⟩,⟨(some 12),(.a (.bslice [.str [],.int .i64 (.ofNat 0),.bool false,.str [],.int .i64 (.ofNat 0),.bool false] 3 2 [(0,3,(.tmp 10)),(3,3,(.tmp 11))])),none⟩,⟨(some 13),(.p (.build [.nilslice] [(0,1,(.tmp 12))])),none⟩,⟨(some 1),(.a (.new [.nilslice])),none⟩,⟨none,(.e (.store 1 (.tmp 1) (.tmp 13))),none⟩])
 (.seq (.region [⟨(some 2),(.p (.mov (.val (.func 75 [] [])))),none⟩])
 (.seq (.region [⟨(some 14),(.p (.build [.int .i64 (.ofNat 0),.int .i64 (.ofNat 0),.int .i64 (.ofNat 0),.bool false,.int .i64 (.ofNat 0),.int .i64 (.ofNat 0),.nilslice,.nilslice] [(0,1,(.val (.int .i64 (.ofNat 1))))])),none⟩,⟨(some 3),(.a (.new [.int .i64 (.ofNat 0),.int .i64 (.ofNat 0),.int .i64 (.ofNat 0),.bool false,.int .i64 (.ofNat 0),.int .i64 (.ofNat 0),.nilslice,.nilslice])),none⟩,⟨none,(.e (.store 8 (.tmp 3) (.tmp 14))),none⟩])
 (.seq (.dregion [⟨⟨(some 17),(.p (.mov (.tmp 2))),none⟩,0,1⟩,⟨⟨(some 18),(.e (.callv (.tmp 17) [(.val (.int .i64 (.ofNat 2)))])),none⟩,0,3⟩,⟨⟨(some 19),(.p (.mov (.tmp 2))),none⟩,0,3⟩,⟨⟨(some 20),(.e (.callv (.tmp 19) [(.val (.int .i64 (.ofNat 5)))])),none⟩,2,5⟩,⟨⟨(some 24),(.p (.mov (.tmp 2))),none⟩,0,5⟩,⟨⟨(some 25),(.e (.callv (.tmp 24) [(.val (.int .i64 (.ofNat 4)))])),none⟩,4,17⟩,⟨⟨(some 16),(.loadn 1 (.tmp 1)),none⟩,0,17⟩,⟨⟨(some 21),(.a (.bslice [.bool false,.int .i64 (.ofNat 0),.int .i64 (.ofNat 0),.nilslice,.bool false,.int .i64 (.ofNat 0),.int .i64 (.ofNat 0),.nilslice] 4 2 [(0,4,(.tmp 18)),(4,4,(.tmp 20))])),none⟩,4,17⟩,⟨⟨(some 22),(.p (.build [.int .i64 (.ofNat 0),.nilslice,.int .i64 (.ofNat 0),.int .i64 (.ofNat 0),.int .i64 (.ofNat 0),.bool false,.int .i64 (.ofNat 0),.int .i64 (.ofNat 0),.nilslice,.nilslice,.nilslice,.nilslice,.int .i64 (.ofNat 0),.nilslice] [(0,1,(.val (.int .i64 (.ofNat 1)))),(1,1,(.tmp 21))])),none⟩,4,17⟩,⟨⟨(some 23),(.loadn 8 (.tmp 3)),none⟩,0,17⟩,⟨⟨(some 26),(.p (.build [.int .i64 (.ofNat 0),.bool false,.bool false,.int .i64 (.ofNat 0),.int .i64 (.ofNat 0),.nilslice] [(0,1,(.val (.int .i64 (.ofNat 1)))),(1,1,(.val (.bool true))),(2,4,(.tmp 25))])),none⟩,6,17⟩,⟨⟨(some 27),(.a (.bslice [.int .i64 (.ofNat 0),.bool false,.bool false,.int .i64 (.ofNat 0),.int .i64 (.ofNat 0),.nilslice] 6 1 [(0,6,(.tmp 26))])),none⟩,6,17⟩,⟨⟨(some 28),(.p (.build [.int .i64 (.ofNat 0),.nilslice,.int .i64 (.ofNat 0),.int .i64 (.ofNat 0),.int .i64 (.ofNat 0),.bool false,.int .i64 (.ofNat 0),.int .i64 (.ofNat 0),.nilslice,.nilslice,.nilslice,.nilslice,.int .i64 (.ofNat 0),.nilslice] [(0,1,(.val (.int .i64 (.ofNat 2)))),(2,8,(.tmp 23)),(10,1,(.tmp 27))])),none⟩,6,17⟩,⟨⟨(some 29),(.loadn 8 (.tmp 3)),none⟩,0,17⟩,⟨⟨(some 30),(.a (.bslice [.int .i64 (.ofNat 0)] 1 1 [(0,1,(.val (.int .i64 (.ofNat 1))))])),none⟩,0,17⟩,⟨⟨(some 31),(.p (.build [.int .i64 (.ofNat 0),.nilslice,.int .i64 (.ofNat 0),.int .i64 (.ofNat 0),.int .i64 (.ofNat 0),.bool false,.int .i64 (.ofNat 0),.int .i64 (.ofNat 0),.nilslice,.nilslice,.nilslice,.nilslice,.int .i64 (.ofNat 0),.nilslice] [(0,1,(.val (.int .i64 (.ofNat 4)))),(2,8,(.tmp 29)),(11,1,(.tmp 30))])),none⟩,0,17⟩,⟨⟨(some 32),(.a (.bslice [.int .i64 (.ofNat 0),.nilslice,.int .i64 (.ofNat 0),.int .i64 (.ofNat 0),.int .i64 (.ofNat 0),.bool false,.int .i64 (.ofNat 0),.int .i64 (.ofNat 0),.nilslice,.nilslice,.nilslice,.nilslice,.int .i64 (.ofNat 0),.nilslice,.int .i64 (.ofNat 0),.nilslice,.int .i64 (.ofNat 0),.int .i64 (.ofNat 0),.int .i64 (.ofNat 0),.bool false,.int .i64 (.ofNat 0),.int .i64 (.ofNat 0),.nilslice,.nilslice,.nilslice,.nilslice,.int .i64 (.ofNat 0),.nilslice,.int .i64 (.ofNat 0),.nilslice,.int .i64 (.ofNat 0),.int .i64 (.ofNat 0),.int .i64 (.ofNat 0),.bool false,.int .i64 (.ofNat 0),.int .i64 (.ofNat 0),.nilslice,.nilslice,.nilslice,.nilslice,.int .i64 (.ofNat 0),.nilslice] 14 3 [(0,14,(.tmp 22)),(14,14,(.tmp 28)),(28,14,(.tmp 31))])),none⟩,6,17⟩,⟨⟨(some 33),(.e (.call 38 [(.tmp 16),(.val (.nilslice)),(.tmp 32)])),none⟩,6,23⟩,⟨⟨(some 15),(.p (.mov (.tmp 33))),none⟩,18,23⟩,⟨⟨(some 34),(.p (.ext (.tmp 15) 0)),none⟩,18,23⟩,⟨⟨(some 35),(.p (.ext (.tmp 15) 1)),none⟩,18,23⟩,⟨⟨(some 4),(.p (.mov (.tmp 34))),none⟩,18,23⟩,⟨⟨(some 5),(.p (.mov (.tmp 35))),none⟩,18,23⟩])
 (.seq (.region [⟨(some 37),(.loadn 1 (.tmp 1)),none⟩,⟨(some 38),(.p (.mov (.tmp 4))),none⟩,⟨(some 39),(.loadn 8 (.tmp 3)),none⟩,⟨(some 40),(.p (.build [.int .i64 (.ofNat 0),.nilslice,.int .i64 (.ofNat 0),.int .i64 (.ofNat 0),.int .i64 (.ofNat 0),.bool false,.int .i64 (.ofNat 0),.int .i64 (.ofNat 0),.nilslice,.nilslice,.nilslice,.nilslice,.int .i64 (.ofNat 0),.nilslice] [(0,1,(.val (.int .i64 (.ofNat 3)))),(2,8,(.tmp 39))])),none⟩,⟨(some 41),(.p (.build [.int .i64 (.ofNat 0),.nilslice,.int .i64 (.ofNat 0),.int .i64 (.ofNat 0),.int .i64 (.ofNat 0),.bool false,.int .i64 (.ofNat 0),.int .i64 (.ofNat 0),.nilslice,.nilslice,.nilslice,.nilslice,.int .i64 (.ofNat 0),.nilslice] [(0,1,(.val (.int .i64 (.ofNat 6))))])),none⟩,⟨(some 42),(.loadn 8 (.tmp 3)),none⟩,⟨(some 43),(.p (.build [.int .i64 (.ofNat 0),.nilslice,.int .i64 (.ofNat 0),.int .i64 (.ofNat 0),.int .i64 (.ofNat 0),.bool false,.int .i64 (.ofNat 0),.int .i64 (.ofNat 0),.nilslice,.nilslice,.nilslice,.nilslice,.int .i64 (.ofNat 0),.nilslice] [(0,1,(.val (.int .i64 (.ofNat 3)))),(2,8,(.tmp 42))])),none⟩,⟨(some 44),(.a (.bslice [.int .i64 (.ofNat 0),.nilslice,.int .i64 (.ofNat 0),.int .i64 (.ofNat 0),.int .i64 (.ofNat 0),.bool false,.int .i64 (.ofNat 0),.int .i64 (.ofNat 0),.nilslice,.nilslice,.nilslice,.nilslice,.int .i64 (.ofNat 0),.nilslice,.int .i64 (.ofNat 0),.nilslice,.int .i64 (.ofNat 0),.int .i64 (.ofNat 0),.int .i64 (.ofNat 0),.bool false,.int .i64 (.ofNat 0),.int .i64 (.ofNat 0),.nilslice,.nilslice,.nilslice,.nilslice,.int .i64 (.ofNat 0),.nilslice,.int .i64 (.ofNat 0),.nilslice,.int .i64 (.ofNat 0),.int .i64 (.ofNat 0),.int .i64 (.ofNat 0),.bool false,.int .i64 (.ofNat 0),.int .i64 (.ofNat 0),.nilslice,.nilslice,.nilslice,.nilslice,.int .i64 (.ofNat 0),.nilslice] 14 3 [(0,14,(.tmp 40)),(14,14,(.tmp 41)),(28,14,(.tmp 43))])),none⟩,⟨(some 45),(.e (.call 38 [(.tmp 37),(.tmp 38),(.tmp 44)])),none⟩,⟨(some 36),(.p (.mov (.tmp 45))),none⟩,⟨(some 46),(.p (.ext (.tmp 36) 0)),none⟩,⟨(some 47),(.p (.ext (.tmp 36) 1)),none⟩,⟨(some 6),(.p (.mov (.tmp 46))),none⟩,⟨(some 7),(.p (.mov (.tmp 47))),none⟩])
 (.seq (.dregion [⟨⟨(some 51),(.p (.mov (.tmp 2))),none⟩,0,1⟩,⟨⟨(some 52),(.e (.callv (.tmp 51) [(.val (.int .i64 (.ofNat 2)))])),none⟩,0,3⟩,⟨⟨(some 53),(.p (.mov (.tmp 2))),none⟩,0,3⟩,⟨⟨(some 54),(.e (.callv (.tmp 53) [(.val (.int .i64 (.ofNat 1)))])),none⟩,2,8⟩,⟨⟨(some 49),(.loadn 1 (.tmp 1)),none⟩,0,8⟩,⟨⟨(some 50),(.p (.mov (.tmp 4))),none⟩,0,8⟩,⟨⟨(some 55),(.a (.bslice [.bool false,.int .i64 (.ofNat 0),.int .i64 (.ofNat 0),.nilslice,.bool false,.int .i64 (.ofNat 0),.int .i64 (.ofNat 0),.nilslice] 4 2 [(0,4,(.tmp 52)),(4,4,(.tmp 54))])),none⟩,4,8⟩,⟨⟨(some 56),(.p (.build [.int .i64 (.ofNat 0),.nilslice,.int .i64 (.ofNat 0),.int .i64 (.ofNat 0),.int .i64 (.ofNat 0),.bool false,.int .i64 (.ofNat 0),.int .i64 (.ofNat 0),.nilslice,.nilslice,.nilslice,.nilslice,.int .i64 (.ofNat 0),.nilslice] [(0,1,(.val (.int .i64 (.ofNat 1)))),(1,1,(.tmp 55))])),none⟩,4,8⟩,⟨⟨(some 57),(.e (.call 33 [(.tmp 49),(.tmp 50),(.tmp 56)])),none⟩,4,14⟩,⟨⟨(some 48),(.p (.mov (.tmp 57))),none⟩,9,14⟩,⟨⟨(some 58),(.p (.ext (.tmp 48) 0)),none⟩,9,14⟩,⟨⟨(some 59),(.p (.ext (.tmp 48) 1)),none⟩,9,14⟩,⟨⟨(some 9),(.a (.new [.int .i64 (.ofNat 0),.int .i64 (.ofNat 0),.nilslice])),none⟩,0,14⟩,⟨⟨(some 8),(.p (.mov (.tmp 58))),none⟩,9,14⟩,⟨⟨none,(.e (.store 3 (.tmp 9) (.tmp 59))),none⟩,9,15⟩])
 (.seq (.region [⟨(some 60),(.p (.mov (.tmp 5))),none⟩,⟨(some 61),(.p (.lenb (.tmp 60))),none⟩,⟨(some 62),(.p (.bin .eql (.tmp 61) (.val (.int .i64 (.ofNat 3))))),none⟩,⟨(some 63),(.p (.mov (.tmp 62))),none⟩,⟨(some 64),(.p (.mov (.tmp 5))),(some (63,true))⟩,⟨(some 65),(.p (.iaddr 3 (.tmp 64) (.val (.int .i64 (.ofNat 2))))),(some (63,true))⟩,⟨(some 66),(.p (.faddr 2 (.tmp 65))),(some (63,true))⟩,⟨(some 67),(.load1 (.tmp 66)),(some (63,true))⟩,⟨(some 68),(.p (.lenb (.tmp 67))),(some (63,true))⟩,⟨(some 69),(.p (.bin .eql (.tmp 68) (.val (.int .i64 (.ofNat 1))))),(some (63,true))⟩,⟨(some 70),(.p (.pick (.tmp 63) (.tmp 69) (.val (.bool false)))),none⟩,⟨(some 71),(.p (.mov (.tmp 70))),none⟩,⟨(some 72),(.p (.mov (.tmp 5))),(some (71,true))⟩,⟨(some 73),(.p (.iaddr 3 (.tmp 72) (.val (.int .i64 (.ofNat 2))))),(some (71,true))⟩,⟨(some 74),(.p (.faddr 2 (.tmp 73))),(some (71,true))⟩,⟨(some 75),(.load1 (.tmp 74)),(some (71,true))⟩,⟨(some 76),(.p (.iaddr 1 (.tmp 75) (.val (.int .i64 (.ofNat 0))))),(some (71,true))⟩,⟨(some 77),(.load1 (.tmp 76)),(some (71,true))⟩,⟨(some 78),(.p (.lenb (.tmp 77))),(some (71,true))⟩,⟨(some 79),(.p (.bin .eql (.tmp 78) (.val (.int .i64 (.ofNat 1))))),(some (71,true))⟩,⟨(some 80),(.p (.pick (.tmp 71) (.tmp 79) (.val (.bool false)))),none⟩,⟨(some 81),(.p (.mov (.tmp 80))),none⟩,⟨(some 82),(.p (.mov (.tmp 5))),(some (81,true))⟩,⟨(some 83),(.p (.iaddr 3 (.tmp 82) (.val (.int .i64 (.ofNat 2))))),(some (81,true))⟩,⟨(some 84),(.p (.faddr 2 (.tmp 83))),(some (81,true))⟩,⟨(some 85),(.load1 (.tmp 84)),(some (81,true))⟩,⟨(some 86),(.p (.iaddr 1 (.tmp 85) (.val (.int .i64 (.ofNat 0))))),(some (81,true))⟩,⟨(some 87),(.load1 (.tmp 86)),(some (81,true))⟩,⟨(some 88),(.p (.iaddr 4 (.tmp 87) (.val (.int .i64 (.ofNat 0))))),(some (81,true))⟩,⟨(some 89),(.p (.faddr 2 (.tmp 88))),(some (81,true))⟩,⟨(some 90),(.load1 (.tmp 89)),(some (81,true))⟩,⟨(some 91),(.p (.bin .eql (.tmp 90) (.val (.int .i64 (.ofNat 9))))),(some (81,true))⟩,⟨(some 92),(.p (.pick (.tmp 81) (.tmp 91) (.val (.bool false)))),none⟩,⟨(some 93),(.p (.mov (.tmp 92))),none⟩,⟨(some 94),(.p (.mov (.tmp 5))),(some (93,true))⟩,⟨(some 95),(.p (.iaddr 3 (.tmp 94) (.val (.int .i64 (.ofNat 1))))),(some (93,true))⟩,⟨(some 96),(.p (.faddr 1 (.tmp 95))),(some (93,true))⟩,⟨(some 97),(.load1 (.tmp 96)),(some (93,true))⟩,⟨(some 98),(.p (.bin .eql (.tmp 97) (.val (.int .i64 (.ofNat 1))))),(some (93,true))⟩,⟨(some 99),(.p (.pick (.tmp 93) (.tmp 98) (.val (.bool false)))),none⟩,⟨(some 100),(.p (.mov (.tmp 99))),none⟩,⟨(some 101),(.p (.mov (.tmp 7))),(some (100,true))⟩,⟨(some 102),(.p (.lenb (.tmp 101))),(some (100,true))⟩,⟨(some 103),(.p (.bin .eql (.tmp 102) (.val (.int .i64 (.ofNat 2))))),(some (100,true))⟩,⟨(some 104),(.p (.pick (.tmp 100) (.tmp 103) (.val (.bool false)))),none⟩,⟨(some 105),(.p (.mov (.tmp 104))),none⟩,⟨(some 106),(.p (.mov (.tmp 7))),(some (105,true))⟩,⟨(some 107),(.p (.iaddr 3 (.tmp 106) (.val (.int .i64 (.ofNat 1))))),(some (105,true))⟩,⟨(some 108),(.p (.faddr 0 (.tmp 107))),(some (105,true))⟩,⟨(some 109),(.load1 (.tmp 108)),(some (105,true))⟩,⟨(some 110),(.p (.bin .eql (.tmp 109) (.val (.int .i64 (.ofNat 3))))),(some (105,true))⟩,⟨(some 111),(.p (.pick (.tmp 105) (.tmp 110) (.val (.bool false)))),none⟩,⟨(some 112),(.p (.mov (.tmp 111))),none⟩,⟨(some 113),(.p (.mov (.tmp 6))),(some (112,true))⟩,⟨(some 114),(.p (.mov (.tmp 4))),(some (112,true))⟩,⟨(some 115),(.e (.call 24 [(.tmp 113),(.tmp 114)])),(some (112,true))⟩,⟨(some 116),(.p (.pick (.tmp 112) (.tmp 115) (.val (.bool false)))),none⟩,⟨(some 117),(.p (.mov (.tmp 116))),none⟩,⟨(some 118),(.p (.faddr 0 (.tmp 9))),(some (117,true))⟩,⟨(some 119),(.load1 (.tmp 118)),(some (117,true))⟩,⟨(some 120),(.p (.bin .eql (.tmp 119) (.val (.int .i64 (.ofNat 1))))),(some (117,true))⟩,⟨(some 121),(.p (.pick (.tmp 117) (.tmp 120) (.val (.bool false)))),none⟩,⟨(some 0),(.p (.mov (.tmp 121))),none⟩])
 (.ret)))))))),[.tmp 0]⟩
theorem v34 : IsFun Try.prog 34 m34 := ⟨_, Try.func34, by kernel_rfl, by kernel_rfl⟩
def m38 : Fun := Go.Lib.M71 Go.Proofs.Ytnbmmnjihipahaa.sa.F0
theorem v38 : IsFun Try.prog 38 m38 := ⟨_, Try.func38, by kernel_rfl, by kernel_rfl⟩
def m39 : Fun := Go.Lib.M105 Go.Proofs.Ytnbmmnjihipahaa.sa.F0
theorem v39 : IsFun Try.prog 39 m39 := ⟨_, Try.func39, by kernel_rfl, by kernel_rfl⟩
def m52 : Fun := Go.Lib.M36 Go.Proofs.Ytnbmmnjihipahaa.sa.F0
theorem v52 : IsFun Try.prog 52 m52 := ⟨_, Try.func52, by kernel_rfl, by kernel_rfl⟩
def m53 : Fun := Go.Lib.M37 Go.Proofs.Ytnbmmnjihipahaa.sa.F0
theorem v53 : IsFun Try.prog 53 m53 := ⟨_, Try.func53, by kernel_rfl, by kernel_rfl⟩
def m54 : Fun := Go.Lib.M26 Go.Proofs.Ytnbmmnjihipahaa.sa.F0
theorem v54 : IsFun Try.prog 54 m54 := ⟨_, Try.func54, by kernel_rfl, by kernel_rfl⟩
def m55 : Fun := Go.Lib.M38 Go.Proofs.Ytnbmmnjihipahaa.sa.F0
theorem v55 : IsFun Try.prog 55 m55 := ⟨_, Try.func55, by kernel_rfl, by kernel_rfl⟩
def m56 : Fun := Go.Lib.M1 Go.Proofs.Ytnbmmnjihipahaa.sa.F0
theorem v56 : IsFun Try.prog 56 m56 := ⟨_, Try.func56, by kernel_rfl, by kernel_rfl⟩
def m57 : Fun := Go.Lib.M3 Go.Proofs.Ytnbmmnjihipahaa.sa.F0
theorem v57 : IsFun Try.prog 57 m57 := ⟨_, Try.func57, by kernel_rfl, by kernel_rfl⟩
def m58 : Fun := Go.Lib.M39 Go.Proofs.Ytnbmmnjihipahaa.sa.F0
theorem v58 : IsFun Try.prog 58 m58 := ⟨_, Try.func58, by kernel_rfl, by kernel_rfl⟩
def m60 : Fun := Go.Lib.M2 Go.Proofs.Ytnbmmnjihipahaa.sa.F0
theorem v60 : IsFun Try.prog 60 m60 := ⟨_, Try.func60, by kernel_rfl, by kernel_rfl⟩
def m61 : Fun := Go.Lib.M4 Go.Proofs.Ytnbmmnjihipahaa.sa.F0
theorem v61 : IsFun Try.prog 61 m61 := ⟨_, Try.func61, by kernel_rfl, by kernel_rfl⟩
def m62 : Fun := Go.Lib.M5 Go.Proofs.Ytnbmmnjihipahaa.sa.F0
theorem v62 : IsFun Try.prog 62 m62 := ⟨_, Try.func62, by kernel_rfl, by kernel_rfl⟩
def m63 : Fun := Go.Lib.M40 Go.Proofs.Ytnbmmnjihipahaa.sa.F0
theorem v63 : IsFun Try.prog 63 m63 := ⟨_, Try.func63, by kernel_rfl, by kernel_rfl⟩
def m64 : Fun := Go.Lib.M47 Go.Proofs.Ytnbmmnjihipahaa.sa.F0
theorem v64 : IsFun Try.prog 64 m64 := ⟨_, Try.func64, by kernel_rfl, by kernel_rfl⟩
def m67 : Fun := Go.Lib.M50 Go.Proofs.Ytnbmmnjihipahaa.sa.F0
theorem v67 : IsFun Try.prog 67 m67 := ⟨_, Try.func67, by kernel_rfl, by kernel_rfl⟩
def m69 : Fun := Go.Lib.M72 Go.Proofs.Ytnbmmnjihipahaa.sa.F0
theorem v69 : IsFun Try.prog 69 m69 := ⟨_, Try.func69, by kernel_rfl, by kernel_rfl⟩
def m70 : Fun := Go.Lib.M73 Go.Proofs.Ytnbmmnjihipahaa.sa.F0
theorem v70 : IsFun Try.prog 70 m70 := ⟨_, Try.func70, by kernel_rfl, by kernel_rfl⟩
def m71 : Fun := Go.Lib.M65 Go.Proofs.Ytnbmmnjihipahaa.sa.F0
theorem v71 : IsFun Try.prog 71 m71 := ⟨_, Try.func71, by kernel_rfl, by kernel_rfl⟩
def m72 : Fun := Go.Lib.M74 Go.Proofs.Ytnbmmnjihipahaa.sa.F0
theorem v72 : IsFun Try.prog 72 m72 := ⟨_, Try.func72, by kernel_rfl, by kernel_rfl⟩
def m73 : Fun := Go.Lib.M75 Go.Proofs.Ytnbmmnjihipahaa.sa.F0
theorem v73 : IsFun Try.prog 73 m73 := ⟨_, Try.func73, by kernel_rfl, by kernel_rfl⟩
def m74 : Fun := Go.Lib.M76 Go.Proofs.Ytnbmmnjihipahaa.sa.F0
theorem v74 : IsFun Try.prog 74 m74 := ⟨_, Try.func74, by kernel_rfl, by kernel_rfl⟩
def m75 : Fun := ⟨5,1,.seq (.region [⟨(some 2),(.a (.new [.bool false,.int .i64 (.ofNat 0),.int .i64 (.ofNat 0),.nilslice])),none⟩])
 (.seq (.region [⟨(some 3),(.p (.mov (.tmp 0))),none⟩,⟨(some 4),(.p (.build [.bool false,.int .i64 (.ofNat 0),.int .i64 (.ofNat 0),.nilslice] [(1,1,(.val (.int .i64 (.ofNat 1)))),(2,1,(.tmp 3))])),none⟩,⟨none,(.e (.store 4 (.tmp 2) (.tmp 4))),none⟩])
 (.ret)),[.celln 4 2]⟩
theorem v75 : IsFun Try.prog 75 m75 := ⟨_, Try.func75, by kernel_rfl, by kernel_rfl⟩
def m77 : Fun := Go.Lib.M77 Go.Proofs.Ytnbmmnjihipahaa.sa.F0
theorem v77 : IsFun Try.prog 77 m77 := ⟨_, Try.func77, by kernel_rfl, by kernel_rfl⟩
def m84 : Fun := Go.Lib.M41 Go.Proofs.Ytnbmmnjihipahaa.sa.F0
theorem v84 : IsFun Try.prog 84 m84 := ⟨_, Try.func84, by kernel_rfl, by kernel_rfl⟩
def m85 : Fun := Go.Lib.M13 Go.Proofs.Ytnbmmnjihipahaa.sa.F0
theorem v85 : IsFun Try.prog 85 m85 := ⟨_, Try.func85, by kernel_rfl, by kernel_rfl⟩
def m86 : Fun := Go.Lib.M27 Go.Proofs.Ytnbmmnjihipahaa.sa.F0
theorem v86 : IsFun Try.prog 86 m86 := ⟨_, Try.func86, by kernel_rfl, by kernel_rfl⟩
def m87 : Fun := Go.Lib.M9 Go.Proofs.Ytnbmmnjihipahaa.sa.F0
theorem v87 : IsFun Try.prog 87 m87 := ⟨_, Try.func87, by kernel_rfl, by kernel_rfl⟩
def m88 : Fun := Go.Lib.M8 Go.Proofs.Ytnbmmnjihipahaa.sa.F0
theorem v88 : IsFun Try.prog 88 m88 := ⟨_, Try.func88, by kernel_rfl, by kernel_rfl⟩
def m89 : Fun := Go.Lib.M10 Go.Proofs.Ytnbmmnjihipahaa.sa.F0
theorem v89 : IsFun Try.prog 89 m89 := ⟨_, Try.func89, by kernel_rfl, by kernel_rfl⟩
def m90 : Fun := Go.Lib.M11 Go.Proofs.Ytnbmmnjihipahaa.sa.F0
theorem v90 : IsFun Try.prog 90 m90 := ⟨_, Try.func90, by kernel_rfl, by kernel_rfl⟩
def m91 : Fun := Go.Lib.M12 Go.Proofs.Ytnbmmnjihipahaa.sa.F0
theorem v91 : IsFun Try.prog 91 m91 := ⟨_, Try.func91, by kernel_rfl, by kernel_rfl⟩
def m92 : Fun := Go.Lib.M14 Go.Proofs.Ytnbmmnjihipahaa.sa.F0
theorem v92 : IsFun Try.prog 92 m92 := ⟨_, Try.func92, by kernel_rfl, by kernel_rfl⟩
def m93 : Fun := Go.Lib.M42 Go.Proofs.Ytnbmmnjihipahaa.sa.F0
theorem v93 : IsFun Try.prog 93 m93 := ⟨_, Try.func93, by kernel_rfl, by kernel_rfl⟩
def m95 : Fun := Go.Lib.M67 Go.Proofs.Ytnbmmnjihipahaa.sa.F0
theorem v95 : IsFun Try.prog 95 m95 := ⟨_, Try.func95, by kernel_rfl, by kernel_rfl⟩
def m96 : Fun := Go.Lib.M66 Go.Proofs.Ytnbmmnjihipahaa.sa.F0
theorem v96 : IsFun Try.prog 96 m96 := ⟨_, Try.func96, by kernel_rfl, by kernel_rfl⟩
end Go.Proofs.Ytnbmmnjihipahaa
end

section
set_option maxRecDepth 100000
namespace Go.Proofs.Ytnbmmnjihipahaa
open Go.Vm
def m97 : Fun := Go.Lib.M68 Go.Proofs.Ytnbmmnjihipahaa.sa.F0
theorem v97 : IsFun Try.prog 97 m97 := ⟨_, Try.func97, by kernel_rfl, by kernel_rfl⟩
def m98 : Fun := Go.Lib.M69 Go.Proofs.Ytnbmmnjihipahaa.sa.F0
theorem v98 : IsFun Try.prog 98 m98 := ⟨_, Try.func98, by kernel_rfl, by kernel_rfl⟩
def m99 : Fun := Go.Lib.M79 Go.Proofs.Ytnbmmnjihipahaa.sa.F0
theorem v99 : IsFun Try.prog 99 m99 := ⟨_, Try.func99, by kernel_rfl, by kernel_rfl⟩
def m100 : Fun := Go.Lib.M78 Go.Proofs.Ytnbmmnjihipahaa.sa.F0
theorem v100 : IsFun Try.prog 100 m100 := ⟨_, Try.func100, by kernel_rfl, by kernel_rfl⟩
def m101 : Fun := Go.Lib.M80 Go.Proofs.Ytnbmmnjihipahaa.sa.F0
theorem v101 : IsFun Try.prog 101 m101 := ⟨_, Try.func101, by kernel_rfl, by kernel_rfl⟩
def m102 : Fun := Go.Lib.M81 Go.Proofs.Ytnbmmnjihipahaa.sa.F0
theorem v102 : IsFun Try.prog 102 m102 := ⟨_, Try.func102, by kernel_rfl, by kernel_rfl⟩
def m103 : Fun := Go.Lib.M82 Go.Proofs.Ytnbmmnjihipahaa.sa.F0
theorem v103 : IsFun Try.prog 103 m103 := ⟨_, Try.func103, by kernel_rfl, by kernel_rfl⟩
def m112 : Fun := Go.Lib.M43 Go.Proofs.Ytnbmmnjihipahaa.sa.F0
theorem v112 : IsFun Try.prog 112 m112 := ⟨_, Try.func112, by kernel_rfl, by kernel_rfl⟩
def m113 : Fun := Go.Lib.M44 Go.Proofs.Ytnbmmnjihipahaa.sa.F0
theorem v113 : IsFun Try.prog 113 m113 := ⟨_, Try.func113, by kernel_rfl, by kernel_rfl⟩
def m114 : Fun := Go.Lib.M28 Go.Proofs.Ytnbmmnjihipahaa.sa.F0
theorem v114 : IsFun Try.prog 114 m114 := ⟨_, Try.func114, by kernel_rfl, by kernel_rfl⟩
def m115 : Fun := Go.Lib.M29 Go.Proofs.Ytnbmmnjihipahaa.sa.F0
theorem v115 : IsFun Try.prog 115 m115 := ⟨_, Try.func115, by kernel_rfl, by kernel_rfl⟩
def m116 : Fun := Go.Lib.M18 Go.Proofs.Ytnbmmnjihipahaa.sa.F0
theorem v116 : IsFun Try.prog 116 m116 := ⟨_, Try.func116, by kernel_rfl, by kernel_rfl⟩
def m117 : Fun := Go.Lib.M19 Go.Proofs.Ytnbmmnjihipahaa.sa.F0
theorem v117 : IsFun Try.prog 117 m117 := ⟨_, Try.func117, by kernel_rfl, by kernel_rfl⟩
def m121 : Fun := Go.Lib.M84 Go.Proofs.Ytnbmmnjihipahaa.sa.F0
theorem v121 : IsFun Try.prog 121 m121 := ⟨_, Try.func121, by kernel_rfl, by kernel_rfl⟩
def m127 : Fun := Go.Lib.M30 Go.Proofs.Ytnbmmnjihipahaa.sa.F0
theorem v127 : IsFun Try.prog 127 m127 := ⟨_, Try.func127, by kernel_rfl, by kernel_rfl⟩
def m128 : Fun := Go.Lib.M85 Go.Proofs.Ytnbmmnjihipahaa.sa.F0
theorem v128 : IsFun Try.prog 128 m128 := ⟨_, Try.func128, by kernel_rfl, by kernel_rfl⟩
def m131 : Fun := Go.Lib.M7 Go.Proofs.Ytnbmmnjihipahaa.sa.F0
theorem v131 : IsFun Try.prog 131 m131 := ⟨_, Try.func131, by kernel_rfl, by kernel_rfl⟩
def m132 : Fun := Go.Lib.M31 Go.Proofs.Ytnbmmnjihipahaa.sa.F0
theorem v132 : IsFun Try.prog 132 m132 := ⟨_, Try.func132, by kernel_rfl, by kernel_rfl⟩
def m133 : Fun := Go.Lib.M86 Go.Proofs.Ytnbmmnjihipahaa.sa.F0
theorem v133 : IsFun Try.prog 133 m133 := ⟨_, Try.func133, by kernel_rfl, by kernel_rfl⟩
def m135 : Fun := Go.Lib.M16 Go.Proofs.Ytnbmmnjihipahaa.sa.F0
theorem v135 : IsFun Try.prog 135 m135 := ⟨_, Try.func135, by kernel_rfl, by kernel_rfl⟩
def m136 : Fun := Go.Lib.M17 Go.Proofs.Ytnbmmnjihipahaa.sa.F0
theorem v136 : IsFun Try.prog 136 m136 := ⟨_, Try.func136, by kernel_rfl, by kernel_rfl⟩
def m137 : Fun := Go.Lib.M21 Go.Proofs.Ytnbmmnjihipahaa.sa.F0
theorem v137 : IsFun Try.prog 137 m137 := ⟨_, Try.func137, by kernel_rfl, by kernel_rfl⟩
def m138 : Fun := Go.Lib.M6 Go.Proofs.Ytnbmmnjihipahaa.sa.F0
theorem v138 : IsFun Try.prog 138 m138 := ⟨_, Try.func138, by kernel_rfl, by kernel_rfl⟩
def m140 : Fun := Go.Lib.M15 Go.Proofs.Ytnbmmnjihipahaa.sa.F0
theorem v140 : IsFun Try.prog 140 m140 := ⟨_, Try.func140, by kernel_rfl, by kernel_rfl⟩
end Go.Proofs.Ytnbmmnjihipahaa
end

section
set_option maxRecDepth 100000
namespace Go.Proofs.Ytnbmmnjihipahaa
open Go.Vm
def funs : T Fun := (.node (.node (.node (.node (.node (.node (.node (.node .leaf (some m127) .leaf) (some m63) .leaf) (some m31) (.node .leaf (some m95) .leaf)) (some m15) .leaf) none (.node (.node (.node (.node .leaf (some m135) .leaf) (some m71) .leaf) (some m39) (.node .leaf (some m103) .leaf)) (some m23) (.node (.node .leaf (some m87) .leaf) (some m55) .leaf))) none (.node (.node (.node (.node (.node .leaf (some m131) .leaf) (some m67) .leaf) none (.node .leaf (some m99) .leaf)) (some m19) (.node .leaf none (.node .leaf (some m115) .leaf))) (some m11) (.node (.node (.node .leaf (some m75) .leaf) none .leaf) (some m27) (.node (.node .leaf (some m91) .leaf) none .leaf)))) none (.node (.node (.node (.node .leaf (some m33) (.node .leaf (some m97) .leaf)) (some m17) (.node .leaf none (.node .leaf (some m113) .leaf))) none (.node (.node (.node (.node .leaf (some m137) .leaf) (some m73) .leaf) none .leaf) (some m25) (.node (.node .leaf (some m89) .leaf) (some m57) (.node .leaf (some m121) .leaf)))) none (.node (.node (.node (.node (.node .leaf (some m133) .leaf) (some m69) .leaf) none (.node .leaf (some m101) .leaf)) (some m21) (.node (.node .leaf (some m85) .leaf) (some m53) (.node .leaf (some m117) .leaf))) none (.node (.node (.node .leaf (some m77) .leaf) none .leaf) none (.node (.node .leaf (some m93) .leaf) (some m61) .leaf))))) none (.node (.node (.node (.node (.node (.node (.node .leaf (some m128) .leaf) (some m64) .leaf) none (.node .leaf (some m96) .leaf)) none (.node .leaf none (.node .leaf (some m112) .leaf))) none (.node (.node (.node (.node .leaf (some m136) .leaf) (some m72) .leaf) none .leaf) (some m24) (.node (.node .leaf (some m88) .leaf) (some m56) .leaf))) none (.node (.node (.node (.node (.node .leaf (some m132) .leaf) none .leaf) none (.node .leaf (some m100) .leaf)) none (.node (.node .leaf (some m84) .leaf) (some m52) (.node .leaf (some m116) .leaf))) none (.node (.node (.node (.node .leaf (some m140) .leaf) none .leaf) none .leaf) none (.node (.node .leaf (some m92) .leaf) (some m60) .leaf)))) none (.node (.node (.node (.node .leaf (some m34) (.node .leaf (some m98) .leaf)) (some m18) (.node .leaf none (.node .leaf (some m114) .leaf))) none (.node (.node (.node (.node .leaf (some m138) .leaf) (some m74) .leaf) none .leaf) none (.node (.node .leaf (some m90) .leaf) (some m58) .leaf))) none (.node (.node (.node (.node .leaf (some m70) .leaf) (some m38) (.node .leaf (some m102) .leaf)) (some m22) (.node (.node .leaf (some m86) .leaf) (some m54) .leaf)) none (.node .leaf none (.node .leaf (some m62) .leaf))))))
def ints : List Nat := [2,3,5,6,12,21,56,72,147,191,192,193,196,197]
theorem intsOk : IntsOk Try.prog ints := ints_of (by kernel_rfl)
def mach (tab : Tab) : Vm.Prog := ⟨funs, ⟨tab, ints⟩⟩
theorem valid (tab : Tab) : Valid Try.prog (mach tab) := valid_of (show AllT (IsFun Try.prog) 1 0 funs from ⟨trivial, ⟨trivial, ⟨trivial, ⟨trivial, ⟨v15, ⟨v31, ⟨v63, ⟨v127, trivial, trivial⟩, trivial⟩, ⟨v95, trivial, trivial⟩⟩, trivial⟩, ⟨v23, ⟨v39, ⟨v71, ⟨v135, trivial, trivial⟩, trivial⟩, ⟨v103, trivial, trivial⟩⟩, ⟨v55, ⟨v87, trivial, trivial⟩, trivial⟩⟩⟩, ⟨v11, ⟨v19, ⟨trivial, ⟨v67, ⟨v131, trivial, trivial⟩, trivial⟩, ⟨v99, trivial, trivial⟩⟩, ⟨trivial, trivial, ⟨v115, trivial, trivial⟩⟩⟩, ⟨v27, ⟨trivial, ⟨v75, trivial, trivial⟩, trivial⟩, ⟨trivial, ⟨v91, trivial, trivial⟩, trivial⟩⟩⟩⟩, ⟨trivial, ⟨trivial, ⟨v17, ⟨v33, trivial, ⟨v97, trivial, trivial⟩⟩, ⟨trivial, trivial, ⟨v113, trivial, trivial⟩⟩⟩, ⟨v25, ⟨trivial, ⟨v73, ⟨v137, trivial, trivial⟩, trivial⟩, trivial⟩, ⟨v57, ⟨v89, trivial, trivial⟩, ⟨v121, trivial, trivial⟩⟩⟩⟩, ⟨trivial, ⟨v21, ⟨trivial, ⟨v69, ⟨v133, trivial, trivial⟩, trivial⟩, ⟨v101, trivial, trivial⟩⟩, ⟨v53, ⟨v85, trivial, trivial⟩, ⟨v117, trivial, trivial⟩⟩⟩, ⟨trivial, ⟨trivial, ⟨v77, trivial, trivial⟩, trivial⟩, ⟨v61, ⟨v93, trivial, trivial⟩, trivial⟩⟩⟩⟩⟩, ⟨trivial, ⟨trivial, ⟨trivial, ⟨trivial, ⟨trivial, ⟨v64, ⟨v128, trivial, trivial⟩, trivial⟩, ⟨v96, trivial, trivial⟩⟩, ⟨trivial, trivial, ⟨v112, trivial, trivial⟩⟩⟩, ⟨v24, ⟨trivial, ⟨v72, ⟨v136, trivial, trivial⟩, trivial⟩, trivial⟩, ⟨v56, ⟨v88, trivial, trivial⟩, trivial⟩⟩⟩, ⟨trivial, ⟨trivial, ⟨trivial, ⟨trivial, ⟨v132, trivial, trivial⟩, trivial⟩, ⟨v100, trivial, trivial⟩⟩, ⟨v52, ⟨v84, trivial, trivial⟩, ⟨v116, trivial, trivial⟩⟩⟩, ⟨trivial, ⟨trivial, ⟨trivial, ⟨v140, trivial, trivial⟩, trivial⟩, trivial⟩, ⟨v60, ⟨v92, trivial, trivial⟩, trivial⟩⟩⟩⟩, ⟨trivial, ⟨trivial, ⟨v18, ⟨v34, trivial, ⟨v98, trivial, trivial⟩⟩, ⟨trivial, trivial, ⟨v114, trivial, trivial⟩⟩⟩, ⟨trivial, ⟨trivial, ⟨v74, ⟨v138, trivial, trivial⟩, trivial⟩, trivial⟩, ⟨v58, ⟨v90, trivial, trivial⟩, trivial⟩⟩⟩, ⟨trivial, ⟨v22, ⟨v38, ⟨v70, trivial, trivial⟩, ⟨v102, trivial, trivial⟩⟩, ⟨v54, ⟨v86, trivial, trivial⟩, trivial⟩⟩, ⟨trivial, trivial, ⟨v62, trivial, trivial⟩⟩⟩⟩⟩⟩)
end Go.Proofs.Ytnbmmnjihipahaa
end

section
set_option maxRecDepth 100000
namespace Go.Proofs.Ytnbmmnjihipahaa
open Go.Vm
theorem x118 : IsExt Try.prog (118, .cmp) := ⟨_, Try.func118, by kernel_rfl, by kernel_rfl, by kernel_rfl, by kernel_rfl⟩
theorem x119 : IsExt Try.prog (119, .add64) := ⟨_, Try.func119, by kernel_rfl, by kernel_rfl, by kernel_rfl, by kernel_rfl⟩
def exts : List (Nat × Ek) := [(118, .cmp), (119, .add64)]
theorem extsOk : ∀ x, x ∈ exts → IsExt Try.prog x := by
  intro x hx
  unfold exts at hx
  rcases List.mem_cons.1 hx with rfl | hx
  · exact x118
  rcases List.mem_cons.1 hx with rfl | hx
  · exact x119
  cases hx
end Go.Proofs.Ytnbmmnjihipahaa
end

section
set_option maxRecDepth 100000
namespace Go.Proofs.Ytnbmmnjihipahaa.sa
open Go.Vm Go.Dv Go.Lib
def pr : Vm.Prog := mach []
def xt : Ext := orX (constX [34]) (extBy exts)
theorem has1 : Go.Dv.Has pr xt F0 1 Go.Lib.M1 := ⟨by kernel_rfl, fun _ _ => rfl⟩
theorem has2 : Go.Dv.Has pr xt F0 2 Go.Lib.M2 := ⟨by kernel_rfl, fun _ _ => rfl⟩
theorem has3 : Go.Dv.Has pr xt F0 3 Go.Lib.M3 := ⟨by kernel_rfl, fun _ _ => rfl⟩
theorem has4 : Go.Dv.Has pr xt F0 4 Go.Lib.M4 := ⟨by kernel_rfl, fun _ _ => rfl⟩
theorem has5 : Go.Dv.Has pr xt F0 5 Go.Lib.M5 := ⟨by kernel_rfl, fun _ _ => rfl⟩
theorem has6 : Go.Dv.Has pr xt F0 6 Go.Lib.M6 := ⟨by kernel_rfl, fun _ _ => rfl⟩
theorem has7 : Go.Dv.Has pr xt F0 7 Go.Lib.M7 := ⟨by kernel_rfl, fun _ _ => rfl⟩
theorem has8 : Go.Dv.Has pr xt F0 8 Go.Lib.M8 := ⟨by kernel_rfl, fun _ _ => rfl⟩
theorem has9 : Go.Dv.Has pr xt F0 9 Go.Lib.M9 := ⟨by kernel_rfl, fun _ _ => rfl⟩
theorem has10 : Go.Dv.Has pr xt F0 10 Go.Lib.M10 := ⟨by kernel_rfl, fun _ _ => rfl⟩
theorem has11 : Go.Dv.Has pr xt F0 11 Go.Lib.M11 := ⟨by kernel_rfl, fun _ _ => rfl⟩
theorem has12 : Go.Dv.Has pr xt F0 12 Go.Lib.M12 := ⟨by kernel_rfl, fun _ _ => rfl⟩
theorem has13 : Go.Dv.Has pr xt F0 13 Go.Lib.M13 := ⟨by kernel_rfl, fun _ _ => rfl⟩
theorem has14 : Go.Dv.Has pr xt F0 14 Go.Lib.M14 := ⟨by kernel_rfl, fun _ _ => rfl⟩
theorem has15 : Go.Dv.Has pr xt F0 15 Go.Lib.M15 := ⟨by kernel_rfl, fun _ _ => rfl⟩
theorem has16 : Go.Dv.Has pr xt F0 16 Go.Lib.M16 := ⟨by kernel_rfl, fun _ _ => rfl⟩
theorem has17 : Go.Dv.Has pr xt F0 17 Go.Lib.M17 := ⟨by kernel_rfl, fun _ _ => rfl⟩
theorem has18 : Go.Dv.Has pr xt F0 18 Go.Lib.M18 := ⟨by kernel_rfl, fun _ _ => rfl⟩
theorem has19 : Go.Dv.Has pr xt F0 19 Go.Lib.M19 := ⟨by kernel_rfl, fun _ _ => rfl⟩
theorem has21 : Go.Dv.Has pr xt F0 21 Go.Lib.M21 := ⟨by kernel_rfl, fun _ _ => rfl⟩
theorem has22 : Go.Dv.Has pr xt F0 22 Go.Lib.M22 := ⟨by kernel_rfl, fun _ _ => rfl⟩
theorem has23 : Go.Dv.Has pr xt F0 23 Go.Lib.M23 := ⟨by kernel_rfl, fun _ _ => rfl⟩
theorem has24 : Go.Dv.Has pr xt F0 24 Go.Lib.M24 := ⟨by kernel_rfl, fun _ _ => rfl⟩
theorem has25 : Go.Dv.Has pr xt F0 25 Go.Lib.M25 := ⟨by kernel_rfl, fun _ _ => rfl⟩
theorem has26 : Go.Dv.Has pr xt F0 26 Go.Lib.M26 := ⟨by kernel_rfl, fun _ _ => rfl⟩
theorem has27 : Go.Dv.Has pr xt F0 27 Go.Lib.M27 := ⟨by kernel_rfl, fun _ _ => rfl⟩
theorem has28 : Go.Dv.Has pr xt F0 28 Go.Lib.M28 := ⟨by kernel_rfl, fun _ _ => rfl⟩
theorem has29 : Go.Dv.Has pr xt F0 29 Go.Lib.M29 := ⟨by kernel_rfl, fun _ _ => rfl⟩
theorem has30 : Go.Dv.Has pr xt F0 30 Go.Lib.M30 := ⟨by kernel_rfl, fun _ _ => rfl⟩
theorem has31 : Go.Dv.Has pr xt F0 31 Go.Lib.M31 := ⟨by kernel_rfl, fun _ _ => rfl⟩
theorem has32 : Go.Dv.Has pr xt F0 32 Go.Lib.M32 := ⟨by kernel_rfl, fun _ _ => rfl⟩
theorem has33 : Go.Dv.Has pr xt F0 33 Go.Lib.M33 := ⟨by kernel_rfl, fun _ _ => rfl⟩
theorem has34 : Go.Dv.Has pr xt F0 34 Go.Lib.M34 := ⟨by kernel_rfl, fun _ _ => rfl⟩
theorem has35 : Go.Dv.Has pr xt F0 35 Go.Lib.M35 := ⟨by kernel_rfl, fun _ _ => rfl⟩
theorem has36 : Go.Dv.Has pr xt F0 36 Go.Lib.M36 := ⟨by kernel_rfl, fun _ _ => rfl⟩
theorem has37 : Go.Dv.Has pr xt F0 37 Go.Lib.M37 := ⟨by kernel_rfl, fun _ _ => rfl⟩
theorem has38 : Go.Dv.Has pr xt F0 38 Go.Lib.M38 := ⟨by kernel_rfl, fun _ _ => rfl⟩
theorem has39 : Go.Dv.Has pr xt F0 39 Go.Lib.M39 := ⟨by kernel_rfl, fun _ _ => rfl⟩
theorem has40 : Go.Dv.Has pr xt F0 40 Go.Lib.M40 := ⟨by kernel_rfl, fun _ _ => rfl⟩
theorem has41 : Go.Dv.Has pr xt F0 41 Go.Lib.M41 := ⟨by kernel_rfl, fun _ _ => rfl⟩
theorem has42 : Go.Dv.Has pr xt F0 42 Go.Lib.M42 := ⟨by kernel_rfl, fun _ _ => rfl⟩
theorem has43 : Go.Dv.Has pr xt F0 43 Go.Lib.M43 := ⟨by kernel_rfl, fun _ _ => rfl⟩
theorem has44 : Go.Dv.Has pr xt F0 44 Go.Lib.M44 := ⟨by kernel_rfl, fun _ _ => rfl⟩
theorem has46 : Go.Dv.Has pr xt F0 46 Go.Lib.M46 := ⟨by kernel_rfl, fun _ _ => rfl⟩
theorem has47 : Go.Dv.Has pr xt F0 47 Go.Lib.M47 := ⟨by kernel_rfl, fun _ _ => rfl⟩
theorem has48 : Go.Dv.Has pr xt F0 48 Go.Lib.M48 := ⟨by kernel_rfl, fun _ _ => rfl⟩
theorem has49 : Go.Dv.Has pr xt F0 49 Go.Lib.M49 := ⟨by kernel_rfl, fun _ _ => rfl⟩
theorem has50 : Go.Dv.Has pr xt F0 50 Go.Lib.M50 := ⟨by kernel_rfl, fun _ _ => rfl⟩
theorem has65 : Go.Dv.Has pr xt F0 65 Go.Lib.M65 := ⟨by kernel_rfl, fun _ _ => rfl⟩
theorem has66 : Go.Dv.Has pr xt F0 66 Go.Lib.M66 := ⟨by kernel_rfl, fun _ _ => rfl⟩
theorem has67 : Go.Dv.Has pr xt F0 67 Go.Lib.M67 := ⟨by kernel_rfl, fun _ _ => rfl⟩
theorem has68 : Go.Dv.Has pr xt F0 68 Go.Lib.M68 := ⟨by kernel_rfl, fun _ _ => rfl⟩
theorem has69 : Go.Dv.Has pr xt F0 69 Go.Lib.M69 := ⟨by kernel_rfl, fun _ _ => rfl⟩
theorem has70 : Go.Dv.Has pr xt F0 70 Go.Lib.M70 := ⟨by kernel_rfl, fun _ _ => rfl⟩
theorem has71 : Go.Dv.Has pr xt F0 71 Go.Lib.M71 := ⟨by kernel_rfl, fun _ _ => rfl⟩
theorem has72 : Go.Dv.Has pr xt F0 72 Go.Lib.M72 := ⟨by kernel_rfl, fun _ _ => rfl⟩
theorem has73 : Go.Dv.Has pr xt F0 73 Go.Lib.M73 := ⟨by kernel_rfl, fun _ _ => rfl⟩
theorem has74 : Go.Dv.Has pr xt F0 74 Go.Lib.M74 := ⟨by kernel_rfl, fun _ _ => rfl⟩
theorem has75 : Go.Dv.Has pr xt F0 75 Go.Lib.M75 := ⟨by kernel_rfl, fun _ _ => rfl⟩
theorem has76 : Go.Dv.Has pr xt F0 76 Go.Lib.M76 := ⟨by kernel_rfl, fun _ _ => rfl⟩
theorem has77 : Go.Dv.Has pr xt F0 77 Go.Lib.M77 := ⟨by kernel_rfl, fun _ _ => rfl⟩
theorem has78 : Go.Dv.Has pr xt F0 78 Go.Lib.M78 := ⟨by kernel_rfl, fun _ _ => rfl⟩
theorem has79 : Go.Dv.Has pr xt F0 79 Go.Lib.M79 := ⟨by kernel_rfl, fun _ _ => rfl⟩
theorem has80 : Go.Dv.Has pr xt F0 80 Go.Lib.M80 := ⟨by kernel_rfl, fun _ _ => rfl⟩
theorem has81 : Go.Dv.Has pr xt F0 81 Go.Lib.M81 := ⟨by kernel_rfl, fun _ _ => rfl⟩
theorem has82 : Go.Dv.Has pr xt F0 82 Go.Lib.M82 := ⟨by kernel_rfl, fun _ _ => rfl⟩
theorem has84 : Go.Dv.Has pr xt F0 84 Go.Lib.M84 := ⟨by kernel_rfl, fun _ _ => rfl⟩
theorem has85 : Go.Dv.Has pr xt F0 85 Go.Lib.M85 := ⟨by kernel_rfl, fun _ _ => rfl⟩
theorem has86 : Go.Dv.Has pr xt F0 86 Go.Lib.M86 := ⟨by kernel_rfl, fun _ _ => rfl⟩
theorem has102 : Go.Dv.Has pr xt F0 102 Go.Lib.M102 := ⟨by kernel_rfl, fun _ _ => rfl⟩
theorem has105 : Go.Dv.Has pr xt F0 105 Go.Lib.M105 := ⟨by kernel_rfl, fun _ _ => rfl⟩
end Go.Proofs.Ytnbmmnjihipahaa.sa
end

section
set_option maxRecDepth 100000
namespace Go.Proofs.Ytnbmmnjihipahaa.sa
open Go.Vm
theorem awakeR : runs (mach []) (extBy exts) 1000000 34 [] Try.prog.globals.size = true := by decide +kernel
end Go.Proofs.Ytnbmmnjihipahaa.sa
end

section
set_option maxRecDepth 100000
namespace Go.Proofs.Ytnbmmnjihipahaa.sa
open Go.Vm Go.Dv Go.Lib
theorem hawake : FnD pr xt (F0 107) [] (.lit (.bool true)) := by
  intro H ψ S h vs s k
  simp only [VDl] at k
  subst k
  refine wpc_ext (v := .bool true) (h' := h) rfl ⟨ψ, S, _, H, .refl, s, ?_, rfl, rfl⟩
  simp [VD, atomV]
theorem x20 : ∀ args h, xt (F0 20) args h = extV .cmp args h := fun _ _ => rfl
theorem x45 : ∀ args h, xt (F0 45) args h = extV .add64 args h := fun _ _ => rfl
theorem hschm : HSchm pr xt F0 := ⟨has1, has2, has3, has4, has5, has6, has7, has8, has9, has10, has11, has12, has13, has14, has15, has16, has17, has18, has19, has21, x20⟩
theorem hlaw6 : HLaw6 pr xt F0 := ⟨has22, has23, has24, has25⟩
theorem hsrt : HSrt pr xt F0 := ⟨has26, has27, has28, has29, has30, has31⟩
theorem haggr : HAggr pr xt F0 := ⟨hsrt, hschm, has32, has33, has34, has35, has36, has37, has38, has39, has40, has41, has42, has43, has44⟩
theorem href6 : HRef6 pr xt F0 := ⟨has46, has47, has48, has49, has50⟩
theorem hpred : HPred pr xt F0 := ⟨hschm, has65, has66, has67, has68, has69⟩
theorem hmodl : HModl pr xt F0 := ⟨haggr, hpred, x45, has70, has71, has72, has73, has74, has75, has76, has77, has78, has79, has80, has81, has82⟩
theorem hlaw : HBack pr xt F0 := ⟨hmodl, hlaw6, href6, hawake, has102, has105⟩
theorem mixed : Try.prog.follows .mixedOrders = true := by kernel_rfl
theorem xt_ok {env : Env} : CallOk Try.prog env xt := orX_ok (constX_ok mixed (valid []) (extBy_rises _) (extBy_ok extsOk) rfl intsOk (n := 1000000) fun f hf => by
  rcases List.mem_cons.1 hf with rfl | hf
  · exact ⟨by kernel_rfl, awakeR⟩
  · cases hf) (extBy_ok extsOk)
theorem xt_rises : Rises xt := orX_rises (constX_rises _) (extBy_rises _)
end Go.Proofs.Ytnbmmnjihipahaa.sa
end
