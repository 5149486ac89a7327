/-
  Texts that the claim's last one rests on, joined.
-/
import Derived.Test.YtcpfgjkhjadgoaaRows
import Derived.Test.YtcpfgjkhjadgoaaBAggrOwni
import Derived.Test.YtcpfgjkhjadgoaaBAggrOwnh
import Derived.Test.YtcpfgjkhjadgoaaBAggrOwng
import Derived.Test.YtcpfgjkhjadgoaaBAggrOwnf
import Derived.Test.YtcpfgjkhjadgoaaBAggrOwnc

section
set_option maxRecDepth 100000
namespace Go.Proofs.Ytcpfgjkhjadgoaa
open Go.Vm
def m3 : Fun := Go.Lib.M63 Go.Proofs.Ytcpfgjkhjadgoaa.sa.F0
theorem v3 : IsFun Try.prog 3 m3 := ⟨_, Try.func3, by kernel_rfl, by kernel_rfl⟩
def m5 : Fun := Go.Lib.M23 Go.Proofs.Ytcpfgjkhjadgoaa.sa.F0
theorem v5 : IsFun Try.prog 5 m5 := ⟨_, Try.func5, by kernel_rfl, by kernel_rfl⟩
def m6 : Fun := Go.Lib.M22 Go.Proofs.Ytcpfgjkhjadgoaa.sa.F0
theorem v6 : IsFun Try.prog 6 m6 := ⟨_, Try.func6, by kernel_rfl, by kernel_rfl⟩
def m7 : Fun := Go.Lib.M32 Go.Proofs.Ytcpfgjkhjadgoaa.sa.F0
theorem v7 : IsFun Try.prog 7 m7 := ⟨_, Try.func7, by kernel_rfl, by kernel_rfl⟩
def m8 : Fun := Go.Lib.M64 Go.Proofs.Ytcpfgjkhjadgoaa.sa.F0
theorem v8 : IsFun Try.prog 8 m8 := ⟨_, Try.func8, by kernel_rfl, by kernel_rfl⟩
def m9 : Fun := Go.Lib.M33 Go.Proofs.Ytcpfgjkhjadgoaa.sa.F0
theorem v9 : IsFun Try.prog 9 m9 := ⟨_, Try.func9, by kernel_rfl, by kernel_rfl⟩
def m10 : Fun := Go.Lib.M34 Go.Proofs.Ytcpfgjkhjadgoaa.sa.F0
theorem v10 : IsFun Try.prog 10 m10 := ⟨_, Try.func10, by kernel_rfl, by kernel_rfl⟩
def m11 : Fun := Go.Lib.M35 Go.Proofs.Ytcpfgjkhjadgoaa.sa.F0
theorem v11 : IsFun Try.prog 11 m11 := ⟨_, Try.func11, by kernel_rfl, by kernel_rfl⟩
def m12 : Fun := Go.Lib.M48 Go.Proofs.Ytcpfgjkhjadgoaa.sa.F0
theorem v12 : IsFun Try.prog 12 m12 := ⟨_, Try.func12, by kernel_rfl, by kernel_rfl⟩
def m13 : Fun := ⟨155,0,.seq (.region [⟨(some 0),(.p (.mov (.val (.bool false)))),none⟩])
 (.seq (.region [⟨(some 1),(.p (.mov (.val (.func 30 [] [])))),none⟩])
 (.seq (.region [⟨(some 13),(.p (.build [.bool false,.int .i64 (.ofNat 0),.int .i64 (.ofNat 0),.nilslice] [(1,1,(.val (.int .i64 (.ofNat 1)))),(0,1,(.val (.bool true)))])),none⟩,⟨(some 2),(.a (.new [.bool false,.int .i64 (.ofNat 0),.int .i64 (.ofNat 0),.nilslice])),none⟩,⟨none,(.e (.store 4 (.tmp 2) (.tmp 13))),none⟩])
 (.seq (.dregion [⟨⟨(some 14),(.p (.mov (.tmp 1))),none⟩,0,1⟩,⟨⟨(some 15),(.e (.callv (.tmp 14) [(.val (.int .i64 (.ofNat 2)))])),none⟩,0,3⟩,⟨⟨(some 16),(.p (.mov (.tmp 1))),none⟩,0,3⟩,⟨⟨(some 17),(.e (.callv (.tmp 16) [(.val (.int .i64 (.ofNat 9223372036854775807)))])),none⟩,2,5⟩,⟨⟨(some 19),(.p (.mov (.tmp 1))),none⟩,0,5⟩,⟨⟨(some 20),(.e (.callv (.tmp 19) [(.val (.int .i64 (.ofNat 1)))])),none⟩,4,7⟩,⟨⟨(some 21),(.p (.mov (.tmp 1))),none⟩,0,7⟩,⟨⟨(some 22),(.e (.callv (.tmp 21) [(.val (.int .i64 (.ofNat 1)))])),none⟩,6,9⟩,⟨⟨(some 24),(.p (.mov (.tmp 1))),none⟩,0,9⟩,⟨⟨(some 25),(.e (.callv (.tmp 24) [(.val (.int .i64 (.ofNat 3)))])),none⟩,8,11⟩,⟨⟨(some 28),(.p (.mov (.tmp 1))),none⟩,0,11⟩,⟨⟨(some 29),(.e (.callv (.tmp 28) [(.val (.int .i64 (.ofNat 2)))])),none⟩,10,13⟩,⟨⟨(some 30),(.p (.mov (.tmp 1))),none⟩,0,13⟩,⟨⟨(some 31),(.e (.callv (.tmp 30) [(.val (.int .i64 (.negSucc 4)))])),none⟩,12,21⟩,⟨⟨(some 18),(.a (.bslice [.bool false,.int .i64 (.ofNat 0),.int .i64 (.ofNat 0),.nilslice,.bool false,.int .i64 (.ofNat 0),.int .i64 (.ofNat 0),.nilslice] 4 2 [(0,4,(.tmp 15)),(4,4,(.tmp 17))])),none⟩,4,21⟩,⟨⟨(some 23),(.a (.bslice [.bool false,.int .i64 (.ofNat 0),.int .i64 (.ofNat 0),.nilslice,.bool false,.int .i64 (.ofNat 0),.int .i64 (.ofNat 0),.nilslice] 4 2 [(0,4,(.tmp 20)),(4,4,(.tmp 22))])),none⟩,8,21⟩,⟨⟨(some 26),(.loadn 4 (.tmp 2)),none⟩,0,21⟩,⟨⟨(some 27),(.a (.bslice [.bool false,.int .i64 (.ofNat 0),.int .i64 (.ofNat 0),.nilslice,.bool false,.int .i64 (.ofNat 0),.int .i64 (.ofNat 0),.nilslice] 4 2 [(0,4,(.tmp 25)),(4,4,(.tmp 26))])),none⟩,10,21⟩,⟨⟨(some 32),(.a (.bslice [.bool false,.int .i64 (.ofNat 0),.int .i64 (.ofNat 0),.nilslice,.bool false,.int .i64 (.ofNat 0),.int .i64 (.ofNat 0),.nilslice] 4 2 [(0,4,(.tmp 29)),(4,4,(.tmp 31))])),none⟩,14,21⟩,⟨⟨(some 33),(.a (.bslice [.nilslice,.nilslice,.nilslice,.nilslice] 1 4 [(0,1,(.tmp 18)),(1,1,(.tmp 23)),(2,1,(.tmp 27)),(3,1,(.tmp 32))])),none⟩,14,21⟩,⟨⟨(some 3),(.p (.mov (.tmp 33))),none⟩,14,21⟩])
 (.seq (.region [⟨(some 35),(.p (.mov (.tmp 3))),none⟩,⟨(some 36),(.p (.build [.int .i64 (.ofNat 0),.int .i64 (.ofNat 0)] [(0,1,(.val (.int .i64 (.ofNat 1))))])),none⟩,⟨(some 37),(.p (.build [.int .i64 (.ofNat 0),.int .i64 (.ofNat 0)] [(0,1,(.val (.int .i64 (.ofNat 2)))),(1,1,(.val (.int .i64 (.ofNat 1))))])),none⟩,⟨(some 38),(.a (.bslice [.int .i64 (.ofNat 0),.int .i64 (.ofNat 0),.int .i64 (.ofNat 0),.int .i64 (.ofNat 0)] 2 2 [(0,2,(.tmp 36)),(2,2,(.tmp 37))])),none⟩,⟨(some 39),(.e (.call 7 [(.tmp 35),(.val (.int .i64 (.ofNat 0))),(.tmp 38)])),none⟩,⟨(some 34),(.p (.mov (.tmp 39))),none⟩,⟨(some 40),(.p (.ext (.tmp 34) 0)),none⟩,⟨(some 41),(.p (.ext (.tmp 34) 1)),none⟩,⟨(some 4),(.p (.mov (.tmp 40))),none⟩,⟨(some 5),(.p (.mov (.tmp 41))),none⟩])
 (.seq (.region [⟨(some 43),(.p (.mov (.tmp 3))),none⟩,⟨(some 44),(.p (.slc 1 (.tmp 43) none (some (.val (.int .i64 (.ofNat 2)))) none)),none⟩,⟨(some 45),(.p (.build [.int .i64 (.ofNat 0),.int .i64 (.ofNat 0)] [(0,1,(.val (.int .i64 (.ofNat 2)))),(1,1,(.val (.int .i64 (.ofNat 1))))])),none⟩,⟨(some 46),(.a (.bslice [.int .i64 (.ofNat 0),.int .i64 (.ofNat 0)] 2 1 [(0,2,(.tmp 45))])),none⟩,⟨(some 47),(.e (.call 7 [(.tmp 44),(.val (.int .i64 (.negSucc 0))),(.tmp 46)])),none⟩,⟨(some 42),(.p (.mov (.tmp 47))),none⟩,⟨(some 48),(.p (.ext (.tmp 42) 0)),none⟩,⟨(some 49),(.p (.ext (.tmp 42) 1)),none⟩,⟨(some 6),(.p (.mov (.tmp 48))),none⟩,⟨(some 7),(.p (.mov (.tmp 49))),none⟩])
 (.seq (.region [⟨(some 51),(.p (.build [.int .i64 (.ofNat 0),.int .i64 (.ofNat 0)] [(0,1,(.val (.int .i64 (.ofNat 1))))])),none⟩,⟨(some 52),(.p (.build [.int .i64 (.ofNat 0),.int .i64 (.ofNat 0)] [(0,1,(.val (.int .i64 (.ofNat 3)))),(1,1,(.val (.int .i64 (.ofNat 1))))])),none⟩,⟨(some 53),(.a (.bslice [.int .i64 (.ofNat 0),.int .i64 (.ofNat 0),.int .i64 (.ofNat 0),.int .i64 (.ofNat 0)] 2 2 [(0,2,(.tmp 51)),(2,2,(.tmp 52))])),none⟩,⟨(some 54),(.e (.call 7 [(.val (.nilslice)),(.val (.int .i64 (.negSucc 0))),(.tmp 53)])),none⟩,⟨(some 50),(.p (.mov (.tmp 54))),none⟩,⟨(some 55),(.p (.ext (.tmp 50) 0)),none⟩,⟨(some 56),(.p (.ext (.tmp 50) 1)),none⟩,⟨(some 8),(.p (.mov (.tmp 55))),none⟩,⟨(some 9),(.p (.mov (.tmp 56))),none⟩])
 (.seq (.dregion [⟨⟨(some 58),(.p (.mov (.tmp 1))),none⟩,0,1⟩,⟨⟨(some 59),(.e (.callv (.tmp 58) [(.val (.int .i64 (.ofNat 1)))])),none⟩,0,3⟩,⟨⟨(some 62),(.p (.mov (.tmp 1))),none⟩,0,3⟩,⟨⟨(some 63),(.e (.callv (.tmp 62) [(.val (.int .i64 (.ofNat 5)))])),none⟩,2,8⟩,⟨⟨(some 60),(.loadn 4 (.tmp 2)),none⟩,0,8⟩,⟨⟨(some 61),(.a (.bslice [.bool false,.int .i64 (.ofNat 0),.int .i64 (.ofNat 0),.nilslice,.bool false,.int .i64 (.ofNat 0),.int .i64 (.ofNat 0),.nilslice] 4 2 [(0,4,(.tmp 59)),(4,4,(.tmp 60))])),none⟩,2,8⟩,⟨⟨(some 64),(.p (.build [.int .i64 (.ofNat 0),.bool false,.bool false,.int .i64 (.ofNat 0),.int .i64 (.ofNat 0),.nilslice] [(0,1,(.val (.int .i64 (.ofNat 1)))),(1,1,(.val (.bool true))),(2,4,(.tmp 63))])),none⟩,4,8⟩,⟨⟨(some 65),(.a (.bslice [.int .i64 (.ofNat 0),.bool false,.bool false,.int .i64 (.ofNat 0),.int .i64 (.ofNat 0),.nilslice] 6 1 [(0,6,(.tmp 64))])),none⟩,4,8⟩,⟨⟨(some 66),(.e (.call 11 [(.tmp 61),(.tmp 65)])),none⟩,4,14⟩,⟨⟨(some 57),(.p (.mov (.tmp 66))),none⟩,9,14⟩,⟨⟨(some 67),(.p (.ext (.tmp 57) 0)),none⟩,9,14⟩,⟨⟨(some 68),(.p (.ext (.tmp 57) 1)),none⟩,9,14⟩,⟨⟨(some 10),(.p (.mov (.tmp 67))),none⟩,9,14⟩,⟨⟨(some 11),(.p (.mov (.tmp 68))),none⟩,9,14⟩])
 (.seq (.region [⟨(some 69),(.p (.mov (.tmp 3))),none⟩,⟨(some 70),(.a (.bslice [.int .i64 (.ofNat 0)] 1 1 [(0,1,(.val (.int .i64 (.ofNat 1))))])),none⟩,⟨(some 71),(.e (.call 10 [(.tmp 69),(.tmp 70)])),none⟩,⟨(some 12),(.p (.mov (.tmp 71))),none⟩])
 (.seq (.region [⟨(some 72),(.p (.mov (.tmp 5))),none⟩,⟨(some 73),(.p (.mov (.tmp 72))),none⟩,⟨(some 74),(.p (.mov (.tmp 4))),(some (73,true))⟩,⟨(some 75),(.p (.mov (.tmp 1))),(some (73,true))⟩,⟨(some 76),(.e (.callv (.tmp 75) [(.val (.int .i64 (.ofNat 1)))])),(some (73,true))⟩,⟨(some 77),(.p (.mov (.tmp 1))),(some (73,true))⟩,⟨(some 78),(.e (.callv (.tmp 77) [(.val (.int .i64 (.ofNat 1)))])),(some (73,true))⟩,⟨(some 79),(.p (.mov (.tmp 1))),(some (73,true))⟩,⟨(some 80),(.e (.callv (.tmp 79) [(.val (.int .i64 (.ofNat 1)))])),(some (73,true))⟩,⟨(some 81),(.a (.bslice [.bool false,.int .i64 (.ofNat 0),.int .i64 (.ofNat 0),.nilslice,.bool false,.int .i64 (.ofNat 0),.int .i64 (.ofNat 0),.nilslice,.bool false,.int .i64 (.ofNat 0),.int .i64 (.ofNat 0),.nilslice] 4 3 [(0,4,(.tmp 76)),(4,4,(.tmp 78)),(8,4,(.tmp 80))])),(some (73,true))⟩,⟨(some 82),(.p (.mov (.tmp 1))),(some (73,true))⟩,⟨(some 83),(.e (.callv (.tmp 82) [(.val (.int .i64 (.ofNat 2)))])),(some (73,true))⟩,⟨(some 84),(.p (.mov (.tmp 1))),(some (73,true))⟩,⟨(some 85),(.e (.callv (.tmp 84) [(.val (.int .i64 (.ofNat 2)))])),(some (73,true))⟩,⟨(some 86),(.p (.mov (.tmp 1))),(some (73,true))⟩,⟨(some 87),(.e (.callv (.tmp 86) [(.val (.int .i64 (.ofNat 9223372036854775802)))])),(some (73,true))⟩,⟨(some 88),(.a (.bslice [.bool false,.int .i64 (.ofNat 0),.int .i64 (.ofNat 0),.nilslice,.bool false,.int .i64 (.ofNat 0),.int .i64 (.ofNat 0),.nilslice,.bool false,.int .i64 (.ofNat 0),.int .i64 (.ofNat 0),.nilslice] 4 3 [(0,4,(.tmp 83)),(4,4,(.tmp 85)),(8,4,(.tmp 87))])),(some (73,true))⟩,⟨(some 89),(.p (.mov (.tmp 1))),(some (73,true))⟩,⟨(some 90),(.e (.callv (.tmp 89) [(.val (.int .i64 (.ofNat 3)))])),(some (73,true))⟩,⟨(some 91),(.p (.mov (.tmp 1))),(some (73,true))⟩,⟨(some 92),(.e (.callv (.tmp 91) [(.val (.int .i64 (.ofNat 1)))])),(some (73,true))⟩,⟨(some 93),(.p (.mov (.tmp 1))),(some (73,true))⟩,⟨(some 94),(.e (.callv (.tmp 93) [(.val (.int .i64 (.ofNat 0)))])),(some (73,true))⟩,⟨(some 95),(.a (.bslice [.bool false,.int .i64 (.ofNat 0),.int .i64 (.ofNat 0),.nilslice,.bool false,.int .i64 (.ofNat 0),.int .i64 (.ofNat 0),.nilslice,.bool false,.int .i64 (.ofNat 0),.int .i64 (.ofNat 0),.nilslice] 4 3 [(0,4,(.tmp 90)),(4,4,(.tmp 92)),(8,4,(.tmp 94))])),(some (73,true))⟩,⟨(some 96),(.a (.bslice [.nilslice,.nilslice,.nilslice] 1 3 [(0,1,(.tmp 81)),(1,1,(.tmp 88)),(2,1,(.tmp 95))])),(some (73,true))⟩,⟨(some 97),(.e (.call 12 [(.tmp 74),(.tmp 96)])),(some (73,true))⟩,⟨(some 98),(.p (.pick (.tmp 73) (.tmp 97) (.val (.bool false)))),none⟩,⟨(some 99),(.p (.mov (.tmp 98))),none⟩,⟨(some 100),(.p (.mov (.tmp 7))),(some (99,true))⟩,⟨(some 101),(.p (.not (.tmp 100))),(some (99,true))⟩,⟨(some 102),(.p (.pick (.tmp 99) (.tmp 101) (.val (.bool false)))),none⟩,⟨(some 103),(.p (.mov (.tmp 102))),none⟩,⟨(some 104),(.p (.mov (.tmp 9))),(some (103,true))⟩,⟨(some 105),(.p (.pick (.tmp 103) (.tmp 104) (.val (.bool false)))),none⟩,⟨(some 106),(.p (.mov (.tmp 105))),none⟩,⟨(some 107),(.p (.mov (.tmp 8))),(some (106,true))⟩,⟨(some 108),(.p (.mov (.tmp 1))),(some (106,true))⟩,⟨(some 109),(.e (.callv (.tmp 108) [(.val (.int .i64 (.ofNat 0)))])),(some (106,true))⟩,⟨(some 110),(.p (.build [.bool false,.int .i64 (.ofNat 0),.int .i64 (.ofNat 0),.nilslice] [(0,1,(.val (.bool true)))])),(some (106,true))⟩,⟨(some 111),(.a (.bslice [.bool false,.int .i64 (.ofNat 0),.int .i64 (.ofNat 0),.nilslice,.bool false,.int .i64 (.ofNat 0),.int .i64 (.ofNat 0),.nilslice] 4 2 [(0,4,(.tmp 109)),(4,4,(.tmp 110))])),(some (106,true))⟩,⟨(some 112),(.a (.bslice [.nilslice] 1 1 [(0,1,(.tmp 111))])),(some (106,true))⟩,⟨(some 113),(.e (.call 12 [(.tmp 107),(.tmp 112)])),(some (106,true))⟩,⟨(some 114),(.p (.pick (.tmp 106) (.tmp 113) (.val (.bool false)))),none⟩,⟨(some 115),(.p (.mov (.tmp 114))),none⟩,⟨(some 116),(.p (.mov (.tmp 11))),(some (115,true))⟩,⟨(some 117),(.p (.pick (.tmp 115) (.tmp 116) (.val (.bool false)))),none⟩,⟨(some 118),(.p (.mov (.tmp 117))),none⟩,⟨(some 119),(.p (.mov (.tmp 10))),(some (118,true))⟩,⟨(some 120),(.p (.lenb (.tmp 119))),(some (118,true))⟩,⟨(some 121),(.p (.bin .eql (.tmp 120) (.val (.int .i64 (.ofNat 2))))),(some (118,true))⟩,⟨(some 122),(.p (.pick (.tmp 118) (.tmp 121) (.val (.bool false)))),none⟩,⟨(some 123),(.p (.mov (.tmp 122))),none⟩,⟨(some 124),(.p (.mov (.tmp 10))),(some (123,true))⟩,⟨(some 125),(.p (.iaddr 4 (.tmp 124) (.val (.int .i64 (.ofNat 1))))),(some (123,true))⟩,⟨(some 126),(.p (.faddr 0 (.tmp 125))),(some (123,true))⟩,⟨(some 127),(.load1 (.tmp 126)),(some (123,true))⟩,⟨(some 128),(.p (.pick (.tmp 123) (.tmp 127) (.val (.bool false)))),none⟩,⟨(some 129),(.p (.mov (.tmp 128))),none⟩,⟨(some 130),(.p (.mov (.tmp 12))),(some (129,true))⟩,⟨(some 131),(.p (.lenb (.tmp 130))),(some (129,true))⟩,⟨(some 132),(.p (.bin .eql (.tmp 131) (.val (.int .i64 (.ofNat 4))))),(some (129,true))⟩,⟨(some 133),(.p (.pick (.tmp 129) (.tmp 132) (.val (.bool false)))),none⟩,⟨(some 134),(.p (.mov (.tmp 133))),none⟩,⟨(some 135),(.p (.mov (.tmp 12))),(some (134,true))⟩,⟨(some 136),(.p (.iaddr 1 (.tmp 135) (.val (.int .i64 (.ofNat 0))))),(some (134,true))⟩,⟨(some 137),(.load1 (.tmp 136)),(some (134,true))⟩,⟨(some 138),(.p (.lenb (.tmp 137))),(some (134,true))⟩,⟨(some 139),(.p (.bin .eql (.tmp 138) (.val (.int .i64 (.ofNat 1))))),(some (134,true))⟩,⟨(some 140),(.p (.pick (.tmp 134) (.tmp 139) (.val (.bool false)))),none⟩,⟨(some 141),(.p (.mov (.tmp 140))),none⟩,⟨(some 142),(.p (.mov (.tmp 12))),(some (141,true))⟩,⟨(some 143),(.p (.iaddr 1 (.tmp 142) (.val (.int .i64 (.ofNat 0))))),(some (141,true))⟩,⟨(some 144),(.load1 (.tmp 143)),(some (141,true))⟩,⟨(some 145),(.p (.iaddr 4 (.tmp 144) (.val (.int .i64 (.ofNat 0))))),(some (141,true))⟩,⟨(some 146),(.p (.faddr 0 (.tmp 145))),(some (141,true))⟩,⟨(some 147),(.load1 (.tmp 146)),(some (141,true))⟩,⟨(some 148),(.p (.pick (.tmp 141) (.tmp 147) (.val (.bool false)))),none⟩,⟨(some 149),(.p (.mov (.tmp 148))),none⟩,⟨(some 150),(.p (.mov (.tmp 3))),(some (149,true))⟩,⟨(some 151),(.e (.call 9 [(.tmp 150)])),(some (149,true))⟩,⟨(some 152),(.p (.lenb (.tmp 151))),(some (149,true))⟩,⟨(some 153),(.p (.bin .eql (.tmp 152) (.val (.int .i64 (.ofNat 4))))),(some (149,true))⟩,⟨(some 154),(.p (.pick (.tmp 149) (.tmp 153) (.val (.bool false)))),none⟩,⟨(some 0),(.p (.mov (.tmp 154))),none⟩])
 (.ret)))))))))),[.tmp 0]⟩
theorem v13 : IsFun Try.prog 13 m13 := ⟨_, Try.func13, by kernel_rfl, by kernel_rfl⟩
def m17 : Fun := Go.Lib.M24 Go.Proofs.Ytcpfgjkhjadgoaa.sa.F0
theorem v17 : IsFun Try.prog 17 m17 := ⟨_, Try.func17, by kernel_rfl, by kernel_rfl⟩
def m18 : Fun := Go.Lib.M36 Go.Proofs.Ytcpfgjkhjadgoaa.sa.F0
theorem v18 : IsFun Try.prog 18 m18 := ⟨_, Try.func18, by kernel_rfl, by kernel_rfl⟩
def m19 : Fun := Go.Lib.M37 Go.Proofs.Ytcpfgjkhjadgoaa.sa.F0
theorem v19 : IsFun Try.prog 19 m19 := ⟨_, Try.func19, by kernel_rfl, by kernel_rfl⟩
def m20 : Fun := Go.Lib.M26 Go.Proofs.Ytcpfgjkhjadgoaa.sa.F0
theorem v20 : IsFun Try.prog 20 m20 := ⟨_, Try.func20, by kernel_rfl, by kernel_rfl⟩
def m21 : Fun := Go.Lib.M38 Go.Proofs.Ytcpfgjkhjadgoaa.sa.F0
theorem v21 : IsFun Try.prog 21 m21 := ⟨_, Try.func21, by kernel_rfl, by kernel_rfl⟩
def m22 : Fun := Go.Lib.M1 Go.Proofs.Ytcpfgjkhjadgoaa.sa.F0
theorem v22 : IsFun Try.prog 22 m22 := ⟨_, Try.func22, by kernel_rfl, by kernel_rfl⟩
def m23 : Fun := Go.Lib.M3 Go.Proofs.Ytcpfgjkhjadgoaa.sa.F0
theorem v23 : IsFun Try.prog 23 m23 := ⟨_, Try.func23, by kernel_rfl, by kernel_rfl⟩
def m24 : Fun := Go.Lib.M39 Go.Proofs.Ytcpfgjkhjadgoaa.sa.F0
theorem v24 : IsFun Try.prog 24 m24 := ⟨_, Try.func24, by kernel_rfl, by kernel_rfl⟩
def m25 : Fun := Go.Lib.M2 Go.Proofs.Ytcpfgjkhjadgoaa.sa.F0
theorem v25 : IsFun Try.prog 25 m25 := ⟨_, Try.func25, by kernel_rfl, by kernel_rfl⟩
def m26 : Fun := Go.Lib.M4 Go.Proofs.Ytcpfgjkhjadgoaa.sa.F0
theorem v26 : IsFun Try.prog 26 m26 := ⟨_, Try.func26, by kernel_rfl, by kernel_rfl⟩
def m27 : Fun := Go.Lib.M5 Go.Proofs.Ytcpfgjkhjadgoaa.sa.F0
theorem v27 : IsFun Try.prog 27 m27 := ⟨_, Try.func27, by kernel_rfl, by kernel_rfl⟩
def m28 : Fun := Go.Lib.M40 Go.Proofs.Ytcpfgjkhjadgoaa.sa.F0
theorem v28 : IsFun Try.prog 28 m28 := ⟨_, Try.func28, by kernel_rfl, by kernel_rfl⟩
def m29 : Fun := Go.Lib.M49 Go.Proofs.Ytcpfgjkhjadgoaa.sa.F0
theorem v29 : IsFun Try.prog 29 m29 := ⟨_, Try.func29, by kernel_rfl, by kernel_rfl⟩
def m30 : Fun := ⟨5,1,.seq (.region [⟨(some 2),(.a (.new [.bool false,.int .i64 (.ofNat 0),.int .i64 (.ofNat 0),.nilslice])),none⟩])
 (.seq (.region [⟨(some 3),(.p (.mov (.tmp 0))),none⟩,⟨(some 4),(.p (.build [.bool false,.int .i64 (.ofNat 0),.int .i64 (.ofNat 0),.nilslice] [(1,1,(.val (.int .i64 (.ofNat 1)))),(2,1,(.tmp 3))])),none⟩,⟨none,(.e (.store 4 (.tmp 2) (.tmp 4))),none⟩])
 (.ret)),[.celln 4 2]⟩
theorem v30 : IsFun Try.prog 30 m30 := ⟨_, Try.func30, by kernel_rfl, by kernel_rfl⟩
def m38 : Fun := Go.Lib.M25 Go.Proofs.Ytcpfgjkhjadgoaa.sa.F0
theorem v38 : IsFun Try.prog 38 m38 := ⟨_, Try.func38, by kernel_rfl, by kernel_rfl⟩
def m41 : Fun := Go.Lib.M41 Go.Proofs.Ytcpfgjkhjadgoaa.sa.F0
theorem v41 : IsFun Try.prog 41 m41 := ⟨_, Try.func41, by kernel_rfl, by kernel_rfl⟩
def m42 : Fun := Go.Lib.M13 Go.Proofs.Ytcpfgjkhjadgoaa.sa.F0
theorem v42 : IsFun Try.prog 42 m42 := ⟨_, Try.func42, by kernel_rfl, by kernel_rfl⟩
def m43 : Fun := Go.Lib.M27 Go.Proofs.Ytcpfgjkhjadgoaa.sa.F0
theorem v43 : IsFun Try.prog 43 m43 := ⟨_, Try.func43, by kernel_rfl, by kernel_rfl⟩
def m44 : Fun := Go.Lib.M9 Go.Proofs.Ytcpfgjkhjadgoaa.sa.F0
theorem v44 : IsFun Try.prog 44 m44 := ⟨_, Try.func44, by kernel_rfl, by kernel_rfl⟩
def m45 : Fun := Go.Lib.M8 Go.Proofs.Ytcpfgjkhjadgoaa.sa.F0
theorem v45 : IsFun Try.prog 45 m45 := ⟨_, Try.func45, by kernel_rfl, by kernel_rfl⟩
def m46 : Fun := Go.Lib.M10 Go.Proofs.Ytcpfgjkhjadgoaa.sa.F0
theorem v46 : IsFun Try.prog 46 m46 := ⟨_, Try.func46, by kernel_rfl, by kernel_rfl⟩
def m47 : Fun := Go.Lib.M11 Go.Proofs.Ytcpfgjkhjadgoaa.sa.F0
theorem v47 : IsFun Try.prog 47 m47 := ⟨_, Try.func47, by kernel_rfl, by kernel_rfl⟩
def m48 : Fun := Go.Lib.M12 Go.Proofs.Ytcpfgjkhjadgoaa.sa.F0
theorem v48 : IsFun Try.prog 48 m48 := ⟨_, Try.func48, by kernel_rfl, by kernel_rfl⟩
def m49 : Fun := Go.Lib.M14 Go.Proofs.Ytcpfgjkhjadgoaa.sa.F0
theorem v49 : IsFun Try.prog 49 m49 := ⟨_, Try.func49, by kernel_rfl, by kernel_rfl⟩
def m50 : Fun := Go.Lib.M42 Go.Proofs.Ytcpfgjkhjadgoaa.sa.F0
theorem v50 : IsFun Try.prog 50 m50 := ⟨_, Try.func50, by kernel_rfl, by kernel_rfl⟩
def m51 : Fun := Go.Lib.M50 Go.Proofs.Ytcpfgjkhjadgoaa.sa.F0
theorem v51 : IsFun Try.prog 51 m51 := ⟨_, Try.func51, by kernel_rfl, by kernel_rfl⟩
def m62 : Fun := Go.Lib.M43 Go.Proofs.Ytcpfgjkhjadgoaa.sa.F0
theorem v62 : IsFun Try.prog 62 m62 := ⟨_, Try.func62, by kernel_rfl, by kernel_rfl⟩
def m63 : Fun := Go.Lib.M44 Go.Proofs.Ytcpfgjkhjadgoaa.sa.F0
theorem v63 : IsFun Try.prog 63 m63 := ⟨_, Try.func63, by kernel_rfl, by kernel_rfl⟩
def m64 : Fun := Go.Lib.M28 Go.Proofs.Ytcpfgjkhjadgoaa.sa.F0
theorem v64 : IsFun Try.prog 64 m64 := ⟨_, Try.func64, by kernel_rfl, by kernel_rfl⟩
def m65 : Fun := Go.Lib.M29 Go.Proofs.Ytcpfgjkhjadgoaa.sa.F0
theorem v65 : IsFun Try.prog 65 m65 := ⟨_, Try.func65, by kernel_rfl, by kernel_rfl⟩
def m66 : Fun := Go.Lib.M18 Go.Proofs.Ytcpfgjkhjadgoaa.sa.F0
theorem v66 : IsFun Try.prog 66 m66 := ⟨_, Try.func66, by kernel_rfl, by kernel_rfl⟩
def m67 : Fun := Go.Lib.M19 Go.Proofs.Ytcpfgjkhjadgoaa.sa.F0
theorem v67 : IsFun Try.prog 67 m67 := ⟨_, Try.func67, by kernel_rfl, by kernel_rfl⟩
def m72 : Fun := Go.Lib.M30 Go.Proofs.Ytcpfgjkhjadgoaa.sa.F0
theorem v72 : IsFun Try.prog 72 m72 := ⟨_, Try.func72, by kernel_rfl, by kernel_rfl⟩
def m74 : Fun := Go.Lib.M31 Go.Proofs.Ytcpfgjkhjadgoaa.sa.F0
theorem v74 : IsFun Try.prog 74 m74 := ⟨_, Try.func74, by kernel_rfl, by kernel_rfl⟩
end Go.Proofs.Ytcpfgjkhjadgoaa
end

section
set_option maxRecDepth 100000
namespace Go.Proofs.Ytcpfgjkhjadgoaa
open Go.Vm
def funs : T Fun := (.node (.node (.node (.node (.node (.node (.node .leaf (some m63) .leaf) none .leaf) none (.node .leaf (some m47) .leaf)) (some m7) (.node .leaf (some m23) .leaf)) (some m3) (.node (.node (.node (.node .leaf (some m67) .leaf) none .leaf) (some m19) (.node .leaf (some m51) .leaf)) (some m11) (.node (.node .leaf (some m43) .leaf) (some m27) .leaf))) none (.node (.node (.node (.node (.node .leaf (some m65) .leaf) none .leaf) (some m17) (.node .leaf (some m49) .leaf)) (some m9) (.node (.node .leaf (some m41) .leaf) (some m25) .leaf)) (some m5) (.node (.node .leaf (some m21) .leaf) (some m13) (.node (.node .leaf (some m45) .leaf) (some m29) .leaf)))) none (.node (.node (.node (.node (.node (.node .leaf (some m64) .leaf) none .leaf) none (.node .leaf (some m48) .leaf)) (some m8) (.node (.node (.node .leaf (some m72) .leaf) none .leaf) (some m24) .leaf)) none (.node (.node .leaf (some m20) .leaf) (some m12) (.node (.node .leaf (some m44) .leaf) (some m28) .leaf))) none (.node (.node (.node (.node (.node .leaf (some m66) .leaf) none .leaf) (some m18) (.node .leaf (some m50) .leaf)) (some m10) (.node (.node (.node .leaf (some m74) .leaf) (some m42) .leaf) (some m26) .leaf)) (some m6) (.node (.node (.node .leaf (some m38) .leaf) (some m22) .leaf) none (.node (.node .leaf (some m46) .leaf) (some m30) (.node .leaf (some m62) .leaf))))))
def ints : List Nat := [2,3,5,6,12,21,47,65,98,132,133,134,137,138]
theorem intsOk : IntsOk Try.prog ints := ints_of (by kernel_rfl)
def mach (tab : Tab) : Vm.Prog := { funs := funs, env := ⟨tab, ints⟩ }
theorem valid (tab : Tab) : Valid Try.prog (mach tab) := valid_of (show AllT (IsFun Try.prog) 1 0 funs from ⟨trivial, ⟨trivial, ⟨v3, ⟨v7, ⟨trivial, ⟨trivial, ⟨v63, trivial, trivial⟩, trivial⟩, ⟨v47, trivial, trivial⟩⟩, ⟨v23, trivial, trivial⟩⟩, ⟨v11, ⟨v19, ⟨trivial, ⟨v67, trivial, trivial⟩, trivial⟩, ⟨v51, trivial, trivial⟩⟩, ⟨v27, ⟨v43, trivial, trivial⟩, trivial⟩⟩⟩, ⟨v5, ⟨v9, ⟨v17, ⟨trivial, ⟨v65, trivial, trivial⟩, trivial⟩, ⟨v49, trivial, trivial⟩⟩, ⟨v25, ⟨v41, trivial, trivial⟩, trivial⟩⟩, ⟨v13, ⟨v21, trivial, trivial⟩, ⟨v29, ⟨v45, trivial, trivial⟩, trivial⟩⟩⟩⟩, ⟨trivial, ⟨trivial, ⟨v8, ⟨trivial, ⟨trivial, ⟨v64, trivial, trivial⟩, trivial⟩, ⟨v48, trivial, trivial⟩⟩, ⟨v24, ⟨trivial, ⟨v72, trivial, trivial⟩, trivial⟩, trivial⟩⟩, ⟨v12, ⟨v20, trivial, trivial⟩, ⟨v28, ⟨v44, trivial, trivial⟩, trivial⟩⟩⟩, ⟨v6, ⟨v10, ⟨v18, ⟨trivial, ⟨v66, trivial, trivial⟩, trivial⟩, ⟨v50, trivial, trivial⟩⟩, ⟨v26, ⟨v42, ⟨v74, trivial, trivial⟩, trivial⟩, trivial⟩⟩, ⟨trivial, ⟨v22, ⟨v38, trivial, trivial⟩, trivial⟩, ⟨v30, ⟨v46, trivial, trivial⟩, ⟨v62, trivial, trivial⟩⟩⟩⟩⟩⟩)
end Go.Proofs.Ytcpfgjkhjadgoaa
end

section
set_option maxRecDepth 100000
namespace Go.Proofs.Ytcpfgjkhjadgoaa
open Go.Vm
theorem x68 : IsExt Try.prog (68, .cmp) := ⟨_, Try.func68, by kernel_rfl, by kernel_rfl, by kernel_rfl, by kernel_rfl⟩
theorem x69 : IsExt Try.prog (69, .add64) := ⟨_, Try.func69, by kernel_rfl, by kernel_rfl, by kernel_rfl, by kernel_rfl⟩
def exts : List (Nat × Ek) := [(68, .cmp), (69, .add64)]
theorem extsOk : ∀ x, x ∈ exts → IsExt Try.prog x := by
  intro x hx
  unfold exts at hx
  rcases List.mem_cons.1 hx with rfl | hx
  · exact x68
  rcases List.mem_cons.1 hx with rfl | hx
  · exact x69
  cases hx
end Go.Proofs.Ytcpfgjkhjadgoaa
end

section
set_option maxRecDepth 100000
namespace Go.Proofs.Ytcpfgjkhjadgoaa.sa
open Go.Vm Go.Dv Go.Lib
def pr : Vm.Prog := mach []
def xt : Ext := orX (constX [13]) (extBy exts)
theorem has1 : Go.Dv.Has pr xt F0 1 Go.Lib.M1 := ⟨by kernel_rfl, fun _ _ => rfl⟩
theorem has2 : Go.Dv.Has pr xt F0 2 Go.Lib.M2 := ⟨by kernel_rfl, fun _ _ => rfl⟩
theorem has3 : Go.Dv.Has pr xt F0 3 Go.Lib.M3 := ⟨by kernel_rfl, fun _ _ => rfl⟩
theorem has4 : Go.Dv.Has pr xt F0 4 Go.Lib.M4 := ⟨by kernel_rfl, fun _ _ => rfl⟩
theorem has5 : Go.Dv.Has pr xt F0 5 Go.Lib.M5 := ⟨by kernel_rfl, fun _ _ => rfl⟩
theorem has8 : Go.Dv.Has pr xt F0 8 Go.Lib.M8 := ⟨by kernel_rfl, fun _ _ => rfl⟩
theorem has9 : Go.Dv.Has pr xt F0 9 Go.Lib.M9 := ⟨by kernel_rfl, fun _ _ => rfl⟩
theorem has10 : Go.Dv.Has pr xt F0 10 Go.Lib.M10 := ⟨by kernel_rfl, fun _ _ => rfl⟩
theorem has11 : Go.Dv.Has pr xt F0 11 Go.Lib.M11 := ⟨by kernel_rfl, fun _ _ => rfl⟩
theorem has12 : Go.Dv.Has pr xt F0 12 Go.Lib.M12 := ⟨by kernel_rfl, fun _ _ => rfl⟩
theorem has13 : Go.Dv.Has pr xt F0 13 Go.Lib.M13 := ⟨by kernel_rfl, fun _ _ => rfl⟩
theorem has14 : Go.Dv.Has pr xt F0 14 Go.Lib.M14 := ⟨by kernel_rfl, fun _ _ => rfl⟩
theorem has18 : Go.Dv.Has pr xt F0 18 Go.Lib.M18 := ⟨by kernel_rfl, fun _ _ => rfl⟩
theorem has19 : Go.Dv.Has pr xt F0 19 Go.Lib.M19 := ⟨by kernel_rfl, fun _ _ => rfl⟩
theorem has22 : Go.Dv.Has pr xt F0 22 Go.Lib.M22 := ⟨by kernel_rfl, fun _ _ => rfl⟩
theorem has23 : Go.Dv.Has pr xt F0 23 Go.Lib.M23 := ⟨by kernel_rfl, fun _ _ => rfl⟩
theorem has24 : Go.Dv.Has pr xt F0 24 Go.Lib.M24 := ⟨by kernel_rfl, fun _ _ => rfl⟩
theorem has25 : Go.Dv.Has pr xt F0 25 Go.Lib.M25 := ⟨by kernel_rfl, fun _ _ => rfl⟩
theorem has26 : Go.Dv.Has pr xt F0 26 Go.Lib.M26 := ⟨by kernel_rfl, fun _ _ => rfl⟩
theorem has27 : Go.Dv.Has pr xt F0 27 Go.Lib.M27 := ⟨by kernel_rfl, fun _ _ => rfl⟩
theorem has28 : Go.Dv.Has pr xt F0 28 Go.Lib.M28 := ⟨by kernel_rfl, fun _ _ => rfl⟩
theorem has29 : Go.Dv.Has pr xt F0 29 Go.Lib.M29 := ⟨by kernel_rfl, fun _ _ => rfl⟩
theorem has30 : Go.Dv.Has pr xt F0 30 Go.Lib.M30 := ⟨by kernel_rfl, fun _ _ => rfl⟩
theorem has31 : Go.Dv.Has pr xt F0 31 Go.Lib.M31 := ⟨by kernel_rfl, fun _ _ => rfl⟩
theorem has32 : Go.Dv.Has pr xt F0 32 Go.Lib.M32 := ⟨by kernel_rfl, fun _ _ => rfl⟩
theorem has33 : Go.Dv.Has pr xt F0 33 Go.Lib.M33 := ⟨by kernel_rfl, fun _ _ => rfl⟩
theorem has34 : Go.Dv.Has pr xt F0 34 Go.Lib.M34 := ⟨by kernel_rfl, fun _ _ => rfl⟩
theorem has35 : Go.Dv.Has pr xt F0 35 Go.Lib.M35 := ⟨by kernel_rfl, fun _ _ => rfl⟩
theorem has36 : Go.Dv.Has pr xt F0 36 Go.Lib.M36 := ⟨by kernel_rfl, fun _ _ => rfl⟩
theorem has37 : Go.Dv.Has pr xt F0 37 Go.Lib.M37 := ⟨by kernel_rfl, fun _ _ => rfl⟩
theorem has38 : Go.Dv.Has pr xt F0 38 Go.Lib.M38 := ⟨by kernel_rfl, fun _ _ => rfl⟩
theorem has39 : Go.Dv.Has pr xt F0 39 Go.Lib.M39 := ⟨by kernel_rfl, fun _ _ => rfl⟩
theorem has40 : Go.Dv.Has pr xt F0 40 Go.Lib.M40 := ⟨by kernel_rfl, fun _ _ => rfl⟩
theorem has41 : Go.Dv.Has pr xt F0 41 Go.Lib.M41 := ⟨by kernel_rfl, fun _ _ => rfl⟩
theorem has42 : Go.Dv.Has pr xt F0 42 Go.Lib.M42 := ⟨by kernel_rfl, fun _ _ => rfl⟩
theorem has43 : Go.Dv.Has pr xt F0 43 Go.Lib.M43 := ⟨by kernel_rfl, fun _ _ => rfl⟩
theorem has44 : Go.Dv.Has pr xt F0 44 Go.Lib.M44 := ⟨by kernel_rfl, fun _ _ => rfl⟩
theorem has48 : Go.Dv.Has pr xt F0 48 Go.Lib.M48 := ⟨by kernel_rfl, fun _ _ => rfl⟩
theorem has49 : Go.Dv.Has pr xt F0 49 Go.Lib.M49 := ⟨by kernel_rfl, fun _ _ => rfl⟩
theorem has50 : Go.Dv.Has pr xt F0 50 Go.Lib.M50 := ⟨by kernel_rfl, fun _ _ => rfl⟩
theorem has63 : Go.Dv.Has pr xt F0 63 Go.Lib.M63 := ⟨by kernel_rfl, fun _ _ => rfl⟩
theorem has64 : Go.Dv.Has pr xt F0 64 Go.Lib.M64 := ⟨by kernel_rfl, fun _ _ => rfl⟩
end Go.Proofs.Ytcpfgjkhjadgoaa.sa
end

section
set_option maxRecDepth 100000
namespace Go.Proofs.Ytcpfgjkhjadgoaa.sa
open Go.Vm
theorem awakeR : runs (mach []) (extBy exts) 1000000 13 [] Try.prog.globals.size = true := by decide +kernel
end Go.Proofs.Ytcpfgjkhjadgoaa.sa
end

section
set_option maxRecDepth 100000
namespace Go.Proofs.Ytcpfgjkhjadgoaa.sa
open Go.Vm Go.Dv Go.Lib
theorem hawake : FnD pr xt (F0 52) [] (.lit (.bool true)) := by
  intro H ψ S h vs s k
  simp only [VDl] at k
  subst k
  refine wpc_ext (v := .bool true) (h' := h) rfl ⟨ψ, S, _, H, .refl, s, ?_, rfl, rfl⟩
  simp [VD, atomV]
theorem x20 : ∀ args h, xt (F0 20) args h = extV .cmp args h := fun _ _ => rfl
theorem x45 : ∀ args h, xt (F0 45) args h = extV .add64 args h := fun _ _ => rfl
theorem hschm : HSchmC pr xt F0 := ⟨has1, has2, has3, has4, has5, has8, has9, has10, has11, has12, has13, has14, has18, has19, x20⟩
theorem hlaw6 : HLaw6 pr xt F0 := ⟨⟨⟨has23, has25⟩, has24⟩, has22⟩
theorem hsrt : HSrt pr xt F0 := ⟨has26, has27, has28, has29, has30, has31⟩
theorem haggr : HAggr pr xt F0 := ⟨hsrt, hschm, has32, has33, has34, has35, has36, has37, has38, has39, has40, has41, has42, has43, has44⟩
theorem hsame6 : HSame6 pr xt F0 := ⟨⟨has49, has50⟩, has48⟩
theorem hlaw : HLaw16o pr xt F0 := ⟨haggr, hlaw6, hsame6, x45, hawake, has63, has64⟩
theorem mixed : Try.prog.follows .mixedOrders = true := by kernel_rfl
theorem xt_ok {env : Env} : CallOk Try.prog env xt := orX_ok (constX_ok mixed (valid []) (extBy_rises _) (extBy_ok extsOk) rfl intsOk (n := 1000000) fun f hf => by
  rcases List.mem_cons.1 hf with rfl | hf
  · exact ⟨by kernel_rfl, awakeR⟩
  · cases hf) (extBy_ok extsOk)
theorem xt_rises : Rises xt := orX_rises (constX_rises _) (extBy_rises _)
end Go.Proofs.Ytcpfgjkhjadgoaa.sa
end
