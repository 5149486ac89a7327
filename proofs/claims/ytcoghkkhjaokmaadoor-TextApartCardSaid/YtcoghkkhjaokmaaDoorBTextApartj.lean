/-
  Texts that the claim's last one rests on, joined.
-/
import Derived.Test.YtcoghkkhjaokmaaDoorRows
import Derived.Test.YtcoghkkhjaokmaaDoorBTextAparti
import Derived.Test.YtcoghkkhjaokmaaDoorBTextApartg
import Derived.Test.YtcoghkkhjaokmaaDoorBTextAparth
import Derived.Test.YtcoghkkhjaokmaaDoorBTextApartc
import Derived.Shelf.LaysM
import Derived.Shelf.LaysC
import Derived.Shelf.Strings.Prefix
import Derived.Shelf.Small.Wraps
import Derived.Shelf.Small.Strs
import Derived.Shelf.Strings.Cut
import Derived.Shelf.Strings.SplitShaped
import Derived.Shelf.Strings.OnBuilder
import Derived.Shelf.Strconv.Itoa4
import Derived.Shelf.Strconv.ParseIntPublic10
import Derived.Shelf.Strconv.AtoiAll
import Derived.Test.YtcoghkkhjaokmaaDoorBTextApartf
import Derived.Stop.LaidErr
import Derived.Lay
import Derived.MakeChecks
import Derived.LaidOnce
import Derived.SevenTiedAt
import Derived.LaidSub
import Derived.Lib.LaidTab
import Derived.Shelf.Vars
import Derived.WalkKit
import Derived.ProofKit

section
set_option maxRecDepth 100000
namespace Go.Proofs.YtcoghkkhjaokmaaDoor
open Go.Vm
def m4 : Fun := Go.Lib.M228 Go.Proofs.YtcoghkkhjaokmaaDoor.sa.F0
theorem v4 : IsFun Tryd.prog 4 m4 := ⟨_, Tryd.func4, by kernel_rfl, by kernel_rfl⟩
def m7 : Fun := Go.Lib.M48 Go.Proofs.YtcoghkkhjaokmaaDoor.sa.F0
theorem v7 : IsFun Tryd.prog 7 m7 := ⟨_, Tryd.func7, by kernel_rfl, by kernel_rfl⟩
def m10 : Fun := Go.Lib.M23 Go.Proofs.YtcoghkkhjaokmaaDoor.sa.F0
theorem v10 : IsFun Tryd.prog 10 m10 := ⟨_, Tryd.func10, by kernel_rfl, by kernel_rfl⟩
def m11 : Fun := Go.Lib.M99 Go.Proofs.YtcoghkkhjaokmaaDoor.sa.F0
theorem v11 : IsFun Tryd.prog 11 m11 := ⟨_, Tryd.func11, by kernel_rfl, by kernel_rfl⟩
def m12 : Fun := Go.Lib.M212 Go.Proofs.YtcoghkkhjaokmaaDoor.sa.F0
theorem v12 : IsFun Tryd.prog 12 m12 := ⟨_, Tryd.func12, by kernel_rfl, by kernel_rfl⟩
def m13 : Fun := Go.Lib.M229 Go.Proofs.YtcoghkkhjaokmaaDoor.sa.F0
theorem v13 : IsFun Tryd.prog 13 m13 := ⟨_, Tryd.func13, by kernel_rfl, by kernel_rfl⟩
def m14 : Fun := ⟨81,0,.seq (.region [⟨(some 0),(.p (.mov (.val (.bool false)))),none⟩])
 (.seq (.region [⟨(some 10),(.p (.build [.str [],.int .i64 (.ofNat 0),.bool false] [(0,1,(.val (.str [107,101,121]))),(1,1,(.val (.int .i64 (.ofNat 1))))])),none⟩,⟨(some 11),(.p (.build [.str [],.int .i64 (.ofNat 0),.bool false] [(0,1,(.val (.str [97]))),(1,1,(.val (.int .i64 (.ofNat 2)))),(2,1,(.val (.bool true)))])),none⟩,⟨(some 12),(.a (.bslice [.str [],.int .i64 (.ofNat 0),.bool false,.str [],.int .i64 (.ofNat 0),.bool false] 3 2 [(0,3,(.tmp 10)),(3,3,(.tmp 11))])),none⟩,⟨(some 13),(.p (.build [.nilslice] [(0,1,(.tmp 12))])),none⟩,⟨(some 1),(.a (.new [.nilslice])),none⟩,⟨none,(.e (.store 1 (.tmp 1) (.tmp 13))),none⟩])
 (.seq (.region [⟨(some 15),(.loadn 1 (.tmp 1)),none⟩,⟨(some 16),(.e (.call 15 [(.tmp 15),(.val (.str [97,110,100,40,107,101,121,32,62,61,32,45,53,44,110,111,116,40,110,117,108,108,32,97,41,44,111,114,40,41,41]))])),none⟩,⟨(some 14),(.p (.mov (.tmp 16))),none⟩,⟨(some 17),(.p (.ext (.tmp 14) 0)),none⟩,⟨(some 18),(.p (.ext (.tmp 14) 1)),none⟩,⟨(some 2),(.a (.new [.int .i64 (.ofNat 0),.int .i64 (.ofNat 0),.int .i64 (.ofNat 0),.bool false,.int .i64 (.ofNat 0),.int .i64 (.ofNat 0),.nilslice,.nilslice])),none⟩,⟨none,(.e (.store 8 (.tmp 2) (.tmp 17))),none⟩,⟨(some 3),(.p (.mov (.tmp 18))),none⟩])
 (.seq (.region [⟨(some 20),(.loadn 1 (.tmp 1)),none⟩,⟨(some 21),(.e (.call 15 [(.tmp 20),(.val (.str [97,110,100,40,107,101,121,32,62,61,32,45,53,44,32,116,114,117,101,41]))])),none⟩,⟨(some 19),(.p (.mov (.tmp 21))),none⟩,⟨(some 22),(.p (.ext (.tmp 19) 0)),none⟩,⟨(some 23),(.p (.ext (.tmp 19) 1)),none⟩,⟨(some 4),(.a (.new [.int .i64 (.ofNat 0),.int .i64 (.ofNat 0),.int .i64 (.ofNat 0),.bool false,.int .i64 (.ofNat 0),.int .i64 (.ofNat 0),.nilslice,.nilslice])),none⟩,⟨none,(.e (.store 8 (.tmp 4) (.tmp 22))),none⟩,⟨(some 5),(.p (.mov (.tmp 23))),none⟩])
 (.seq (.region [⟨(some 25),(.e (.call 24 [(.val (.int .i64 (.ofNat 2))),(.val (.str [120,54,49,54,50]))])),none⟩,⟨(some 24),(.p (.mov (.tmp 25))),none⟩,⟨(some 26),(.p (.ext (.tmp 24) 0)),none⟩,⟨(some 27),(.p (.ext (.tmp 24) 1)),none⟩,⟨(some 6),(.a (.new [.bool false,.int .i64 (.ofNat 0),.int .i64 (.ofNat 0),.nilslice])),none⟩,⟨none,(.e (.store 4 (.tmp 6) (.tmp 26))),none⟩,⟨(some 7),(.p (.mov (.tmp 27))),none⟩])
 (.seq (.region [⟨(some 29),(.e (.call 24 [(.val (.int .i64 (.ofNat 1))),(.val (.str [48,48,55]))])),none⟩,⟨(some 28),(.p (.mov (.tmp 29))),none⟩,⟨(some 30),(.p (.ext (.tmp 28) 0)),none⟩,⟨(some 31),(.p (.ext (.tmp 28) 1)),none⟩,⟨(some 8),(.a (.new [.bool false,.int .i64 (.ofNat 0),.int .i64 (.ofNat 0),.nilslice])),none⟩,⟨none,(.e (.store 4 (.tmp 8) (.tmp 30))),none⟩,⟨(some 9),(.p (.mov (.tmp 31))),none⟩])
 (.seq (.region [⟨(some 32),(.p (.mov (.tmp 3))),none⟩,⟨(some 33),(.p (.mov (.tmp 32))),none⟩,⟨(some 34),(.p (.faddr 7 (.tmp 2))),(some (33,true))⟩,⟨(some 35),(.load1 (.tmp 34)),(some (33,true))⟩,⟨(some 36),(.p (.lenb (.tmp 35))),(some (33,true))⟩,⟨(some 37),(.p (.bin .eql (.tmp 36) (.val (.int .i64 (.ofNat 3))))),(some (33,true))⟩,⟨(some 38),(.p (.pick (.tmp 33) (.tmp 37) (.val (.bool false)))),none⟩,⟨(some 39),(.p (.mov (.tmp 38))),none⟩,⟨(some 40),(.p (.faddr 7 (.tmp 2))),(some (39,true))⟩,⟨(some 41),(.load1 (.tmp 40)),(some (39,true))⟩,⟨(some 42),(.p (.iaddr 8 (.tmp 41) (.val (.int .i64 (.ofNat 0))))),(some (39,true))⟩,⟨(some 43),(.p (.faddr 3 (.tmp 42))),(some (39,true))⟩,⟨(some 44),(.p (.faddr 2 (.tmp 43))),(some (39,true))⟩,⟨(some 45),(.load1 (.tmp 44)),(some (39,true))⟩,⟨(some 46),(.p (.bin .eql (.tmp 45) (.val (.int .i64 (.negSucc 4))))),(some (39,true))⟩,⟨(some 47),(.p (.pick (.tmp 39) (.tmp 46) (.val (.bool false)))),none⟩,⟨(some 48),(.p (.mov (.tmp 47))),none⟩,⟨(some 49),(.p (.mov (.tmp 5))),(some (48,true))⟩,⟨(some 50),(.p (.not (.tmp 49))),(some (48,true))⟩,⟨(some 51),(.p (.pick (.tmp 48) (.tmp 50) (.val (.bool false)))),none⟩,⟨(some 52),(.p (.mov (.tmp 51))),none⟩,⟨(some 53),(.p (.mov (.tmp 7))),(some (52,true))⟩,⟨(some 54),(.p (.pick (.tmp 52) (.tmp 53) (.val (.bool false)))),none⟩,⟨(some 55),(.p (.mov (.tmp 54))),none⟩,⟨(some 56),(.p (.faddr 3 (.tmp 6))),(some (55,true))⟩,⟨(some 57),(.load1 (.tmp 56)),(some (55,true))⟩,⟨(some 58),(.e (.text (.tmp 57))),(some (55,true))⟩,⟨(some 59),(.p (.bin .eql (.tmp 58) (.val (.str [97,98])))),(some (55,true))⟩,⟨(some 60),(.p (.pick (.tmp 55) (.tmp 59) (.val (.bool false)))),none⟩,⟨(some 61),(.p (.mov (.tmp 60))),none⟩,⟨(some 62),(.p (.mov (.tmp 9))),(some (61,true))⟩,⟨(some 63),(.p (.not (.tmp 62))),(some (61,true))⟩,⟨(some 64),(.p (.pick (.tmp 61) (.tmp 63) (.val (.bool false)))),none⟩,⟨(some 65),(.p (.mov (.tmp 64))),none⟩,⟨(some 66),(.loadn 1 (.tmp 1)),(some (65,true))⟩,⟨(some 67),(.loadn 8 (.tmp 2)),(some (65,true))⟩,⟨(some 68),(.e (.call 12 [(.tmp 66),(.tmp 67)])),(some (65,true))⟩,⟨(some 69),(.p (.bin .eql (.tmp 68) (.val (.str [97,110,100,40,107,101,121,32,62,61,32,45,53,44,110,111,116,40,110,117,108,108,32,97,41,44,111,114,40,41,41])))),(some (65,true))⟩,⟨(some 70),(.p (.pick (.tmp 65) (.tmp 69) (.val (.bool false)))),none⟩,⟨(some 71),(.p (.mov (.tmp 70))),none⟩,⟨(some 72),(.p (.build [.bool false,.int .i64 (.ofNat 0),.int .i64 (.ofNat 0),.nilslice] [(0,1,(.val (.bool true)))])),(some (71,true))⟩,⟨(some 73),(.e (.call 25 [(.tmp 72)])),(some (71,true))⟩,⟨(some 74),(.p (.bin .eql (.tmp 73) (.val (.str [110,117,108,108])))),(some (71,true))⟩,⟨(some 75),(.p (.pick (.tmp 71) (.tmp 74) (.val (.bool false)))),none⟩,⟨(some 76),(.p (.mov (.tmp 75))),none⟩,⟨(some 77),(.p (.build [.bool false,.int .i64 (.ofNat 0),.int .i64 (.ofNat 0),.nilslice] [(1,1,(.val (.int .i64 (.ofNat 2))))])),(some (76,true))⟩,⟨(some 78),(.e (.call 25 [(.tmp 77)])),(some (76,true))⟩,⟨(some 79),(.p (.bin .eql (.tmp 78) (.val (.str [120])))),(some (76,true))⟩,⟨(some 80),(.p (.pick (.tmp 76) (.tmp 79) (.val (.bool false)))),none⟩,⟨(some 0),(.p (.mov (.tmp 80))),none⟩])
 (.ret))))))),[.tmp 0]⟩
theorem v14 : IsFun Tryd.prog 14 m14 := ⟨_, Tryd.func14, by kernel_rfl, by kernel_rfl⟩
def m15 : Fun := ⟨29,2,.seq (.region [⟨(some 2),(.a (.box (.tmp 0))),none⟩,⟨(some 4),(.a (.new [.int .i64 (.ofNat 0),.int .i64 (.ofNat 0),.int .i64 (.ofNat 0),.bool false,.int .i64 (.ofNat 0),.int .i64 (.ofNat 0),.nilslice,.nilslice])),none⟩,⟨(some 5),(.p (.mov (.val (.bool false)))),none⟩])
 (.seq (.region [⟨(some 9),(.loadn 1 (.tmp 2)),none⟩,⟨(some 10),(.p (.mov (.tmp 1))),none⟩,⟨(some 11),(.e (.call 26 [(.tmp 9),(.tmp 10),(.val (.int .i64 (.ofNat 5)))])),none⟩,⟨(some 8),(.p (.mov (.tmp 11))),none⟩,⟨(some 12),(.p (.ext (.tmp 8) 0)),none⟩,⟨(some 13),(.p (.ext (.tmp 8) 1)),none⟩,⟨(some 6),(.a (.new [.int .i64 (.ofNat 0),.int .i64 (.ofNat 0),.int .i64 (.ofNat 0),.bool false,.int .i64 (.ofNat 0),.int .i64 (.ofNat 0),.nilslice,.nilslice])),none⟩,⟨none,(.e (.store 8 (.tmp 6) (.tmp 12))),none⟩,⟨(some 7),(.p (.mov (.tmp 13))),none⟩])
 (.seq (.seq (.region [⟨(some 14),(.p (.mov (.tmp 7))),none⟩,⟨(some 15),(.p (.not (.tmp 14))),none⟩,⟨(some 16),(.p (.mov (.tmp 15))),none⟩,⟨(some 17),(.p (.mov (.tmp 1))),(some (16,false))⟩,⟨(some 18),(.p (.bin .eql (.tmp 17) (.val (.str [])))),(some (16,false))⟩,⟨(some 19),(.p (.pick (.tmp 16) (.val (.bool true)) (.tmp 18))),none⟩,⟨(some 20),(.p (.mov (.tmp 19))),none⟩,⟨(some 21),(.loadn 1 (.tmp 2)),(some (20,false))⟩,⟨(some 22),(.loadn 8 (.tmp 6)),(some (20,false))⟩,⟨(some 23),(.e (.call 12 [(.tmp 21),(.tmp 22)])),(some (20,false))⟩,⟨(some 24),(.p (.mov (.tmp 1))),(some (20,false))⟩,⟨(some 25),(.p (.bin .neq (.tmp 23) (.tmp 24))),(some (20,false))⟩,⟨(some 26),(.p (.pick (.tmp 20) (.val (.bool true)) (.tmp 25))),none⟩])
 (.cond (.tmp 26) (.seq (.region [⟨(some 27),(.p (.build [.int .i64 (.ofNat 0),.int .i64 (.ofNat 0),.int .i64 (.ofNat 0),.bool false,.int .i64 (.ofNat 0),.int .i64 (.ofNat 0),.nilslice,.nilslice] [])),none⟩,⟨none,(.e (.store 8 (.tmp 4) (.tmp 27))),none⟩,⟨(some 5),(.p (.mov (.val (.bool false)))),none⟩])
 (.ret))
 (.skip)))
 (.seq (.region [⟨(some 28),(.loadn 8 (.tmp 6)),none⟩,⟨none,(.e (.store 8 (.tmp 4) (.tmp 28))),none⟩,⟨(some 5),(.p (.mov (.val (.bool true)))),none⟩])
 (.ret)))),[.celln 8 4,.tmp 5]⟩
theorem v15 : IsFun Tryd.prog 15 m15 := ⟨_, Tryd.func15, by kernel_rfl, by kernel_rfl⟩
def m16 : Fun := Go.Lib.M49 Go.Proofs.YtcoghkkhjaokmaaDoor.sa.F0
theorem v16 : IsFun Tryd.prog 16 m16 := ⟨_, Tryd.func16, by kernel_rfl, by kernel_rfl⟩
def m20 : Fun := Go.Lib.M25 Go.Proofs.YtcoghkkhjaokmaaDoor.sa.F0
theorem v20 : IsFun Tryd.prog 20 m20 := ⟨_, Tryd.func20, by kernel_rfl, by kernel_rfl⟩
def m21 : Fun := Go.Lib.M214 Go.Proofs.YtcoghkkhjaokmaaDoor.sa.F0
theorem v21 : IsFun Tryd.prog 21 m21 := ⟨_, Tryd.func21, by kernel_rfl, by kernel_rfl⟩
def m22 : Fun := Go.Lib.M215 Go.Proofs.YtcoghkkhjaokmaaDoor.sa.F0
theorem v22 : IsFun Tryd.prog 22 m22 := ⟨_, Tryd.func22, by kernel_rfl, by kernel_rfl⟩
def m23 : Fun := Go.Lib.M50 Go.Proofs.YtcoghkkhjaokmaaDoor.sa.F0
theorem v23 : IsFun Tryd.prog 23 m23 := ⟨_, Tryd.func23, by kernel_rfl, by kernel_rfl⟩
def m24 : Fun := ⟨37,2,.seq (.region [⟨(some 4),(.a (.new [.bool false,.int .i64 (.ofNat 0),.int .i64 (.ofNat 0),.nilslice])),none⟩,⟨(some 5),(.p (.mov (.val (.bool false)))),none⟩])
 (.seq (.region [⟨(some 7),(.p (.mov (.tmp 0))),none⟩,⟨(some 8),(.p (.build [.bool false,.int .i64 (.ofNat 0),.int .i64 (.ofNat 0),.nilslice] [(1,1,(.tmp 7))])),none⟩,⟨(some 6),(.a (.new [.bool false,.int .i64 (.ofNat 0),.int .i64 (.ofNat 0),.nilslice])),none⟩,⟨none,(.e (.store 4 (.tmp 6) (.tmp 8))),none⟩])
 (.seq (.block 0 (.seq (.region [⟨(some 16),(.p (.mov (.tmp 1))),none⟩,⟨(some 17),(.p (.bin .eql (.tmp 16) (.val (.str [110,117,108,108])))),none⟩,⟨(some 15),(.p (.mov (.tmp 17))),none⟩])
 (.cond (.tmp 15) (.region [⟨(some 18),(.p (.faddr 0 (.tmp 6))),none⟩,⟨none,(.e (.store 1 (.tmp 18) (.val (.bool true)))),none⟩])
 (.seq (.region [⟨(some 20),(.p (.mov (.tmp 0))),none⟩,⟨(some 21),(.p (.bin .eql (.tmp 20) (.val (.int .i64 (.ofNat 2))))),none⟩,⟨(some 19),(.p (.mov (.tmp 21))),none⟩])
 (.cond (.tmp 19) (.region [⟨(some 22),(.p (.mov (.tmp 1))),none⟩,⟨(some 23),(.e (.call 32 [(.tmp 22),(.val (.str [120]))])),none⟩,⟨(some 24),(.e (.call 31 [(.tmp 23)])),none⟩,⟨(some 25),(.p (.faddr 3 (.tmp 6))),none⟩,⟨none,(.e (.store 1 (.tmp 25) (.tmp 24))),none⟩])
 (.region [⟨(some 10),(.p (.mov (.tmp 1))),none⟩,⟨(some 11),(.e (.call 33 [(.tmp 10),(.val (.int .i64 (.ofNat 10))),(.val (.int .i64 (.ofNat 64)))])),none⟩,⟨(some 9),(.p (.mov (.tmp 11))),none⟩,⟨(some 12),(.p (.ext (.tmp 9) 0)),none⟩,⟨(some 13),(.p (.ext (.tmp 9) 1)),none⟩,⟨(some 14),(.p (.faddr 2 (.tmp 6))),none⟩,⟨none,(.e (.store 1 (.tmp 14) (.tmp 12))),none⟩]))))))
 (.seq (.seq (.region [⟨(some 26),(.loadn 4 (.tmp 6)),none⟩,⟨(some 27),(.e (.call 34 [(.tmp 26)])),none⟩,⟨(some 28),(.p (.not (.tmp 27))),none⟩,⟨(some 29),(.p (.mov (.tmp 28))),none⟩,⟨(some 30),(.loadn 4 (.tmp 6)),(some (29,false))⟩,⟨(some 31),(.e (.call 25 [(.tmp 30)])),(some (29,false))⟩,⟨(some 32),(.p (.mov (.tmp 1))),(some (29,false))⟩,⟨(some 33),(.p (.bin .neq (.tmp 31) (.tmp 32))),(some (29,false))⟩,⟨(some 34),(.p (.pick (.tmp 29) (.val (.bool true)) (.tmp 33))),none⟩])
 (.cond (.tmp 34) (.seq (.region [⟨(some 35),(.p (.build [.bool false,.int .i64 (.ofNat 0),.int .i64 (.ofNat 0),.nilslice] [])),none⟩,⟨none,(.e (.store 4 (.tmp 4) (.tmp 35))),none⟩,⟨(some 5),(.p (.mov (.val (.bool false)))),none⟩])
 (.ret))
 (.skip)))
 (.seq (.region [⟨(some 36),(.loadn 4 (.tmp 6)),none⟩,⟨none,(.e (.store 4 (.tmp 4) (.tmp 36))),none⟩,⟨(some 5),(.p (.mov (.val (.bool true)))),none⟩])
 (.ret))))),[.celln 4 4,.tmp 5]⟩
theorem v24 : IsFun Tryd.prog 24 m24 := ⟨_, Tryd.func24, by kernel_rfl, by kernel_rfl⟩
def m25 : Fun := Go.Lib.M213 Go.Proofs.YtcoghkkhjaokmaaDoor.sa.F0
theorem v25 : IsFun Tryd.prog 25 m25 := ⟨_, Tryd.func25, by kernel_rfl, by kernel_rfl⟩
def m26 : Fun := ⟨80,3,.seq (.region [⟨(some 3),(.a (.box (.tmp 0))),none⟩,⟨(some 6),(.a (.new [.int .i64 (.ofNat 0),.int .i64 (.ofNat 0),.int .i64 (.ofNat 0),.bool false,.int .i64 (.ofNat 0),.int .i64 (.ofNat 0),.nilslice,.nilslice])),none⟩,⟨(some 7),(.p (.mov (.val (.bool false)))),none⟩])
 (.seq (.region [⟨(some 19),(.p (.mov (.tmp 1))),none⟩,⟨(some 20),(.e (.call 36 [(.tmp 19),(.val (.str [40]))])),none⟩,⟨(some 18),(.p (.mov (.tmp 20))),none⟩,⟨(some 21),(.p (.ext (.tmp 18) 0)),none⟩,⟨(some 22),(.p (.ext (.tmp 18) 1)),none⟩,⟨(some 23),(.p (.ext (.tmp 18) 2)),none⟩,⟨(some 8),(.p (.mov (.tmp 21))),none⟩,⟨(some 9),(.p (.mov (.tmp 22))),none⟩,⟨(some 10),(.p (.mov (.tmp 23))),none⟩])
 (.seq (.seq (.region [⟨(some 24),(.p (.mov (.tmp 10))),none⟩,⟨(some 25),(.p (.not (.tmp 24))),none⟩])
 (.cond (.tmp 25) (.seq (.region [⟨(some 26),(.loadn 1 (.tmp 3)),none⟩,⟨(some 27),(.p (.mov (.tmp 1))),none⟩,⟨(some 28),(.e (.call 37 [(.tmp 26),(.tmp 27)])),none⟩,⟨(some 29),(.p (.ext (.tmp 28) 0)),none⟩,⟨(some 30),(.p (.ext (.tmp 28) 1)),none⟩,⟨none,(.e (.store 8 (.tmp 6) (.tmp 29))),none⟩,⟨(some 7),(.p (.mov (.tmp 30))),none⟩])
 (.ret))
 (.skip)))
 (.seq (.region [⟨(some 31),(.a (.bslice [.str [],.str [],.str []] 1 3 [(0,1,(.val (.str [97,110,100]))),(1,1,(.val (.str [111,114]))),(2,1,(.val (.str [110,111,116])))])),none⟩,⟨(some 32),(.p (.mov (.tmp 8))),none⟩,⟨(some 33),(.e (.call 38 [(.tmp 31),(.tmp 32)])),none⟩,⟨(some 34),(.p (.bin .add (.tmp 33) (.val (.int .i64 (.ofNat 4))))),none⟩,⟨(some 35),(.p (.max [(.tmp 34),(.val (.int .i64 (.ofNat 0)))])),none⟩,⟨(some 36),(.p (.build [.int .i64 (.ofNat 0),.int .i64 (.ofNat 0),.int .i64 (.ofNat 0),.bool false,.int .i64 (.ofNat 0),.int .i64 (.ofNat 0),.nilslice,.nilslice] [(0,1,(.tmp 35))])),none⟩,⟨(some 11),(.a (.new [.int .i64 (.ofNat 0),.int .i64 (.ofNat 0),.int .i64 (.ofNat 0),.bool false,.int .i64 (.ofNat 0),.int .i64 (.ofNat 0),.nilslice,.nilslice])),none⟩,⟨none,(.e (.store 8 (.tmp 11) (.tmp 36))),none⟩])
 (.seq (.region [⟨(some 38),(.p (.mov (.tmp 9))),none⟩,⟨(some 39),(.e (.call 39 [(.tmp 38),(.val (.str [41]))])),none⟩,⟨(some 37),(.p (.mov (.tmp 39))),none⟩,⟨(some 40),(.p (.ext (.tmp 37) 0)),none⟩,⟨(some 41),(.p (.ext (.tmp 37) 1)),none⟩,⟨(some 12),(.p (.mov (.tmp 40))),none⟩,⟨(some 13),(.p (.mov (.tmp 41))),none⟩])
 (.seq (.seq (.region [⟨(some 42),(.p (.faddr 0 (.tmp 11))),none⟩,⟨(some 43),(.load1 (.tmp 42)),none⟩,⟨(some 44),(.p (.bin .lss (.tmp 43) (.val (.int .i64 (.ofNat 4))))),none⟩,⟨(some 45),(.p (.mov (.tmp 44))),none⟩,⟨(some 46),(.p (.mov (.tmp 13))),(some (45,false))⟩,⟨(some 47),(.p (.not (.tmp 46))),(some (45,false))⟩,⟨(some 48),(.p (.pick (.tmp 45) (.val (.bool true)) (.tmp 47))),none⟩,⟨(some 49),(.p (.mov (.tmp 48))),none⟩,⟨(some 50),(.p (.mov (.tmp 2))),(some (49,false))⟩,⟨(some 51),(.p (.bin .eql (.tmp 50) (.val (.int .i64 (.ofNat 0))))),(some (49,false))⟩,⟨(some 52),(.p (.pick (.tmp 49) (.val (.bool true)) (.tmp 51))),none⟩])
 (.cond (.tmp 52) (.seq (.region [⟨(some 53),(.p (.build [.int .i64 (.ofNat 0),.int .i64 (.ofNat 0),.int .i64 (.ofNat 0),.bool false,.int .i64 (.ofNat 0),.int .i64 (.ofNat 0),.nilslice,.nilslice] [])),none⟩,⟨none,(.e (.store 8 (.tmp 6) (.tmp 53))),none⟩,⟨(some 7),(.p (.mov (.val (.bool false)))),none⟩])
 (.ret))
 (.skip)))
 (.seq (.seq (.region [⟨(some 54),(.p (.mov (.tmp 12))),none⟩,⟨(some 55),(.e (.call 40 [(.tmp 54)])),none⟩,⟨(some 56),(.p (.lenb (.tmp 55))),none⟩,⟨(some 57),(.p (.mov (.val (.int .i64 (.ofNat 0))))),none⟩])
 (.block 0 (.loop (.seq (.region [⟨(some 58),(.p (.bin .lss (.tmp 57) (.tmp 56))),none⟩])
 (.seq (.cond (.tmp 58) (.skip)
 (.exit 0))
 (.seq (.block 1 (.seq (.region [⟨(some 59),(.p (.iaddr 1 (.tmp 55) (.tmp 57))),none⟩,⟨(some 60),(.load1 (.tmp 59)),none⟩,⟨(some 15),(.p (.mov (.tmp 60))),none⟩])
 (.seq (.region [⟨(some 62),(.loadn 1 (.tmp 3)),none⟩,⟨(some 63),(.p (.mov (.tmp 15))),none⟩,⟨(some 64),(.p (.mov (.tmp 2))),none⟩,⟨(some 65),(.p (.bin .sub (.tmp 64) (.val (.int .i64 (.ofNat 1))))),none⟩,⟨(some 66),(.e (.call 26 [(.tmp 62),(.tmp 63),(.tmp 65)])),none⟩,⟨(some 61),(.p (.mov (.tmp 66))),none⟩,⟨(some 67),(.p (.ext (.tmp 61) 0)),none⟩,⟨(some 68),(.p (.ext (.tmp 61) 1)),none⟩,⟨(some 16),(.a (.new [.int .i64 (.ofNat 0),.int .i64 (.ofNat 0),.int .i64 (.ofNat 0),.bool false,.int .i64 (.ofNat 0),.int .i64 (.ofNat 0),.nilslice,.nilslice])),none⟩,⟨none,(.e (.store 8 (.tmp 16) (.tmp 67))),none⟩,⟨(some 17),(.p (.mov (.tmp 68))),none⟩])
 (.seq (.seq (.region [⟨(some 69),(.p (.mov (.tmp 17))),none⟩,⟨(some 70),(.p (.not (.tmp 69))),none⟩])
 (.cond (.tmp 70) (.seq (.region [⟨(some 71),(.p (.build [.int .i64 (.ofNat 0),.int .i64 (.ofNat 0),.int .i64 (.ofNat 0),.bool false,.int .i64 (.ofNat 0),.int .i64 (.ofNat 0),.nilslice,.nilslice] [])),none⟩,⟨none,(.e (.store 8 (.tmp 6) (.tmp 71))),none⟩,⟨(some 7),(.p (.mov (.val (.bool false)))),none⟩])
 (.ret))
 (.skip)))
 (.region [⟨(some 72),(.p (.faddr 7 (.tmp 11))),none⟩,⟨(some 73),(.load1 (.tmp 72)),none⟩,⟨(some 74),(.loadn 8 (.tmp 16)),none⟩,⟨(some 75),(.a (.bslice [.int .i64 (.ofNat 0),.int .i64 (.ofNat 0),.int .i64 (.ofNat 0),.bool false,.int .i64 (.ofNat 0),.int .i64 (.ofNat 0),.nilslice,.nilslice] 8 1 [(0,8,(.tmp 74))])),none⟩,⟨(some 76),(.e (.append 8 96 (.tmp 73) (.tmp 75))),none⟩,⟨(some 77),(.p (.faddr 7 (.tmp 11))),none⟩,⟨none,(.e (.store 1 (.tmp 77) (.tmp 76))),none⟩])))))
 (.region [⟨(some 78),(.p (.bin .add (.tmp 57) (.val (.int .i64 (.ofNat 1))))),none⟩,⟨(some 57),(.p (.mov (.tmp 78))),none⟩])))))))
 (.seq (.region [⟨(some 79),(.loadn 8 (.tmp 11)),none⟩,⟨none,(.e (.store 8 (.tmp 6) (.tmp 79))),none⟩,⟨(some 7),(.p (.mov (.val (.bool true)))),none⟩])
 (.ret)))))))),[.celln 8 6,.tmp 7]⟩
theorem v26 : IsFun Tryd.prog 26 m26 := ⟨_, Tryd.func26, by kernel_rfl, by kernel_rfl⟩
def m29 : Fun := Go.Lib.M216 Go.Proofs.YtcoghkkhjaokmaaDoor.sa.F0
theorem v29 : IsFun Tryd.prog 29 m29 := ⟨_, Tryd.func29, by kernel_rfl, by kernel_rfl⟩
def m30 : Fun := Go.Lib.M217 Go.Proofs.YtcoghkkhjaokmaaDoor.sa.F0
theorem v30 : IsFun Tryd.prog 30 m30 := ⟨_, Tryd.func30, by kernel_rfl, by kernel_rfl⟩
def m31 : Fun := ⟨30,1,.seq (.region [⟨(some 2),(.p (.mov (.val (.nilslice)))),none⟩])
 (.seq (.region [⟨(some 3),(.p (.mov (.val (.nilslice)))),none⟩])
 (.seq (.region [⟨(some 4),(.p (.mov (.val (.func 46 [] [])))),none⟩])
 (.seq (.seq (.region [⟨(some 5),(.p (.mov (.val (.int .i64 (.ofNat 0))))),none⟩])
 (.block 0 (.loop (.seq (.seq (.region [⟨(some 6),(.p (.mov (.tmp 5))),none⟩,⟨(some 7),(.p (.bin .add (.tmp 6) (.val (.int .i64 (.ofNat 1))))),none⟩,⟨(some 8),(.p (.mov (.tmp 0))),none⟩,⟨(some 9),(.p (.lens (.tmp 8))),none⟩,⟨(some 10),(.p (.bin .lss (.tmp 7) (.tmp 9))),none⟩])
 (.cond (.tmp 10) (.skip)
 (.exit 0)))
 (.seq (.block 1 (.dregion [⟨⟨(some 14),(.p (.mov (.tmp 4))),none⟩,0,4⟩,⟨⟨(some 15),(.p (.mov (.tmp 0))),none⟩,0,4⟩,⟨⟨(some 16),(.p (.mov (.tmp 5))),none⟩,0,4⟩,⟨⟨(some 17),(.p (.idxs (.tmp 15) (.tmp 16))),none⟩,0,4⟩,⟨⟨(some 18),(.e (.callv (.tmp 14) [(.tmp 17)])),none⟩,0,10⟩,⟨⟨(some 20),(.p (.mov (.tmp 4))),none⟩,0,10⟩,⟨⟨(some 21),(.p (.mov (.tmp 0))),none⟩,0,10⟩,⟨⟨(some 22),(.p (.mov (.tmp 5))),none⟩,0,10⟩,⟨⟨(some 23),(.p (.bin .add (.tmp 22) (.val (.int .i64 (.ofNat 1))))),none⟩,0,10⟩,⟨⟨(some 24),(.p (.idxs (.tmp 21) (.tmp 23))),none⟩,0,10⟩,⟨⟨(some 25),(.e (.callv (.tmp 20) [(.tmp 24)])),none⟩,5,15⟩,⟨⟨(some 13),(.p (.mov (.tmp 3))),none⟩,0,15⟩,⟨⟨(some 19),(.p (.bin .shl (.tmp 18) (.val (.int .u64 (.ofNat 4))))),none⟩,5,15⟩,⟨⟨(some 26),(.p (.bin .or (.tmp 19) (.tmp 25))),none⟩,11,15⟩,⟨⟨(some 27),(.a (.bslice [.int .u8 (.ofNat 0)] 1 1 [(0,1,(.tmp 26))])),none⟩,11,15⟩,⟨⟨(some 28),(.e (.append 1 1 (.tmp 13) (.tmp 27))),none⟩,11,17⟩,⟨⟨(some 3),(.p (.mov (.tmp 28))),none⟩,16,17⟩]))
 (.region [⟨(some 11),(.p (.mov (.tmp 5))),none⟩,⟨(some 12),(.p (.bin .add (.tmp 11) (.val (.int .i64 (.ofNat 2))))),none⟩,⟨(some 5),(.p (.mov (.tmp 12))),none⟩]))))))
 (.seq (.region [⟨(some 29),(.p (.mov (.tmp 3))),none⟩,⟨(some 2),(.p (.mov (.tmp 29))),none⟩])
 (.ret))))),[.tmp 2]⟩
theorem v31 : IsFun Tryd.prog 31 m31 := ⟨_, Tryd.func31, by kernel_rfl, by kernel_rfl⟩
def m34 : Fun := Go.Lib.M220 Go.Proofs.YtcoghkkhjaokmaaDoor.sa.F0
theorem v34 : IsFun Tryd.prog 34 m34 := ⟨_, Tryd.func34, by kernel_rfl, by kernel_rfl⟩
def m37 : Fun := ⟨75,2,.seq (.region [⟨(some 2),(.a (.box (.tmp 0))),none⟩,⟨(some 4),(.a (.new [.int .i64 (.ofNat 0),.int .i64 (.ofNat 0),.int .i64 (.ofNat 0),.bool false,.int .i64 (.ofNat 0),.int .i64 (.ofNat 0),.nilslice,.nilslice])),none⟩,⟨(some 5),(.p (.mov (.val (.bool false)))),none⟩])
 (.seq (.region [⟨(some 13),(.p (.mov (.tmp 1))),none⟩,⟨(some 14),(.e (.call 53 [(.tmp 13),(.val (.str [32]))])),none⟩,⟨(some 6),(.p (.mov (.tmp 14))),none⟩])
 (.seq (.seq (.region [⟨(some 15),(.p (.mov (.tmp 6))),none⟩,⟨(some 16),(.p (.lenb (.tmp 15))),none⟩,⟨(some 17),(.p (.bin .eql (.tmp 16) (.val (.int .i64 (.ofNat 2))))),none⟩,⟨(some 18),(.p (.mov (.tmp 17))),none⟩,⟨(some 19),(.p (.mov (.tmp 6))),(some (18,true))⟩,⟨(some 20),(.p (.iaddr 1 (.tmp 19) (.val (.int .i64 (.ofNat 0))))),(some (18,true))⟩,⟨(some 21),(.load1 (.tmp 20)),(some (18,true))⟩,⟨(some 22),(.p (.bin .eql (.tmp 21) (.val (.str [110,117,108,108])))),(some (18,true))⟩,⟨(some 23),(.p (.pick (.tmp 18) (.tmp 22) (.val (.bool false)))),none⟩])
 (.cond (.tmp 23) (.seq (.dregion [⟨⟨(some 25),(.loadn 1 (.tmp 2)),none⟩,0,4⟩,⟨⟨(some 26),(.p (.mov (.tmp 6))),none⟩,0,4⟩,⟨⟨(some 27),(.p (.iaddr 1 (.tmp 26) (.val (.int .i64 (.ofNat 1))))),none⟩,0,4⟩,⟨⟨(some 28),(.load1 (.tmp 27)),none⟩,0,4⟩,⟨⟨(some 29),(.e (.call 54 [(.tmp 25),(.tmp 28)])),none⟩,0,10⟩,⟨⟨(some 24),(.p (.mov (.tmp 29))),none⟩,5,10⟩,⟨⟨(some 30),(.p (.ext (.tmp 24) 0)),none⟩,5,10⟩,⟨⟨(some 31),(.p (.ext (.tmp 24) 1)),none⟩,5,10⟩,⟨⟨(some 7),(.p (.mov (.tmp 30))),none⟩,5,10⟩,⟨⟨(some 8),(.p (.mov (.tmp 31))),none⟩,5,10⟩])
 (.seq (.region [⟨(some 32),(.p (.mov (.tmp 7))),none⟩,⟨(some 33),(.p (.build [.int .i64 (.ofNat 0),.int .i64 (.ofNat 0),.int .i64 (.ofNat 0),.bool false,.int .i64 (.ofNat 0),.int .i64 (.ofNat 0),.nilslice,.nilslice] [(0,1,(.val (.int .i64 (.ofNat 3)))),(1,1,(.tmp 32))])),none⟩,⟨(some 34),(.p (.mov (.tmp 8))),none⟩,⟨none,(.e (.store 8 (.tmp 4) (.tmp 33))),none⟩,⟨(some 5),(.p (.mov (.tmp 34))),none⟩])
 (.ret)))
 (.skip)))
 (.seq (.seq (.region [⟨(some 35),(.p (.mov (.tmp 6))),none⟩,⟨(some 36),(.p (.lenb (.tmp 35))),none⟩,⟨(some 37),(.p (.bin .neq (.tmp 36) (.val (.int .i64 (.ofNat 3))))),none⟩])
 (.cond (.tmp 37) (.seq (.region [⟨(some 38),(.p (.build [.int .i64 (.ofNat 0),.int .i64 (.ofNat 0),.int .i64 (.ofNat 0),.bool false,.int .i64 (.ofNat 0),.int .i64 (.ofNat 0),.nilslice,.nilslice] [(0,1,(.val (.int .i64 (.ofNat 1))))])),none⟩,⟨(some 39),(.p (.mov (.tmp 1))),none⟩,⟨(some 40),(.p (.bin .eql (.tmp 39) (.val (.str [116,114,117,101])))),none⟩,⟨none,(.e (.store 8 (.tmp 4) (.tmp 38))),none⟩,⟨(some 5),(.p (.mov (.tmp 40))),none⟩])
 (.ret))
 (.skip)))
 (.seq (.dregion [⟨⟨(some 42),(.loadn 1 (.tmp 2)),none⟩,0,4⟩,⟨⟨(some 43),(.p (.mov (.tmp 6))),none⟩,0,4⟩,⟨⟨(some 44),(.p (.iaddr 1 (.tmp 43) (.val (.int .i64 (.ofNat 0))))),none⟩,0,4⟩,⟨⟨(some 45),(.load1 (.tmp 44)),none⟩,0,4⟩,⟨⟨(some 46),(.e (.call 54 [(.tmp 42),(.tmp 45)])),none⟩,0,10⟩,⟨⟨(some 41),(.p (.mov (.tmp 46))),none⟩,5,10⟩,⟨⟨(some 47),(.p (.ext (.tmp 41) 0)),none⟩,5,10⟩,⟨⟨(some 48),(.p (.ext (.tmp 41) 1)),none⟩,5,10⟩,⟨⟨(some 9),(.p (.mov (.tmp 47))),none⟩,5,10⟩,⟨⟨(some 10),(.p (.mov (.tmp 48))),none⟩,5,10⟩])
 (.seq (.seq (.region [⟨(some 49),(.p (.mov (.tmp 10))),none⟩,⟨(some 50),(.p (.not (.tmp 49))),none⟩])
 (.cond (.tmp 50) (.seq (.region [⟨(some 51),(.p (.build [.int .i64 (.ofNat 0),.int .i64 (.ofNat 0),.int .i64 (.ofNat 0),.bool false,.int .i64 (.ofNat 0),.int .i64 (.ofNat 0),.nilslice,.nilslice] [])),none⟩,⟨none,(.e (.store 8 (.tmp 4) (.tmp 51))),none⟩,⟨(some 5),(.p (.mov (.val (.bool false)))),none⟩])
 (.ret))
 (.skip)))
 (.seq (.dregion [⟨⟨(some 53),(.p (.faddr 0 (.tmp 2))),none⟩,0,9⟩,⟨⟨(some 54),(.load1 (.tmp 53)),none⟩,0,9⟩,⟨⟨(some 55),(.p (.mov (.tmp 9))),none⟩,0,9⟩,⟨⟨(some 56),(.p (.iaddr 3 (.tmp 54) (.tmp 55))),none⟩,0,9⟩,⟨⟨(some 57),(.p (.faddr 1 (.tmp 56))),none⟩,0,9⟩,⟨⟨(some 58),(.load1 (.tmp 57)),none⟩,0,9⟩,⟨⟨(some 59),(.p (.mov (.tmp 6))),none⟩,0,9⟩,⟨⟨(some 60),(.p (.iaddr 1 (.tmp 59) (.val (.int .i64 (.ofNat 2))))),none⟩,0,9⟩,⟨⟨(some 61),(.load1 (.tmp 60)),none⟩,0,9⟩,⟨⟨(some 62),(.e (.call 24 [(.tmp 58),(.tmp 61)])),none⟩,0,13⟩,⟨⟨(some 52),(.p (.mov (.tmp 62))),none⟩,10,13⟩,⟨⟨(some 63),(.p (.ext (.tmp 52) 0)),none⟩,10,13⟩,⟨⟨(some 11),(.a (.new [.bool false,.int .i64 (.ofNat 0),.int .i64 (.ofNat 0),.nilslice])),none⟩,0,13⟩,⟨⟨none,(.e (.store 4 (.tmp 11) (.tmp 63))),none⟩,10,16⟩,⟨⟨(some 64),(.p (.ext (.tmp 52) 1)),none⟩,10,16⟩,⟨⟨(some 12),(.p (.mov (.tmp 64))),none⟩,14,16⟩])
 (.seq (.dregion [⟨⟨(some 66),(.e (.call 30 [])),none⟩,0,4⟩,⟨⟨(some 67),(.p (.mov (.tmp 6))),none⟩,0,4⟩,⟨⟨(some 68),(.p (.iaddr 1 (.tmp 67) (.val (.int .i64 (.ofNat 1))))),none⟩,0,4⟩,⟨⟨(some 69),(.load1 (.tmp 68)),none⟩,0,4⟩,⟨⟨(some 70),(.e (.call 38 [(.tmp 66),(.tmp 69)])),none⟩,1,9⟩,⟨⟨(some 65),(.p (.mov (.tmp 9))),none⟩,0,9⟩,⟨⟨(some 71),(.p (.max [(.tmp 70),(.val (.int .i64 (.ofNat 0)))])),none⟩,5,9⟩,⟨⟨(some 72),(.loadn 4 (.tmp 11)),none⟩,0,9⟩,⟨⟨(some 73),(.p (.build [.int .i64 (.ofNat 0),.int .i64 (.ofNat 0),.int .i64 (.ofNat 0),.bool false,.int .i64 (.ofNat 0),.int .i64 (.ofNat 0),.nilslice,.nilslice] [(0,1,(.val (.int .i64 (.ofNat 2)))),(1,1,(.tmp 65)),(2,1,(.tmp 71)),(3,4,(.tmp 72))])),none⟩,5,9⟩,⟨⟨none,(.e (.store 8 (.tmp 4) (.tmp 73))),none⟩,5,12⟩,⟨⟨(some 74),(.p (.mov (.tmp 12))),none⟩,0,12⟩,⟨⟨(some 5),(.p (.mov (.tmp 74))),none⟩,10,12⟩])
 (.ret)))))))),[.celln 8 4,.tmp 5]⟩
theorem v37 : IsFun Tryd.prog 37 m37 := ⟨_, Tryd.func37, by kernel_rfl, by kernel_rfl⟩
def m38 : Fun := ⟨19,2,.seq (.region [⟨(some 4),(.p (.mov (.val (.int .i64 (.ofNat 0))))),none⟩])
 (.seq (.seq (.region [⟨(some 6),(.p (.mov (.tmp 0))),none⟩,⟨(some 7),(.p (.lenb (.tmp 6))),none⟩,⟨(some 8),(.p (.mov (.val (.int .i64 (.ofNat 0))))),none⟩])
 (.block 0 (.loop (.seq (.region [⟨(some 9),(.p (.bin .lss (.tmp 8) (.tmp 7))),none⟩])
 (.seq (.cond (.tmp 9) (.skip)
 (.exit 0))
 (.seq (.block 1 (.seq (.region [⟨(some 10),(.p (.mov (.tmp 8))),none⟩,⟨(some 5),(.p (.mov (.tmp 10))),none⟩])
 (.seq (.region [⟨(some 11),(.p (.mov (.tmp 1))),none⟩,⟨(some 12),(.p (.mov (.tmp 0))),none⟩,⟨(some 13),(.p (.mov (.tmp 5))),none⟩,⟨(some 14),(.p (.iaddr 1 (.tmp 12) (.tmp 13))),none⟩,⟨(some 15),(.load1 (.tmp 14)),none⟩,⟨(some 16),(.p (.bin .eql (.tmp 11) (.tmp 15))),none⟩])
 (.cond (.tmp 16) (.seq (.region [⟨(some 17),(.p (.mov (.tmp 5))),none⟩,⟨(some 4),(.p (.mov (.tmp 17))),none⟩])
 (.ret))
 (.skip)))))
 (.region [⟨(some 18),(.p (.bin .add (.tmp 8) (.val (.int .i64 (.ofNat 1))))),none⟩,⟨(some 8),(.p (.mov (.tmp 18))),none⟩])))))))
 (.seq (.region [⟨(some 4),(.p (.mov (.val (.int .i64 (.negSucc 0))))),none⟩])
 (.ret))),[.tmp 4]⟩
theorem v38 : IsFun Tryd.prog 38 m38 := ⟨_, Tryd.func38, by kernel_rfl, by kernel_rfl⟩
def m40 : Fun := ⟨45,1,.seq (.region [⟨(some 2),(.p (.mov (.val (.nilslice)))),none⟩])
 (.seq (.seq (.region [⟨(some 7),(.p (.mov (.tmp 0))),none⟩,⟨(some 8),(.p (.bin .eql (.tmp 7) (.val (.str [])))),none⟩])
 (.cond (.tmp 8) (.seq (.region [⟨(some 2),(.p (.mov (.val (.nilslice)))),none⟩])
 (.ret))
 (.skip)))
 (.seq (.region [⟨(some 3),(.p (.mov (.val (.nilslice)))),none⟩])
 (.seq (.region [⟨(some 4),(.p (.mov (.val (.int .i64 (.ofNat 0))))),none⟩,⟨(some 5),(.p (.mov (.val (.int .i64 (.ofNat 0))))),none⟩])
 (.seq (.seq (.region [⟨(some 9),(.p (.mov (.tmp 0))),none⟩,⟨(some 10),(.p (.lens (.tmp 9))),none⟩,⟨(some 11),(.p (.mov (.val (.int .i64 (.ofNat 0))))),none⟩])
 (.block 0 (.loop (.seq (.region [⟨(some 12),(.p (.bin .lss (.tmp 11) (.tmp 10))),none⟩])
 (.seq (.cond (.tmp 12) (.skip)
 (.exit 0))
 (.seq (.block 1 (.seq (.region [⟨(some 13),(.p (.mov (.tmp 11))),none⟩,⟨(some 6),(.p (.mov (.tmp 13))),none⟩])
 (.seq (.region [⟨(some 14),(.p (.mov (.tmp 0))),none⟩,⟨(some 15),(.p (.mov (.tmp 6))),none⟩,⟨(some 16),(.p (.idxs (.tmp 14) (.tmp 15))),none⟩])
 (.block 2 (.seq (.region [⟨(some 18),(.p (.bin .eql (.tmp 16) (.val (.int .u8 (.ofNat 40))))),none⟩,⟨(some 17),(.p (.mov (.tmp 18))),none⟩])
 (.cond (.tmp 17) (.region [⟨(some 19),(.p (.mov (.tmp 4))),none⟩,⟨(some 20),(.p (.bin .add (.tmp 19) (.val (.int .i64 (.ofNat 1))))),none⟩,⟨(some 4),(.p (.mov (.tmp 20))),none⟩])
 (.seq (.region [⟨(some 22),(.p (.bin .eql (.tmp 16) (.val (.int .u8 (.ofNat 41))))),none⟩,⟨(some 21),(.p (.mov (.tmp 22))),none⟩])
 (.cond (.tmp 21) (.region [⟨(some 23),(.p (.mov (.tmp 4))),none⟩,⟨(some 24),(.p (.bin .sub (.tmp 23) (.val (.int .i64 (.ofNat 1))))),none⟩,⟨(some 4),(.p (.mov (.tmp 24))),none⟩])
 (.seq (.region [⟨(some 26),(.p (.bin .eql (.tmp 16) (.val (.int .u8 (.ofNat 44))))),none⟩,⟨(some 25),(.p (.mov (.tmp 26))),none⟩])
 (.cond (.tmp 25) (.seq (.region [⟨(some 27),(.p (.mov (.tmp 4))),none⟩,⟨(some 28),(.p (.bin .eql (.tmp 27) (.val (.int .i64 (.ofNat 0))))),none⟩])
 (.cond (.tmp 28) (.seq (.region [⟨(some 29),(.p (.mov (.tmp 3))),none⟩,⟨(some 30),(.p (.mov (.tmp 0))),none⟩,⟨(some 31),(.p (.mov (.tmp 5))),none⟩,⟨(some 32),(.p (.mov (.tmp 6))),none⟩,⟨(some 33),(.p (.sls (.tmp 30) (some (.tmp 31)) (some (.tmp 32)))),none⟩,⟨(some 34),(.a (.bslice [.str []] 1 1 [(0,1,(.tmp 33))])),none⟩,⟨(some 35),(.e (.append 1 16 (.tmp 29) (.tmp 34))),none⟩,⟨(some 3),(.p (.mov (.tmp 35))),none⟩])
 (.region [⟨(some 36),(.p (.mov (.tmp 6))),none⟩,⟨(some 37),(.p (.bin .add (.tmp 36) (.val (.int .i64 (.ofNat 1))))),none⟩,⟨(some 5),(.p (.mov (.tmp 37))),none⟩]))
 (.skip)))
 (.skip)))))))))))
 (.region [⟨(some 38),(.p (.bin .add (.tmp 11) (.val (.int .i64 (.ofNat 1))))),none⟩,⟨(some 11),(.p (.mov (.tmp 38))),none⟩])))))))
 (.seq (.region [⟨(some 39),(.p (.mov (.tmp 3))),none⟩,⟨(some 40),(.p (.mov (.tmp 0))),none⟩,⟨(some 41),(.p (.mov (.tmp 5))),none⟩,⟨(some 42),(.p (.sls (.tmp 40) (some (.tmp 41)) none)),none⟩,⟨(some 43),(.a (.bslice [.str []] 1 1 [(0,1,(.tmp 42))])),none⟩,⟨(some 44),(.e (.append 1 16 (.tmp 39) (.tmp 43))),none⟩,⟨(some 2),(.p (.mov (.tmp 44))),none⟩])
 (.ret)))))),[.tmp 2]⟩
theorem v40 : IsFun Tryd.prog 40 m40 := ⟨_, Tryd.func40, by kernel_rfl, by kernel_rfl⟩
def m45 : Fun := Go.Lib.M218 Go.Proofs.YtcoghkkhjaokmaaDoor.sa.F0
theorem v45 : IsFun Tryd.prog 45 m45 := ⟨_, Tryd.func45, by kernel_rfl, by kernel_rfl⟩
def m46 : Fun := ⟨7,1,.seq (.region [⟨(some 2),(.p (.mov (.val (.int .u8 (.ofNat 0))))),none⟩])
 (.seq (.region [⟨(some 3),(.p (.mov (.tmp 0))),none⟩,⟨(some 4),(.e (.call 47 [(.val (.str [48,49,50,51,52,53,54,55,56,57,97,98,99,100,101,102])),(.tmp 3)])),none⟩,⟨(some 5),(.p (.max [(.tmp 4),(.val (.int .i64 (.ofNat 0)))])),none⟩,⟨(some 6),(.p (.conv (.int .u8) (.tmp 5))),none⟩,⟨(some 2),(.p (.mov (.tmp 6))),none⟩])
 (.ret)),[.tmp 2]⟩
theorem v46 : IsFun Tryd.prog 46 m46 := ⟨_, Tryd.func46, by kernel_rfl, by kernel_rfl⟩
def m54 : Fun := ⟨15,2,.seq (.region [⟨(some 2),(.a (.box (.tmp 0))),none⟩,⟨(some 3),(.a (.box (.tmp 1))),none⟩,⟨(some 4),(.p (.mov (.val (.int .i64 (.ofNat 0))))),none⟩,⟨(some 5),(.p (.mov (.val (.bool false)))),none⟩])
 (.seq (.region [⟨(some 7),(.p (.faddr 0 (.tmp 2))),none⟩,⟨(some 8),(.load1 (.tmp 7)),none⟩,⟨(some 9),(.p (.mkfunc 74 [] [(.tmp 3)])),none⟩,⟨(some 10),(.e (.call 73 [(.tmp 8),(.tmp 9)])),none⟩,⟨(some 6),(.p (.mov (.tmp 10))),none⟩])
 (.seq (.region [⟨(some 11),(.p (.mov (.tmp 6))),none⟩,⟨(some 12),(.p (.max [(.tmp 11),(.val (.int .i64 (.ofNat 0)))])),none⟩,⟨(some 13),(.p (.mov (.tmp 6))),none⟩,⟨(some 14),(.p (.bin .geq (.tmp 13) (.val (.int .i64 (.ofNat 0))))),none⟩,⟨(some 4),(.p (.mov (.tmp 12))),none⟩,⟨(some 5),(.p (.mov (.tmp 14))),none⟩])
 (.ret))),[.tmp 4,.tmp 5]⟩
theorem v54 : IsFun Tryd.prog 54 m54 := ⟨_, Tryd.func54, by kernel_rfl, by kernel_rfl⟩
def m58 : Fun := Go.Lib.M219 Go.Proofs.YtcoghkkhjaokmaaDoor.sa.F0
theorem v58 : IsFun Tryd.prog 58 m58 := ⟨_, Tryd.func58, by kernel_rfl, by kernel_rfl⟩
def m59 : Fun := Go.Lib.M221 Go.Proofs.YtcoghkkhjaokmaaDoor.sa.F0
theorem v59 : IsFun Tryd.prog 59 m59 := ⟨_, Tryd.func59, by kernel_rfl, by kernel_rfl⟩
def m73 : Fun := ⟨19,2,.seq (.region [⟨(some 4),(.p (.mov (.val (.int .i64 (.ofNat 0))))),none⟩])
 (.seq (.seq (.region [⟨(some 6),(.p (.mov (.tmp 0))),none⟩,⟨(some 7),(.p (.lenb (.tmp 6))),none⟩,⟨(some 8),(.p (.mov (.val (.int .i64 (.ofNat 0))))),none⟩])
 (.block 0 (.loop (.seq (.region [⟨(some 9),(.p (.bin .lss (.tmp 8) (.tmp 7))),none⟩])
 (.seq (.cond (.tmp 9) (.skip)
 (.exit 0))
 (.seq (.block 1 (.seq (.region [⟨(some 10),(.p (.mov (.tmp 8))),none⟩,⟨(some 5),(.p (.mov (.tmp 10))),none⟩])
 (.seq (.region [⟨(some 11),(.p (.mov (.tmp 1))),none⟩,⟨(some 12),(.p (.mov (.tmp 0))),none⟩,⟨(some 13),(.p (.mov (.tmp 5))),none⟩,⟨(some 14),(.p (.iaddr 3 (.tmp 12) (.tmp 13))),none⟩,⟨(some 15),(.loadn 3 (.tmp 14)),none⟩,⟨(some 16),(.e (.callv (.tmp 11) [(.tmp 15)])),none⟩])
 (.cond (.tmp 16) (.seq (.region [⟨(some 17),(.p (.mov (.tmp 5))),none⟩,⟨(some 4),(.p (.mov (.tmp 17))),none⟩])
 (.ret))
 (.skip)))))
 (.region [⟨(some 18),(.p (.bin .add (.tmp 8) (.val (.int .i64 (.ofNat 1))))),none⟩,⟨(some 8),(.p (.mov (.tmp 18))),none⟩])))))))
 (.seq (.region [⟨(some 4),(.p (.mov (.val (.int .i64 (.negSucc 0))))),none⟩])
 (.ret))),[.tmp 4]⟩
theorem v73 : IsFun Tryd.prog 73 m73 := ⟨_, Tryd.func73, by kernel_rfl, by kernel_rfl⟩
def m74 : Fun := ⟨8,2,.seq (.region [⟨(some 2),(.a (.box (.tmp 0))),none⟩,⟨(some 3),(.p (.mov (.val (.bool false)))),none⟩])
 (.seq (.region [⟨(some 4),(.p (.faddr 0 (.tmp 2))),none⟩,⟨(some 5),(.load1 (.tmp 4)),none⟩,⟨(some 6),(.load1 (.tmp 1)),none⟩,⟨(some 7),(.p (.bin .eql (.tmp 5) (.tmp 6))),none⟩,⟨(some 3),(.p (.mov (.tmp 7))),none⟩])
 (.ret)),[.tmp 3]⟩
theorem v74 : IsFun Tryd.prog 74 m74 := ⟨_, Tryd.func74, by kernel_rfl, by kernel_rfl⟩
def m78 : Fun := Go.Lib.M6 Go.Proofs.YtcoghkkhjaokmaaDoor.sa.F0
theorem v78 : IsFun Tryd.prog 78 m78 := ⟨_, Tryd.func78, by kernel_rfl, by kernel_rfl⟩
def m95 : Fun := Go.Lib.M15 Go.Proofs.YtcoghkkhjaokmaaDoor.sa.F0
theorem v95 : IsFun Tryd.prog 95 m95 := ⟨_, Tryd.func95, by kernel_rfl, by kernel_rfl⟩
end Go.Proofs.YtcoghkkhjaokmaaDoor
end

section
set_option maxRecDepth 100000
namespace Go.Proofs.YtcoghkkhjaokmaaDoor
open Go.Vm
def funs : T Fun := (.node (.node (.node (.node (.node (.node .leaf (some m31) (.node .leaf (some m95) .leaf)) (some m15) .leaf) (some m7) (.node .leaf (some m23) .leaf)) none (.node .leaf (some m11) (.node .leaf none (.node .leaf (some m59) .leaf)))) none (.node (.node .leaf none (.node (.node (.node .leaf (some m73) .leaf) none .leaf) (some m25) .leaf)) none (.node (.node (.node .leaf (some m37) .leaf) (some m21) .leaf) (some m13) (.node (.node .leaf (some m45) .leaf) (some m29) .leaf)))) none (.node (.node (.node (.node .leaf (some m16) .leaf) none (.node (.node .leaf (some m40) .leaf) (some m24) .leaf)) (some m4) (.node (.node .leaf (some m20) .leaf) (some m12) .leaf)) none (.node (.node (.node (.node .leaf (some m34) .leaf) none .leaf) (some m10) (.node (.node (.node .leaf (some m74) .leaf) none .leaf) (some m26) (.node .leaf (some m58) .leaf))) none (.node (.node (.node .leaf (some m38) .leaf) (some m22) (.node .leaf (some m54) .leaf)) (some m14) (.node (.node (.node .leaf (some m78) .leaf) (some m46) .leaf) (some m30) .leaf)))))
def ints : List Nat := [2,3,5,6,12,21,22,26,103,104,130,156,157,159,160]
theorem intsOk : IntsOk Tryd.prog ints := ints_of (by kernel_rfl)
def mach (tab : Tab) : Vm.Prog := { funs := funs, env := ⟨tab, ints⟩ }
theorem valid (tab : Tab) : Valid Tryd.prog (mach tab) := valid_of (show AllT (IsFun Tryd.prog) 1 0 funs from ⟨trivial, ⟨trivial, ⟨trivial, ⟨v7, ⟨v15, ⟨v31, trivial, ⟨v95, trivial, trivial⟩⟩, trivial⟩, ⟨v23, trivial, trivial⟩⟩, ⟨v11, trivial, ⟨trivial, trivial, ⟨v59, trivial, trivial⟩⟩⟩⟩, ⟨trivial, ⟨trivial, trivial, ⟨v25, ⟨trivial, ⟨v73, trivial, trivial⟩, trivial⟩, trivial⟩⟩, ⟨v13, ⟨v21, ⟨v37, trivial, trivial⟩, trivial⟩, ⟨v29, ⟨v45, trivial, trivial⟩, trivial⟩⟩⟩⟩, ⟨trivial, ⟨v4, ⟨trivial, ⟨v16, trivial, trivial⟩, ⟨v24, ⟨v40, trivial, trivial⟩, trivial⟩⟩, ⟨v12, ⟨v20, trivial, trivial⟩, trivial⟩⟩, ⟨trivial, ⟨v10, ⟨trivial, ⟨v34, trivial, trivial⟩, trivial⟩, ⟨v26, ⟨trivial, ⟨v74, trivial, trivial⟩, trivial⟩, ⟨v58, trivial, trivial⟩⟩⟩, ⟨v14, ⟨v22, ⟨v38, trivial, trivial⟩, ⟨v54, trivial, trivial⟩⟩, ⟨v30, ⟨v46, ⟨v78, trivial, trivial⟩, trivial⟩, trivial⟩⟩⟩⟩⟩)
end Go.Proofs.YtcoghkkhjaokmaaDoor
end

section
set_option maxRecDepth 100000
namespace Go.Proofs.YtcoghkkhjaokmaaDoor
open Go.Vm
def exts : List (Nat × Ek) := []
theorem extsOk : ∀ x, x ∈ exts → IsExt Tryd.prog x := by
  intro x hx
  unfold exts at hx
  cases hx
end Go.Proofs.YtcoghkkhjaokmaaDoor
end

section
set_option maxRecDepth 100000
namespace Go.Proofs.YtcoghkkhjaokmaaDoor
open Go.RowKit Go.Shelf Go.Vm Go.Lib
def ren : Go.Shelf.Ren := ⟨fun x => match x with | 101 => 32 | 104 => 39 | 129 => 85 | 137 => 47 | 138 => 93 | 143 => 94 | 145 => 36 | 146 => 53 | 156 => 28 | 165 => 42 | 166 => 43 | 169 => 44 | 171 => 27 | 173 => 35 | 174 => 33 | 195 => 99 | 197 => 100 | 205 => 83 | 206 => 61 | 207 => 75 | 208 => 48 | 211 => 55 | 217 => 60 | 218 => 101 | 219 => 71 | 220 => 52 | 221 => 72 | 224 => 90 | 225 => 89 | 240 => 56 | 241 => 57 | 243 => 41 | 245 => 50 | 246 => 51 | 247 => 49 | 260 => 102 | 266 => 79 | 267 => 91 | 268 => 92 | 276 => 76 | 277 => 77 | 279 => 63 | 280 => 64 | 281 => 65 | 282 => 66 | 283 => 67 | 284 => 68 | 285 => 69 | 286 => 70 | 287 => 62 | 314 => 98 | 316 => 82 | 317 => 84 | 318 => 86 | 319 => 87 | 320 => 88 | 321 => 80 | 322 => 81 | 337 => 96 | 338 => 97 | n => n, fun x => match x with | 0 => 0 | 2 => 2 | 3 => 3 | 4 => 4 | 5 => 5 | 9 => 9 | 20 => 20 | 21 => 21 | 24 => 84 | 31 => 61 | 37 => 28 | 46 => 26 | 51 => 130 | 53 => 104 | 59 => 81 | 70 => 87 | 72 => 89 | 75 => 76 | 76 => 91 | 80 => 93 | 85 => 77 | 105 => 142 | 119 => 146 | 127 => 100 | 138 => 148 | 139 => 149 | 143 => 135 | 145 => 137 | 146 => 139 | 164 => 119 | 167 => 103 | 168 => 107 | 171 => 110 | 173 => 113 | 175 => 105 | 210 => 125 | 212 => 129 | 213 => 131 | 232 => 144 | 233 => 145 | n => n, fun x => match x with | 1 => 3 | 3 => 6 | 4 => 7 | 15 => 0 | 16 => 1 | 17 => 2 | 18 => 4 | 19 => 5 | n => n⟩
theorem L145 : Lays.n145 Tryd.prog ren := by constructor <;> first | kernel_rfl | (intro w; kernel_rfl) | decide | (constructor <;> first | kernel_rfl | (intro w; kernel_rfl) | decide | (constructor <;> first | kernel_rfl | (intro w; kernel_rfl) | decide | (constructor <;> first | kernel_rfl | (intro w; kernel_rfl) | decide)))
theorem L143 : Lays.n143 Tryd.prog ren := by constructor <;> first | kernel_rfl | (intro w; kernel_rfl) | decide | (constructor <;> first | kernel_rfl | (intro w; kernel_rfl) | decide | (constructor <;> first | kernel_rfl | (intro w; kernel_rfl) | decide | (constructor <;> first | kernel_rfl | (intro w; kernel_rfl) | decide)))
theorem L146 : Lays.n146 Tryd.prog ren := by constructor <;> first | kernel_rfl | (intro w; kernel_rfl) | decide | (constructor <;> first | kernel_rfl | (intro w; kernel_rfl) | decide | (constructor <;> first | kernel_rfl | (intro w; kernel_rfl) | decide | (constructor <;> first | kernel_rfl | (intro w; kernel_rfl) | decide)))
theorem L104 : Lays.n104 Tryd.prog ren := by constructor <;> first | kernel_rfl | (intro w; kernel_rfl) | decide | (constructor <;> first | kernel_rfl | (intro w; kernel_rfl) | decide | (constructor <;> first | kernel_rfl | (intro w; kernel_rfl) | decide | (constructor <;> first | kernel_rfl | (intro w; kernel_rfl) | decide)))
theorem L101 : Lays.n101 Tryd.prog ren := by constructor <;> first | kernel_rfl | (intro w; kernel_rfl) | decide | (constructor <;> first | kernel_rfl | (intro w; kernel_rfl) | decide | (constructor <;> first | kernel_rfl | (intro w; kernel_rfl) | decide | (constructor <;> first | kernel_rfl | (intro w; kernel_rfl) | decide)))
theorem L137 : Lays.n137 Tryd.prog ren := by constructor <;> first | kernel_rfl | (intro w; kernel_rfl) | decide | (constructor <;> first | kernel_rfl | (intro w; kernel_rfl) | decide | (constructor <;> first | kernel_rfl | (intro w; kernel_rfl) | decide | (constructor <;> first | kernel_rfl | (intro w; kernel_rfl) | decide)))
theorem L156 : Lays.n156 Tryd.prog ren := by constructor <;> first | kernel_rfl | (intro w; kernel_rfl) | decide | (constructor <;> first | kernel_rfl | (intro w; kernel_rfl) | decide | (constructor <;> first | kernel_rfl | (intro w; kernel_rfl) | decide | (constructor <;> first | kernel_rfl | (intro w; kernel_rfl) | decide)))
theorem X156 : Builder.Extra Tryd.prog ren := by constructor <;> first | kernel_rfl | (intro w; kernel_rfl) | decide | (constructor <;> first | kernel_rfl | (intro w; kernel_rfl) | decide | (constructor <;> first | kernel_rfl | (intro w; kernel_rfl) | decide | (constructor <;> first | kernel_rfl | (intro w; kernel_rfl) | decide)))
theorem L171 : LaysM.n171 Tryd.prog ren := by constructor <;> first | kernel_rfl | (intro w; kernel_rfl) | decide | (constructor <;> first | kernel_rfl | (intro w; kernel_rfl) | decide | (constructor <;> first | kernel_rfl | (intro w; kernel_rfl) | decide | (constructor <;> first | kernel_rfl | (intro w; kernel_rfl) | decide)))
theorem L173 : LaysM.n173 Tryd.prog ren := by constructor <;> first | kernel_rfl | (intro w; kernel_rfl) | decide | (constructor <;> first | kernel_rfl | (intro w; kernel_rfl) | decide | (constructor <;> first | kernel_rfl | (intro w; kernel_rfl) | decide | (constructor <;> first | kernel_rfl | (intro w; kernel_rfl) | decide)))
theorem L174 : LaysC.n174 Tryd.prog ren := by constructor <;> first | kernel_rfl | (intro w; kernel_rfl) | decide | (constructor <;> first | kernel_rfl | (intro w; kernel_rfl) | decide | (constructor <;> first | kernel_rfl | (intro w; kernel_rfl) | decide | (constructor <;> first | kernel_rfl | (intro w; kernel_rfl) | decide)))
def sg : SG := ⟨3, 0, 1, 2, 107⟩
theorem sg_ok : sg.ok Tryd.prog := ⟨of_decide_eq_true (by kernel_rfl), of_decide_eq_true (by kernel_rfl), of_decide_eq_true (by kernel_rfl), of_decide_eq_true (by kernel_rfl)⟩
theorem tab_is (w : World) (h : PowIs w sg.pow) : Lib.TabIs Tryd.prog w "internal/strconv.uint64pow10" .u64 Lib.pow10Tab := by
  obtain ⟨e, fz, h⟩ := h
  have hg : Tryd.prog.globalNamed "internal/strconv.uint64pow10" = some sg.pow := by kernel_rfl
  simp only [Lib.TabIs, World.var?, hg, h, Option.bind_some]
theorem is_cut : IsStr Tryd.prog sg (36, .cut) := ⟨by kernel_rfl, fun s sep m w h1 h2 => Any.strings_Cut L145 s sep m w h1 h2⟩
theorem is_idx : IsStr Tryd.prog sg (94, .idx) := ⟨by kernel_rfl, fun s sep m w h1 h2 => Any.strings_Index L143 s sep m w h1 h2⟩
theorem is_split : IsStr Tryd.prog sg (53, .split) := ⟨by kernel_rfl, ⟨_, fun s sep m w h1 h2 h3 => Any.strings_Split L146 (by kernel_rfl) s sep m w h1 h2 h3⟩⟩
theorem is_cutS : IsStr Tryd.prog sg (39, .cutS) := ⟨by kernel_rfl, fun s p w h => Any.strings_CutSuffix L104 s p w h⟩
theorem is_trimP : IsStr Tryd.prog sg (32, .trimP) := ⟨by kernel_rfl, fun s p w => Any.strings_TrimPrefix L101 s p w⟩
theorem is_idxB : IsStr Tryd.prog sg (47, .idxB) := ⟨by kernel_rfl, fun s c w => Any.strings_IndexByte L137 s c w⟩
theorem is_join : IsStr Tryd.prog sg (28, .join) := ⟨by kernel_rfl, ⟨fun a c sep w => Any.strings_Join_none L156 X156 a c sep w, fun bk o c xs sep w h1 h2 h3 h4 h5 => Any.strings_Join L156 X156 bk o c xs sep w h1 h2 h3 h4 h5⟩⟩
theorem is_itoa : IsStr Tryd.prog sg (27, .itoa) := ⟨by kernel_rfl, fun n w h0 h1 h2 => Any.strconv_Itoa L171 n h0 h1 w (tab_is w h2)⟩
theorem is_fmt : IsStr Tryd.prog sg (35, .fmt) := ⟨by kernel_rfl, fun n w h0 h1 h2 => Any.strconv_FormatInt_10 L173 n h0 h1 w (tab_is w h2)⟩
theorem is_parse : IsStr Tryd.prog sg (33, .parse) := ⟨by kernel_rfl, ⟨fun s v w h1 h2 => (Any.strconv_ParseInt_10_at64_ok L174 s (by omega) v h2 w).mono fun e w' ⟨he, hb⟩ => ⟨he, by rcases hb with rfl | ⟨t, rfl⟩ <;> first | exact Below.refl _ _ | exact Lib.bytesWorld_below _ _ _⟩,
    fun s te pe w h1 h2 h3 => (Any.strconv_ParseInt_10_at64_syntax L174 s h1 (by revert h2; cases Lib.parseIntB 64 s.data.toList <;> intro h2 <;> first | rfl | cases h2) _ w h3 (Or.inr ⟨_, _, rfl⟩)).mono fun e w' ⟨N, he, h4, _, h5⟩ => ⟨N, he, h4, h5⟩,
    fun s te pe w h1 h2 h3 => (Any.strconv_ParseInt_10_at64_range L174 s h1 h2 _ w h3 (Or.inr ⟨_, _, rfl⟩)).mono fun e w' ⟨N, he, h4, _, h5⟩ => ⟨N, he, h4, h5⟩⟩⟩
def strs : List (Nat × Sk) := [(36, .cut), (94, .idx), (53, .split), (39, .cutS), (32, .trimP), (47, .idxB), (28, .join), (27, .itoa), (35, .fmt), (33, .parse)]
theorem strs_ok : ∀ x, x ∈ strs → IsStr Tryd.prog sg x := by
  intro x hx
  simp only [strs, List.mem_cons, List.not_mem_nil, or_false] at hx
  rcases hx with rfl | rfl | rfl | rfl | rfl | rfl | rfl | rfl | rfl | rfl
  · exact is_cut
  · exact is_idx
  · exact is_split
  · exact is_cutS
  · exact is_trimP
  · exact is_idxB
  · exact is_join
  · exact is_itoa
  · exact is_fmt
  · exact is_parse
end Go.Proofs.YtcoghkkhjaokmaaDoor
end

section
set_option maxRecDepth 100000
namespace Go.Proofs.YtcoghkkhjaokmaaDoor.textApart
open Go.RowKit Go.Vm Go.ChangeShapes
def laidL : List (String × DataW Unit) := [("math/bits.deBruijn32tab", Rows.laid_math_bits_deBruijn32tab), ("math/bits.deBruijn64tab", Rows.laid_math_bits_deBruijn64tab), ("internal/strconv.uint64pow10", Rows.laid_internal_strconv_uint64pow10), ("unicode/utf8.acceptRanges", Rows.laid_unicode_utf8_acceptRanges), ("strconv.ErrRange", Rows.laid_strconv_ErrRange), ("strconv.ErrSyntax", Rows.laid_strconv_ErrSyntax), ("unicode/utf8.first", Rows.laid_unicode_utf8_first)]
def tbl (m : Int) : List (Nat × Blk) := [(2, .whole (powL 20 1)), (0, .cells [.iface 135 (.ptr 8 0)] true), (1, .cells [.iface 135 (.ptr 9 0)] true), (3, .cells [.int .i64 m] true)]
theorem star : "*" ++ "errors.errorString" = "*errors.errorString" := by decide
theorem rowE (u : TypeId) (h : Tryd.prog.typeName? 3 u = some "*errors.errorString") : u = 135 :=
  typeName_ptr_named (nm := "errors.errorString") (by rw [star]; kernel_rfl) (by kernel_rfl) (by decide) u (by rw [star]; exact h)
theorem laid_w {W : World} (hL : laidMetH Tryd.prog laidL W) (hS : W.ShapedOpen Tryd.prog) : ∃ m pls, pls.length = 2 ∧ ∀ σ, LaidW Tryd.prog (laidE Tryd.prog (tbl m) pls σ) W (tbl m) := by
  have h : laidMet Tryd.prog laidL W := (laidMetH_iff.1 hL).1
  obtain ⟨a0, s0, hv0, hc0, -, -⟩ := laid_sentinel (n := "strconv.ErrSyntax") h.tail.tail.tail.tail.tail (g := 0) (ti := 76) (tp := 135) (te := 137) (ts := 9) (by kernel_rfl) (by kernel_rfl) Tryd.underlying76 rowE Tryd.underlying135 Tryd.underlying137 rfl rfl Tryd.underlying9 (by kernel_rfl) (by kernel_rfl)
  obtain ⟨a1, s1, hv1, hc1, -, -⟩ := laid_sentinel (n := "strconv.ErrRange") h.tail.tail.tail.tail (g := 1) (ti := 76) (tp := 135) (te := 137) (ts := 9) (by kernel_rfl) (by kernel_rfl) Tryd.underlying76 rowE Tryd.underlying135 Tryd.underlying137 rfl rfl Tryd.underlying9 (by kernel_rfl) (by kernel_rfl)
  obtain ⟨m, hm⟩ : ∃ m, W.cell? ⟨3, 0, none⟩ = some (.int .i64 m) := cell_of_shapedOpen_int (zero := #[.int .i64 0]) (t := 3) hS (of_decide_eq_true (by kernel_rfl)) (by kernel_rfl) rfl (by kernel_rfl) (by kernel_rfl) Tryd.underlying3
  have ht := Lib.tabIs_of_head (name := "internal/strconv.uint64pow10") (k := .u64) (zs := Lib.pow10Tab) (P := Tryd.prog) (W := W) (g := 2) (t := 129) (e := 104) (n := 20) (by kernel_rfl) (by kernel_rfl) (by show Program.underlying _ _ = _; kernel_rfl) (by show Program.underlying _ _ = _; kernel_rfl) (by kernel_rfl) (by kernel_rfl) h.tail.tail
  obtain ⟨e, fz, hh⟩ := var_heap (g := 2) (by kernel_rfl) ht
  refine ⟨m, [⟨a0.block, a0.off, 0⟩, ⟨a1.block, a1.off, 0⟩], rfl, fun σ g x hx => ?_⟩
  simp only [tbl, tblAt, nbeq_d] at hx
  by_cases h1 : 2 = g
  · subst h1
    simp at hx
    subst hx
    exact ⟨of_decide_eq_true (by kernel_rfl), rfl, _, e, fz, hh, by simpa using powL_vr⟩
  · rw [show decide (2 = g) = false from decide_eq_false h1] at hx
    by_cases h2 : 0 = g
    · subst h2
      simp at hx
      subst hx
      exact ⟨of_decide_eq_true (by kernel_rfl), rfl, laid_err (by kernel_rfl) hv0 hc0 rfl⟩
    · rw [show decide (0 = g) = false from decide_eq_false h2] at hx
      by_cases h3 : 1 = g
      · subst h3
        simp at hx
        subst hx
        exact ⟨of_decide_eq_true (by kernel_rfl), rfl, laid_err (by kernel_rfl) hv1 hc1 rfl⟩
      · rw [show decide (1 = g) = false from decide_eq_false h3] at hx
        by_cases h4 : 3 = g
        · subst h4
          simp at hx
          subst hx
          exact ⟨of_decide_eq_true (by kernel_rfl), rfl, laid_int hm⟩
        · rw [show decide (3 = g) = false from decide_eq_false h4] at hx
          simp at hx
theorem door_met (os : Os) (args : Array Value) : laidMetH Tryd.prog laidL ((World.laidAll Tryd.prog os laidL).forCall (fun _ _ => 0) ⟨#[], args, []⟩).memory := by
  rw [MakeChecks.laidMetH_plain _ _ _ (by kernel_rfl)]
  exact laidMet_laidAll _ (by kernel_rfl) (by kernel_rfl)
end Go.Proofs.YtcoghkkhjaokmaaDoor.textApart
end

section
set_option maxRecDepth 100000
namespace Go.Proofs.YtcoghkkhjaokmaaDoor.sa
open Go.Vm Go.Dv Go.Lib
def gl0 : Nat → Option (Blk → Prop) := fun c => if c = sg.pow then some (fun y => powCells y = true) else if c = sg.syn then some (fun y => errCellT 135 y = true) else if c = sg.rng then some (fun y => errCellT 135 y = true) else if c = sg.max then some (fun y => intCell y = true) else none
def pr : Vm.Prog := { mach [] with gl := gl0 }
theorem pow0 : PowGl pr sg := by show gl0 sg.pow = _; unfold gl0; rw [if_pos rfl]
theorem syn0 : pr.gl sg.syn = some (fun y => errCellT 135 y = true) := by show gl0 sg.syn = _; unfold gl0; rw [if_neg (by decide), if_pos rfl]
theorem rng0 : pr.gl sg.rng = some (fun y => errCellT 135 y = true) := by show gl0 sg.rng = _; unfold gl0; rw [if_neg (by decide), if_neg (by decide), if_pos rfl]
theorem max0 : pr.gl sg.max = some (fun y => intCell y = true) := by show gl0 sg.max = _; unfold gl0; rw [if_neg (by decide), if_neg (by decide), if_neg (by decide), if_pos rfl]
def xt0 : Ext := orX (strX sg strs) (extBy exts)
def xt : Ext := orX (constT sg 135 [14]) xt0
theorem has6 : Go.Dv.Has pr xt F0 6 Go.Lib.M6 := ⟨by kernel_rfl, fun _ _ => rfl⟩
theorem has15 : Go.Dv.Has pr xt F0 15 Go.Lib.M15 := ⟨by kernel_rfl, fun _ _ => rfl⟩
theorem has23 : Go.Dv.Has pr xt F0 23 Go.Lib.M23 := ⟨by kernel_rfl, fun _ _ => rfl⟩
theorem has25 : Go.Dv.Has pr xt F0 25 Go.Lib.M25 := ⟨by kernel_rfl, fun _ _ => rfl⟩
theorem has48 : Go.Dv.Has pr xt F0 48 Go.Lib.M48 := ⟨by kernel_rfl, fun _ _ => rfl⟩
theorem has49 : Go.Dv.Has pr xt F0 49 Go.Lib.M49 := ⟨by kernel_rfl, fun _ _ => rfl⟩
theorem has50 : Go.Dv.Has pr xt F0 50 Go.Lib.M50 := ⟨by kernel_rfl, fun _ _ => rfl⟩
theorem has99 : Go.Dv.Has pr xt F0 99 Go.Lib.M99 := ⟨by kernel_rfl, fun _ _ => rfl⟩
theorem has212 : Go.Dv.Has pr xt F0 212 Go.Lib.M212 := ⟨by kernel_rfl, fun _ _ => rfl⟩
theorem has213 : Go.Dv.Has pr xt F0 213 Go.Lib.M213 := ⟨by kernel_rfl, fun _ _ => rfl⟩
theorem has214 : Go.Dv.Has pr xt F0 214 Go.Lib.M214 := ⟨by kernel_rfl, fun _ _ => rfl⟩
theorem has215 : Go.Dv.Has pr xt F0 215 Go.Lib.M215 := ⟨by kernel_rfl, fun _ _ => rfl⟩
theorem has216 : Go.Dv.Has pr xt F0 216 Go.Lib.M216 := ⟨by kernel_rfl, fun _ _ => rfl⟩
theorem has217 : Go.Dv.Has pr xt F0 217 Go.Lib.M217 := ⟨by kernel_rfl, fun _ _ => rfl⟩
theorem has218 : Go.Dv.Has pr xt F0 218 Go.Lib.M218 := ⟨by kernel_rfl, fun _ _ => rfl⟩
theorem has219 : Go.Dv.Has pr xt F0 219 Go.Lib.M219 := ⟨by kernel_rfl, fun _ _ => rfl⟩
theorem has220 : Go.Dv.Has pr xt F0 220 Go.Lib.M220 := ⟨by kernel_rfl, fun _ _ => rfl⟩
theorem has221 : Go.Dv.Has pr xt F0 221 Go.Lib.M221 := ⟨by kernel_rfl, fun _ _ => rfl⟩
theorem has228 : Go.Dv.Has pr xt F0 228 Go.Lib.M228 := ⟨by kernel_rfl, fun _ _ => rfl⟩
theorem has229 : Go.Dv.Has pr xt F0 229 Go.Lib.M229 := ⟨by kernel_rfl, fun _ _ => rfl⟩
end Go.Proofs.YtcoghkkhjaokmaaDoor.sa
end

section
set_option maxRecDepth 100000
namespace Go.Proofs.YtcoghkkhjaokmaaDoor.sa
open Go.Vm
theorem awakeR : ∀ m : Int, runsL (mach []) (orX (strX sg strs) (extBy exts)) 1000000 14 [] (laidH Tryd.prog.globals.size 2 (fullT sg 135 Tryd.prog.globals.size m)) = true := fun m => by kernel_rfl
end Go.Proofs.YtcoghkkhjaokmaaDoor.sa
end

section
set_option maxRecDepth 100000
namespace Go.Proofs.YtcoghkkhjaokmaaDoor.sa
open Go.Vm Go.Dv Go.Lib
theorem hawake : FnD pr xt (F0 230) [] (.lit (.bool true)) := by
  intro H ψ S h vs s k
  simp only [VDl] at k
  subst k
  have hp : powCells (h.blk sg.pow) = true := (s.gl sg.pow _ pow0).2
  have h1 : errCellT 135 (h.blk sg.syn) = true := (s.gl sg.syn _ syn0).2
  have h2 : errCellT 135 (h.blk sg.rng) = true := (s.gl sg.rng _ rng0).2
  have h3 : intCell (h.blk sg.max) = true := (s.gl sg.max _ max0).2
  refine wpc_ext (v := .bool true) (h' := h) ?_ ⟨ψ, S, _, H, .refl, s, ?_, rfl, rfl⟩
  · show orX (constT sg 135 [_]) xt0 _ [] h = _
    unfold orX constT
    rw [hp, h1, h2, h3]; rfl
  · simp [VD, atomV]
theorem orX_none {a b : Ext} {f : Nat} {args : List V} {h : Hp} (hb : b f args h = none) : orX a b f args h = a f args h := by unfold orX; rw [hb]; cases a f args h <;> rfl
theorem orX_snd {a b : Ext} {f : Nat} {args : List V} {h : Hp} (ha : a f args h = none) : orX a b f args h = b f args h := by unfold orX; rw [ha]
theorem x207 : ∀ args h, xt (F0 207) args h = strV sg .join args h := fun _ _ => (orX_snd rfl).trans ((orX_none rfl).trans rfl)
theorem x209 : ∀ args h, xt (F0 209) args h = strV sg .fmt args h := fun _ _ => (orX_snd rfl).trans ((orX_none rfl).trans rfl)
theorem htext : HText pr xt F0 := ⟨⟨has6, has15⟩, has214, has216, has218, has219, has220, has221⟩
theorem htold : HTold pr xt F0 sg := ⟨htext, ⟨has213, x209, pow0⟩, x207, has212, has215, has217⟩
theorem hsamp : HSamP pr xt F0 := ⟨⟨has48, has49, has50⟩, has229⟩
theorem hpredl : HPredL pr xt F0 := ⟨⟨has23, has25⟩, has99⟩
theorem hlaw : HApart pr xt F0 sg := ⟨htold, hsamp, hpredl, hawake, has228⟩
theorem mixed : Tryd.prog.follows .mixedOrders = true := by kernel_rfl
theorem xt0_ok {env : Env} : CallOk Tryd.prog env xt0 := orX_ok (strX_ok sg_ok strs_ok) (extBy_ok extsOk)
theorem xt0_rises : Rises xt0 := orX_rises (strX_rises _ _) (extBy_rises _)
theorem xt_ok {env : Env} : CallOk Tryd.prog env xt := orX_ok (constT_ok mixed (valid []) xt0_rises xt0_ok rfl intsOk (n := 1000000) sg_ok fun f hf => by
  rcases List.mem_cons.1 hf with rfl | hf
  · exact ⟨by kernel_rfl, awakeR⟩
  · cases hf) xt0_ok
theorem xt_rises : Rises xt := orX_rises (constT_rises _ _ _) xt0_rises
end Go.Proofs.YtcoghkkhjaokmaaDoor.sa
end
