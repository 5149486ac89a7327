/-
  Texts that the claim's last one rests on, joined.
-/
import Derived.Test.YtnbmmnjihipahaaBAggrTellsf
import Derived.Test.YtnbmmnjihipahaaBAggrTellsc

section
namespace Go.Lib
open Go.Vm Go.Dv
set_option maxRecDepth 100000
abbrev K53 (F : Nat → Nat) : KC := .seq (.region [⟨(some 2),(.p (.mov (.val (.nilslice)))),none⟩] [] [0])
 (.seq (.region [⟨(some 3),(.p (.mov (.val (.nilslice)))),none⟩] [] [0,3])
 (.seq (.seq (.region [⟨(some 4),(.p (.mov (.val (.int .i64 (.ofNat 0))))),none⟩] [] [0,3,4])
 (.block 0 (.loop (.seq (.seq (.region [⟨(some 6),(.p (.mov (.tmp 4))),none⟩,⟨(some 7),(.p (.mov (.tmp 0))),none⟩,⟨(some 8),(.p (.lenb (.tmp 7))),none⟩,⟨(some 9),(.p (.bin .lss (.tmp 6) (.tmp 8))),none⟩] [] [0,3,4,9])
 (.cond (.tmp 9) (.skip)
 (.exit 0)))
 (.seq (.block 1 (.seq (.region [⟨(some 12),(.p (.mov (.tmp 3))),none⟩,⟨(some 13),(.p (.lenb (.tmp 12))),none⟩,⟨(some 5),(.p (.mov (.tmp 13))),none⟩] [] [0,3,4,5])
 (.seq (.block 2 (.loop (.seq (.seq (.dregion [⟨⟨(some 14),(.p (.mov (.tmp 5))),none⟩,0,12⟩,⟨⟨(some 15),(.p (.bin .gtr (.tmp 14) (.val (.int .i64 (.ofNat 0))))),none⟩,0,12⟩,⟨⟨(some 16),(.p (.mov (.tmp 15))),none⟩,0,12⟩,⟨⟨(some 17),(.p (.mov (.tmp 3))),(some (16,true))⟩,0,12⟩,⟨⟨(some 18),(.p (.mov (.tmp 5))),(some (16,true))⟩,0,12⟩,⟨⟨(some 19),(.p (.bin .sub (.tmp 18) (.val (.int .i64 (.ofNat 1))))),(some (16,true))⟩,0,12⟩,⟨⟨(some 20),(.p (.iaddr 1 (.tmp 17) (.tmp 19))),(some (16,true))⟩,0,12⟩,⟨⟨(some 21),(.load1 (.tmp 20)),(some (16,true))⟩,0,12⟩,⟨⟨(some 22),(.p (.mov (.tmp 0))),(some (16,true))⟩,0,12⟩,⟨⟨(some 23),(.p (.mov (.tmp 4))),(some (16,true))⟩,0,12⟩,⟨⟨(some 24),(.p (.iaddr 1 (.tmp 22) (.tmp 23))),(some (16,true))⟩,0,12⟩,⟨⟨(some 25),(.load1 (.tmp 24)),(some (16,true))⟩,0,12⟩,⟨⟨(some 26),(.e (.call (F 47) [(.tmp 21),(.tmp 25)])),(some (16,true))⟩,0,15⟩,⟨⟨(some 27),(.p (.bin .gtr (.tmp 26) (.val (.int .i64 (.ofNat 0))))),(some (16,true))⟩,13,15⟩,⟨⟨(some 28),(.p (.pick (.tmp 16) (.tmp 27) (.val (.bool false)))),none⟩,13,15⟩] [0,3,4,5,28])
 (.cond (.tmp 28) (.skip)
 (.exit 2)))
 (.block 3 (.region [⟨(some 29),(.p (.mov (.tmp 5))),none⟩,⟨(some 30),(.p (.bin .sub (.tmp 29) (.val (.int .i64 (.ofNat 1))))),none⟩,⟨(some 5),(.p (.mov (.tmp 30))),none⟩] [] [0,3,4,5])))))
 (.dregion [⟨⟨(some 31),(.a (.bslice [] 1 0 [])),none⟩,0,4⟩,⟨⟨(some 32),(.p (.mov (.tmp 3))),none⟩,0,4⟩,⟨⟨(some 33),(.p (.mov (.tmp 5))),none⟩,0,4⟩,⟨⟨(some 34),(.p (.slc 1 (.tmp 32) none (some (.tmp 33)) none)),none⟩,0,4⟩,⟨⟨(some 35),(.e (.append 1 24 (.tmp 31) (.tmp 34))),none⟩,0,10⟩,⟨⟨(some 36),(.p (.mov (.tmp 0))),none⟩,0,10⟩,⟨⟨(some 37),(.p (.mov (.tmp 4))),none⟩,0,10⟩,⟨⟨(some 38),(.p (.iaddr 1 (.tmp 36) (.tmp 37))),none⟩,0,10⟩,⟨⟨(some 39),(.load1 (.tmp 38)),none⟩,0,10⟩,⟨⟨(some 40),(.a (.bslice [.nilslice] 1 1 [(0,1,(.tmp 39))])),none⟩,0,10⟩,⟨⟨(some 41),(.e (.append 1 24 (.tmp 35) (.tmp 40))),none⟩,5,14⟩,⟨⟨(some 42),(.p (.mov (.tmp 3))),none⟩,0,14⟩,⟨⟨(some 43),(.p (.mov (.tmp 5))),none⟩,0,14⟩,⟨⟨(some 44),(.p (.slc 1 (.tmp 42) (some (.tmp 43)) none none)),none⟩,0,14⟩,⟨⟨(some 45),(.e (.append 1 24 (.tmp 41) (.tmp 44))),none⟩,11,16⟩,⟨⟨(some 3),(.p (.mov (.tmp 45))),none⟩,15,16⟩] [0,3,4]))))
 (.region [⟨(some 10),(.p (.mov (.tmp 4))),none⟩,⟨(some 11),(.p (.bin .add (.tmp 10) (.val (.int .i64 (.ofNat 1))))),none⟩,⟨(some 4),(.p (.mov (.tmp 11))),none⟩] [] [0,3,4]))))))
 (.seq (.region [⟨(some 46),(.p (.mov (.tmp 3))),none⟩,⟨(some 2),(.p (.mov (.tmp 46))),none⟩] [] [2])
 (.ret))))
def M53 (F : Nat → Nat) : Fun := ⟨47,1,(K53 F).erase,[.tmp 2]⟩
theorem ok53 {F : Nat → Nat} : (K53 F).ok = true := rfl
abbrev K54 (F : Nat → Nat) : KC := .seq (.region [⟨(some 4),(.p (.mov (.val (.nilslice)))),none⟩] [] [0,1])
 (.seq (.region [⟨(some 5),(.p (.mov (.val (.nilslice)))),none⟩] [] [0,1,5])
 (.seq (.seq (.region [⟨(some 6),(.p (.mov (.val (.int .i64 (.ofNat 0))))),none⟩] [] [0,1,5,6])
 (.block 0 (.loop (.seq (.seq (.region [⟨(some 9),(.p (.mov (.tmp 6))),none⟩,⟨(some 10),(.p (.mov (.tmp 0))),none⟩,⟨(some 11),(.p (.lenb (.tmp 10))),none⟩,⟨(some 12),(.p (.bin .lss (.tmp 9) (.tmp 11))),none⟩] [] [0,1,5,6,12])
 (.cond (.tmp 12) (.skip)
 (.exit 0)))
 (.seq (.block 1 (.seq (.region [⟨(some 7),(.p (.mov (.val (.nilslice)))),none⟩] [] [0,1,5,6,7])
 (.seq (.seq (.region [⟨(some 8),(.p (.mov (.val (.int .i64 (.ofNat 0))))),none⟩] [] [0,1,5,6,7,8])
 (.block 2 (.loop (.seq (.seq (.region [⟨(some 15),(.p (.mov (.tmp 8))),none⟩,⟨(some 16),(.p (.mov (.tmp 1))),none⟩,⟨(some 17),(.p (.lenb (.tmp 16))),none⟩,⟨(some 18),(.p (.bin .lss (.tmp 15) (.tmp 17))),none⟩] [] [0,1,5,6,7,8,18])
 (.cond (.tmp 18) (.skip)
 (.exit 2)))
 (.seq (.block 3 (.dregion [⟨⟨(some 21),(.p (.mov (.tmp 7))),none⟩,0,12⟩,⟨⟨(some 22),(.p (.mov (.tmp 0))),none⟩,0,12⟩,⟨⟨(some 23),(.p (.mov (.tmp 6))),none⟩,0,12⟩,⟨⟨(some 24),(.p (.iaddr 1 (.tmp 22) (.tmp 23))),none⟩,0,12⟩,⟨⟨(some 25),(.load1 (.tmp 24)),none⟩,0,12⟩,⟨⟨(some 26),(.p (.mov (.tmp 1))),none⟩,0,12⟩,⟨⟨(some 27),(.p (.mov (.tmp 8))),none⟩,0,12⟩,⟨⟨(some 28),(.p (.iaddr 1 (.tmp 26) (.tmp 27))),none⟩,0,12⟩,⟨⟨(some 29),(.load1 (.tmp 28)),none⟩,0,12⟩,⟨⟨(some 30),(.p (.iaddr 4 (.tmp 25) (.tmp 29))),none⟩,0,12⟩,⟨⟨(some 31),(.loadn 4 (.tmp 30)),none⟩,0,12⟩,⟨⟨(some 32),(.a (.bslice [.bool false,.int .i64 (.ofNat 0),.int .i64 (.ofNat 0),.nilslice] 4 1 [(0,4,(.tmp 31))])),none⟩,0,12⟩,⟨⟨(some 33),(.e (.append 4 48 (.tmp 21) (.tmp 32))),none⟩,0,14⟩,⟨⟨(some 7),(.p (.mov (.tmp 33))),none⟩,13,14⟩] [0,1,5,6,7,8]))
 (.region [⟨(some 19),(.p (.mov (.tmp 8))),none⟩,⟨(some 20),(.p (.bin .add (.tmp 19) (.val (.int .i64 (.ofNat 1))))),none⟩,⟨(some 8),(.p (.mov (.tmp 20))),none⟩] [] [0,1,5,6,7,8]))))))
 (.region [⟨(some 34),(.p (.mov (.tmp 5))),none⟩,⟨(some 35),(.p (.mov (.tmp 7))),none⟩,⟨(some 36),(.a (.bslice [.nilslice] 1 1 [(0,1,(.tmp 35))])),none⟩,⟨(some 37),(.e (.append 1 24 (.tmp 34) (.tmp 36))),none⟩,⟨(some 5),(.p (.mov (.tmp 37))),none⟩] [36] [0,1,5,6]))))
 (.region [⟨(some 13),(.p (.mov (.tmp 6))),none⟩,⟨(some 14),(.p (.bin .add (.tmp 13) (.val (.int .i64 (.ofNat 1))))),none⟩,⟨(some 6),(.p (.mov (.tmp 14))),none⟩] [] [0,1,5,6]))))))
 (.seq (.region [⟨(some 38),(.p (.mov (.tmp 5))),none⟩,⟨(some 39),(.e (.call (F 53) [(.tmp 38)])),none⟩,⟨(some 4),(.p (.mov (.tmp 39))),none⟩] [] [4])
 (.ret))))
def M54 (F : Nat → Nat) : Fun := ⟨40,2,(K54 F).erase,[.tmp 4]⟩
theorem ok54 {F : Nat → Nat} : (K54 F).ok = true := rfl
abbrev K55 (F : Nat → Nat) : KC := .seq (.region [⟨(some 6),(.p (.mov (.val (.nilslice)))),none⟩,⟨(some 7),(.p (.mov (.val (.bool false)))),none⟩] [] [0,1,2])
 (.seq (.seq (.region [⟨(some 16),(.p (.mov (.tmp 1))),none⟩,⟨(some 17),(.p (.bin .lss (.tmp 16) (.val (.int .i64 (.ofNat 0))))),none⟩] [] [0,1,2,17])
 (.cond (.tmp 17) (.seq (.region [⟨(some 19),(.p (.mov (.tmp 0))),none⟩,⟨(some 20),(.p (.mov (.tmp 2))),none⟩,⟨(some 21),(.e (.call (F 57) [(.tmp 19),(.tmp 20)])),none⟩,⟨(some 18),(.p (.mov (.tmp 21))),none⟩,⟨(some 22),(.p (.ext (.tmp 18) 0)),none⟩,⟨(some 23),(.p (.ext (.tmp 18) 1)),none⟩,⟨(some 8),(.p (.mov (.tmp 22))),none⟩,⟨(some 9),(.p (.mov (.tmp 23))),none⟩] [] [8,9])
 (.seq (.seq (.region [⟨(some 24),(.p (.mov (.tmp 9))),none⟩,⟨(some 25),(.p (.not (.tmp 24))),none⟩] [] [8,25])
 (.cond (.tmp 25) (.seq (.region [⟨(some 6),(.p (.mov (.val (.nilslice)))),none⟩,⟨(some 7),(.p (.mov (.val (.bool false)))),none⟩] [] [6,7])
 (.ret))
 (.skip)))
 (.seq (.region [⟨(some 26),(.p (.mov (.tmp 8))),none⟩,⟨(some 27),(.a (.bslice [.nilslice] 1 1 [(0,1,(.tmp 26))])),none⟩,⟨(some 6),(.p (.mov (.tmp 27))),none⟩,⟨(some 7),(.p (.mov (.val (.bool true)))),none⟩] [27] [6,7])
 (.ret))))
 (.skip)))
 (.seq (.region [⟨(some 10),(.p (.mov (.val (.nilslice)))),none⟩] [] [0,1,2,10])
 (.seq (.region [⟨(some 28),(.p (.mov (.tmp 0))),none⟩,⟨(some 29),(.p (.mov (.tmp 1))),none⟩,⟨(some 30),(.e (.call (F 58) [(.tmp 28),(.tmp 29)])),none⟩,⟨(some 31),(.e (.call (F 53) [(.tmp 30)])),none⟩,⟨(some 0),(.p (.mov (.tmp 31))),none⟩] [] [0,2,10])
 (.seq (.seq (.region [⟨(some 11),(.p (.mov (.val (.int .i64 (.ofNat 0))))),none⟩] [] [0,2,10,11])
 (.block 0 (.loop (.seq (.seq (.region [⟨(some 32),(.p (.mov (.tmp 11))),none⟩,⟨(some 33),(.p (.mov (.tmp 0))),none⟩,⟨(some 34),(.p (.lenb (.tmp 33))),none⟩,⟨(some 35),(.p (.bin .lss (.tmp 32) (.tmp 34))),none⟩] [] [0,2,10,11,35])
 (.cond (.tmp 35) (.skip)
 (.exit 0)))
 (.block 1 (.seq (.region [⟨(some 36),(.p (.mov (.tmp 11))),none⟩,⟨(some 12),(.p (.mov (.tmp 36))),none⟩] [] [0,2,10,11,12])
 (.seq (.region [⟨(some 13),(.p (.mov (.val (.nilslice)))),none⟩] [] [0,2,10,11,12,13])
 (.seq (.block 2 (.loop (.seq (.seq (.dregion [⟨⟨(some 37),(.p (.mov (.tmp 12))),none⟩,0,17⟩,⟨⟨(some 38),(.p (.mov (.tmp 0))),none⟩,0,17⟩,⟨⟨(some 39),(.p (.lenb (.tmp 38))),none⟩,0,17⟩,⟨⟨(some 40),(.p (.bin .lss (.tmp 37) (.tmp 39))),none⟩,0,17⟩,⟨⟨(some 41),(.p (.mov (.tmp 40))),none⟩,0,17⟩,⟨⟨(some 42),(.p (.mov (.tmp 0))),(some (41,true))⟩,0,17⟩,⟨⟨(some 43),(.p (.mov (.tmp 12))),(some (41,true))⟩,0,17⟩,⟨⟨(some 44),(.p (.iaddr 1 (.tmp 42) (.tmp 43))),(some (41,true))⟩,0,17⟩,⟨⟨(some 45),(.load1 (.tmp 44)),(some (41,true))⟩,0,17⟩,⟨⟨(some 46),(.p (.iaddr 4 (.tmp 45) (.val (.int .i64 (.ofNat 0))))),(some (41,true))⟩,0,17⟩,⟨⟨(some 47),(.loadn 4 (.tmp 46)),(some (41,true))⟩,0,17⟩,⟨⟨(some 48),(.p (.mov (.tmp 0))),(some (41,true))⟩,0,17⟩,⟨⟨(some 49),(.p (.mov (.tmp 11))),(some (41,true))⟩,0,17⟩,⟨⟨(some 50),(.p (.iaddr 1 (.tmp 48) (.tmp 49))),(some (41,true))⟩,0,17⟩,⟨⟨(some 51),(.load1 (.tmp 50)),(some (41,true))⟩,0,17⟩,⟨⟨(some 52),(.p (.iaddr 4 (.tmp 51) (.val (.int .i64 (.ofNat 0))))),(some (41,true))⟩,0,17⟩,⟨⟨(some 53),(.loadn 4 (.tmp 52)),(some (41,true))⟩,0,17⟩,⟨⟨(some 54),(.e (.call (F 50) [(.tmp 47),(.tmp 53)])),(some (41,true))⟩,0,19⟩,⟨⟨(some 55),(.p (.pick (.tmp 41) (.tmp 54) (.val (.bool false)))),none⟩,18,19⟩] [0,2,10,11,12,13,55])
 (.cond (.tmp 55) (.skip)
 (.exit 2)))
 (.block 3 (.seq (.region [⟨(some 56),(.p (.mov (.tmp 13))),none⟩,⟨(some 57),(.p (.mov (.tmp 0))),none⟩,⟨(some 58),(.p (.mov (.tmp 12))),none⟩,⟨(some 59),(.p (.iaddr 1 (.tmp 57) (.tmp 58))),none⟩,⟨(some 60),(.load1 (.tmp 59)),none⟩,⟨(some 61),(.p (.slc 4 (.tmp 60) (some (.val (.int .i64 (.ofNat 1)))) none none)),none⟩,⟨(some 62),(.a (.bslice [.nilslice] 1 1 [(0,1,(.tmp 61))])),none⟩,⟨(some 63),(.e (.append 1 24 (.tmp 56) (.tmp 62))),none⟩,⟨(some 13),(.p (.mov (.tmp 63))),none⟩] [62] [0,2,10,11,12,13])
 (.region [⟨(some 64),(.p (.mov (.tmp 12))),none⟩,⟨(some 65),(.p (.bin .add (.tmp 64) (.val (.int .i64 (.ofNat 1))))),none⟩,⟨(some 12),(.p (.mov (.tmp 65))),none⟩] [] [0,2,10,11,12,13]))))))
 (.seq (.region [⟨(some 67),(.p (.mov (.tmp 13))),none⟩,⟨(some 68),(.p (.mov (.tmp 2))),none⟩,⟨(some 69),(.e (.call (F 57) [(.tmp 67),(.tmp 68)])),none⟩,⟨(some 66),(.p (.mov (.tmp 69))),none⟩,⟨(some 70),(.p (.ext (.tmp 66) 0)),none⟩,⟨(some 71),(.p (.ext (.tmp 66) 1)),none⟩,⟨(some 14),(.p (.mov (.tmp 70))),none⟩,⟨(some 15),(.p (.mov (.tmp 71))),none⟩] [] [0,2,10,11,12,14,15])
 (.seq (.seq (.region [⟨(some 72),(.p (.mov (.tmp 15))),none⟩,⟨(some 73),(.p (.not (.tmp 72))),none⟩] [] [0,2,10,11,12,14,73])
 (.cond (.tmp 73) (.seq (.region [⟨(some 6),(.p (.mov (.val (.nilslice)))),none⟩,⟨(some 7),(.p (.mov (.val (.bool false)))),none⟩] [] [6,7])
 (.ret))
 (.skip)))
 (.seq (.region [⟨(some 74),(.p (.mov (.tmp 10))),none⟩,⟨(some 75),(.p (.mov (.tmp 0))),none⟩,⟨(some 76),(.p (.mov (.tmp 11))),none⟩,⟨(some 77),(.p (.iaddr 1 (.tmp 75) (.tmp 76))),none⟩,⟨(some 78),(.load1 (.tmp 77)),none⟩,⟨(some 79),(.p (.iaddr 4 (.tmp 78) (.val (.int .i64 (.ofNat 0))))),none⟩,⟨(some 80),(.loadn 4 (.tmp 79)),none⟩,⟨(some 81),(.a (.bslice [.bool false,.int .i64 (.ofNat 0),.int .i64 (.ofNat 0),.nilslice] 4 1 [(0,4,(.tmp 80))])),none⟩,⟨(some 82),(.p (.mov (.tmp 14))),none⟩,⟨(some 83),(.e (.append 4 48 (.tmp 81) (.tmp 82))),none⟩,⟨(some 84),(.a (.bslice [.nilslice] 1 1 [(0,1,(.tmp 83))])),none⟩,⟨(some 85),(.e (.append 1 24 (.tmp 74) (.tmp 84))),none⟩,⟨(some 10),(.p (.mov (.tmp 85))),none⟩] [84] [0,2,10,12])
 (.region [⟨(some 86),(.p (.mov (.tmp 12))),none⟩,⟨(some 11),(.p (.mov (.tmp 86))),none⟩] [] [0,2,10,11]))))))))))))
 (.seq (.region [⟨(some 87),(.p (.mov (.tmp 10))),none⟩,⟨(some 6),(.p (.mov (.tmp 87))),none⟩,⟨(some 7),(.p (.mov (.val (.bool true)))),none⟩] [] [6,7])
 (.ret))))))
def M55 (F : Nat → Nat) : Fun := ⟨88,3,(K55 F).erase,[.tmp 6,.tmp 7]⟩
theorem ok55 {F : Nat → Nat} : (K55 F).ok = true := rfl
abbrev K56 (F : Nat → Nat) : KC := .seq (.region [⟨(some 4),(.p (.mov (.val (.nilslice)))),none⟩,⟨(some 5),(.p (.mov (.val (.bool false)))),none⟩] [] [0,1])
 (.seq (.region [⟨(some 11),(.a (.bslice [] 4 0 [])),none⟩,⟨(some 12),(.p (.mov (.tmp 0))),none⟩,⟨(some 13),(.e (.append 4 48 (.tmp 11) (.tmp 12))),none⟩,⟨(some 6),(.p (.mov (.tmp 13))),none⟩] [] [1,6])
 (.seq (.seq (.region [⟨(some 7),(.p (.mov (.val (.int .i64 (.ofNat 0))))),none⟩] [] [1,6,7])
 (.block 0 (.loop (.seq (.seq (.region [⟨(some 14),(.p (.mov (.tmp 7))),none⟩,⟨(some 15),(.p (.mov (.tmp 1))),none⟩,⟨(some 16),(.p (.lenb (.tmp 15))),none⟩,⟨(some 17),(.p (.bin .lss (.tmp 14) (.tmp 16))),none⟩] [] [1,6,7,17])
 (.cond (.tmp 17) (.skip)
 (.exit 0)))
 (.seq (.block 1 (.seq (.region [⟨(some 20),(.p (.mov (.tmp 6))),none⟩,⟨(some 21),(.p (.mov (.tmp 1))),none⟩,⟨(some 22),(.p (.mov (.tmp 7))),none⟩,⟨(some 23),(.p (.iaddr 6 (.tmp 21) (.tmp 22))),none⟩,⟨(some 24),(.p (.faddr 0 (.tmp 23))),none⟩,⟨(some 25),(.load1 (.tmp 24)),none⟩,⟨(some 26),(.p (.iaddr 4 (.tmp 20) (.tmp 25))),none⟩,⟨(some 27),(.loadn 4 (.tmp 26)),none⟩,⟨(some 8),(.a (.new [.bool false,.int .i64 (.ofNat 0),.int .i64 (.ofNat 0),.nilslice])),none⟩,⟨none,(.e (.store 4 (.tmp 8) (.tmp 27))),none⟩] [] [1,6,7,8])
 (.block 2 (.seq (.region [⟨(some 29),(.p (.mov (.tmp 1))),none⟩,⟨(some 30),(.p (.mov (.tmp 7))),none⟩,⟨(some 31),(.p (.iaddr 6 (.tmp 29) (.tmp 30))),none⟩,⟨(some 32),(.p (.faddr 1 (.tmp 31))),none⟩,⟨(some 33),(.load1 (.tmp 32)),none⟩,⟨(some 34),(.p (.not (.tmp 33))),none⟩,⟨(some 28),(.p (.mov (.tmp 34))),none⟩] [] [1,6,7,8,28])
 (.cond (.tmp 28) (.dregion [⟨⟨(some 35),(.p (.mov (.tmp 6))),none⟩,0,12⟩,⟨⟨(some 36),(.p (.mov (.tmp 1))),none⟩,0,12⟩,⟨⟨(some 37),(.p (.mov (.tmp 7))),none⟩,0,12⟩,⟨⟨(some 38),(.p (.iaddr 6 (.tmp 36) (.tmp 37))),none⟩,0,12⟩,⟨⟨(some 39),(.p (.faddr 0 (.tmp 38))),none⟩,0,12⟩,⟨⟨(some 40),(.load1 (.tmp 39)),none⟩,0,12⟩,⟨⟨(some 41),(.p (.mov (.tmp 1))),none⟩,0,12⟩,⟨⟨(some 42),(.p (.mov (.tmp 7))),none⟩,0,12⟩,⟨⟨(some 43),(.p (.iaddr 6 (.tmp 41) (.tmp 42))),none⟩,0,12⟩,⟨⟨(some 44),(.p (.faddr 2 (.tmp 43))),none⟩,0,12⟩,⟨⟨(some 45),(.loadn 4 (.tmp 44)),none⟩,0,12⟩,⟨⟨(some 46),(.p (.iaddr 4 (.tmp 35) (.tmp 40))),none⟩,0,12⟩,⟨⟨none,(.e (.store 4 (.tmp 46) (.tmp 45))),none⟩,0,13⟩] [1,6,7])
 (.seq (.region [⟨(some 48),(.p (.faddr 0 (.tmp 8))),none⟩,⟨(some 49),(.load1 (.tmp 48)),none⟩,⟨(some 50),(.p (.not (.tmp 49))),none⟩,⟨(some 47),(.p (.mov (.tmp 50))),none⟩] [] [1,6,7,8,47])
 (.cond (.tmp 47) (.seq (.dregion [⟨⟨(some 52),(.loadn 4 (.tmp 8)),none⟩,0,7⟩,⟨⟨(some 53),(.p (.mov (.tmp 1))),none⟩,0,7⟩,⟨⟨(some 54),(.p (.mov (.tmp 7))),none⟩,0,7⟩,⟨⟨(some 55),(.p (.iaddr 6 (.tmp 53) (.tmp 54))),none⟩,0,7⟩,⟨⟨(some 56),(.p (.faddr 2 (.tmp 55))),none⟩,0,7⟩,⟨⟨(some 57),(.loadn 4 (.tmp 56)),none⟩,0,7⟩,⟨⟨(some 58),(.a (.bslice [.bool false,.int .i64 (.ofNat 0),.int .i64 (.ofNat 0),.nilslice,.bool false,.int .i64 (.ofNat 0),.int .i64 (.ofNat 0),.nilslice] 4 2 [(0,4,(.tmp 52)),(4,4,(.tmp 57))])),none⟩,0,7⟩,⟨⟨(some 59),(.e (.call (F 59) [(.tmp 58)])),none⟩,0,13⟩,⟨⟨(some 51),(.p (.mov (.tmp 59))),none⟩,8,13⟩,⟨⟨(some 60),(.p (.ext (.tmp 51) 0)),none⟩,8,13⟩,⟨⟨(some 61),(.p (.ext (.tmp 51) 1)),none⟩,8,13⟩,⟨⟨(some 9),(.p (.mov (.tmp 60))),none⟩,8,13⟩,⟨⟨(some 10),(.p (.mov (.tmp 61))),none⟩,8,13⟩] [1,6,7,8,9,10])
 (.seq (.seq (.region [⟨(some 62),(.p (.mov (.tmp 10))),none⟩,⟨(some 63),(.p (.not (.tmp 62))),none⟩] [] [1,6,7,8,9,63])
 (.cond (.tmp 63) (.seq (.region [⟨(some 4),(.p (.mov (.val (.nilslice)))),none⟩,⟨(some 5),(.p (.mov (.val (.bool false)))),none⟩] [] [4,5])
 (.ret))
 (.skip)))
 (.seq (.region [⟨(some 64),(.p (.mov (.tmp 9))),none⟩,⟨(some 65),(.p (.faddr 2 (.tmp 8))),none⟩,⟨none,(.e (.store 1 (.tmp 65) (.tmp 64))),none⟩] [] [1,6,7,8])
 (.dregion [⟨⟨(some 66),(.p (.mov (.tmp 6))),none⟩,0,8⟩,⟨⟨(some 67),(.p (.mov (.tmp 1))),none⟩,0,8⟩,⟨⟨(some 68),(.p (.mov (.tmp 7))),none⟩,0,8⟩,⟨⟨(some 69),(.p (.iaddr 6 (.tmp 67) (.tmp 68))),none⟩,0,8⟩,⟨⟨(some 70),(.p (.faddr 0 (.tmp 69))),none⟩,0,8⟩,⟨⟨(some 71),(.load1 (.tmp 70)),none⟩,0,8⟩,⟨⟨(some 72),(.loadn 4 (.tmp 8)),none⟩,0,8⟩,⟨⟨(some 73),(.p (.iaddr 4 (.tmp 66) (.tmp 71))),none⟩,0,8⟩,⟨⟨none,(.e (.store 4 (.tmp 73) (.tmp 72))),none⟩,0,9⟩] [1,6,7]))))
 (.skip))))))))
 (.region [⟨(some 18),(.p (.mov (.tmp 7))),none⟩,⟨(some 19),(.p (.bin .add (.tmp 18) (.val (.int .i64 (.ofNat 1))))),none⟩,⟨(some 7),(.p (.mov (.tmp 19))),none⟩] [] [1,6,7]))))))
 (.seq (.region [⟨(some 74),(.p (.mov (.tmp 6))),none⟩,⟨(some 4),(.p (.mov (.tmp 74))),none⟩,⟨(some 5),(.p (.mov (.val (.bool true)))),none⟩] [] [4,5])
 (.ret))))
def M56 (F : Nat → Nat) : Fun := ⟨75,2,(K56 F).erase,[.tmp 4,.tmp 5]⟩
theorem ok56 {F : Nat → Nat} : (K56 F).ok = true := rfl
abbrev K57 (F : Nat → Nat) : KC := .seq (.region [⟨(some 4),(.p (.mov (.val (.nilslice)))),none⟩,⟨(some 5),(.p (.mov (.val (.bool false)))),none⟩] [] [0,1])
 (.seq (.region [⟨(some 6),(.p (.mov (.val (.nilslice)))),none⟩] [] [0,1,6])
 (.seq (.seq (.region [⟨(some 7),(.p (.mov (.val (.int .i64 (.ofNat 0))))),none⟩] [] [0,1,6,7])
 (.block 0 (.loop (.seq (.seq (.region [⟨(some 10),(.p (.mov (.tmp 7))),none⟩,⟨(some 11),(.p (.mov (.tmp 1))),none⟩,⟨(some 12),(.p (.lenb (.tmp 11))),none⟩,⟨(some 13),(.p (.bin .lss (.tmp 10) (.tmp 12))),none⟩] [] [0,1,6,7,13])
 (.cond (.tmp 13) (.skip)
 (.exit 0)))
 (.seq (.block 1 (.seq (.region [⟨(some 17),(.p (.mov (.tmp 0))),none⟩,⟨(some 18),(.p (.mov (.tmp 1))),none⟩,⟨(some 19),(.p (.mov (.tmp 7))),none⟩,⟨(some 20),(.p (.iaddr 2 (.tmp 18) (.tmp 19))),none⟩,⟨(some 21),(.loadn 2 (.tmp 20)),none⟩,⟨(some 22),(.e (.call (F 60) [(.tmp 17),(.tmp 21)])),none⟩,⟨(some 16),(.p (.mov (.tmp 22))),none⟩,⟨(some 23),(.p (.ext (.tmp 16) 0)),none⟩,⟨(some 24),(.p (.ext (.tmp 16) 1)),none⟩,⟨(some 8),(.a (.new [.bool false,.int .i64 (.ofNat 0),.int .i64 (.ofNat 0),.nilslice])),none⟩,⟨none,(.e (.store 4 (.tmp 8) (.tmp 23))),none⟩,⟨(some 9),(.p (.mov (.tmp 24))),none⟩] [] [0,1,6,7,8,9])
 (.seq (.seq (.region [⟨(some 25),(.p (.mov (.tmp 9))),none⟩,⟨(some 26),(.p (.not (.tmp 25))),none⟩] [] [0,1,6,7,8,26])
 (.cond (.tmp 26) (.seq (.region [⟨(some 4),(.p (.mov (.val (.nilslice)))),none⟩,⟨(some 5),(.p (.mov (.val (.bool false)))),none⟩] [] [4,5])
 (.ret))
 (.skip)))
 (.region [⟨(some 27),(.p (.mov (.tmp 6))),none⟩,⟨(some 28),(.loadn 4 (.tmp 8)),none⟩,⟨(some 29),(.a (.bslice [.bool false,.int .i64 (.ofNat 0),.int .i64 (.ofNat 0),.nilslice] 4 1 [(0,4,(.tmp 28))])),none⟩,⟨(some 30),(.e (.append 4 48 (.tmp 27) (.tmp 29))),none⟩,⟨(some 6),(.p (.mov (.tmp 30))),none⟩] [29] [0,1,6,7]))))
 (.region [⟨(some 14),(.p (.mov (.tmp 7))),none⟩,⟨(some 15),(.p (.bin .add (.tmp 14) (.val (.int .i64 (.ofNat 1))))),none⟩,⟨(some 7),(.p (.mov (.tmp 15))),none⟩] [] [0,1,6,7]))))))
 (.seq (.region [⟨(some 31),(.p (.mov (.tmp 6))),none⟩,⟨(some 4),(.p (.mov (.tmp 31))),none⟩,⟨(some 5),(.p (.mov (.val (.bool true)))),none⟩] [] [4,5])
 (.ret))))
def M57 (F : Nat → Nat) : Fun := ⟨32,2,(K57 F).erase,[.tmp 4,.tmp 5]⟩
theorem ok57 {F : Nat → Nat} : (K57 F).ok = true := rfl
abbrev K58 (_F : Nat → Nat) : KC := .seq (.region [⟨(some 4),(.p (.mov (.val (.nilslice)))),none⟩] [] [0,1])
 (.seq (.region [⟨(some 5),(.p (.mov (.val (.nilslice)))),none⟩] [] [0,1,5])
 (.seq (.seq (.region [⟨(some 6),(.p (.mov (.val (.int .i64 (.ofNat 0))))),none⟩] [] [0,1,5,6])
 (.block 0 (.loop (.seq (.seq (.region [⟨(some 7),(.p (.mov (.tmp 6))),none⟩,⟨(some 8),(.p (.mov (.tmp 0))),none⟩,⟨(some 9),(.p (.lenb (.tmp 8))),none⟩,⟨(some 10),(.p (.bin .lss (.tmp 7) (.tmp 9))),none⟩] [] [0,1,5,6,10])
 (.cond (.tmp 10) (.skip)
 (.exit 0)))
 (.seq (.block 1 (.dregion [⟨⟨(some 14),(.p (.mov (.tmp 0))),none⟩,0,12⟩,⟨⟨(some 15),(.p (.mov (.tmp 6))),none⟩,0,12⟩,⟨⟨(some 16),(.p (.iaddr 1 (.tmp 14) (.tmp 15))),none⟩,0,12⟩,⟨⟨(some 17),(.load1 (.tmp 16)),none⟩,0,12⟩,⟨⟨(some 18),(.p (.mov (.tmp 1))),none⟩,0,12⟩,⟨⟨(some 19),(.p (.iaddr 4 (.tmp 17) (.tmp 18))),none⟩,0,12⟩,⟨⟨(some 20),(.loadn 4 (.tmp 19)),none⟩,0,12⟩,⟨⟨(some 21),(.a (.bslice [.bool false,.int .i64 (.ofNat 0),.int .i64 (.ofNat 0),.nilslice] 4 1 [(0,4,(.tmp 20))])),none⟩,0,12⟩,⟨⟨(some 22),(.p (.mov (.tmp 0))),none⟩,0,12⟩,⟨⟨(some 23),(.p (.mov (.tmp 6))),none⟩,0,12⟩,⟨⟨(some 24),(.p (.iaddr 1 (.tmp 22) (.tmp 23))),none⟩,0,12⟩,⟨⟨(some 25),(.load1 (.tmp 24)),none⟩,0,12⟩,⟨⟨(some 26),(.e (.append 4 48 (.tmp 21) (.tmp 25))),none⟩,0,15⟩,⟨⟨(some 13),(.p (.mov (.tmp 5))),none⟩,0,15⟩,⟨⟨(some 27),(.a (.bslice [.nilslice] 1 1 [(0,1,(.tmp 26))])),none⟩,13,15⟩,⟨⟨(some 28),(.e (.append 1 24 (.tmp 13) (.tmp 27))),none⟩,13,17⟩,⟨⟨(some 5),(.p (.mov (.tmp 28))),none⟩,16,17⟩] [0,1,5,6]))
 (.region [⟨(some 11),(.p (.mov (.tmp 6))),none⟩,⟨(some 12),(.p (.bin .add (.tmp 11) (.val (.int .i64 (.ofNat 1))))),none⟩,⟨(some 6),(.p (.mov (.tmp 12))),none⟩] [] [0,1,5,6]))))))
 (.seq (.region [⟨(some 29),(.p (.mov (.tmp 5))),none⟩,⟨(some 4),(.p (.mov (.tmp 29))),none⟩] [] [4])
 (.ret))))
def M58 (F : Nat → Nat) : Fun := ⟨30,2,(K58 F).erase,[.tmp 4]⟩
theorem ok58 {F : Nat → Nat} : (K58 F).ok = true := rfl
abbrev K59 (_F : Nat → Nat) : KC := .seq (.region [⟨(some 2),(.p (.mov (.val (.int .i64 (.ofNat 0))))),none⟩,⟨(some 3),(.p (.mov (.val (.bool false)))),none⟩] [] [0])
 (.seq (.region [⟨(some 4),(.p (.mov (.val (.int .i64 (.ofNat 0))))),none⟩,⟨(some 5),(.p (.mov (.val (.int .u64 (.ofNat 0))))),none⟩] [] [0,4,5])
 (.seq (.seq (.region [⟨(some 6),(.p (.mov (.val (.int .i64 (.ofNat 0))))),none⟩] [] [0,4,5,6])
 (.block 0 (.loop (.seq (.seq (.region [⟨(some 9),(.p (.mov (.tmp 6))),none⟩,⟨(some 10),(.p (.mov (.tmp 0))),none⟩,⟨(some 11),(.p (.lenb (.tmp 10))),none⟩,⟨(some 12),(.p (.bin .lss (.tmp 9) (.tmp 11))),none⟩] [] [0,4,5,6,12])
 (.cond (.tmp 12) (.skip)
 (.exit 0)))
 (.seq (.block 1 (.seq (.seq (.region [⟨(some 15),(.p (.mov (.tmp 0))),none⟩,⟨(some 16),(.p (.mov (.tmp 6))),none⟩,⟨(some 17),(.p (.iaddr 4 (.tmp 15) (.tmp 16))),none⟩,⟨(some 18),(.p (.faddr 0 (.tmp 17))),none⟩,⟨(some 19),(.load1 (.tmp 18)),none⟩] [] [0,4,5,6,19])
 (.cond (.tmp 19) (.exit 1)
 (.skip)))
 (.seq (.region [⟨(some 20),(.p (.mov (.tmp 0))),none⟩,⟨(some 21),(.p (.mov (.tmp 6))),none⟩,⟨(some 22),(.p (.iaddr 4 (.tmp 20) (.tmp 21))),none⟩,⟨(some 23),(.p (.faddr 2 (.tmp 22))),none⟩,⟨(some 24),(.load1 (.tmp 23)),none⟩,⟨(some 25),(.p (.conv (.int .u64) (.tmp 24))),none⟩,⟨(some 7),(.p (.mov (.tmp 25))),none⟩] [] [0,4,5,6,7])
 (.seq (.region [⟨(some 26),(.p (.mov (.tmp 5))),none⟩,⟨(some 8),(.p (.mov (.tmp 26))),none⟩] [] [0,4,5,6,7,8])
 (.seq (.region [⟨(some 27),(.p (.mov (.tmp 5))),none⟩,⟨(some 28),(.p (.mov (.tmp 7))),none⟩,⟨(some 29),(.p (.bin .add (.tmp 27) (.tmp 28))),none⟩,⟨(some 5),(.p (.mov (.tmp 29))),none⟩] [] [0,4,5,6,8])
 (.seq (.seq (.region [⟨(some 30),(.p (.mov (.tmp 5))),none⟩,⟨(some 31),(.p (.mov (.tmp 8))),none⟩,⟨(some 32),(.p (.bin .lss (.tmp 30) (.tmp 31))),none⟩] [] [0,4,5,6,32])
 (.cond (.tmp 32) (.region [⟨(some 33),(.p (.mov (.tmp 4))),none⟩,⟨(some 34),(.p (.bin .add (.tmp 33) (.val (.int .i64 (.ofNat 1))))),none⟩,⟨(some 4),(.p (.mov (.tmp 34))),none⟩] [] [0,4,5,6])
 (.skip)))
 (.seq (.region [⟨(some 35),(.p (.mov (.tmp 0))),none⟩,⟨(some 36),(.p (.mov (.tmp 6))),none⟩,⟨(some 37),(.p (.iaddr 4 (.tmp 35) (.tmp 36))),none⟩,⟨(some 38),(.p (.faddr 2 (.tmp 37))),none⟩,⟨(some 39),(.load1 (.tmp 38)),none⟩,⟨(some 40),(.p (.bin .lss (.tmp 39) (.val (.int .i64 (.ofNat 0))))),none⟩] [] [0,4,5,6,40])
 (.cond (.tmp 40) (.region [⟨(some 41),(.p (.mov (.tmp 4))),none⟩,⟨(some 42),(.p (.bin .sub (.tmp 41) (.val (.int .i64 (.ofNat 1))))),none⟩,⟨(some 4),(.p (.mov (.tmp 42))),none⟩] [] [0,4,5,6])
 (.skip)))))))))
 (.region [⟨(some 13),(.p (.mov (.tmp 6))),none⟩,⟨(some 14),(.p (.bin .add (.tmp 13) (.val (.int .i64 (.ofNat 1))))),none⟩,⟨(some 6),(.p (.mov (.tmp 14))),none⟩] [] [0,4,5,6]))))))
 (.seq (.region [⟨(some 43),(.p (.mov (.tmp 5))),none⟩,⟨(some 44),(.p (.conv (.int .i64) (.tmp 43))),none⟩,⟨(some 45),(.p (.mov (.tmp 4))),none⟩,⟨(some 46),(.p (.bin .eql (.tmp 45) (.val (.int .i64 (.ofNat 0))))),none⟩,⟨(some 47),(.p (.mov (.tmp 46))),none⟩,⟨(some 48),(.p (.mov (.tmp 5))),(some (47,true))⟩,⟨(some 49),(.p (.bin .lss (.tmp 48) (.val (.int .u64 (.ofNat 9223372036854775808))))),(some (47,true))⟩,⟨(some 50),(.p (.pick (.tmp 47) (.tmp 49) (.val (.bool false)))),none⟩,⟨(some 51),(.p (.mov (.tmp 50))),none⟩,⟨(some 52),(.p (.mov (.tmp 4))),(some (51,false))⟩,⟨(some 53),(.p (.bin .eql (.tmp 52) (.val (.int .i64 (.negSucc 0))))),(some (51,false))⟩,⟨(some 54),(.p (.mov (.tmp 53))),(some (51,false))⟩,⟨(some 55),(.p (.mov (.tmp 5))),(some (54,true))⟩,⟨(some 56),(.p (.bin .geq (.tmp 55) (.val (.int .u64 (.ofNat 9223372036854775808))))),(some (54,true))⟩,⟨(some 57),(.p (.pick (.tmp 54) (.tmp 56) (.val (.bool false)))),(some (51,false))⟩,⟨(some 58),(.p (.pick (.tmp 51) (.val (.bool true)) (.tmp 57))),none⟩,⟨(some 2),(.p (.mov (.tmp 44))),none⟩,⟨(some 3),(.p (.mov (.tmp 58))),none⟩] [] [2,3])
 (.ret))))
def M59 (F : Nat → Nat) : Fun := ⟨59,1,(K59 F).erase,[.tmp 2,.tmp 3]⟩
theorem ok59 {F : Nat → Nat} : (K59 F).ok = true := rfl
abbrev K60 (F : Nat → Nat) : KC := .seq (.region [⟨(some 3),(.a (.box (.tmp 1))),none⟩,⟨(some 4),(.a (.new [.bool false,.int .i64 (.ofNat 0),.int .i64 (.ofNat 0),.nilslice])),none⟩,⟨(some 5),(.p (.mov (.val (.bool false)))),none⟩] [3] [0,3,4])
 (.seq (.region [⟨(some 6),(.p (.mov (.val (.nilslice)))),none⟩] [] [0,3,4,6])
 (.seq (.region [⟨(some 14),(.p (.build [.bool false,.int .i64 (.ofNat 0),.int .i64 (.ofNat 0),.nilslice] [(0,1,(.val (.bool true)))])),none⟩,⟨(some 7),(.a (.new [.bool false,.int .i64 (.ofNat 0),.int .i64 (.ofNat 0),.nilslice])),none⟩,⟨none,(.e (.store 4 (.tmp 7) (.tmp 14))),none⟩] [] [0,3,4,6,7])
 (.seq (.seq (.region [⟨(some 8),(.p (.mov (.val (.int .i64 (.ofNat 0))))),none⟩] [] [0,3,4,6,7,8])
 (.block 0 (.loop (.seq (.seq (.region [⟨(some 15),(.p (.mov (.tmp 8))),none⟩,⟨(some 16),(.p (.mov (.tmp 0))),none⟩,⟨(some 17),(.p (.lenb (.tmp 16))),none⟩,⟨(some 18),(.p (.bin .lss (.tmp 15) (.tmp 17))),none⟩] [] [0,3,4,6,7,8,18])
 (.cond (.tmp 18) (.skip)
 (.exit 0)))
 (.seq (.block 1 (.seq (.dregion [⟨⟨(some 21),(.p (.mov (.tmp 0))),none⟩,0,9⟩,⟨⟨(some 22),(.p (.mov (.tmp 8))),none⟩,0,9⟩,⟨⟨(some 23),(.p (.iaddr 1 (.tmp 21) (.tmp 22))),none⟩,0,9⟩,⟨⟨(some 24),(.load1 (.tmp 23)),none⟩,0,9⟩,⟨⟨(some 25),(.p (.faddr 1 (.tmp 3))),none⟩,0,9⟩,⟨⟨(some 26),(.load1 (.tmp 25)),none⟩,0,9⟩,⟨⟨(some 27),(.p (.iaddr 4 (.tmp 24) (.tmp 26))),none⟩,0,9⟩,⟨⟨(some 28),(.loadn 4 (.tmp 27)),none⟩,0,9⟩,⟨⟨(some 9),(.a (.new [.bool false,.int .i64 (.ofNat 0),.int .i64 (.ofNat 0),.nilslice])),none⟩,0,9⟩,⟨⟨none,(.e (.store 4 (.tmp 9) (.tmp 28))),none⟩,0,10⟩] [0,3,4,6,7,8,9])
 (.seq (.region [⟨(some 29),(.p (.mov (.tmp 6))),none⟩,⟨(some 30),(.loadn 4 (.tmp 9)),none⟩,⟨(some 31),(.a (.bslice [.bool false,.int .i64 (.ofNat 0),.int .i64 (.ofNat 0),.nilslice] 4 1 [(0,4,(.tmp 30))])),none⟩,⟨(some 32),(.e (.append 4 48 (.tmp 29) (.tmp 31))),none⟩,⟨(some 6),(.p (.mov (.tmp 32))),none⟩] [31] [0,3,4,6,7,8,9])
 (.region [⟨(some 33),(.p (.faddr 1 (.tmp 9))),none⟩,⟨(some 34),(.load1 (.tmp 33)),none⟩,⟨(some 35),(.p (.faddr 1 (.tmp 7))),none⟩,⟨none,(.e (.store 1 (.tmp 35) (.tmp 34))),none⟩] [] [0,3,4,6,7,8]))))
 (.region [⟨(some 19),(.p (.mov (.tmp 8))),none⟩,⟨(some 20),(.p (.bin .add (.tmp 19) (.val (.int .i64 (.ofNat 1))))),none⟩,⟨(some 8),(.p (.mov (.tmp 20))),none⟩] [] [0,3,4,6,7,8]))))))
 (.seq (.seq (.region [⟨(some 36),(.p (.faddr 0 (.tmp 3))),none⟩,⟨(some 37),(.load1 (.tmp 36)),none⟩] [] [0,3,4,6,7,37])
 (.block 2 (.seq (.region [⟨(some 39),(.p (.bin .eql (.tmp 37) (.val (.int .i64 (.ofNat 1))))),none⟩,⟨(some 38),(.p (.mov (.tmp 39))),none⟩] [] [0,3,4,6,7,37,38])
 (.cond (.tmp 38) (.seq (.region [⟨(some 40),(.p (.mov (.tmp 0))),none⟩,⟨(some 41),(.p (.lenb (.tmp 40))),none⟩,⟨(some 42),(.p (.build [.bool false,.int .i64 (.ofNat 0),.int .i64 (.ofNat 0),.nilslice] [(1,1,(.val (.int .i64 (.ofNat 1)))),(2,1,(.tmp 41))])),none⟩,⟨none,(.e (.store 4 (.tmp 4) (.tmp 42))),none⟩,⟨(some 5),(.p (.mov (.val (.bool true)))),none⟩] [] [4,5])
 (.ret))
 (.seq (.region [⟨(some 44),(.p (.bin .eql (.tmp 37) (.val (.int .i64 (.ofNat 2))))),none⟩,⟨(some 43),(.p (.mov (.tmp 44))),none⟩] [] [3,4,6,7,43])
 (.cond (.tmp 43) (.seq (.region [⟨(some 46),(.p (.mov (.tmp 6))),none⟩,⟨(some 47),(.e (.call (F 59) [(.tmp 46)])),none⟩,⟨(some 45),(.p (.mov (.tmp 47))),none⟩,⟨(some 48),(.p (.ext (.tmp 45) 0)),none⟩,⟨(some 49),(.p (.ext (.tmp 45) 1)),none⟩,⟨(some 10),(.p (.mov (.tmp 48))),none⟩,⟨(some 11),(.p (.mov (.tmp 49))),none⟩] [] [4,10,11])
 (.seq (.region [⟨(some 50),(.p (.mov (.tmp 10))),none⟩,⟨(some 51),(.p (.build [.bool false,.int .i64 (.ofNat 0),.int .i64 (.ofNat 0),.nilslice] [(1,1,(.val (.int .i64 (.ofNat 1)))),(2,1,(.tmp 50))])),none⟩,⟨(some 52),(.p (.mov (.tmp 11))),none⟩,⟨none,(.e (.store 4 (.tmp 4) (.tmp 51))),none⟩,⟨(some 5),(.p (.mov (.tmp 52))),none⟩] [] [4,5])
 (.ret)))
 (.skip)))))))
 (.seq (.seq (.region [⟨(some 12),(.p (.mov (.val (.int .i64 (.ofNat 0))))),none⟩] [] [3,4,6,7,12])
 (.block 3 (.loop (.seq (.seq (.region [⟨(some 53),(.p (.mov (.tmp 12))),none⟩,⟨(some 54),(.p (.mov (.tmp 6))),none⟩,⟨(some 55),(.p (.lenb (.tmp 54))),none⟩,⟨(some 56),(.p (.bin .lss (.tmp 53) (.tmp 55))),none⟩] [] [3,4,6,7,12,56])
 (.cond (.tmp 56) (.skip)
 (.exit 3)))
 (.seq (.block 4 (.seq (.dregion [⟨⟨(some 59),(.p (.mov (.tmp 6))),none⟩,0,5⟩,⟨⟨(some 60),(.p (.mov (.tmp 12))),none⟩,0,5⟩,⟨⟨(some 61),(.p (.iaddr 4 (.tmp 59) (.tmp 60))),none⟩,0,5⟩,⟨⟨(some 62),(.loadn 4 (.tmp 61)),none⟩,0,5⟩,⟨⟨(some 63),(.loadn 4 (.tmp 7)),none⟩,0,5⟩,⟨⟨(some 64),(.e (.call (F 46) [(.tmp 62),(.tmp 63)])),none⟩,0,7⟩,⟨⟨(some 13),(.p (.mov (.tmp 64))),none⟩,6,7⟩] [3,4,6,7,12,13])
 (.seq (.region [⟨(some 65),(.p (.mov (.tmp 6))),none⟩,⟨(some 66),(.p (.mov (.tmp 12))),none⟩,⟨(some 67),(.p (.iaddr 4 (.tmp 65) (.tmp 66))),none⟩,⟨(some 68),(.p (.faddr 0 (.tmp 67))),none⟩,⟨(some 69),(.load1 (.tmp 68)),none⟩,⟨(some 70),(.p (.not (.tmp 69))),none⟩,⟨(some 71),(.p (.mov (.tmp 70))),none⟩,⟨(some 72),(.p (.faddr 0 (.tmp 7))),(some (71,true))⟩,⟨(some 73),(.load1 (.tmp 72)),(some (71,true))⟩,⟨(some 74),(.p (.mov (.tmp 73))),(some (71,true))⟩,⟨(some 75),(.p (.faddr 0 (.tmp 3))),(some (74,false))⟩,⟨(some 76),(.load1 (.tmp 75)),(some (74,false))⟩,⟨(some 77),(.p (.bin .eql (.tmp 76) (.val (.int .i64 (.ofNat 3))))),(some (74,false))⟩,⟨(some 78),(.p (.mov (.tmp 77))),(some (74,false))⟩,⟨(some 79),(.p (.mov (.tmp 13))),(some (78,true))⟩,⟨(some 80),(.p (.bin .lss (.tmp 79) (.val (.int .i64 (.ofNat 0))))),(some (78,true))⟩,⟨(some 81),(.p (.pick (.tmp 78) (.tmp 80) (.val (.bool false)))),(some (74,false))⟩,⟨(some 82),(.p (.pick (.tmp 74) (.val (.bool true)) (.tmp 81))),(some (71,true))⟩,⟨(some 83),(.p (.mov (.tmp 82))),(some (71,true))⟩,⟨(some 84),(.p (.faddr 0 (.tmp 3))),(some (83,false))⟩,⟨(some 85),(.load1 (.tmp 84)),(some (83,false))⟩,⟨(some 86),(.p (.bin .eql (.tmp 85) (.val (.int .i64 (.ofNat 4))))),(some (83,false))⟩,⟨(some 87),(.p (.mov (.tmp 86))),(some (83,false))⟩,⟨(some 88),(.p (.mov (.tmp 13))),(some (87,true))⟩,⟨(some 89),(.p (.bin .gtr (.tmp 88) (.val (.int .i64 (.ofNat 0))))),(some (87,true))⟩,⟨(some 90),(.p (.pick (.tmp 87) (.tmp 89) (.val (.bool false)))),(some (83,false))⟩,⟨(some 91),(.p (.pick (.tmp 83) (.val (.bool true)) (.tmp 90))),(some (71,true))⟩,⟨(some 92),(.p (.pick (.tmp 71) (.tmp 91) (.val (.bool false)))),none⟩] [] [3,4,6,7,12,92])
 (.cond (.tmp 92) (.region [⟨(some 93),(.p (.mov (.tmp 6))),none⟩,⟨(some 94),(.p (.mov (.tmp 12))),none⟩,⟨(some 95),(.p (.iaddr 4 (.tmp 93) (.tmp 94))),none⟩,⟨(some 96),(.loadn 4 (.tmp 95)),none⟩,⟨none,(.e (.store 4 (.tmp 7) (.tmp 96))),none⟩] [] [3,4,6,7,12])
 (.skip)))))
 (.region [⟨(some 57),(.p (.mov (.tmp 12))),none⟩,⟨(some 58),(.p (.bin .add (.tmp 57) (.val (.int .i64 (.ofNat 1))))),none⟩,⟨(some 12),(.p (.mov (.tmp 58))),none⟩] [] [3,4,6,7,12]))))))
 (.seq (.region [⟨(some 97),(.loadn 4 (.tmp 7)),none⟩,⟨none,(.e (.store 4 (.tmp 4) (.tmp 97))),none⟩,⟨(some 5),(.p (.mov (.val (.bool true)))),none⟩] [] [4,5])
 (.ret)))))))
def M60 (F : Nat → Nat) : Fun := ⟨98,2,(K60 F).erase,[.celln 4 4,.tmp 5]⟩
theorem ok60 {F : Nat → Nat} : (K60 F).ok = true := rfl
end Go.Lib
end

section
namespace Go.Lib
open Go.Vm Go.Dv
set_option maxRecDepth 100000
abbrev K46 (_F : Nat → Nat) : KC := .seq (.region [⟨(some 2),(.a (.box (.tmp 0))),none⟩,⟨(some 3),(.a (.box (.tmp 1))),none⟩,⟨(some 4),(.p (.mov (.val (.int .i64 (.ofNat 0))))),none⟩] [2,3] [2,3])
 (.seq (.block 0 (.seq (.region [⟨(some 6),(.p (.faddr 0 (.tmp 2))),none⟩,⟨(some 7),(.load1 (.tmp 6)),none⟩,⟨(some 8),(.p (.mov (.tmp 7))),none⟩,⟨(some 9),(.p (.faddr 0 (.tmp 3))),(some (8,false))⟩,⟨(some 10),(.load1 (.tmp 9)),(some (8,false))⟩,⟨(some 11),(.p (.pick (.tmp 8) (.val (.bool true)) (.tmp 10))),none⟩,⟨(some 5),(.p (.mov (.tmp 11))),none⟩] [] [2,3,5])
 (.cond (.tmp 5) (.seq (.seq (.region [⟨(some 12),(.p (.faddr 0 (.tmp 2))),none⟩,⟨(some 13),(.load1 (.tmp 12)),none⟩,⟨(some 14),(.p (.faddr 0 (.tmp 3))),none⟩,⟨(some 15),(.load1 (.tmp 14)),none⟩,⟨(some 16),(.p (.eq .bool false (.tmp 13) (.tmp 15))),none⟩] [] [2,16])
 (.cond (.tmp 16) (.seq (.region [⟨(some 4),(.p (.mov (.val (.int .i64 (.ofNat 0))))),none⟩] [] [4])
 (.ret))
 (.skip)))
 (.seq (.seq (.region [⟨(some 17),(.p (.faddr 0 (.tmp 2))),none⟩,⟨(some 18),(.load1 (.tmp 17)),none⟩] [] [18])
 (.cond (.tmp 18) (.seq (.region [⟨(some 4),(.p (.mov (.val (.int .i64 (.negSucc 0))))),none⟩] [] [4])
 (.ret))
 (.skip)))
 (.seq (.region [⟨(some 4),(.p (.mov (.val (.int .i64 (.ofNat 1))))),none⟩] [] [4])
 (.ret))))
 (.seq (.region [⟨(some 20),(.p (.faddr 1 (.tmp 2))),none⟩,⟨(some 21),(.load1 (.tmp 20)),none⟩,⟨(some 22),(.p (.bin .eql (.tmp 21) (.val (.int .i64 (.ofNat 1))))),none⟩,⟨(some 23),(.p (.mov (.tmp 22))),none⟩,⟨(some 24),(.p (.faddr 2 (.tmp 2))),(some (23,true))⟩,⟨(some 25),(.load1 (.tmp 24)),(some (23,true))⟩,⟨(some 26),(.p (.faddr 2 (.tmp 3))),(some (23,true))⟩,⟨(some 27),(.load1 (.tmp 26)),(some (23,true))⟩,⟨(some 28),(.p (.bin .neq (.tmp 25) (.tmp 27))),(some (23,true))⟩,⟨(some 29),(.p (.pick (.tmp 23) (.tmp 28) (.val (.bool false)))),none⟩,⟨(some 19),(.p (.mov (.tmp 29))),none⟩] [] [2,3,19])
 (.cond (.tmp 19) (.seq (.seq (.region [⟨(some 30),(.p (.faddr 2 (.tmp 2))),none⟩,⟨(some 31),(.load1 (.tmp 30)),none⟩,⟨(some 32),(.p (.faddr 2 (.tmp 3))),none⟩,⟨(some 33),(.load1 (.tmp 32)),none⟩,⟨(some 34),(.p (.bin .lss (.tmp 31) (.tmp 33))),none⟩] [] [34])
 (.cond (.tmp 34) (.seq (.region [⟨(some 4),(.p (.mov (.val (.int .i64 (.negSucc 0))))),none⟩] [] [4])
 (.ret))
 (.skip)))
 (.seq (.region [⟨(some 4),(.p (.mov (.val (.int .i64 (.ofNat 1))))),none⟩] [] [4])
 (.ret)))
 (.seq (.region [⟨(some 36),(.p (.faddr 1 (.tmp 2))),none⟩,⟨(some 37),(.load1 (.tmp 36)),none⟩,⟨(some 38),(.p (.bin .eql (.tmp 37) (.val (.int .i64 (.ofNat 2))))),none⟩,⟨(some 39),(.p (.mov (.tmp 38))),none⟩,⟨(some 40),(.p (.faddr 3 (.tmp 2))),(some (39,true))⟩,⟨(some 41),(.load1 (.tmp 40)),(some (39,true))⟩,⟨(some 42),(.e (.text (.tmp 41))),(some (39,true))⟩,⟨(some 43),(.p (.faddr 3 (.tmp 3))),(some (39,true))⟩,⟨(some 44),(.load1 (.tmp 43)),(some (39,true))⟩,⟨(some 45),(.e (.text (.tmp 44))),(some (39,true))⟩,⟨(some 46),(.p (.bin .neq (.tmp 42) (.tmp 45))),(some (39,true))⟩,⟨(some 47),(.p (.pick (.tmp 39) (.tmp 46) (.val (.bool false)))),none⟩,⟨(some 35),(.p (.mov (.tmp 47))),none⟩] [] [2,3,35])
 (.cond (.tmp 35) (.seq (.seq (.region [⟨(some 48),(.p (.faddr 3 (.tmp 2))),none⟩,⟨(some 49),(.load1 (.tmp 48)),none⟩,⟨(some 50),(.e (.text (.tmp 49))),none⟩,⟨(some 51),(.p (.faddr 3 (.tmp 3))),none⟩,⟨(some 52),(.load1 (.tmp 51)),none⟩,⟨(some 53),(.e (.text (.tmp 52))),none⟩,⟨(some 54),(.p (.bin .lss (.tmp 50) (.tmp 53))),none⟩] [] [54])
 (.cond (.tmp 54) (.seq (.region [⟨(some 4),(.p (.mov (.val (.int .i64 (.negSucc 0))))),none⟩] [] [4])
 (.ret))
 (.skip)))
 (.seq (.region [⟨(some 4),(.p (.mov (.val (.int .i64 (.ofNat 1))))),none⟩] [] [4])
 (.ret)))
 (.skip))))))))
 (.seq (.region [⟨(some 4),(.p (.mov (.val (.int .i64 (.ofNat 0))))),none⟩] [] [4])
 (.ret)))
def M46 (F : Nat → Nat) : Fun := ⟨55,2,(K46 F).erase,[.tmp 4]⟩
theorem ok46 {F : Nat → Nat} : (K46 F).ok = true := rfl
abbrev K47 (F : Nat → Nat) : KC := .seq (.region [⟨(some 4),(.p (.mov (.val (.int .i64 (.ofNat 0))))),none⟩] [] [0,1])
 (.seq (.seq (.region [⟨(some 5),(.p (.mov (.val (.int .i64 (.ofNat 0))))),none⟩] [] [0,1,5])
 (.block 0 (.loop (.seq (.seq (.region [⟨(some 7),(.p (.mov (.tmp 5))),none⟩,⟨(some 8),(.p (.mov (.tmp 0))),none⟩,⟨(some 9),(.p (.lenb (.tmp 8))),none⟩,⟨(some 10),(.p (.bin .lss (.tmp 7) (.tmp 9))),none⟩,⟨(some 11),(.p (.mov (.tmp 10))),none⟩,⟨(some 12),(.p (.mov (.tmp 5))),(some (11,true))⟩,⟨(some 13),(.p (.mov (.tmp 1))),(some (11,true))⟩,⟨(some 14),(.p (.lenb (.tmp 13))),(some (11,true))⟩,⟨(some 15),(.p (.bin .lss (.tmp 12) (.tmp 14))),(some (11,true))⟩,⟨(some 16),(.p (.pick (.tmp 11) (.tmp 15) (.val (.bool false)))),none⟩] [] [0,1,5,16])
 (.cond (.tmp 16) (.skip)
 (.exit 0)))
 (.seq (.block 1 (.seq (.dregion [⟨⟨(some 19),(.p (.mov (.tmp 0))),none⟩,0,8⟩,⟨⟨(some 20),(.p (.mov (.tmp 5))),none⟩,0,8⟩,⟨⟨(some 21),(.p (.iaddr 4 (.tmp 19) (.tmp 20))),none⟩,0,8⟩,⟨⟨(some 22),(.loadn 4 (.tmp 21)),none⟩,0,8⟩,⟨⟨(some 23),(.p (.mov (.tmp 1))),none⟩,0,8⟩,⟨⟨(some 24),(.p (.mov (.tmp 5))),none⟩,0,8⟩,⟨⟨(some 25),(.p (.iaddr 4 (.tmp 23) (.tmp 24))),none⟩,0,8⟩,⟨⟨(some 26),(.loadn 4 (.tmp 25)),none⟩,0,8⟩,⟨⟨(some 27),(.e (.call (F 46) [(.tmp 22),(.tmp 26)])),none⟩,0,10⟩,⟨⟨(some 6),(.p (.mov (.tmp 27))),none⟩,9,10⟩] [0,1,5,6])
 (.seq (.region [⟨(some 28),(.p (.mov (.tmp 6))),none⟩,⟨(some 29),(.p (.bin .neq (.tmp 28) (.val (.int .i64 (.ofNat 0))))),none⟩] [] [0,1,5,6,29])
 (.cond (.tmp 29) (.seq (.region [⟨(some 30),(.p (.mov (.tmp 6))),none⟩,⟨(some 4),(.p (.mov (.tmp 30))),none⟩] [] [4])
 (.ret))
 (.skip)))))
 (.region [⟨(some 17),(.p (.mov (.tmp 5))),none⟩,⟨(some 18),(.p (.bin .add (.tmp 17) (.val (.int .i64 (.ofNat 1))))),none⟩,⟨(some 5),(.p (.mov (.tmp 18))),none⟩] [] [0,1,5]))))))
 (.seq (.region [⟨(some 31),(.p (.mov (.tmp 0))),none⟩,⟨(some 32),(.p (.lenb (.tmp 31))),none⟩,⟨(some 33),(.p (.mov (.tmp 1))),none⟩,⟨(some 34),(.p (.lenb (.tmp 33))),none⟩,⟨(some 35),(.p (.bin .sub (.tmp 32) (.tmp 34))),none⟩,⟨(some 36),(.p (.max [(.tmp 35),(.val (.int .i64 (.negSucc 0)))])),none⟩,⟨(some 37),(.p (.min [(.tmp 36),(.val (.int .i64 (.ofNat 1)))])),none⟩,⟨(some 4),(.p (.mov (.tmp 37))),none⟩] [] [4])
 (.ret)))
def M47 (F : Nat → Nat) : Fun := ⟨38,2,(K47 F).erase,[.tmp 4]⟩
theorem ok47 {F : Nat → Nat} : (K47 F).ok = true := rfl
abbrev K48 (F : Nat → Nat) : KC := .seq (.region [⟨(some 4),(.p (.mov (.val (.bool false)))),none⟩] [] [0,1])
 (.seq (.seq (.region [⟨(some 6),(.p (.mov (.tmp 0))),none⟩,⟨(some 7),(.p (.lenb (.tmp 6))),none⟩,⟨(some 8),(.p (.mov (.tmp 1))),none⟩,⟨(some 9),(.p (.lenb (.tmp 8))),none⟩,⟨(some 10),(.p (.bin .neq (.tmp 7) (.tmp 9))),none⟩] [] [0,1,10])
 (.cond (.tmp 10) (.seq (.region [⟨(some 4),(.p (.mov (.val (.bool false)))),none⟩] [] [4])
 (.ret))
 (.skip)))
 (.seq (.seq (.region [⟨(some 5),(.p (.mov (.val (.int .i64 (.ofNat 0))))),none⟩] [] [0,1,5])
 (.block 0 (.loop (.seq (.seq (.region [⟨(some 11),(.p (.mov (.tmp 5))),none⟩,⟨(some 12),(.p (.mov (.tmp 0))),none⟩,⟨(some 13),(.p (.lenb (.tmp 12))),none⟩,⟨(some 14),(.p (.bin .lss (.tmp 11) (.tmp 13))),none⟩] [] [0,1,5,14])
 (.cond (.tmp 14) (.skip)
 (.exit 0)))
 (.seq (.block 1 (.seq (.dregion [⟨⟨(some 17),(.p (.mov (.tmp 0))),none⟩,0,8⟩,⟨⟨(some 18),(.p (.mov (.tmp 5))),none⟩,0,8⟩,⟨⟨(some 19),(.p (.iaddr 1 (.tmp 17) (.tmp 18))),none⟩,0,8⟩,⟨⟨(some 20),(.load1 (.tmp 19)),none⟩,0,8⟩,⟨⟨(some 21),(.p (.mov (.tmp 1))),none⟩,0,8⟩,⟨⟨(some 22),(.p (.mov (.tmp 5))),none⟩,0,8⟩,⟨⟨(some 23),(.p (.iaddr 1 (.tmp 21) (.tmp 22))),none⟩,0,8⟩,⟨⟨(some 24),(.load1 (.tmp 23)),none⟩,0,8⟩,⟨⟨(some 25),(.e (.call (F 49) [(.tmp 20),(.tmp 24)])),none⟩,0,10⟩,⟨⟨(some 26),(.p (.not (.tmp 25))),none⟩,9,10⟩] [0,1,5,26])
 (.cond (.tmp 26) (.seq (.region [⟨(some 4),(.p (.mov (.val (.bool false)))),none⟩] [] [4])
 (.ret))
 (.skip))))
 (.region [⟨(some 15),(.p (.mov (.tmp 5))),none⟩,⟨(some 16),(.p (.bin .add (.tmp 15) (.val (.int .i64 (.ofNat 1))))),none⟩,⟨(some 5),(.p (.mov (.tmp 16))),none⟩] [] [0,1,5]))))))
 (.seq (.region [⟨(some 4),(.p (.mov (.val (.bool true)))),none⟩] [] [4])
 (.ret))))
def M48 (F : Nat → Nat) : Fun := ⟨27,2,(K48 F).erase,[.tmp 4]⟩
theorem ok48 {F : Nat → Nat} : (K48 F).ok = true := rfl
abbrev K49 (F : Nat → Nat) : KC := .seq (.region [⟨(some 4),(.p (.mov (.val (.bool false)))),none⟩] [] [0,1])
 (.seq (.seq (.region [⟨(some 6),(.p (.mov (.tmp 0))),none⟩,⟨(some 7),(.p (.lenb (.tmp 6))),none⟩,⟨(some 8),(.p (.mov (.tmp 1))),none⟩,⟨(some 9),(.p (.lenb (.tmp 8))),none⟩,⟨(some 10),(.p (.bin .neq (.tmp 7) (.tmp 9))),none⟩] [] [0,1,10])
 (.cond (.tmp 10) (.seq (.region [⟨(some 4),(.p (.mov (.val (.bool false)))),none⟩] [] [4])
 (.ret))
 (.skip)))
 (.seq (.seq (.region [⟨(some 5),(.p (.mov (.val (.int .i64 (.ofNat 0))))),none⟩] [] [0,1,5])
 (.block 0 (.loop (.seq (.seq (.region [⟨(some 11),(.p (.mov (.tmp 5))),none⟩,⟨(some 12),(.p (.mov (.tmp 0))),none⟩,⟨(some 13),(.p (.lenb (.tmp 12))),none⟩,⟨(some 14),(.p (.bin .lss (.tmp 11) (.tmp 13))),none⟩] [] [0,1,5,14])
 (.cond (.tmp 14) (.skip)
 (.exit 0)))
 (.seq (.block 1 (.seq (.dregion [⟨⟨(some 17),(.p (.mov (.tmp 0))),none⟩,0,8⟩,⟨⟨(some 18),(.p (.mov (.tmp 5))),none⟩,0,8⟩,⟨⟨(some 19),(.p (.iaddr 4 (.tmp 17) (.tmp 18))),none⟩,0,8⟩,⟨⟨(some 20),(.loadn 4 (.tmp 19)),none⟩,0,8⟩,⟨⟨(some 21),(.p (.mov (.tmp 1))),none⟩,0,8⟩,⟨⟨(some 22),(.p (.mov (.tmp 5))),none⟩,0,8⟩,⟨⟨(some 23),(.p (.iaddr 4 (.tmp 21) (.tmp 22))),none⟩,0,8⟩,⟨⟨(some 24),(.loadn 4 (.tmp 23)),none⟩,0,8⟩,⟨⟨(some 25),(.e (.call (F 50) [(.tmp 20),(.tmp 24)])),none⟩,0,10⟩,⟨⟨(some 26),(.p (.not (.tmp 25))),none⟩,9,10⟩] [0,1,5,26])
 (.cond (.tmp 26) (.seq (.region [⟨(some 4),(.p (.mov (.val (.bool false)))),none⟩] [] [4])
 (.ret))
 (.skip))))
 (.region [⟨(some 15),(.p (.mov (.tmp 5))),none⟩,⟨(some 16),(.p (.bin .add (.tmp 15) (.val (.int .i64 (.ofNat 1))))),none⟩,⟨(some 5),(.p (.mov (.tmp 16))),none⟩] [] [0,1,5]))))))
 (.seq (.region [⟨(some 4),(.p (.mov (.val (.bool true)))),none⟩] [] [4])
 (.ret))))
def M49 (F : Nat → Nat) : Fun := ⟨27,2,(K49 F).erase,[.tmp 4]⟩
theorem ok49 {F : Nat → Nat} : (K49 F).ok = true := rfl
abbrev K50 (_F : Nat → Nat) : KC := .seq (.region [⟨(some 2),(.a (.box (.tmp 0))),none⟩,⟨(some 3),(.a (.box (.tmp 1))),none⟩,⟨(some 4),(.p (.mov (.val (.bool false)))),none⟩] [2,3] [2,3])
 (.seq (.region [⟨(some 5),(.p (.faddr 0 (.tmp 2))),none⟩,⟨(some 6),(.load1 (.tmp 5)),none⟩,⟨(some 7),(.p (.faddr 0 (.tmp 3))),none⟩,⟨(some 8),(.load1 (.tmp 7)),none⟩,⟨(some 9),(.p (.eq .bool false (.tmp 6) (.tmp 8))),none⟩,⟨(some 10),(.p (.mov (.tmp 9))),none⟩,⟨(some 11),(.p (.faddr 1 (.tmp 2))),(some (10,true))⟩,⟨(some 12),(.load1 (.tmp 11)),(some (10,true))⟩,⟨(some 13),(.p (.faddr 1 (.tmp 3))),(some (10,true))⟩,⟨(some 14),(.load1 (.tmp 13)),(some (10,true))⟩,⟨(some 15),(.p (.bin .eql (.tmp 12) (.tmp 14))),(some (10,true))⟩,⟨(some 16),(.p (.pick (.tmp 10) (.tmp 15) (.val (.bool false)))),none⟩,⟨(some 17),(.p (.mov (.tmp 16))),none⟩,⟨(some 18),(.p (.faddr 2 (.tmp 2))),(some (17,true))⟩,⟨(some 19),(.load1 (.tmp 18)),(some (17,true))⟩,⟨(some 20),(.p (.faddr 2 (.tmp 3))),(some (17,true))⟩,⟨(some 21),(.load1 (.tmp 20)),(some (17,true))⟩,⟨(some 22),(.p (.bin .eql (.tmp 19) (.tmp 21))),(some (17,true))⟩,⟨(some 23),(.p (.pick (.tmp 17) (.tmp 22) (.val (.bool false)))),none⟩,⟨(some 24),(.p (.mov (.tmp 23))),none⟩,⟨(some 25),(.p (.faddr 3 (.tmp 2))),(some (24,true))⟩,⟨(some 26),(.load1 (.tmp 25)),(some (24,true))⟩,⟨(some 27),(.e (.text (.tmp 26))),(some (24,true))⟩,⟨(some 28),(.p (.faddr 3 (.tmp 3))),(some (24,true))⟩,⟨(some 29),(.load1 (.tmp 28)),(some (24,true))⟩,⟨(some 30),(.e (.text (.tmp 29))),(some (24,true))⟩,⟨(some 31),(.p (.bin .eql (.tmp 27) (.tmp 30))),(some (24,true))⟩,⟨(some 32),(.p (.pick (.tmp 24) (.tmp 31) (.val (.bool false)))),none⟩,⟨(some 4),(.p (.mov (.tmp 32))),none⟩] [] [4])
 (.ret))
def M50 (F : Nat → Nat) : Fun := ⟨33,2,(K50 F).erase,[.tmp 4]⟩
theorem ok50 {F : Nat → Nat} : (K50 F).ok = true := rfl
end Go.Lib
end

section
namespace Go.Lib
open Go.Vm Go.Dv
set_option maxRecDepth 100000
abbrev K1 (F : Nat → Nat) : KC := .seq (.region [⟨(some 2),(.a (.box (.tmp 0))),none⟩,⟨(some 3),(.a (.box (.tmp 1))),none⟩,⟨(some 4),(.p (.mov (.val (.int .i64 (.ofNat 0))))),none⟩] [2,3] [2,3])
 (.seq (.seq (.dregion [⟨⟨(some 6),(.loadn 4 (.tmp 2)),none⟩,0,1⟩,⟨⟨(some 7),(.e (.call (F 8) [(.tmp 6)])),none⟩,0,3⟩,⟨⟨(some 8),(.loadn 4 (.tmp 3)),none⟩,0,3⟩,⟨⟨(some 9),(.e (.call (F 8) [(.tmp 8)])),none⟩,2,4⟩,⟨⟨(some 10),(.e (.call (F 9) [(.tmp 7),(.tmp 9)])),none⟩,4,6⟩,⟨⟨(some 5),(.p (.mov (.tmp 10))),none⟩,5,6⟩] [2,3,5])
 (.seq (.region [⟨(some 11),(.p (.mov (.tmp 5))),none⟩,⟨(some 12),(.p (.bin .neq (.tmp 11) (.val (.int .i64 (.ofNat 0))))),none⟩,⟨(some 13),(.p (.mov (.tmp 12))),none⟩,⟨(some 14),(.p (.faddr 0 (.tmp 2))),(some (13,false))⟩,⟨(some 15),(.load1 (.tmp 14)),(some (13,false))⟩,⟨(some 16),(.p (.pick (.tmp 13) (.val (.bool true)) (.tmp 15))),none⟩] [] [2,3,5,16])
 (.cond (.tmp 16) (.seq (.region [⟨(some 17),(.p (.mov (.tmp 5))),none⟩,⟨(some 4),(.p (.mov (.tmp 17))),none⟩] [] [4])
 (.ret))
 (.skip))))
 (.seq (.seq (.region [⟨(some 18),(.p (.faddr 1 (.tmp 2))),none⟩,⟨(some 19),(.load1 (.tmp 18)),none⟩] [] [2,3,19])
 (.block 0 (.seq (.region [⟨(some 21),(.p (.bin .eql (.tmp 19) (.val (.int .i64 (.ofNat 1))))),none⟩,⟨(some 20),(.p (.mov (.tmp 21))),none⟩] [] [2,3,19,20])
 (.cond (.tmp 20) (.seq (.region [⟨(some 22),(.p (.faddr 2 (.tmp 2))),none⟩,⟨(some 23),(.load1 (.tmp 22)),none⟩,⟨(some 24),(.p (.faddr 2 (.tmp 3))),none⟩,⟨(some 25),(.load1 (.tmp 24)),none⟩,⟨(some 26),(.e (.call (F 10) [(.tmp 23),(.tmp 25)])),none⟩,⟨(some 4),(.p (.mov (.tmp 26))),none⟩] [] [4])
 (.ret))
 (.seq (.region [⟨(some 28),(.p (.bin .eql (.tmp 19) (.val (.int .i64 (.ofNat 2))))),none⟩,⟨(some 27),(.p (.mov (.tmp 28))),none⟩] [] [2,3,27])
 (.cond (.tmp 27) (.seq (.region [⟨(some 29),(.p (.faddr 3 (.tmp 2))),none⟩,⟨(some 30),(.load1 (.tmp 29)),none⟩,⟨(some 31),(.p (.faddr 3 (.tmp 3))),none⟩,⟨(some 32),(.load1 (.tmp 31)),none⟩,⟨(some 33),(.e (.call (F 11) [(.tmp 30),(.tmp 32)])),none⟩,⟨(some 4),(.p (.mov (.tmp 33))),none⟩] [] [4])
 (.ret))
 (.skip)))))))
 (.seq (.region [⟨(some 4),(.p (.mov (.val (.int .i64 (.ofNat 0))))),none⟩] [] [4])
 (.ret))))
def M1 (F : Nat → Nat) : Fun := ⟨34,2,(K1 F).erase,[.tmp 4]⟩
theorem ok1 {F : Nat → Nat} : (K1 F).ok = true := rfl
abbrev K2 (F : Nat → Nat) : KC := .seq (.region [⟨(some 4),(.p (.mov (.val (.int .i64 (.ofNat 0))))),none⟩] [] [0,1])
 (.seq (.region [⟨(some 5),(.p (.mov (.tmp 0))),none⟩,⟨(some 6),(.p (.mov (.tmp 1))),none⟩,⟨(some 7),(.e (.call (F 12) [(.tmp 5),(.tmp 6),(.val (.func (F 1) [] []))])),none⟩,⟨(some 4),(.p (.mov (.tmp 7))),none⟩] [] [4])
 (.ret))
def M2 (F : Nat → Nat) : Fun := ⟨8,2,(K2 F).erase,[.tmp 4]⟩
theorem ok2 {F : Nat → Nat} : (K2 F).ok = true := rfl
abbrev K3 (F : Nat → Nat) : KC := .seq (.region [⟨(some 4),(.a (.new [.bool false,.int .i64 (.ofNat 0),.int .i64 (.ofNat 0),.nilslice])),none⟩] [] [0,1,4])
 (.seq (.seq (.region [⟨(some 5),(.p (.mov (.tmp 1))),none⟩,⟨(some 6),(.p (.bin .lss (.tmp 5) (.val (.int .i64 (.ofNat 0))))),none⟩,⟨(some 7),(.p (.mov (.tmp 6))),none⟩,⟨(some 8),(.p (.mov (.tmp 1))),(some (7,false))⟩,⟨(some 9),(.p (.mov (.tmp 0))),(some (7,false))⟩,⟨(some 10),(.p (.lenb (.tmp 9))),(some (7,false))⟩,⟨(some 11),(.p (.bin .geq (.tmp 8) (.tmp 10))),(some (7,false))⟩,⟨(some 12),(.p (.pick (.tmp 7) (.val (.bool true)) (.tmp 11))),none⟩] [] [0,1,4,12])
 (.cond (.tmp 12) (.seq (.region [⟨(some 13),(.p (.build [.bool false,.int .i64 (.ofNat 0),.int .i64 (.ofNat 0),.nilslice] [])),none⟩,⟨none,(.e (.store 4 (.tmp 4) (.tmp 13))),none⟩] [] [4])
 (.ret))
 (.skip)))
 (.seq (.region [⟨(some 14),(.p (.mov (.tmp 0))),none⟩,⟨(some 15),(.p (.mov (.tmp 1))),none⟩,⟨(some 16),(.p (.iaddr 4 (.tmp 14) (.tmp 15))),none⟩,⟨(some 17),(.loadn 4 (.tmp 16)),none⟩,⟨(some 18),(.e (.call (F 5) [(.tmp 17)])),none⟩,⟨none,(.e (.store 4 (.tmp 4) (.tmp 18))),none⟩] [] [4])
 (.ret)))
def M3 (F : Nat → Nat) : Fun := ⟨19,2,(K3 F).erase,[.celln 4 4]⟩
theorem ok3 {F : Nat → Nat} : (K3 F).ok = true := rfl
abbrev K4 (F : Nat → Nat) : KC := .seq (.region [⟨(some 2),(.p (.mov (.val (.nilslice)))),none⟩] [] [0])
 (.seq (.region [⟨(some 3),(.p (.mov (.val (.nilslice)))),none⟩] [] [0,3])
 (.seq (.seq (.region [⟨(some 6),(.p (.mov (.tmp 0))),none⟩,⟨(some 7),(.p (.lenb (.tmp 6))),none⟩,⟨(some 8),(.p (.mov (.val (.int .i64 (.ofNat 0))))),none⟩] [] [3,6,7,8])
 (.block 0 (.loop (.seq (.region [⟨(some 9),(.p (.bin .lss (.tmp 8) (.tmp 7))),none⟩] [] [3,6,7,8,9])
 (.seq (.cond (.tmp 9) (.skip)
 (.exit 0))
 (.seq (.block 1 (.seq (.region [⟨(some 10),(.p (.iaddr 4 (.tmp 6) (.tmp 8))),none⟩,⟨(some 11),(.loadn 4 (.tmp 10)),none⟩,⟨(some 5),(.a (.new [.bool false,.int .i64 (.ofNat 0),.int .i64 (.ofNat 0),.nilslice])),none⟩,⟨none,(.e (.store 4 (.tmp 5) (.tmp 11))),none⟩] [] [3,5,6,7,8])
 (.region [⟨(some 12),(.p (.mov (.tmp 3))),none⟩,⟨(some 13),(.loadn 4 (.tmp 5)),none⟩,⟨(some 14),(.e (.call (F 5) [(.tmp 13)])),none⟩,⟨(some 15),(.a (.bslice [.bool false,.int .i64 (.ofNat 0),.int .i64 (.ofNat 0),.nilslice] 4 1 [(0,4,(.tmp 14))])),none⟩,⟨(some 16),(.e (.append 4 48 (.tmp 12) (.tmp 15))),none⟩,⟨(some 3),(.p (.mov (.tmp 16))),none⟩] [15] [3,6,7,8])))
 (.region [⟨(some 17),(.p (.bin .add (.tmp 8) (.val (.int .i64 (.ofNat 1))))),none⟩,⟨(some 8),(.p (.mov (.tmp 17))),none⟩] [] [3,6,7,8])))))))
 (.seq (.region [⟨(some 18),(.p (.mov (.tmp 3))),none⟩,⟨(some 19),(.e (.call (F 13) [(.tmp 18)])),none⟩,⟨(some 2),(.p (.mov (.tmp 19))),none⟩] [] [2])
 (.ret))))
def M4 (F : Nat → Nat) : Fun := ⟨20,1,(K4 F).erase,[.tmp 2]⟩
theorem ok4 {F : Nat → Nat} : (K4 F).ok = true := rfl
abbrev K5 (F : Nat → Nat) : KC := .seq (.region [⟨(some 1),(.a (.box (.tmp 0))),none⟩,⟨(some 2),(.a (.new [.bool false,.int .i64 (.ofNat 0),.int .i64 (.ofNat 0),.nilslice])),none⟩] [] [1,2])
 (.seq (.region [⟨(some 3),(.p (.faddr 3 (.tmp 1))),none⟩,⟨(some 4),(.load1 (.tmp 3)),none⟩,⟨(some 5),(.e (.call (F 14) [(.tmp 4)])),none⟩,⟨(some 6),(.p (.faddr 3 (.tmp 1))),none⟩,⟨none,(.e (.store 1 (.tmp 6) (.tmp 5))),none⟩] [] [1,2])
 (.seq (.region [⟨(some 7),(.loadn 4 (.tmp 1)),none⟩,⟨none,(.e (.store 4 (.tmp 2) (.tmp 7))),none⟩] [] [2])
 (.ret)))
def M5 (F : Nat → Nat) : Fun := ⟨8,1,(K5 F).erase,[.celln 4 2]⟩
theorem ok5 {F : Nat → Nat} : (K5 F).ok = true := rfl
abbrev K6 (F : Nat → Nat) : KC := .seq (.region [⟨(some 2),(.a (.box (.tmp 0))),none⟩,⟨(some 3),(.a (.box (.tmp 1))),none⟩,⟨(some 4),(.p (.mov (.val (.bool false)))),none⟩] [2,3] [2,3])
 (.seq (.region [⟨(some 5),(.p (.faddr 0 (.tmp 2))),none⟩,⟨(some 6),(.load1 (.tmp 5)),none⟩,⟨(some 7),(.p (.faddr 0 (.tmp 3))),none⟩,⟨(some 8),(.load1 (.tmp 7)),none⟩,⟨(some 9),(.p (.eq .bool false (.tmp 6) (.tmp 8))),none⟩,⟨(some 10),(.p (.mov (.tmp 9))),none⟩,⟨(some 11),(.p (.faddr 1 (.tmp 2))),(some (10,true))⟩,⟨(some 12),(.load1 (.tmp 11)),(some (10,true))⟩,⟨(some 13),(.p (.faddr 1 (.tmp 3))),(some (10,true))⟩,⟨(some 14),(.load1 (.tmp 13)),(some (10,true))⟩,⟨(some 15),(.p (.bin .eql (.tmp 12) (.tmp 14))),(some (10,true))⟩,⟨(some 16),(.p (.pick (.tmp 10) (.tmp 15) (.val (.bool false)))),none⟩,⟨(some 17),(.p (.mov (.tmp 16))),none⟩,⟨(some 18),(.p (.faddr 2 (.tmp 2))),(some (17,true))⟩,⟨(some 19),(.load1 (.tmp 18)),(some (17,true))⟩,⟨(some 20),(.p (.faddr 2 (.tmp 3))),(some (17,true))⟩,⟨(some 21),(.load1 (.tmp 20)),(some (17,true))⟩,⟨(some 22),(.p (.bin .eql (.tmp 19) (.tmp 21))),(some (17,true))⟩,⟨(some 23),(.p (.pick (.tmp 17) (.tmp 22) (.val (.bool false)))),none⟩,⟨(some 24),(.p (.mov (.tmp 23))),none⟩,⟨(some 25),(.p (.faddr 3 (.tmp 2))),(some (24,true))⟩,⟨(some 26),(.load1 (.tmp 25)),(some (24,true))⟩,⟨(some 27),(.p (.faddr 3 (.tmp 3))),(some (24,true))⟩,⟨(some 28),(.load1 (.tmp 27)),(some (24,true))⟩,⟨(some 29),(.e (.call (F 15) [(.tmp 26),(.tmp 28)])),(some (24,true))⟩,⟨(some 30),(.p (.pick (.tmp 24) (.tmp 29) (.val (.bool false)))),none⟩,⟨(some 4),(.p (.mov (.tmp 30))),none⟩] [] [4])
 (.ret))
def M6 (F : Nat → Nat) : Fun := ⟨31,2,(K6 F).erase,[.tmp 4]⟩
abbrev K7 (F : Nat → Nat) : KC := .seq (.region [⟨(some 4),(.p (.mov (.val (.bool false)))),none⟩] [] [0,1])
 (.seq (.region [⟨(some 5),(.p (.mov (.tmp 0))),none⟩,⟨(some 6),(.p (.mov (.tmp 1))),none⟩,⟨(some 7),(.e (.call (F 16) [(.tmp 5),(.tmp 6),(.val (.func (F 17) [] []))])),none⟩,⟨(some 4),(.p (.mov (.tmp 7))),none⟩] [] [4])
 (.ret))
def M7 (F : Nat → Nat) : Fun := ⟨8,2,(K7 F).erase,[.tmp 4]⟩
abbrev K8 (_F : Nat → Nat) : KC := .seq (.region [⟨(some 1),(.a (.box (.tmp 0))),none⟩,⟨(some 2),(.p (.mov (.val (.int .i64 (.ofNat 0))))),none⟩] [1] [1])
 (.seq (.seq (.region [⟨(some 3),(.p (.faddr 0 (.tmp 1))),none⟩,⟨(some 4),(.load1 (.tmp 3)),none⟩] [] [4])
 (.cond (.tmp 4) (.seq (.region [⟨(some 2),(.p (.mov (.val (.int .i64 (.ofNat 0))))),none⟩] [] [2])
 (.ret))
 (.skip)))
 (.seq (.region [⟨(some 2),(.p (.mov (.val (.int .i64 (.ofNat 1))))),none⟩] [] [2])
 (.ret)))
def M8 (F : Nat → Nat) : Fun := ⟨5,1,(K8 F).erase,[.tmp 2]⟩
theorem ok8 {F : Nat → Nat} : (K8 F).ok = true := rfl
abbrev K9 (F : Nat → Nat) : KC := .seq (.region [⟨(some 4),(.p (.mov (.val (.int .i64 (.ofNat 0))))),none⟩] [] [0,1])
 (.seq (.region [⟨(some 7),(.p (.mov (.tmp 0))),none⟩,⟨(some 8),(.e (.call (F 18) [(.tmp 7)])),none⟩,⟨(some 5),(.p (.mov (.tmp 8))),none⟩] [] [0,1,5])
 (.seq (.region [⟨(some 9),(.p (.mov (.tmp 1))),none⟩,⟨(some 10),(.e (.call (F 18) [(.tmp 9)])),none⟩,⟨(some 6),(.p (.mov (.tmp 10))),none⟩] [] [0,1,5,6])
 (.seq (.seq (.region [⟨(some 11),(.p (.mov (.tmp 5))),none⟩] [] [0,1,6,11])
 (.cond (.tmp 11) (.seq (.seq (.region [⟨(some 12),(.p (.mov (.tmp 6))),none⟩] [] [12])
 (.cond (.tmp 12) (.seq (.region [⟨(some 4),(.p (.mov (.val (.int .i64 (.ofNat 0))))),none⟩] [] [4])
 (.ret))
 (.skip)))
 (.seq (.region [⟨(some 4),(.p (.mov (.val (.int .i64 (.negSucc 0))))),none⟩] [] [4])
 (.ret)))
 (.skip)))
 (.seq (.seq (.region [⟨(some 13),(.p (.mov (.tmp 6))),none⟩] [] [0,1,13])
 (.cond (.tmp 13) (.seq (.region [⟨(some 4),(.p (.mov (.val (.int .i64 (.ofNat 1))))),none⟩] [] [4])
 (.ret))
 (.skip)))
 (.seq (.seq (.region [⟨(some 14),(.p (.mov (.tmp 0))),none⟩,⟨(some 15),(.p (.mov (.tmp 1))),none⟩,⟨(some 16),(.p (.bin .lss (.tmp 14) (.tmp 15))),none⟩] [] [0,1,16])
 (.cond (.tmp 16) (.seq (.region [⟨(some 4),(.p (.mov (.val (.int .i64 (.negSucc 0))))),none⟩] [] [4])
 (.ret))
 (.skip)))
 (.seq (.seq (.region [⟨(some 17),(.p (.mov (.tmp 0))),none⟩,⟨(some 18),(.p (.mov (.tmp 1))),none⟩,⟨(some 19),(.p (.bin .gtr (.tmp 17) (.tmp 18))),none⟩] [] [19])
 (.cond (.tmp 19) (.seq (.region [⟨(some 4),(.p (.mov (.val (.int .i64 (.ofNat 1))))),none⟩] [] [4])
 (.ret))
 (.skip)))
 (.seq (.region [⟨(some 4),(.p (.mov (.val (.int .i64 (.ofNat 0))))),none⟩] [] [4])
 (.ret))))))))
def M9 (F : Nat → Nat) : Fun := ⟨20,2,(K9 F).erase,[.tmp 4]⟩
theorem ok9 {F : Nat → Nat} : (K9 F).ok = true := rfl
abbrev K10 (F : Nat → Nat) : KC := .seq (.region [⟨(some 4),(.p (.mov (.val (.int .i64 (.ofNat 0))))),none⟩] [] [0,1])
 (.seq (.region [⟨(some 7),(.p (.mov (.tmp 0))),none⟩,⟨(some 8),(.e (.call (F 19) [(.tmp 7)])),none⟩,⟨(some 5),(.p (.mov (.tmp 8))),none⟩] [] [0,1,5])
 (.seq (.region [⟨(some 9),(.p (.mov (.tmp 1))),none⟩,⟨(some 10),(.e (.call (F 19) [(.tmp 9)])),none⟩,⟨(some 6),(.p (.mov (.tmp 10))),none⟩] [] [0,1,5,6])
 (.seq (.seq (.region [⟨(some 11),(.p (.mov (.tmp 5))),none⟩] [] [0,1,6,11])
 (.cond (.tmp 11) (.seq (.seq (.region [⟨(some 12),(.p (.mov (.tmp 6))),none⟩] [] [12])
 (.cond (.tmp 12) (.seq (.region [⟨(some 4),(.p (.mov (.val (.int .i64 (.ofNat 0))))),none⟩] [] [4])
 (.ret))
 (.skip)))
 (.seq (.region [⟨(some 4),(.p (.mov (.val (.int .i64 (.negSucc 0))))),none⟩] [] [4])
 (.ret)))
 (.skip)))
 (.seq (.seq (.region [⟨(some 13),(.p (.mov (.tmp 6))),none⟩] [] [0,1,13])
 (.cond (.tmp 13) (.seq (.region [⟨(some 4),(.p (.mov (.val (.int .i64 (.ofNat 1))))),none⟩] [] [4])
 (.ret))
 (.skip)))
 (.seq (.seq (.region [⟨(some 14),(.p (.mov (.tmp 0))),none⟩,⟨(some 15),(.p (.mov (.tmp 1))),none⟩,⟨(some 16),(.p (.bin .lss (.tmp 14) (.tmp 15))),none⟩] [] [0,1,16])
 (.cond (.tmp 16) (.seq (.region [⟨(some 4),(.p (.mov (.val (.int .i64 (.negSucc 0))))),none⟩] [] [4])
 (.ret))
 (.skip)))
 (.seq (.seq (.region [⟨(some 17),(.p (.mov (.tmp 0))),none⟩,⟨(some 18),(.p (.mov (.tmp 1))),none⟩,⟨(some 19),(.p (.bin .gtr (.tmp 17) (.tmp 18))),none⟩] [] [19])
 (.cond (.tmp 19) (.seq (.region [⟨(some 4),(.p (.mov (.val (.int .i64 (.ofNat 1))))),none⟩] [] [4])
 (.ret))
 (.skip)))
 (.seq (.region [⟨(some 4),(.p (.mov (.val (.int .i64 (.ofNat 0))))),none⟩] [] [4])
 (.ret))))))))
def M10 (F : Nat → Nat) : Fun := ⟨20,2,(K10 F).erase,[.tmp 4]⟩
theorem ok10 {F : Nat → Nat} : (K10 F).ok = true := rfl
abbrev K11 (F : Nat → Nat) : KC := .seq (.region [⟨(some 4),(.p (.mov (.val (.int .i64 (.ofNat 0))))),none⟩] [] [0,1])
 (.seq (.region [⟨(some 5),(.p (.mov (.tmp 0))),none⟩,⟨(some 6),(.p (.mov (.tmp 1))),none⟩,⟨(some 7),(.e (.extern (F 20) [(.tmp 5),(.tmp 6)])),none⟩,⟨(some 4),(.p (.mov (.tmp 7))),none⟩] [] [4])
 (.ret))
def M11 (F : Nat → Nat) : Fun := ⟨8,2,(K11 F).erase,[.tmp 4]⟩
theorem ok11 {F : Nat → Nat} : (K11 F).ok = true := rfl
abbrev K12 (_F : Nat → Nat) : KC := .seq (.region [⟨(some 6),(.p (.mov (.val (.int .i64 (.ofNat 0))))),none⟩] [] [0,1,2])
 (.seq (.seq (.region [⟨(some 11),(.p (.mov (.tmp 0))),none⟩,⟨(some 12),(.p (.lenb (.tmp 11))),none⟩,⟨(some 13),(.p (.mov (.val (.int .i64 (.ofNat 0))))),none⟩] [] [0,1,2,11,12,13])
 (.block 0 (.loop (.seq (.region [⟨(some 14),(.p (.bin .lss (.tmp 13) (.tmp 12))),none⟩] [] [0,1,2,11,12,13,14])
 (.seq (.cond (.tmp 14) (.skip)
 (.exit 0))
 (.seq (.block 1 (.seq (.region [⟨(some 15),(.p (.mov (.tmp 13))),none⟩,⟨(some 16),(.p (.iaddr 4 (.tmp 11) (.tmp 13))),none⟩,⟨(some 17),(.loadn 4 (.tmp 16)),none⟩,⟨(some 8),(.a (.new [.bool false,.int .i64 (.ofNat 0),.int .i64 (.ofNat 0),.nilslice])),none⟩,⟨(some 7),(.p (.mov (.tmp 15))),none⟩,⟨none,(.e (.store 4 (.tmp 8) (.tmp 17))),none⟩] [] [0,1,2,7,8,11,12,13])
 (.seq (.seq (.region [⟨(some 18),(.p (.mov (.tmp 7))),none⟩,⟨(some 19),(.p (.mov (.tmp 1))),none⟩,⟨(some 20),(.p (.lenb (.tmp 19))),none⟩,⟨(some 21),(.p (.bin .geq (.tmp 18) (.tmp 20))),none⟩] [] [0,1,2,7,8,11,12,13,21])
 (.cond (.tmp 21) (.seq (.region [⟨(some 6),(.p (.mov (.val (.int .i64 (.ofNat 1))))),none⟩] [] [6])
 (.ret))
 (.skip)))
 (.seq (.region [⟨(some 22),(.p (.mov (.tmp 1))),none⟩,⟨(some 23),(.p (.mov (.tmp 7))),none⟩,⟨(some 24),(.p (.iaddr 4 (.tmp 22) (.tmp 23))),none⟩,⟨(some 25),(.loadn 4 (.tmp 24)),none⟩,⟨(some 9),(.a (.new [.bool false,.int .i64 (.ofNat 0),.int .i64 (.ofNat 0),.nilslice])),none⟩,⟨none,(.e (.store 4 (.tmp 9) (.tmp 25))),none⟩] [] [0,1,2,8,9,11,12,13])
 (.seq (.region [⟨(some 26),(.p (.mov (.tmp 2))),none⟩,⟨(some 27),(.loadn 4 (.tmp 8)),none⟩,⟨(some 28),(.loadn 4 (.tmp 9)),none⟩,⟨(some 29),(.e (.callv (.tmp 26) [(.tmp 27),(.tmp 28)])),none⟩,⟨(some 10),(.p (.mov (.tmp 29))),none⟩] [] [0,1,2,10,11,12,13])
 (.seq (.region [⟨(some 30),(.p (.mov (.tmp 10))),none⟩,⟨(some 31),(.p (.bin .neq (.tmp 30) (.val (.int .i64 (.ofNat 0))))),none⟩] [] [0,1,2,10,11,12,13,31])
 (.cond (.tmp 31) (.seq (.region [⟨(some 32),(.p (.mov (.tmp 10))),none⟩,⟨(some 6),(.p (.mov (.tmp 32))),none⟩] [] [6])
 (.ret))
 (.skip))))))))
 (.region [⟨(some 33),(.p (.bin .add (.tmp 13) (.val (.int .i64 (.ofNat 1))))),none⟩,⟨(some 13),(.p (.mov (.tmp 33))),none⟩] [] [0,1,2,11,12,13])))))))
 (.seq (.seq (.region [⟨(some 34),(.p (.mov (.tmp 0))),none⟩,⟨(some 35),(.p (.lenb (.tmp 34))),none⟩,⟨(some 36),(.p (.mov (.tmp 1))),none⟩,⟨(some 37),(.p (.lenb (.tmp 36))),none⟩,⟨(some 38),(.p (.bin .lss (.tmp 35) (.tmp 37))),none⟩] [] [38])
 (.cond (.tmp 38) (.seq (.region [⟨(some 6),(.p (.mov (.val (.int .i64 (.negSucc 0))))),none⟩] [] [6])
 (.ret))
 (.skip)))
 (.seq (.region [⟨(some 6),(.p (.mov (.val (.int .i64 (.ofNat 0))))),none⟩] [] [6])
 (.ret))))
def M12 (F : Nat → Nat) : Fun := ⟨39,3,(K12 F).erase,[.tmp 6]⟩
theorem ok12 {F : Nat → Nat} : (K12 F).ok = true := rfl
abbrev K13 (_F : Nat → Nat) : KC := .seq (.region [⟨(some 2),(.p (.mov (.val (.nilslice)))),none⟩] [] [0])
 (.seq (.region [⟨(some 3),(.p (.mov (.tmp 0))),none⟩,⟨(some 4),(.p (.mov (.tmp 0))),none⟩,⟨(some 5),(.p (.lenb (.tmp 4))),none⟩,⟨(some 6),(.p (.mov (.tmp 0))),none⟩,⟨(some 7),(.p (.lenb (.tmp 6))),none⟩,⟨(some 8),(.p (.slc 4 (.tmp 3) none (some (.tmp 5)) (some (.tmp 7)))),none⟩,⟨(some 2),(.p (.mov (.tmp 8))),none⟩] [] [2])
 (.ret))
def M13 (F : Nat → Nat) : Fun := ⟨9,1,(K13 F).erase,[.tmp 2]⟩
theorem ok13 {F : Nat → Nat} : (K13 F).ok = true := rfl
abbrev K14 (_F : Nat → Nat) : KC := .seq (.region [⟨(some 2),(.p (.mov (.val (.nilslice)))),none⟩] [] [0])
 (.seq (.seq (.region [⟨(some 3),(.p (.mov (.tmp 0))),none⟩,⟨(some 4),(.p (.eq .slice false (.tmp 3) (.val (.nilslice)))),none⟩] [] [0,4])
 (.cond (.tmp 4) (.seq (.region [⟨(some 2),(.p (.mov (.val (.nilslice)))),none⟩] [] [2])
 (.ret))
 (.skip)))
 (.seq (.region [⟨(some 5),(.a (.bslice [] 1 0 [])),none⟩,⟨(some 6),(.p (.mov (.tmp 0))),none⟩,⟨(some 7),(.e (.append 1 1 (.tmp 5) (.tmp 6))),none⟩,⟨(some 2),(.p (.mov (.tmp 7))),none⟩] [] [2])
 (.ret)))
def M14 (F : Nat → Nat) : Fun := ⟨8,1,(K14 F).erase,[.tmp 2]⟩
theorem ok14 {F : Nat → Nat} : (K14 F).ok = true := rfl
abbrev K15 (_F : Nat → Nat) : KC := .seq (.region [⟨(some 4),(.p (.mov (.val (.bool false)))),none⟩] [] [0,1])
 (.seq (.region [⟨(some 5),(.p (.mov (.tmp 0))),none⟩,⟨(some 6),(.e (.text (.tmp 5))),none⟩,⟨(some 7),(.p (.mov (.tmp 1))),none⟩,⟨(some 8),(.e (.text (.tmp 7))),none⟩,⟨(some 9),(.p (.bin .eql (.tmp 6) (.tmp 8))),none⟩,⟨(some 4),(.p (.mov (.tmp 9))),none⟩] [] [4])
 (.ret))
def M15 (F : Nat → Nat) : Fun := ⟨10,2,(K15 F).erase,[.tmp 4]⟩
abbrev K16 (_F : Nat → Nat) : KC := .seq (.region [⟨(some 6),(.p (.mov (.val (.bool false)))),none⟩] [] [0,1,2])
 (.seq (.seq (.region [⟨(some 10),(.p (.mov (.tmp 0))),none⟩,⟨(some 11),(.p (.lenb (.tmp 10))),none⟩,⟨(some 12),(.p (.mov (.tmp 1))),none⟩,⟨(some 13),(.p (.lenb (.tmp 12))),none⟩,⟨(some 14),(.p (.bin .neq (.tmp 11) (.tmp 13))),none⟩] [] [0,1,2,14])
 (.cond (.tmp 14) (.seq (.region [⟨(some 6),(.p (.mov (.val (.bool false)))),none⟩] [] [6])
 (.ret))
 (.skip)))
 (.seq (.seq (.region [⟨(some 15),(.p (.mov (.tmp 0))),none⟩,⟨(some 16),(.p (.lenb (.tmp 15))),none⟩,⟨(some 17),(.p (.mov (.val (.int .i64 (.ofNat 0))))),none⟩] [] [1,2,15,16,17])
 (.block 0 (.loop (.seq (.region [⟨(some 18),(.p (.bin .lss (.tmp 17) (.tmp 16))),none⟩] [] [1,2,15,16,17,18])
 (.seq (.cond (.tmp 18) (.skip)
 (.exit 0))
 (.seq (.block 1 (.seq (.region [⟨(some 19),(.p (.mov (.tmp 17))),none⟩,⟨(some 20),(.p (.iaddr 1 (.tmp 15) (.tmp 17))),none⟩,⟨(some 21),(.load1 (.tmp 20)),none⟩,⟨(some 7),(.p (.mov (.tmp 19))),none⟩,⟨(some 8),(.p (.mov (.tmp 21))),none⟩] [] [1,2,7,8,15,16,17])
 (.seq (.region [⟨(some 22),(.p (.mov (.tmp 1))),none⟩,⟨(some 23),(.p (.mov (.tmp 7))),none⟩,⟨(some 24),(.p (.iaddr 1 (.tmp 22) (.tmp 23))),none⟩,⟨(some 25),(.load1 (.tmp 24)),none⟩,⟨(some 9),(.p (.mov (.tmp 25))),none⟩] [] [1,2,8,9,15,16,17])
 (.seq (.region [⟨(some 26),(.p (.mov (.tmp 2))),none⟩,⟨(some 27),(.p (.mov (.tmp 8))),none⟩,⟨(some 28),(.p (.mov (.tmp 9))),none⟩,⟨(some 29),(.e (.callv (.tmp 26) [(.tmp 27),(.tmp 28)])),none⟩,⟨(some 30),(.p (.not (.tmp 29))),none⟩] [] [1,2,15,16,17,30])
 (.cond (.tmp 30) (.seq (.region [⟨(some 6),(.p (.mov (.val (.bool false)))),none⟩] [] [6])
 (.ret))
 (.skip))))))
 (.region [⟨(some 31),(.p (.bin .add (.tmp 17) (.val (.int .i64 (.ofNat 1))))),none⟩,⟨(some 17),(.p (.mov (.tmp 31))),none⟩] [] [1,2,15,16,17])))))))
 (.seq (.region [⟨(some 6),(.p (.mov (.val (.bool true)))),none⟩] [] [6])
 (.ret))))
def M16 (F : Nat → Nat) : Fun := ⟨32,3,(K16 F).erase,[.tmp 6]⟩
abbrev K17 (F : Nat → Nat) : KC := .seq (.region [⟨(some 4),(.p (.mov (.val (.bool false)))),none⟩] [] [0,1])
 (.seq (.region [⟨(some 5),(.p (.mov (.tmp 0))),none⟩,⟨(some 6),(.p (.mov (.tmp 1))),none⟩,⟨(some 7),(.e (.call (F 21) [(.tmp 5),(.tmp 6),(.val (.func (F 6) [] []))])),none⟩,⟨(some 4),(.p (.mov (.tmp 7))),none⟩] [] [4])
 (.ret))
def M17 (F : Nat → Nat) : Fun := ⟨8,2,(K17 F).erase,[.tmp 4]⟩
abbrev K18 (_F : Nat → Nat) : KC := .seq (.region [⟨(some 2),(.p (.mov (.val (.bool false)))),none⟩] [] [0])
 (.seq (.region [⟨(some 3),(.p (.mov (.tmp 0))),none⟩,⟨(some 4),(.p (.mov (.tmp 0))),none⟩,⟨(some 5),(.p (.bin .neq (.tmp 3) (.tmp 4))),none⟩,⟨(some 2),(.p (.mov (.tmp 5))),none⟩] [] [2])
 (.ret))
def M18 (F : Nat → Nat) : Fun := ⟨6,1,(K18 F).erase,[.tmp 2]⟩
theorem ok18 {F : Nat → Nat} : (K18 F).ok = true := rfl
abbrev K19 (_F : Nat → Nat) : KC := .seq (.region [⟨(some 2),(.p (.mov (.val (.bool false)))),none⟩] [] [0])
 (.seq (.region [⟨(some 3),(.p (.mov (.tmp 0))),none⟩,⟨(some 4),(.p (.mov (.tmp 0))),none⟩,⟨(some 5),(.p (.bin .neq (.tmp 3) (.tmp 4))),none⟩,⟨(some 2),(.p (.mov (.tmp 5))),none⟩] [] [2])
 (.ret))
def M19 (F : Nat → Nat) : Fun := ⟨6,1,(K19 F).erase,[.tmp 2]⟩
theorem ok19 {F : Nat → Nat} : (K19 F).ok = true := rfl
abbrev K21 (_F : Nat → Nat) : KC := .seq (.region [⟨(some 6),(.p (.mov (.val (.bool false)))),none⟩] [] [0,1,2])
 (.seq (.seq (.region [⟨(some 10),(.p (.mov (.tmp 0))),none⟩,⟨(some 11),(.p (.lenb (.tmp 10))),none⟩,⟨(some 12),(.p (.mov (.tmp 1))),none⟩,⟨(some 13),(.p (.lenb (.tmp 12))),none⟩,⟨(some 14),(.p (.bin .neq (.tmp 11) (.tmp 13))),none⟩] [] [0,1,2,14])
 (.cond (.tmp 14) (.seq (.region [⟨(some 6),(.p (.mov (.val (.bool false)))),none⟩] [] [6])
 (.ret))
 (.skip)))
 (.seq (.seq (.region [⟨(some 15),(.p (.mov (.tmp 0))),none⟩,⟨(some 16),(.p (.lenb (.tmp 15))),none⟩,⟨(some 17),(.p (.mov (.val (.int .i64 (.ofNat 0))))),none⟩] [] [1,2,15,16,17])
 (.block 0 (.loop (.seq (.region [⟨(some 18),(.p (.bin .lss (.tmp 17) (.tmp 16))),none⟩] [] [1,2,15,16,17,18])
 (.seq (.cond (.tmp 18) (.skip)
 (.exit 0))
 (.seq (.block 1 (.seq (.region [⟨(some 19),(.p (.mov (.tmp 17))),none⟩,⟨(some 20),(.p (.iaddr 4 (.tmp 15) (.tmp 17))),none⟩,⟨(some 21),(.loadn 4 (.tmp 20)),none⟩,⟨(some 8),(.a (.new [.bool false,.int .i64 (.ofNat 0),.int .i64 (.ofNat 0),.nilslice])),none⟩,⟨(some 7),(.p (.mov (.tmp 19))),none⟩,⟨none,(.e (.store 4 (.tmp 8) (.tmp 21))),none⟩] [] [1,2,7,8,15,16,17])
 (.seq (.region [⟨(some 22),(.p (.mov (.tmp 1))),none⟩,⟨(some 23),(.p (.mov (.tmp 7))),none⟩,⟨(some 24),(.p (.iaddr 4 (.tmp 22) (.tmp 23))),none⟩,⟨(some 25),(.loadn 4 (.tmp 24)),none⟩,⟨(some 9),(.a (.new [.bool false,.int .i64 (.ofNat 0),.int .i64 (.ofNat 0),.nilslice])),none⟩,⟨none,(.e (.store 4 (.tmp 9) (.tmp 25))),none⟩] [] [1,2,8,9,15,16,17])
 (.seq (.region [⟨(some 26),(.p (.mov (.tmp 2))),none⟩,⟨(some 27),(.loadn 4 (.tmp 8)),none⟩,⟨(some 28),(.loadn 4 (.tmp 9)),none⟩,⟨(some 29),(.e (.callv (.tmp 26) [(.tmp 27),(.tmp 28)])),none⟩,⟨(some 30),(.p (.not (.tmp 29))),none⟩] [] [1,2,15,16,17,30])
 (.cond (.tmp 30) (.seq (.region [⟨(some 6),(.p (.mov (.val (.bool false)))),none⟩] [] [6])
 (.ret))
 (.skip))))))
 (.region [⟨(some 31),(.p (.bin .add (.tmp 17) (.val (.int .i64 (.ofNat 1))))),none⟩,⟨(some 17),(.p (.mov (.tmp 31))),none⟩] [] [1,2,15,16,17])))))))
 (.seq (.region [⟨(some 6),(.p (.mov (.val (.bool true)))),none⟩] [] [6])
 (.ret))))
def M21 (F : Nat → Nat) : Fun := ⟨32,3,(K21 F).erase,[.tmp 6]⟩
end Go.Lib
end

section
namespace Go.Dv
open Go.Vm
variable {p : Prog} {ext : Ext} {F : Nat → Nat}
structure Has (p : Prog) (ext : Ext) (F : Nat → Nat) (i : Nat) (M : (Nat → Nat) → Fun) : Prop where
  get : p.funs.get (F i) = some (M F)
  ext : ∀ args h, ext (F i) args h = none
def Fin (H : HpD) (d : D) (d' : D) (H' : HpD) : Prop := ∃ H2, WeakV d' H' d H2 ∧ Sub H H2 ∧ d.under H.next
theorem Fin.same {H : HpD} {d : D} (hu : d.under H.next) : Fin H d d H := ⟨H, .refl, .refl, hu⟩
theorem Fin.le {H H' : HpD} {d d' : D} (hs : Sub H H') (hl : D.le d' d) (hu : d.under H.next) : Fin H d d' H' := ⟨H', .le hl, hs, hu⟩
theorem fn_of {i : Nat} {M : (Nat → Nat) → Fun} (hh : Has p ext F i M) {kc : KC} (hb : (M F).body = kc.erase) (hk : kc.ok = true) {args : List D} {d : D} (hn : args.length = (M F).nargs)
    (hs : ∀ H, Sem p ext (endD (M F).results (Fin H d)) (.code kc [] .mk (argsD 0 args) H)) : FnD p ext (F i) args d := by
  intro H
  refine WcD.drop (WcD.mono (enterD hh.ext hh.get hb hk hn (hs H)) ?_)
  rintro d' H' ⟨H2, w, s, u⟩
  exact ⟨d, H2, w, s, u, rfl, rfl⟩
theorem wc_of {i : Nat} {M : (Nat → Nat) → Fun} (hh : Has p ext F i M) {kc : KC} (hb : (M F).body = kc.erase) (hk : kc.ok = true) {args : List D} {H : HpD} {R : D → HpD → Prop} (hn : args.length = (M F).nargs)
    (hs : Sem p ext (endD (M F).results R) (.code kc [] .mk (argsD 0 args) H)) : WcD p ext (F i) args H R := enterD hh.ext hh.get hb hk hn hs
theorem underss_map {α : Type} {n : Nat} {f : α → List D} (h : ∀ x, D.unders n (f x)) : ∀ l : List α, D.underss n (l.map f)
  | [] => trivial
  | x :: l => ⟨h x, underss_map h l⟩
end Go.Dv
end

section
namespace Go.Dv
open Go.Vm
variable {p : Prog} {ext : Ext} {Q : ResD → Prop}
def D.hasB (x : Nat) : D → Prop
  | .slice b _ _ _ _ _ => x = b
  | _ => False
structure Gr (H0 H : HpD) (sz : Nat) (s : D) (el : List (List D)) : Prop where
  sub : Sub H0 H
  len : ∀ e, e ∈ el → e.length = sz
  at_ : (s = .lit .nilslice ∧ el = []) ∨ ∃ b ex el0, s = .slice b 0 sz el.length el.length ex ∧ H0.next ≤ b ∧ b < H.next ∧ H.blk b = .cells el0.flatten false ∧ D.less el0 el
section
variable {H0 H H1 : HpD} {sz : Nat} {s : D} {el : List (List D)}
theorem Gr.nil (hs : Sub H0 H) : Gr H0 H sz (.lit .nilslice) [] := ⟨hs, fun _ h => (by cases h), .inl ⟨rfl, rfl⟩⟩
theorem Gr.lit (hs : Sub H0 H) {ex : Bool} (he : ∀ e, e ∈ el → e.length = sz) {c : List D} (hc : c = el.flatten) {n : Nat} (hn : n = el.length) : Gr H0 (H.new (.cells c false)) sz (.slice H.next 0 sz n n ex) el :=
  ⟨hs.new, he, .inr ⟨H.next, ex, el, by rw [hn], hs.next, by simp [new_next], by simp [new_blk, hc], D.less_refl _⟩⟩
theorem Gr.start : Gr H H sz (.lit .nilslice) [] := .nil .refl
theorem Gr.mono (g : Gr H0 H sz s el) (h : Sub H H1) : Gr H0 H1 sz s el := by
  refine ⟨g.sub.trans h, g.len, ?_⟩
  rcases g.at_ with k | ⟨b, ex, el0, rfl, h1, h2, h3, h4⟩
  · exact .inl k
  · exact .inr ⟨b, ex, el0, rfl, h1, Nat.lt_of_lt_of_le h2 h.next, (h.blk b h2).trans h3, h4⟩
theorem Gr.keep (g : Gr H0 H sz s el) (hs : Sub H0 H1) (hn : H.next ≤ H1.next) (hk : ∀ x, s.hasB x → H1.blk x = H.blk x) : Gr H0 H1 sz s el := by
  refine ⟨hs, g.len, ?_⟩
  rcases g.at_ with k | ⟨b, ex, el0, rfl, h1, h2, h3, h4⟩
  · exact .inl k
  · exact .inr ⟨b, ex, el0, rfl, h1, Nat.lt_of_lt_of_le h2 hn, (hk b rfl).trans h3, h4⟩
theorem Gr.lenb (g : Gr H0 H sz s el) : lenbD s = some (.lit (.int .i64 (el.length : Int))) := by
  rcases g.at_ with ⟨rfl, rfl⟩ | ⟨b, ex, el0, rfl, _⟩ <;> rfl
theorem flatten_len {sz : Nat} : ∀ {el : List (List D)}, (∀ e, e ∈ el → e.length = sz) → el.flatten.length = el.length * sz
  | [], _ => by simp
  | e :: l, h => by
    rw [List.flatten_cons, List.length_append, flatten_len fun x hx => h x (List.mem_cons_of_mem _ hx), h e (List.mem_cons_self ..), List.length_cons, Nat.succ_mul, Nat.add_comm]
theorem flatsD_flatten : ∀ {l : List (List D)}, (∀ e, e ∈ l → flatsD e = true) → flatsD l.flatten = true
  | [], _ => rfl
  | e :: l, h => by
    have key : ∀ (a b : List D), flatsD (a ++ b) = (flatsD a && flatsD b) := by
      intro a b
      induction a with
      | nil => simp [flatsD]
      | cons d a ih => simp [flatsD, ih, Bool.and_assoc]
    rw [List.flatten_cons, key, h e (List.mem_cons_self ..), flatsD_flatten fun x hx => h x (List.mem_cons_of_mem _ hx)]
    rfl
theorem roomyD {by_ n : Nat} (h : by_ * n ≤ 1099511627776) (h2 : n ≤ 1099511627776) : roomy by_ n = true := roomy_of h h2
theorem less_append : ∀ {a a' b b' : List (List D)}, D.less a a' → D.less b b' → D.less (a ++ b) (a' ++ b')
  | [], [], _, _, _, k => k
  | x :: a, y :: a', b, b', k, k2 => by
    simp only [D.less, List.cons_append] at k ⊢
    exact ⟨k.1, less_append k.2 k2⟩
  | [], _ :: _, _, _, k, _ => by simp [D.less] at k
  | _ :: _, [], _, _, k, _ => by simp [D.less] at k
theorem less_sz : ∀ {a a' : List (List D)} {sz : Nat}, D.less a a' → (∀ e, e ∈ a' → e.length = sz) → ∀ e, e ∈ a → e.length = sz
  | [], _, _, _, _, e, he => by cases he
  | x :: a, y :: a', sz, k, h, e, he => by
    simp only [D.less] at k
    rcases List.mem_cons.1 he with rfl | he
    · rw [les_length k.1]; exact h y (List.mem_cons_self ..)
    · exact less_sz k.2 (fun z hz => h z (List.mem_cons_of_mem _ hz)) e he
  | _ :: _, [], _, k, _, _, _ => by simp [D.less] at k
theorem Gr.grow (g : Gr H0 H sz s el) {by_ n : Nat} {new0 new : List (List D)} (hle : D.less new0 new) (hn : new.length = n) (h0 : 0 < n) (he : ∀ e, e ∈ new → e.length = sz) (hr : roomy by_ (el.length + n) = true) :
    ∃ s' H', appendCD sz by_ H s n new0.flatten = some (s', H') ∧ Gr H0 H' sz s' (el ++ new) ∧ (∀ x, x < H.next → ¬ s.hasB x → H'.blk x = H.blk x) ∧ H.next < H'.next ∧ s' = .slice H.next 0 sz (el ++ new).length (el ++ new).length false := by
  have hlen : ∀ e, e ∈ el ++ new → e.length = sz := fun e h => by
    rcases List.mem_append.1 h with h | h
    · exact g.len e h
    · exact he e h
  rcases g.at_ with ⟨rfl, rfl⟩ | ⟨b, ex, el0, rfl, h1, h2, h3, h4⟩
  · simp only [List.length_nil, Nat.zero_add] at hr
    refine ⟨_, _, by simp only [appendCD, hr, cond_true]; rfl, ⟨g.sub.new, hlen, .inr ⟨H.next, false, new0, by simp [hn], g.sub.next, by simp [new_next], by simp [new_blk], by simpa using hle⟩⟩, fun x hx _ => by rw [new_blk, if_neg (by omega)], Nat.lt_succ_self _, by simp [hn]⟩
  · have hel := less_length h4
    have hf := flatten_len (less_sz h4 g.len)
    have hrd : readD H b 0 (el.length * sz) = some el0.flatten := by
      rw [readD_eq, h3, ← hel, ← hf]
      simp only [Nat.zero_add, Nat.le_refl, if_true, List.drop_zero, List.take_length]
    have hnew : D.less (el0 ++ new0) (el ++ new) := less_append h4 hle
    cases ex with
    | false =>
      refine ⟨.slice H.next 0 sz (el.length + n) (el.length + n) false, (H.put b .gone).new (.cells (el0.flatten ++ new0.flatten) false), ?_, ⟨(g.sub.put h1).new, hlen, .inr ⟨H.next, false, el0 ++ new0, by simp [hn], g.sub.next, by simp [new_next, put_next], by simp [new_blk, put_next], hnew⟩⟩, fun x hx hx2 => ?_, by simp [new_next, put_next], by simp [hn]⟩
      · simp only [appendCD, hr, hrd, h3, growD]
        rw [show Nat.beq sz sz = true from nbeq.2 rfl, show Nat.ble (el.length + n) el.length = false from by rw [nble_d]; exact decide_eq_false (by omega)]
        rfl
      · rw [new_blk, put_next, if_neg (by omega), put_blk, if_neg]
        exact hx2
    | true =>
      refine ⟨.slice H.next 0 sz (el.length + n) (el.length + n) false, H.new (.cells (el0.flatten ++ new0.flatten) false), ?_, ⟨g.sub.new, hlen, .inr ⟨H.next, false, el0 ++ new0, by simp [hn], g.sub.next, by simp [new_next], by simp [new_blk], hnew⟩⟩, fun x hx hx2 => ?_, by simp [new_next], by simp [hn]⟩
      · simp only [appendCD, hr, hrd, growD]
        rw [show Nat.beq sz sz = true from nbeq.2 rfl, show Nat.ble (el.length + n) el.length = false from by rw [nble_d]; exact decide_eq_false (by omega)]
        rfl
      · rw [new_blk, if_neg (by omega)]
theorem Gr.app' (g : Gr H0 H sz s el) {by_ : Nat} {m : Md} {new0 new : List (List D)} (hle : D.less new0 new) (he : ∀ e, e ∈ new → e.length = sz) (hf : ∀ e, e ∈ new0 → flatsD e = true) (hr : roomy by_ (el.length + new.length) = true) :
    ∃ s' H', appendD sz by_ H s (.row sz m new0) = some (s', H') ∧ Gr H0 H' sz s' (el ++ new) ∧ (∀ x, x < H.next → ¬ s.hasB x → H'.blk x = H.blk x) ∧ H.next ≤ H'.next := by
  have hln := less_length hle
  cases hn : new0 with
  | nil =>
    have : new = [] := by rw [hn] at hln; exact List.eq_nil_of_length_eq_zero hln.symm
    subst this
    refine ⟨s, H, ?_, by rw [List.append_nil]; exact g, fun _ _ _ => rfl, Nat.le_refl _⟩
    simp only [appendD, lenD, List.length_nil]
    rcases g.at_ with ⟨rfl, rfl⟩ | ⟨b, ex, el0, rfl, _⟩
    · rfl
    · simp only [sameD]
      rw [show Nat.beq sz sz = true from nbeq.2 rfl]
      rfl
  | cons e l =>
    rw [← hn]
    have h0 : 0 < new.length := by rw [← hln, hn]; simp
    obtain ⟨s', H', e1, g', k, n, _⟩ := g.grow (by_ := by_) hle rfl h0 he hr
    refine ⟨s', H', ?_, g', k, Nat.le_of_lt n⟩
    simp only [appendD, lenD]
    obtain ⟨k, hk⟩ : ∃ k, new.length = k + 1 := ⟨new.length - 1, by omega⟩
    rw [hln, hk]
    simp only
    have hm : srcD H sz (k + 1) (.row sz m new0) = some new0.flatten := by
      simp only [srcD]
      rw [show Nat.beq sz sz = true from nbeq.2 rfl, show Nat.ble (k + 1) new0.length = true from nble.2 (by omega)]
      rw [show new0.take (k + 1) = new0 from List.take_of_length_le (by omega)]
      cases m <;> rfl
    rw [hm]
    simp only [appendN, flatsD_flatten hf, cond_true]
    rw [← hk]; exact e1
theorem Gr.app (g : Gr H0 H sz s el) {by_ : Nat} {m : Md} {new : List (List D)} (he : ∀ e, e ∈ new → e.length = sz) (hf : ∀ e, e ∈ new → flatsD e = true) (hr : roomy by_ (el.length + new.length) = true) :
    ∃ s' H', appendD sz by_ H s (.row sz m new) = some (s', H') ∧ Gr H0 H' sz s' (el ++ new) ∧ (∀ x, x < H.next → ¬ s.hasB x → H'.blk x = H.blk x) ∧ H.next ≤ H'.next := g.app' (D.less_refl _) he hf hr
theorem Gr.push (g : Gr H0 H sz s el) {by_ : Nat} {m : Md} {e : List D} (e' : List D) (hle : D.les e e') (he : e'.length = sz) (hf : flatsD e = true) (hr : roomy by_ (el.length + 1) = true) :
    ∃ s' H', appendD sz by_ H s (.row sz m [e]) = some (s', H') ∧ Gr H0 H' sz s' (el ++ [e']) ∧ (∀ x, x < H.next → ¬ s.hasB x → H'.blk x = H.blk x) ∧ H.next ≤ H'.next ∧ s' = .slice H.next 0 sz (el.length + 1) (el.length + 1) false := by
  obtain ⟨s', H', e1, g', k, n, e2⟩ := g.grow (by_ := by_) (n := 1) (new0 := [e]) (new := [e']) (by simp only [D.less]; exact ⟨hle, trivial⟩) rfl (by omega) (by simp [he]) hr
  refine ⟨s', H', ?_, g', k, Nat.le_of_lt n, by simpa using e2⟩
  simp only [appendD, lenD, List.length_singleton]
  have hm : srcD H sz (0 + 1) (.row sz m [e]) = some [e].flatten := by
    simp only [srcD]
    rw [show Nat.beq sz sz = true from nbeq.2 rfl]
    cases m <;> rfl
  rw [hm]
  simp only [appendN]
  rw [show flatsD [e].flatten = true from by simpa using hf]
  exact e1
theorem appendD_slice1 {by_ b o cap : Nat} {ex ro : Bool} {cs : List D} (hb : H.blk b = .cells cs ro) (ho : o + sz ≤ cs.length) : appendD sz by_ H s (.slice b o sz 1 cap ex) = appendD sz by_ H s (.row sz .p [(cs.drop o).take sz]) := by
  simp only [appendD, lenD, List.length_singleton]
  have h1 : srcD H sz (0 + 1) (.slice b o sz 1 cap ex) = some ((cs.drop o).take sz) := by
    simp only [srcD]
    rw [show Nat.beq sz sz = true from nbeq.2 rfl, readD_eq, hb]
    simp [ho]
  have h2 : srcD H sz (0 + 1) (.row sz .p [(cs.drop o).take sz]) = some ((cs.drop o).take sz) := by
    simp only [srcD]
    rw [show Nat.beq sz sz = true from nbeq.2 rfl]
    simp
  rw [h1, h2]
theorem Gr.fin (g : Gr H0 H sz s el) (hu : D.underss H0.next el) {m : Md} (hm : m ≠ .c) : Fin H0 (.row sz m el) s H := by
  have hm' : m = .p ∨ m = .w := by cases m <;> simp at hm ⊢
  rcases g.at_ with ⟨rfl, rfl⟩ | ⟨b, ex, el0, rfl, h1, h2, h3, h4⟩
  · exact ⟨H, .le (by simp [D.le]), g.sub, by simp [D.under]⟩
  · have hel := less_length h4
    refine ⟨H.put b .gone, (WeakV.freeze h3 (less_sz h4 g.len)).trans (.le ?_), g.sub.put h1, by simpa [D.under] using hu⟩
    simp only [frz]
    rw [if_pos ⟨trivial, trivial, trivial, hel.symm, by omega⟩]
    simp only [D.le, h4, and_true, true_and]
    by_cases hx : el.length = el0.length ∧ ex = true
    · rcases hm' with rfl | rfl <;> simp [hx]
    · rcases hm' with rfl | rfl <;> simp [hx]
theorem Gr.slot (g : Gr H0 H sz s el) {t : Nat} {fr : FrD} {args : List D} (ht : lk fr t = s) {m : Md} (hm : m ≠ .c) :
    ∃ H', Weak args fr H args ((t, .row sz m el) :: fr) H' ∧ Sub H0 H' ∧ (∀ x, ¬ s.hasB x → H'.blk x = H.blk x) ∧ H'.next = H.next := by
  have hm' : m = .p ∨ m = .w := by cases m <;> simp at hm ⊢
  have put : ∀ {ψ : Nat → Option Nat} {S : Nat → Prop} {h : Hp} {fv : Fr} {d : D}, FrR h ψ S fr fv → VD h ψ S d (ev fv (.tmp t)) → FrR h ψ S ((t, d) :: fr) fv := by
    intro ψ S h fv d k kd u
    rw [lk_cons]
    split
    · rename_i e; subst e; exact kd
    · exact k u
  rcases g.at_ with ⟨rfl, rfl⟩ | ⟨b, ex, el0, rfl, h1, h2, h3, h4⟩
  · refine ⟨H, ?_, g.sub, fun _ _ => rfl, rfl⟩
    intro ψ S h fv vs sr kf kv
    refine ⟨ψ, S, .refl, sr, put kf (VD.le (.lit .nilslice) _ (by simp [D.le]) ?_), kv⟩
    have := kf t
    rwa [ht] at this
  · refine ⟨H.put b .gone, ?_, g.sub.put h1, fun x hx => by rw [put_blk, if_neg]; exact hx, put_next⟩
    intro ψ S h fv vs sr kf kv
    have hel := less_length h4
    obtain ⟨c, hc, hr⟩ := frz_row sr h3 (less_sz h4 g.len)
    obtain ⟨x0, s0⟩ := sr.freeze hc
    refine ⟨ψ, _, x0, s0, put (kf.mono x0) ?_, VDl.mono x0 _ kv⟩
    have := kf t
    rw [ht] at this
    simp only [VD] at this
    obtain ⟨c', e, e2⟩ := this
    rw [hc] at e; cases e
    rw [e2]
    rw [← hel]
    refine VD.le _ _ ?_ (hr _ _ (Nat.le_refl _))
    simp only [D.le, h4, and_true, true_and]
    rcases hm' with rfl | rfl <;> simp
theorem VDl.setD {h : Hp} {ψ : Nat → Option Nat} {S : Nat → Prop} {args : List D} {vs : List V} {j : Nat} {d d' : D} (k : VDl h ψ S args vs) (hj : args[j]? = some d) (hd : ∀ v, VD h ψ S d v → VD h ψ S d' v) : VDl h ψ S (args.set j d') vs := by
  obtain ⟨v, e, kv⟩ := VDl.get k hj
  have := VDl.set j k (hd v kv)
  have he : vs.set j v = vs := by
    obtain ⟨hl, rfl⟩ := List.getElem?_eq_some_iff.1 e
    exact List.set_getElem_self hl
  rwa [he] at this
theorem Gr.arg (g : Gr H0 H sz s el) (j : Nat) {fr : FrD} {args : List D} (ht : args[j]? = some s) {m : Md} (hm : m ≠ .c) :
    ∃ H', Weak args fr H (args.set j (.row sz m el)) fr H' ∧ Sub H0 H' ∧ (∀ x, ¬ s.hasB x → H'.blk x = H.blk x) ∧ H'.next = H.next := by
  have hm' : m = .p ∨ m = .w := by cases m <;> simp at hm ⊢
  rcases g.at_ with ⟨rfl, rfl⟩ | ⟨b, ex, el0, rfl, h1, h2, h3, h4⟩
  · refine ⟨H, ?_, g.sub, fun _ _ => rfl, rfl⟩
    intro ψ S h fv vs sr kf kv
    exact ⟨ψ, S, .refl, sr, kf, kv.setD ht fun v hv => VD.le (.lit .nilslice) _ (by simp [D.le]) hv⟩
  · refine ⟨H.put b .gone, ?_, g.sub.put h1, fun x hx => by rw [put_blk, if_neg]; exact hx, put_next⟩
    intro ψ S h fv vs sr kf kv
    have hel := less_length h4
    obtain ⟨c, hc, hr⟩ := frz_row sr h3 (less_sz h4 g.len)
    obtain ⟨x0, s0⟩ := sr.freeze hc
    refine ⟨ψ, _, x0, s0, kf.mono x0, (VDl.mono x0 _ kv).setD ht fun v hv => ?_⟩
    simp only [VD] at hv
    obtain ⟨c', e, e2⟩ := hv
    rw [hc] at e; cases e
    rw [e2]
    rw [← hel]
    refine VD.le _ _ ?_ (hr _ _ (Nat.le_refl _))
    simp only [D.le, h4, and_true, true_and]
    rcases hm' with rfl | rfl <;> simp
theorem sem_push_le {by_ : Nat} {m : Md} {e : List D} (e' : List D) {k : D → HpD → Cfg} (g : Gr H0 H sz s el) (hle : D.les e e') (he : e'.length = sz) (hf : flatsD e = true) (hr : roomy by_ (el.length + 1) = true)
    (hk : ∀ s' H', Gr H0 H' sz s' (el ++ [e']) → (∀ x, x < H.next → ¬ s.hasB x → H'.blk x = H.blk x) → (H.next ≤ H'.next ∧ s' = .slice H.next 0 sz (el.length + 1) (el.length + 1) false) → Sem p ext Q (k s' H')) : Sem p ext Q (optH (appendD sz by_ H s (.row sz m [e])) k) := by
  obtain ⟨s', H', e1, g', k1, n1⟩ := g.push (m := m) e' hle he hf hr
  rw [e1]
  exact hk s' H' g' k1 n1
theorem sem_push {by_ : Nat} {m : Md} {e : List D} {k : D → HpD → Cfg} (g : Gr H0 H sz s el) (he : e.length = sz) (hf : flatsD e = true) (hr : roomy by_ (el.length + 1) = true)
    (hk : ∀ s' H', Gr H0 H' sz s' (el ++ [e]) → (∀ x, x < H.next → ¬ s.hasB x → H'.blk x = H.blk x) → (H.next ≤ H'.next ∧ s' = .slice H.next 0 sz (el.length + 1) (el.length + 1) false) → Sem p ext Q (k s' H')) : Sem p ext Q (optH (appendD sz by_ H s (.row sz m [e])) k) :=
  sem_push_le e g (D.les_refl _) he hf hr hk
theorem sem_app {by_ : Nat} {m : Md} {new : List (List D)} {k : D → HpD → Cfg} (g : Gr H0 H sz s el) (he : ∀ e, e ∈ new → e.length = sz) (hf : ∀ e, e ∈ new → flatsD e = true) (hr : roomy by_ (el.length + new.length) = true)
    (hk : ∀ s' H', Gr H0 H' sz s' (el ++ new) → (∀ x, x < H.next → ¬ s.hasB x → H'.blk x = H.blk x) → H.next ≤ H'.next → Sem p ext Q (k s' H')) : Sem p ext Q (optH (appendD sz by_ H s (.row sz m new)) k) := by
  obtain ⟨s', H', e1, g', k1, n1⟩ := g.app (m := m) he hf hr
  rw [e1]
  exact hk s' H' g' k1 n1
theorem sem_row (g : Gr H0 H sz s el) (j : Nat) {f : Nat} {args : List D} {dst : Option Nat} {l : List MO} {fz lv : List Nat} {K : List KD} {fr : FrD} (ht : args[j]? = some s)
    (hs : ∀ H', Sub H0 H' → (∀ x, ¬ s.hasB x → H'.blk x = H.blk x) → H'.next = H.next → Sem p ext Q (.call f (args.set j (.row sz .p el)) dst l fz lv K .mk fr H')) : Sem p ext Q (.call f args dst l fz lv K .mk fr H) := by
  obtain ⟨H', w, s', k, n⟩ := g.arg j (fr := fr) ht (m := .p) (by simp)
  exact sem_weak_call w (hs H' s' k n)
theorem sem_turn_ok (g : Gr H0 H sz s el) (t : Nat) {K : List KD} {fr : FrD} (ht : lk fr t = s)
    (hs : ∀ H', Sub H0 H' → (∀ x, ¬ s.hasB x → H'.blk x = H.blk x) → H'.next = H.next → Sem p ext Q (.res (.ok ((t, .row sz .p el) :: fr) H') K .mk)) : Sem p ext Q (.res (.ok fr H) K .mk) := by
  obtain ⟨H', w, s', k, n⟩ := g.slot (args := []) ht (m := .p) (by simp)
  exact sem_weak_ok w (hs H' s' k n)
theorem sem_turn_exit (g : Gr H0 H sz s el) (t : Nat) {id : Nat} {K : List KD} {fr : FrD} (ht : lk fr t = s)
    (hs : ∀ H', Sub H0 H' → (∀ x, ¬ s.hasB x → H'.blk x = H.blk x) → H'.next = H.next → Sem p ext Q (.res (.exit id ((t, .row sz .p el) :: fr) H') K .mk)) : Sem p ext Q (.res (.exit id fr H) K .mk) := by
  obtain ⟨H', w, s', k, n⟩ := g.slot (args := []) ht (m := .p) (by simp)
  exact sem_weak_exit w (hs H' s' k n)
theorem sem_turn_ops (g : Gr H0 H sz s el) (t : Nat) {l : List MO} {fz lv : List Nat} {K : List KD} {fr : FrD} (ht : lk fr t = s)
    (hs : ∀ H', Sub H0 H' → (∀ x, ¬ s.hasB x → H'.blk x = H.blk x) → H'.next = H.next → Sem p ext Q (.ops l fz lv K .mk ((t, .row sz .p el) :: fr) H')) : Sem p ext Q (.ops l fz lv K .mk fr H) := by
  obtain ⟨H', w, s', k, n⟩ := g.slot (args := []) ht (m := .p) (by simp)
  exact sem_weak_ops w (hs H' s' k n)
theorem Gr.finA (g : Gr H0 H sz s el) (hu : D.underss H0.next el) {m : Md} (hm : m ≠ .c) : Fin H0 (.agg [.row sz m el]) (.agg [s]) H := by
  obtain ⟨H2, w, sub, u⟩ := g.fin hu hm
  refine ⟨H2, ?_, sub, by simpa [D.under] using u⟩
  intro ψ S h v sr kv
  simp only [VD, VDl] at kv
  obtain ⟨l', rfl, x, r, rfl, kx, rfl⟩ := kv
  obtain ⟨ψ', S', x0, s', k'⟩ := w ψ S h x sr kx
  exact ⟨ψ', S', x0, s', by simp only [VD, VDl]; exact ⟨_, rfl, _, _, rfl, k', rfl⟩⟩
theorem WeakV.part {pre : List D} {b o n cap : Nat} {ex ro : Bool} {cs : List D} {el : List (List D)} (hb : H.blk b = .cells cs ro) (he : ∀ e, e ∈ el → e.length = sz) (hl : el.length = n) (hc : (cs.drop o).take (n * sz) = el.flatten) (hn : n ≤ cap) :
    WeakV (.agg (pre ++ [.slice b o sz n cap ex])) H (.agg (pre ++ [.row sz .p el])) (H.put b .gone) := by
  intro ψ S h v sr kv
  obtain ⟨c, h1, h2, l', h3, h4⟩ : ∃ c, ψ b = some c ∧ ¬ S c ∧ ∃ l', h.blk c = .cells l' ro ∧ VDl h ψ S cs l' := by
    obtain ⟨c, h1, h2, h3⟩ := sr.live b (by rw [hb]; rfl)
    rw [hb] at h3
    exact ⟨c, h1, h2, h3⟩
  obtain ⟨x0, s0⟩ := sr.freeze h1
  refine ⟨ψ, _, x0, s0, ?_⟩
  simp only [VD] at kv ⊢
  obtain ⟨l2, rfl, kl⟩ := kv
  refine ⟨l2, rfl, ?_⟩
  have key : ∀ (pre : List D) (l2 : List V), VDl h ψ S (pre ++ [.slice b o sz n cap ex]) l2 → VDl h ψ (fun x => S x ∨ x = c) (pre ++ [.row sz .p el]) l2 := by
    intro pre
    induction pre with
    | nil =>
      intro l2 kl
      simp only [List.nil_append, VDl, VD] at kl ⊢
      obtain ⟨x, r, rfl, ⟨c', e, rfl⟩, rfl⟩ := kl
      rw [h1] at e; cases e
      refine ⟨_, _, rfl, .inr ⟨c, o, cap, ex, by rw [hl], by rw [hl]; exact hn, fun e => (by cases e), .inr ⟨l', ro, .inr rfl, h3, ?_⟩⟩, rfl⟩
      have k1 := VDl.take (n * sz) (VDl.drop o h4)
      rw [hc] at k1
      have := VDss.of (us := (l'.drop o).drop (n * sz)) he (VDl.mono x0 _ k1)
      rwa [List.take_append_drop] at this
    | cons d pre ih =>
      intro l2 kl
      simp only [List.cons_append, VDl] at kl ⊢
      obtain ⟨x, r, rfl, k1, k2⟩ := kl
      exact ⟨x, r, rfl, VD.mono x0 _ k1, ih _ k2⟩
  exact key pre l2 kl
theorem own_fn {f : Nat} {args : List D} {sz : Nat} {el : List (List D)} (hw : ∀ H, WcD p ext f args H fun d H' => Gr H H' sz d el) (hu : ∀ n, D.underss n el) : FnD p ext f args (.row sz .p el) := by
  intro H
  refine WcD.drop ((hw H).mono ?_)
  intro d H' g
  obtain ⟨H2, w, s, u⟩ := g.fin (hu H.next) (m := .p) (by simp)
  exact ⟨_, H2, w, s, u, rfl, rfl⟩
theorem spliceD_flatten {sz j : Nat} {x : D} : ∀ {el : List (List D)} {i : Nat} {e : List D}, (∀ e, e ∈ el → e.length = sz) → el[i]? = some e → j < sz → spliceD el.flatten (i * sz + j) [x] = (el.set i (e.set j x)).flatten
  | [], _, _, _, he, _ => by simp at he
  | a :: l, 0, e, hs, he, hj => by
    simp at he
    subst he
    have ha := hs a (List.mem_cons_self ..)
    simp only [Nat.zero_mul, Nat.zero_add, List.flatten_cons, List.set_cons_zero]
    have key : ∀ (a m : List D) (j : Nat), j < a.length → spliceD (a ++ m) j [x] = a.set j x ++ m := by
      intro a
      induction a with
      | nil => intro m j h; simp at h
      | cons d a ih =>
        intro m j h
        cases j with
        | zero => simp [spliceD_zero]
        | succ j => simp only [List.cons_append, spliceD_succ, List.set_cons_succ]; rw [ih m j (by simpa using h)]
    exact key a _ j (by omega)
  | a :: l, i + 1, e, hs, he, hj => by
    have ha := hs a (List.mem_cons_self ..)
    have ih := spliceD_flatten (j := j) (x := x) (el := l) (i := i) (e := e) (fun y hy => hs y (List.mem_cons_of_mem _ hy)) (by simpa using he) hj
    simp only [List.flatten_cons, List.set_cons_succ]
    have key : ∀ (a m : List D) (k : Nat), spliceD (a ++ m) (a.length + k) [x] = a ++ spliceD m k [x] := by
      intro a
      induction a with
      | nil => intro m k; simp
      | cons d a ih2 =>
        intro m k
        rw [List.cons_append, List.length_cons, show a.length + 1 + k = (a.length + k) + 1 from by omega, spliceD_succ, ih2]; rfl
    rw [show (i + 1) * sz + j = a.length + (i * sz + j) from by rw [ha, Nat.succ_mul]; omega, key, ih]
theorem les_set : ∀ {l l' : List D} {j : Nat} {x : D}, D.les l l' → D.les (l.set j x) (l'.set j x)
  | [], [], _, _, k => k
  | a :: l, b :: l', 0, x, k => by simp only [D.les, List.set_cons_zero] at k ⊢; exact ⟨D.le_refl x, k.2⟩
  | a :: l, b :: l', j + 1, x, k => by simp only [D.les, List.set_cons_succ] at k ⊢; exact ⟨k.1, les_set k.2⟩
  | [], _ :: _, _, _, k => by simp [D.les] at k
  | _ :: _, [], _, _, k => by simp [D.les] at k
theorem less_get : ∀ {l l' : List (List D)} {i : Nat} {e : List D}, D.less l l' → l'[i]? = some e → ∃ e0, l[i]? = some e0 ∧ D.les e0 e
  | [], [], _, _, _, he => by simp at he
  | a :: l, b :: l', 0, e, k, he => by simp at he; subst he; simp only [D.less] at k; exact ⟨a, rfl, k.1⟩
  | a :: l, b :: l', i + 1, e, k, he => by simp only [D.less] at k; exact less_get (l := l) (l' := l') k.2 (by simpa using he)
  | [], _ :: _, _, _, k, _ => by simp [D.less] at k
  | _ :: _, [], _, _, k, _ => by simp [D.less] at k
theorem less_set : ∀ {l l' : List (List D)} {i : Nat} {a b : List D}, D.less l l' → D.les a b → D.less (l.set i a) (l'.set i b)
  | [], [], _, _, _, k, _ => k
  | x :: l, y :: l', 0, a, b, k, k2 => by simp only [D.less, List.set_cons_zero] at k ⊢; exact ⟨k2, k.2⟩
  | x :: l, y :: l', i + 1, a, b, k, k2 => by simp only [D.less, List.set_cons_succ] at k ⊢; exact ⟨k.1, less_set k.2 k2⟩
  | [], _ :: _, _, _, _, k, _ => by simp [D.less] at k
  | _ :: _, [], _, _, _, k, _ => by simp [D.less] at k
theorem Gr.place (g : Gr H0 H sz s el) (hn : 0 < el.length) : ∃ b ex el0, s = .slice b 0 sz el.length el.length ex ∧ H0.next ≤ b ∧ b < H.next ∧ H.blk b = .cells el0.flatten false ∧ D.less el0 el ∧ el0.flatten.length = el.length * sz := by
  rcases g.at_ with ⟨rfl, rfl⟩ | ⟨b, ex, el0, rfl, h1, h2, h3, h4⟩
  · simp at hn
  · exact ⟨b, ex, el0, rfl, h1, h2, h3, h4, by rw [flatten_len (less_sz h4 g.len), less_length h4]⟩
theorem Gr.set (g : Gr H0 H sz s el) {b : Nat} {ex : Bool} {el0 : List (List D)} (hs : s = .slice b 0 sz el.length el.length ex) (h1 : H0.next ≤ b) (h2 : b < H.next) (h4 : D.less el0 el) {i j o : Nat} {e : List D} {x : D} (he : el[i]? = some e) (hj : j < sz) (ho : o = i * sz + j) :
    Gr H0 (H.put b (.cells (spliceD el0.flatten o [x]) false)) sz s (el.set i (e.set j x)) := by
  subst ho
  obtain ⟨e0, h5, h6⟩ := less_get h4 he
  have hl : e.length = sz := g.len e (List.mem_of_getElem? he)
  refine ⟨g.sub.put h1, fun y hy => ?_, .inr ⟨b, ex, el0.set i (e0.set j x), by rw [List.length_set]; exact hs, h1, h2, ?_, less_set h4 (les_set h6)⟩⟩
  · rcases List.mem_or_eq_of_mem_set hy with hy | rfl
    · exact g.len y hy
    · rw [List.length_set]; exact hl
  · rw [put_blk, if_pos rfl, spliceD_flatten (less_sz h4 g.len) h5 hj]
end
end Go.Dv
end

section
namespace Go.Lib
open Go.Vm Go.Dv
abbrev By := Fin 256
structure Vl where
  null : Bool
  kind : Int
  n : Int
  bytes : List By
  small : bytes.length < 1000000
def byE (b : List By) : List (List D) := b.map fun c => [.lit (.int .u8 (c.val : Int))]
def byD (b : List By) : D := .row 1 .p (byE b)
def Vl.c (v : Vl) : List D := [.lit (.bool v.null), .lit (.int .i64 v.kind), .lit (.int .i64 v.n), byD v.bytes]
abbrev Row := List Vl
def rowE (r : Row) : List (List D) := r.map Vl.c
def rowD (r : Row) : D := .row 4 .p (rowE r)
def rowsE (l : List Row) : List (List D) := l.map fun r => [rowD r]
def rowsD (l : List Row) : D := .row 1 .p (rowsE l)
theorem by_under {n : Nat} {b : List By} : (byD b).under n := by
  simp only [byD, D.under]; exact underss_map (fun _ => by simp) _
theorem vl_unders {n : Nat} {v : Vl} : D.unders n v.c := by simp [Vl.c, by_under]
theorem row_under {n : Nat} {r : Row} : (rowD r).under n := by
  simp only [rowD, D.under]; exact underss_map (fun _ => vl_unders) _
theorem rows_under {n : Nat} {l : List Row} : (rowsD l).under n := by
  simp only [rowsD, D.under]; exact underss_map (fun _ => by simp [row_under]) _
theorem by_underss {n : Nat} {b : List By} : D.underss n (byE b) := underss_map (fun _ => by simp) _
theorem row_underss {n : Nat} {r : Row} : D.underss n (rowE r) := underss_map (fun _ => vl_unders) _
theorem rows_underss {n : Nat} {l : List Row} : D.underss n (rowsE l) := underss_map (fun _ => by simp [row_under]) _
theorem by_flat {b : List By} : flatD (byD b) = true := rfl
theorem row_flat {r : Row} : flatD (rowD r) = true := rfl
theorem rows_flat {l : List Row} : flatD (rowsD l) = true := rfl
theorem vl_len {v : Vl} : v.c.length = 4 := rfl
theorem vl_flats {v : Vl} : flatsD v.c = true := rfl
theorem vl_0 {v : Vl} : v.c[0]? = some (.lit (.bool v.null)) := rfl
theorem vl_1 {v : Vl} : v.c[1]? = some (.lit (.int .i64 v.kind)) := rfl
theorem vl_2 {v : Vl} : v.c[2]? = some (.lit (.int .i64 v.n)) := rfl
theorem vl_3 {v : Vl} : v.c[3]? = some (byD v.bytes) := rfl
theorem vl_take {v : Vl} : v.c.take 4 = v.c := rfl
theorem vl_drop {v : Vl} : v.c.drop 4 = [] := rfl
theorem by_len {b : List By} : (byE b).length = b.length := by simp [byE]
theorem row_len {r : Row} : (rowE r).length = r.length := by simp [rowE]
theorem rows_len {l : List Row} : (rowsE l).length = l.length := by simp [rowsE]
theorem lenb_by {b : List By} : lenbD (byD b) = some (.lit (.int .i64 (b.length : Int))) := by simp [byD, by_len]
theorem lenb_row {r : Row} : lenbD (rowD r) = some (.lit (.int .i64 (r.length : Int))) := by simp [rowD, row_len]
theorem lenb_rows {l : List Row} : lenbD (rowsD l) = some (.lit (.int .i64 (l.length : Int))) := by simp [rowsD, rows_len]
theorem cellsD_by {b : List By} : cellsD (byD b) = some [byD b] := rfl
theorem cellsD_rowD {r : Row} : cellsD (rowD r) = some [rowD r] := rfl
theorem cellsD_rowsD {l : List Row} : cellsD (rowsD l) = some [rowsD l] := rfl
def bys (b : List By) : List Nat := b.map fun c => c.val
theorem bys_inj {a b : List By} : bys a = bys b ↔ a = b := by
  constructor
  · intro h
    induction a generalizing b with
    | nil => cases b with
      | nil => rfl
      | cons y b => simp [bys] at h
    | cons x a ih => cases b with
      | nil => simp [bys] at h
      | cons y b =>
        simp only [bys, List.map_cons, List.cons.injEq] at h
        rw [Fin.ext h.1, ih h.2]
  · rintro rfl; rfl
theorem toVs_by : ∀ b : List By, toVs (byE b).flatten = some (b.map fun c => V.int .u8 (c.val : Int))
  | [] => rfl
  | c :: b => by
    have := toVs_by b
    simp only [byE] at this
    simp only [byE, List.map_cons, List.flatten_cons, List.singleton_append, toVs, toV, this]
theorem bytesOf_by : ∀ b : List By, eV.bytesOf (b.map fun c => V.int .u8 (c.val : Int)) = some (bys b)
  | [] => rfl
  | c :: b => by
    show cond (Nat.blt c.val 256) _ none = _
    rw [show Nat.blt c.val 256 = true from nblt.2 c.isLt, cond_true, bytesOf_by b]; rfl
theorem text_by {H : HpD} {b : List By} : textD H (byD b) = some (.lit (.str (bys b)), H) := by
  simp only [byD, textD, Nat.beq, cond_true, strD, toVs_by, bytesOf_by]
theorem neqs_iff : ∀ {a b : List Nat}, neqs a b = true ↔ a = b
  | [], [] => by simp [neqs]
  | [], _ :: _ => by simp [neqs]
  | _ :: _, [] => by simp [neqs]
  | x :: a, y :: b => by
    simp only [neqs, cond_eq_ite]
    by_cases h : Nat.beq x y = true
    · rw [if_pos h, neqs_iff]; rw [nbeq] at h; simp [h]
    · rw [if_neg h]; rw [nbeq] at h; simp [h]
theorem neqs_bys {a b : List By} : neqs (bys a) (bys b) = decide (a = b) := by
  rw [Bool.eq_iff_iff, neqs_iff, bys_inj, decide_eq_true_iff]
theorem str_eql {tab : Tab} {a b : List Nat} : binV tab .eql (.str a) (.str b) = some (.bool (neqs a b)) := rfl
theorem str_neq {tab : Tab} {a b : List Nat} : binV tab .neq (.str a) (.str b) = some (.bool (!neqs a b)) := rfl
theorem str_lss {tab : Tab} {a b : List Nat} : binV tab .lss (.str a) (.str b) = some (.bool (slt a b)) := rfl
theorem bytesV_by {h : Hp} {ψ : Nat → Option Nat} {S : Nat → Prop} {b : List By} {v : V} (k : VD h ψ S (byD b) v) : bytesV h v = some (bys b) := by
  simp only [byD, VD] at k
  rcases k with ⟨rfl, hb⟩ | ⟨c, o, cp, ex, rfl, h1, h2, k⟩
  · cases b with
    | nil => rfl
    | cons x b => simp [byE] at hb
  · rcases k with ⟨hm, _⟩ | ⟨cs, ro, hs, hb, hp⟩
    · cases hm
    · obtain ⟨us, e1, k1⟩ := VDss.cells hp
      rw [Nat.mul_one] at e1
      have := toVs_ok _ (toVs_by b) k1
      subst this
      have hr : h.read c o (byE b).length = some (b.map fun c => V.int .u8 (c.val : Int)) := by unfold Hp.read; rw [hb]; exact e1
      simp only [bytesV, hr]
      exact bytesOf_by b
theorem vl_set3 {v : Vl} : spliceD v.c 3 [byD v.bytes] = v.c := rfl
theorem by_one {b : List By} : ∀ e, e ∈ byE b → e.length = 1 := by simp [byE]
theorem by_flats {b : List By} : ∀ e, e ∈ byE b → flatsD e = true := by simp [byE]
theorem row_four {r : Row} : ∀ e, e ∈ rowE r → e.length = 4 := by simp [rowE]; exact fun _ _ => rfl
theorem at_row {r : Row} {n : Nat} : atO 4 (rowD r) (some n) = elemD (r[n]?.map Vl.c) := by simp [rowD, rowE]
theorem at_rows {l : List Row} {n : Nat} : atO 1 (rowsD l) (some n) = elemD (l[n]?.map fun r => [rowD r]) := by simp [rowsD, rowsE]
theorem at_by {b : List By} {n : Nat} : atO 1 (byD b) (some n) = elemD (b[n]?.map fun c => [.lit (.int .u8 (c.val : Int))]) := by simp [byD, byE]
theorem rowE_snoc {r : Row} {i : Nat} {x : Vl} (hx : r[i]? = some x) : rowE (r.take i) ++ [x.c] = rowE (r.take (i + 1)) := by
  rw [List.take_add_one, hx]; simp [rowE]
theorem rowsE_snoc {l : List Row} {i : Nat} {x : Row} (hx : l[i]? = some x) : rowsE (l.take i) ++ [[rowD x]] = rowsE (l.take (i + 1)) := by
  rw [List.take_add_one, hx]; simp [rowsE]
attribute [simp] at_row at_rows at_by
theorem row_flats {r : Row} : ∀ e, e ∈ rowE r → flatsD e = true := by simp [rowE]; exact fun _ _ => rfl
theorem rows_one {l : List Row} : ∀ e, e ∈ rowsE l → e.length = 1 := by simp [rowsE]
theorem rows_flats {l : List Row} : ∀ e, e ∈ rowsE l → flatsD e = true := by simp [rowsE]; exact fun _ _ => rfl
def zv : Vl := ⟨false, 0, 0, [], by simp⟩
theorem zv_le : D.le (.agg [.lit (.bool false), .lit (.int .i64 0), .lit (.int .i64 0), .lit .nilslice]) (.agg zv.c) := by
  simp [Vl.c, zv, byD, byE, D.le]
attribute [simp] vl_set3 vl_0 vl_1 vl_2 vl_3 vl_take vl_drop by_len row_len rows_len lenb_by lenb_row lenb_rows cellsD_by cellsD_rowD cellsD_rowsD text_by neqs_bys str_eql str_neq str_lss
attribute [simp] by_underss row_underss rows_underss by_under vl_unders row_under rows_under by_flat row_flat rows_flat vl_len vl_flats
end Go.Lib
end

section
set_option maxRecDepth 10000
namespace Go.Lib
open Go.Vm Go.Dv
variable {p : Prog} {ext : Ext} {F : Nat → Nat}
structure HSchm (p : Prog) (ext : Ext) (F : Nat → Nat) : Prop where
  h1 : Has p ext F 1 M1
  h2 : Has p ext F 2 M2
  h3 : Has p ext F 3 M3
  h4 : Has p ext F 4 M4
  h5 : Has p ext F 5 M5
  h6 : Has p ext F 6 M6
  h7 : Has p ext F 7 M7
  h8 : Has p ext F 8 M8
  h9 : Has p ext F 9 M9
  h10 : Has p ext F 10 M10
  h11 : Has p ext F 11 M11
  h12 : Has p ext F 12 M12
  h13 : Has p ext F 13 M13
  h14 : Has p ext F 14 M14
  h15 : Has p ext F 15 M15
  h16 : Has p ext F 16 M16
  h17 : Has p ext F 17 M17
  h18 : Has p ext F 18 M18
  h19 : Has p ext F 19 M19
  h21 : Has p ext F 21 M21
  x20 : ∀ args h, ext (F 20) args h = extV .cmp args h
theorem isNaN_int (L : HSchm p ext F) {n : Int} : FnD p ext (F 18) [.lit (.int .i64 n)] (.lit (.bool false)) := by
  refine fn_of L.h18 (M := M18) rfl ok18 rfl fun H => sem_run 9000 _ ?_
  simp
  refine sem_ret ?_
  simp [M18]
  exact .same (by simp)
theorem isNaN_int64 (L : HSchm p ext F) {n : Int} : FnD p ext (F 19) [.lit (.int .i64 n)] (.lit (.bool false)) := by
  refine fn_of L.h19 (M := M19) rfl ok19 rfl fun H => sem_run 9000 _ ?_
  simp
  refine sem_ret ?_
  simp [M19]
  exact .same (by simp)
def cmpI (a b : Int) : Int := if a < b then -1 else if b < a then 1 else 0
theorem compare_int (L : HSchm p ext F) {a b : Int} : FnD p ext (F 9) [.lit (.int .i64 a), .lit (.int .i64 b)] (.lit (.int .i64 (cmpI a b))) := by
  refine fn_of L.h9 (M := M9) rfl ok9 rfl fun H => sem_run 9000 _ ?_
  simp
  refine sem_fn (isNaN_int L) (by first | exact D.les_refl _ | simp) (sem_run 9000 _ ?_)
  simp
  refine sem_fn (isNaN_int L) (by first | exact D.les_refl _ | simp) (sem_run 9000 _ ?_)
  simp
  refine sem_if (fun h => ?_) fun h => ?_
  · simp
    refine sem_ret ?_
    simp [M9, cmpI, h]
    exact .same (by simp)
  · simp
    refine sem_if (fun h2 => ?_) fun h2 => ?_
    · simp
      refine sem_ret ?_
      simp [M9, cmpI, h, h2]
      exact .same (by simp)
    · simp
      refine sem_ret ?_
      simp [M9, cmpI, h, h2]
      exact .same (by simp)
theorem compare_int64 (L : HSchm p ext F) {a b : Int} : FnD p ext (F 10) [.lit (.int .i64 a), .lit (.int .i64 b)] (.lit (.int .i64 (cmpI a b))) := by
  refine fn_of L.h10 (M := M10) rfl ok10 rfl fun H => sem_run 9000 _ ?_
  simp
  refine sem_fn (isNaN_int64 L) (by first | exact D.les_refl _ | simp) (sem_run 9000 _ ?_)
  simp
  refine sem_fn (isNaN_int64 L) (by first | exact D.les_refl _ | simp) (sem_run 9000 _ ?_)
  simp
  refine sem_if (fun h => ?_) fun h => ?_
  · simp
    refine sem_ret ?_
    simp [M10, cmpI, h]
    exact .same (by simp)
  · simp
    refine sem_if (fun h2 => ?_) fun h2 => ?_
    · simp
      refine sem_ret ?_
      simp [M10, cmpI, h, h2]
      exact .same (by simp)
    · simp
      refine sem_ret ?_
      simp [M10, cmpI, h, h2]
      exact .same (by simp)
def rankV (v : Vl) : Int := if v.null then 0 else 1
theorem rank (L : HSchm p ext F) {v : Vl} : FnD p ext (F 8) [.agg v.c] (.lit (.int .i64 (rankV v))) := by
  refine fn_of L.h8 (M := M8) rfl ok8 rfl fun H => sem_run 9000 _ ?_
  simp [Vl.c]
  refine sem_br (fun h => ?_) fun h => ?_
  · simp
    refine sem_ret ?_
    simp [M8, rankV, h]
    exact .same (by simp)
  · simp
    refine sem_ret ?_
    simp [M8, rankV, h]
    exact .same (by simp)
def cmpB (a b : List By) : Int := cmpL (bys a) (bys b)
theorem cmp_ext (L : HSchm p ext F) {a b : List By} : FnD p ext (F 20) [byD a, byD b] (.lit (.int .i64 (cmpB a b))) := by
  intro H ψ S h vs s k
  simp only [VDl] at k
  obtain ⟨v, r, rfl, k1, w, r2, rfl, k2, rfl⟩ := k
  refine wpc_ext (v := .int .i64 (cmpB a b)) (h' := h) ?_ ⟨ψ, S, _, H, .refl, s, ?_, rfl, rfl⟩
  · rw [L.x20]
    simp only [extV, bytesV_by k1, bytesV_by k2]
    rfl
  · simp [VD, atomV]
theorem bytes_compare (L : HSchm p ext F) {a b : List By} : FnD p ext (F 11) [byD a, byD b] (.lit (.int .i64 (cmpB a b))) := by
  refine fn_of L.h11 (M := M11) rfl ok11 rfl fun H => sem_run 9000 _ ?_
  simp
  refine sem_fn (cmp_ext L) (by first | exact D.les_refl _ | simp) (sem_run 9000 _ ?_)
  simp
  refine sem_ret ?_
  simp [M11]
  exact .same (by simp)
def cmpV (a b : Vl) : Int := if cmpI (rankV a) (rankV b) ≠ 0 ∨ a.null = true then cmpI (rankV a) (rankV b) else if a.kind = 1 then cmpI a.n b.n else if a.kind = 2 then cmpB a.bytes b.bytes else 0
theorem schm_compare (L : HSchm p ext F) {a b : Vl} : FnD p ext (F 1) [.agg a.c, .agg b.c] (.lit (.int .i64 (cmpV a b))) := by
  refine fn_of L.h1 (M := M1) rfl ok1 rfl fun H => sem_run 9000 _ ?_
  simp
  refine sem_dfn (rank L) (by first | exact D.les_refl _ | simp) (sem_run 9000 _ ?_)
  simp
  refine sem_dfn (rank L) (by first | exact D.les_refl _ | simp) (sem_run 9000 _ ?_)
  simp
  refine sem_dfn (compare_int L) (by first | exact D.les_refl _ | simp) (sem_run 9000 _ ?_)
  simp
  by_cases h1 : cmpI (rankV a) (rankV b) = 0
  · cases h2 : a.null
    · by_cases h3 : a.kind = 1
      · simp [h1, h2, h3]
        refine sem_fn (compare_int64 L) (by first | exact D.les_refl _ | simp) (sem_run 9000 _ ?_)
        simp
        refine sem_ret ?_
        simp [M1, cmpV, h1, h2, h3]
        exact .same (by simp)
      · by_cases h4 : a.kind = 2
        · simp [h1, h2, h4]
          refine sem_fn (bytes_compare L) (by first | exact D.les_refl _ | simp) (sem_run 9000 _ ?_)
          simp
          refine sem_ret ?_
          simp [M1, cmpV, h1, h2, h4]
          exact .same (by simp)
        · simp [h1, h2, h3, h4]
          refine sem_ret ?_
          simp [M1, cmpV, h1, h2, h3, h4]
          exact .same (by simp)
    · simp [h1, h2]
      refine sem_ret ?_
      simp [M1, cmpV, h1, h2]
      exact .same (by simp)
  · simp [h1]
    refine sem_ret ?_
    simp [M1, cmpV, h1]
    exact .same (by simp)
theorem slcRow_eq {sz : Nat} {m : Md} {l : List (List D)} {lo hi mx : Option V} : slcD sz (.row sz m l) (lo.map .lit) (hi.map .lit) (mx.map .lit) = cond (needH hi mx) (slcRow sz m l lo hi mx) none := by
  cases lo <;> cases hi <;> cases mx <;> simp only [slcD, Option.map, bndD, beq_d, decide_true, cond_true]
theorem slc_clip {sz : Nat} {m : Md} {l : List (List D)} (hm : m ≠ .w) : slcD sz (.row sz m l) none (some (.lit (.int .i64 (l.length : Int)))) (some (.lit (.int .i64 (l.length : Int)))) = some (.row sz .c l) := by
  have := slcRow_eq (sz := sz) (m := m) (l := l) (lo := none) (hi := some (.int .i64 (l.length : Int))) (mx := some (.int .i64 (l.length : Int)))
  simp only [Option.map] at this
  rw [this]
  simp only [needH, cond_true, slcRow, boundM, natOf_cast, ble_d, Nat.le_refl, decide_true, boundH, boundL, cutMd, beq_d]
  cases m <;> simp at hm ⊢
theorem clip_val (L : HSchm p ext F) {r : Row} : FnD p ext (F 13) [rowD r] (rowD r) := by
  refine fn_of L.h13 (M := M13) rfl ok13 rfl fun H => sem_run 9000 _ ?_
  simp [rowD]
  have := slc_clip (sz := 4) (m := .p) (l := rowE r) (by simp)
  simp only [row_len] at this
  simp [this]
  refine sem_ret ?_
  simp [M13]
  exact .le .refl (by simp [D.le]) (by simp)
theorem clone_by (L : HSchm p ext F) {b : List By} (hb : b.length < 1000000) : FnD p ext (F 14) [byD b] (byD b) := by
  refine fn_of L.h14 (M := M14) rfl ok14 rfl fun H => sem_run 9000 _ ?_
  simp [byD]
  refine ⟨?_, ?_⟩
  · intro h0
    refine sem_ret ?_
    simp [M14]
    exact .le .refl (by rw [h0]; simp [D.le]) (by simp)
  · obtain ⟨s', H', e, g, _⟩ := (Gr.lit (el := []) (sz := 1) (H := H) (ex := true) (c := []) (n := 0) Sub.refl (by simp) rfl rfl).app (by_ := 1) (m := .p) (new := byE b) by_one by_flats (roomyD (by simp; omega) (by simp; omega))
    simp [e]
    refine sem_ret ?_
    simp [M14]
    exact g.fin (by simp) (by simp)
theorem schm_val (L : HSchm p ext F) {v : Vl} : FnD p ext (F 5) [.agg v.c] (.agg v.c) := by
  refine fn_of L.h5 (M := M5) rfl ok5 rfl fun H => sem_run 9000 _ ?_
  simp
  refine sem_fn (clone_by L v.small) (by first | exact D.les_refl _ | simp) (sem_run 9000 _ ?_)
  simp
  refine sem_ret ?_
  simp [M5, Vl.c]
  exact .le (by repeat (first | exact Sub.refl | apply Sub.new | refine Sub.put ?_ (by first | omega | (simp only [put_next, new_next]; omega)))) (by simp) (by simp)
def RowI (H0 : HpD) (r : Row) (k : Nat) (fr : FrD) (H : HpD) : Prop :=
  ∃ (i : Nat) (s : D), k = r.length - i ∧ i ≤ r.length ∧ fr = [(3, s), (6, rowD r), (7, .lit (.int .i64 (r.length : Int))), (8, .lit (.int .i64 (i : Int)))] ∧ Gr H0 H 4 s (rowE (r.take i))
theorem schm_row (L : HSchm p ext F) {r : Row} (hr : r.length < 1000000) : FnD p ext (F 4) [rowD r] (rowD r) := by
  refine fn_of L.h4 (M := M4) rfl ok4 rfl fun H => sem_run 9000 _ ?_
  simp
  refine sem_loop (RowI H r) ?_ (k := r.length) ⟨0, .lit .nilslice, by simp, by simp, rfl, by simpa [rowE] using Gr.start⟩
  rintro k fr H' ⟨i, s, rfl, hi, rfl, g⟩
  refine sem_run 9000 _ ?_
  simp
  by_cases c : i < r.length
  · have hx : r[i]? = some r[i] := by simp
    simp [c]
    refine sem_fn (schm_val L) (by first | exact D.les_refl _ | simp) (sem_run 9000 _ ?_)
    simp
    refine sem_push (g.mono (by repeat (first | exact Sub.refl | apply Sub.new | refine Sub.put ?_ (by first | omega | (simp only [put_next, new_next]; omega))))) rfl rfl (roomyD (by simp; omega) (by simp; omega)) fun s' H1 g1 _ _ => ?_
    simp
    refine sem_ok ?_
    have hw : wr .i64 ((i : Int) + 1) = ((i + 1 : Nat) : Int) := by rw [wr_of] <;> omega
    rw [rowE_snoc hx] at g1
    exact ⟨_, by omega, i + 1, s', rfl, by omega, by rw [hw], g1⟩
  · simp [c]
    refine sem_exit (sem_run 9000 _ ?_)
    have : i = r.length := by omega
    subst this
    rw [List.take_length] at g
    simp
    refine sem_row g 0 rfl fun H2 s2 _ _ => ?_
    refine sem_fn (clip_val L) (by first | exact D.les_refl _ | simp) (sem_run 9000 _ ?_)
    simp
    refine sem_ret ?_
    simp [M4]
    exact .le s2 (D.le_refl _) (by simp)
def atV (r : Row) (c : Int) : Vl := if c < 0 then zv else (r[c.toNat]?).getD zv
theorem schm_at (L : HSchm p ext F) {r : Row} {c : Int} : FnD p ext (F 3) [rowD r, .lit (.int .i64 c)] (.agg (atV r c).c) := by
  refine fn_of L.h3 (M := M3) rfl ok3 rfl fun H => sem_run 9000 _ ?_
  simp
  by_cases h1 : c < 0
  · simp [h1]
    refine sem_ret ?_
    simp [M3]
    exact .le (by repeat (first | exact Sub.refl | apply Sub.new | refine Sub.put ?_ (by first | omega | (simp only [put_next, new_next]; omega)))) (by rw [atV, if_pos h1]; exact zv_le) (by simp)
  · obtain ⟨n, rfl⟩ : ∃ n : Nat, c = n := ⟨c.toNat, by omega⟩
    by_cases h2 : r.length ≤ n
    · simp [h1, h2]
      refine sem_ret ?_
      simp [M3]
      exact .le (by repeat (first | exact Sub.refl | apply Sub.new | refine Sub.put ?_ (by first | omega | (simp only [put_next, new_next]; omega)))) (by rw [atV, if_neg h1]; simp [h2]; exact zv_le) (by simp)
    · have h3 : n < r.length := by omega
      simp [h1, h2, h3]
      refine sem_fn (schm_val L) (by first | exact D.les_refl _ | simp) (sem_run 9000 _ ?_)
      simp
      refine sem_ret ?_
      simp [M3]
      exact .le (by repeat (first | exact Sub.refl | apply Sub.new | refine Sub.put ?_ (by first | omega | (simp only [put_next, new_next]; omega)))) (by rw [atV, if_neg h1]; simp [h3]) (by simp)
def cmpRow (cmp : Vl → Vl → Int) : Row → Row → Int
  | [], [] => 0
  | [], _ :: _ => -1
  | _ :: _, [] => 1
  | a :: x, b :: y => if cmp a b ≠ 0 then cmp a b else cmpRow cmp x y
theorem compareFunc (L : HSchm p ext F) {f : Nat} {cmp : Vl → Vl → Int} (hf : ∀ a b : Vl, FnD p ext f [.agg a.c, .agg b.c] (.lit (.int .i64 (cmp a b)))) {x y : Row} (hx : x.length < 1000000) : FnD p ext (F 12) [rowD x, rowD y, .func f [] []] (.lit (.int .i64 (cmpRow cmp x y))) := by
  refine fn_of L.h12 (M := M12) rfl ok12 rfl fun H => sem_run 9000 _ ?_
  simp
  refine sem_loop (fun k fr H' => ∃ i : Nat, k = x.length - i ∧ i ≤ x.length ∧ i ≤ y.length ∧ cmpRow cmp x y = cmpRow cmp (x.drop i) (y.drop i) ∧ fr = [(0, rowD x), (1, rowD y), (2, .func f [] []), (11, rowD x), (12, .lit (.int .i64 (x.length : Int))), (13, .lit (.int .i64 (i : Int)))] ∧ Sub H H') ?_ (k := x.length) ⟨0, by simp, by simp, by simp, by simp, rfl, .refl⟩
  rintro k fr H' ⟨i, rfl, hi, hi2, hc, rfl, hs⟩
  refine sem_run 9000 _ ?_
  simp
  by_cases c : i < x.length
  · by_cases c2 : y.length ≤ i
    · simp [c, c2]
      refine sem_ret ?_
      simp
      refine sem_ret ?_
      simp [M12]
      have : y.drop i = [] := List.drop_eq_nil_of_le (by omega)
      rw [hc, this, List.drop_eq_getElem_cons c]
      exact .le (by have := hs.next; repeat (first | exact hs | apply Sub.new | refine Sub.put ?_ (by first | omega | (simp only [put_next, new_next]; omega)))) (by simp [cmpRow]) trivial
    · have c3 : i < y.length := by omega
      simp [c, c2, c3]
      refine sem_fn (hf x[i] y[i]) (by first | exact D.les_refl _ | simp) (sem_run 9000 _ ?_)
      simp
      rw [List.drop_eq_getElem_cons c, List.drop_eq_getElem_cons c3] at hc
      by_cases c4 : cmp x[i] y[i] = 0
      · simp [c4]
        refine sem_ok ?_
        have hw : wr .i64 ((i : Int) + 1) = ((i + 1 : Nat) : Int) := by rw [wr_of] <;> omega
        exact ⟨_, by omega, i + 1, rfl, by omega, by omega, by rw [hc]; simp [cmpRow, c4], by rw [hw], (by have := hs.next; repeat (first | exact hs | apply Sub.new | refine Sub.put ?_ (by first | omega | (simp only [put_next, new_next]; omega))))⟩
      · simp [c4]
        refine sem_ret ?_
        simp
        refine sem_ret ?_
        simp [M12]
        exact .le (by have := hs.next; repeat (first | exact hs | apply Sub.new | refine Sub.put ?_ (by first | omega | (simp only [put_next, new_next]; omega)))) (by rw [hc]; simp [cmpRow, c4]) trivial
  · simp [c]
    refine sem_exit (sem_run 9000 _ ?_)
    have hd : x.drop i = [] := List.drop_eq_nil_of_le (by omega)
    have hl : i = x.length := by omega
    by_cases c2 : x.length < y.length
    · simp [c2]
      refine sem_ret ?_
      simp [M12]
      rw [hc, hd, List.drop_eq_getElem_cons (by omega)]
      exact .le (by have := hs.next; repeat (first | exact hs | apply Sub.new | refine Sub.put ?_ (by first | omega | (simp only [put_next, new_next]; omega)))) (by simp [cmpRow]) trivial
    · simp [c2]
      refine sem_ret ?_
      simp [M12]
      rw [hc, hd, List.drop_eq_nil_of_le (by omega : y.length ≤ i)]
      exact .le (by have := hs.next; repeat (first | exact hs | apply Sub.new | refine Sub.put ?_ (by first | omega | (simp only [put_next, new_next]; omega)))) (by simp [cmpRow]) trivial
theorem schm_rows (L : HSchm p ext F) {x y : Row} (hx : x.length < 1000000) : FnD p ext (F 2) [rowD x, rowD y] (.lit (.int .i64 (cmpRow cmpV x y))) := by
  refine fn_of L.h2 (M := M2) rfl ok2 rfl fun H => sem_run 9000 _ ?_
  simp
  refine sem_fn (compareFunc L (fun a b => schm_compare L) hx) (by first | exact D.les_refl _ | simp) (sem_run 9000 _ ?_)
  simp
  refine sem_ret ?_
  simp [M2]
  exact .same (by simp)
theorem vl_ext {a b : Vl} : a = b ↔ a.null = b.null ∧ a.kind = b.kind ∧ a.n = b.n ∧ a.bytes = b.bytes := by
  cases a; cases b; simp
instance : DecidableEq Vl := fun _a _b => decidable_of_iff _ vl_ext.symm
end Go.Lib
end

section
set_option maxRecDepth 10000
namespace Go.Lib
open Go.Vm Go.Dv
variable {α : Type}
structure Ord3 (G : α → Prop) (cmp : α → α → Int) : Prop where
  sym : ∀ x y, G x → G y → cmp x y = - cmp y x
  tr : ∀ x y z, G x → G y → G z → cmp x y ≤ 0 → cmp y z ≤ 0 → cmp x z ≤ 0
namespace Ord3
variable {G : α → Prop} {cmp : α → α → Int}
theorem lt_le (o : Ord3 G cmp) {x y z : α} (hx : G x) (hy : G y) (hz : G z) (h1 : cmp x y < 0) (h2 : cmp y z ≤ 0) : cmp x z < 0 := by
  have h3 := o.tr x y z hx hy hz (by omega) h2
  rcases Int.lt_or_eq_of_le h3 with h | h
  · exact h
  · have := o.sym x z hx hz
    have h4 := o.tr y z x hy hz hx h2 (by omega)
    have := o.sym x y hx hy
    omega
theorem le_lt (o : Ord3 G cmp) {x y z : α} (hx : G x) (hy : G y) (hz : G z) (h1 : cmp x y ≤ 0) (h2 : cmp y z < 0) : cmp x z < 0 := by
  have h3 := o.tr x y z hx hy hz h1 (by omega)
  rcases Int.lt_or_eq_of_le h3 with h | h
  · exact h
  · have := o.sym x z hx hz
    have h4 := o.tr z x y hz hx hy (by omega) h1
    have := o.sym y z hy hz
    omega
theorem eq_eq (o : Ord3 G cmp) {x y z : α} (hx : G x) (hy : G y) (hz : G z) (h1 : cmp x y = 0) (h2 : cmp y z = 0) : cmp x z = 0 := by
  have h3 := o.tr x y z hx hy hz (by omega) (by omega)
  have e1 := o.sym x y hx hy
  have e2 := o.sym y z hy hz
  have e3 := o.sym x z hx hz
  have h4 := o.tr z y x hz hy hx (by omega) (by omega)
  omega
theorem anti (o : Ord3 G cmp) : ∀ x y, G x → G y → cmp x y < 0 → ¬ cmp y x < 0 := fun x y hx hy h => by
  have := o.sym x y hx hy; omega
theorem trans (o : Ord3 G cmp) : ∀ x y z, G x → G y → G z → ¬ cmp y x < 0 → ¬ cmp z y < 0 → ¬ cmp z x < 0 := fun x y z hx hy hz h1 h2 => by
  have e1 := o.sym x y hx hy
  have e2 := o.sym y z hy hz
  have e3 := o.sym x z hx hz
  have := o.tr x y z hx hy hz (by omega) (by omega)
  omega
end Ord3
theorem cmpI_ord : Ord3 (fun _ => True) cmpI :=
  ⟨fun x y _ _ => by unfold cmpI; repeat' split <;> omega, fun x y z _ _ _ h1 h2 => by unfold cmpI at *; split at h1 <;> split at h2 <;> (repeat' split) <;> omega⟩
theorem cmpI_eq {x y : Int} : cmpI x y = 0 ↔ x = y := by unfold cmpI; repeat' split <;> omega
theorem cmpL_cons {a b : Nat} {x y : List Nat} : cmpL (a :: x) (b :: y) = if cmpI a b ≠ 0 then cmpI a b else cmpL x y := by
  simp only [cmpL, cmpI, cond_eq_ite, nblt]
  repeat' split
  all_goals first | rfl | omega
theorem cmpL_ord : Ord3 (fun _ => True) cmpL := by
  refine ⟨fun x y _ _ => ?_, fun x y z _ _ _ => ?_⟩
  · induction x generalizing y with
    | nil => cases y <;> rfl
    | cons a x ih => cases y with
      | nil => rfl
      | cons b y =>
        rw [cmpL_cons, cmpL_cons]
        have := cmpI_ord.sym (a : Int) b trivial trivial
        have := ih y
        split <;> split <;> omega
  · induction x generalizing y z with
    | nil => intro _ _; cases z <;> simp [cmpL]
    | cons a x ih => cases y with
      | nil => intro h; simp [cmpL] at h
      | cons b y => cases z with
        | nil => intro _ h; simp [cmpL] at h
        | cons c z =>
          rw [cmpL_cons, cmpL_cons, cmpL_cons]
          intro h1 h2
          have ih := ih y z
          have o := cmpI_ord
          have t := o.tr (a : Int) b c trivial trivial trivial
          have t1 := o.lt_le (x := (a : Int)) (y := b) (z := c) trivial trivial trivial
          have t2 := o.le_lt (x := (a : Int)) (y := b) (z := c) trivial trivial trivial
          have t3 := o.eq_eq (x := (a : Int)) (y := b) (z := c) trivial trivial trivial
          split at h1 <;> split at h2 <;> split <;> first | omega | (exact ih (by omega) (by omega)) | skip
theorem cmpB_ord : Ord3 (fun _ => True) cmpB := ⟨fun _ _ _ _ => cmpL_ord.sym _ _ trivial trivial, fun _ _ _ _ _ _ h1 h2 => cmpL_ord.tr _ _ _ trivial trivial trivial h1 h2⟩
theorem cmpL_eq : ∀ {x y : List Nat}, cmpL x y = 0 ↔ x = y
  | [], [] => by simp [cmpL]
  | [], _ :: _ => by simp [cmpL]
  | _ :: _, [] => by simp [cmpL]
  | a :: x, b :: y => by
    rw [cmpL_cons]
    have := cmpI_eq (x := (a : Int)) (y := b)
    split
    · constructor
      · intro h; omega
      · intro h; simp only [List.cons.injEq] at h; omega
    · rw [cmpL_eq]
      constructor
      · rintro rfl; simp; omega
      · intro h; exact (List.cons.inj h).2
theorem cmpB_eq {x y : List By} : cmpB x y = 0 ↔ x = y := by unfold cmpB; rw [cmpL_eq, bys_inj]
theorem cmpV_null {a b : Vl} : cmpV a b = if a.null = true then (if b.null = true then 0 else -1) else if b.null = true then 1 else if a.kind = 1 then cmpI a.n b.n else if a.kind = 2 then cmpB a.bytes b.bytes else 0 := by
  unfold cmpV rankV cmpI
  cases a.null <;> cases b.null <;> simp
theorem cmpV_ord {k : Int} : Ord3 (fun v : Vl => v.kind = k) cmpV := by
  refine ⟨fun x y hx hy => ?_, fun x y z hx hy hz h1 h2 => ?_⟩
  · rw [cmpV_null, cmpV_null, hx, hy]
    have := cmpI_ord.sym x.n y.n trivial trivial
    have := cmpB_ord.sym x.bytes y.bytes trivial trivial
    repeat' split
    all_goals omega
  · rw [cmpV_null] at *
    rw [hx] at *
    rw [hy] at h2
    have := cmpI_ord.tr x.n y.n z.n trivial trivial trivial
    have := cmpB_ord.tr x.bytes y.bytes z.bytes trivial trivial trivial
    cases hx0 : x.null <;> cases hy0 : y.null <;> cases hz0 : z.null <;> simp [hx0, hy0, hz0] at h1 h2 ⊢
    split at h1
    · rename_i e
      simp only [e] at h2 ⊢
      simp at h2 ⊢; omega
    · rename_i e
      simp only [e] at h2 ⊢
      split at h1
      · rename_i e2
        simp [e2] at h2 ⊢; omega
      · rename_i e2
        simp [e2]
theorem cmpL_abs : ∀ {x y : List Nat}, -1 ≤ cmpL x y ∧ cmpL x y ≤ 1
  | [], [] => by simp [cmpL]
  | [], _ :: _ => by simp [cmpL]
  | _ :: _, [] => by simp [cmpL]
  | a :: x, b :: y => by
    rw [cmpL_cons]
    have := cmpL_abs (x := x) (y := y)
    unfold cmpI
    repeat' split
    all_goals omega
theorem cmpV_abs {a b : Vl} : -1 ≤ cmpV a b ∧ cmpV a b ≤ 1 := by
  rw [cmpV_null]
  have := cmpL_abs (x := bys a.bytes) (y := bys b.bytes)
  unfold cmpI cmpB
  repeat' split
  all_goals omega
def Kin (ks : List Int) (r : Row) : Prop := r.map Vl.kind = ks
theorem cmpRow_ord : ∀ {ks : List Int}, Ord3 (Kin ks) (cmpRow cmpV) := by
  intro ks
  refine ⟨?_, ?_⟩
  · induction ks with
    | nil =>
      intro x y hx hy
      simp only [Kin, List.map_eq_nil_iff] at hx hy
      subst hx; subst hy; rfl
    | cons k ks ih =>
      intro x y hx hy
      cases x with
      | nil => simp [Kin] at hx
      | cons a x => cases y with
        | nil => simp [Kin] at hy
        | cons b y =>
          simp only [Kin, List.map_cons, List.cons.injEq] at hx hy
          have := ih x y hx.2 hy.2
          have := (cmpV_ord (k := k)).sym a b hx.1 hy.1
          simp only [cmpRow]
          split <;> split <;> omega
  · induction ks with
    | nil =>
      intro x y z hx hy hz
      simp only [Kin, List.map_eq_nil_iff] at hx hy hz
      subst hx; subst hy; subst hz; simp [cmpRow]
    | cons k ks ih =>
      intro x y z hx hy hz
      cases x with
      | nil => simp [Kin] at hx
      | cons a x => cases y with
        | nil => simp [Kin] at hy
        | cons b y => cases z with
          | nil => simp [Kin] at hz
          | cons c z =>
            simp only [Kin, List.map_cons, List.cons.injEq] at hx hy hz
            have ih := ih x y z hx.2 hy.2 hz.2
            have o := cmpV_ord (k := k)
            have t := o.tr a b c hx.1 hy.1 hz.1
            have t1 := o.lt_le hx.1 hy.1 hz.1
            have t2 := o.le_lt hx.1 hy.1 hz.1
            have t3 := o.eq_eq hx.1 hy.1 hz.1
            simp only [cmpRow]
            intro h1 h2
            split at h1 <;> split at h2 <;> split <;> first | omega | (exact ih (by omega) (by omega)) | skip
end Go.Lib
end

section
set_option maxRecDepth 10000
namespace Go.Lib
open Go.Vm Go.Dv
variable {p : Prog} {ext : Ext} {F : Nat → Nat}
structure HRef6 (p : Prog) (ext : Ext) (F : Nat → Nat) : Prop where
  h46 : Has p ext F 46 M46
  h47 : Has p ext F 47 M47
  h48 : Has p ext F 48 M48
  h49 : Has p ext F 49 M49
  h50 : Has p ext F 50 M50
theorem slt_cmp : ∀ {x y : List Nat}, slt x y = decide (cmpL x y = -1)
  | [], [] => rfl
  | [], _ :: _ => rfl
  | _ :: _, [] => rfl
  | a :: x, b :: y => by
    have ih := slt_cmp (x := x) (y := y)
    rw [cmpL_cons]
    simp only [slt, cond_eq_ite, nblt, nbeq, ih]
    rcases Nat.lt_trichotomy a b with h | h | h
    · have : cmpI (a : Int) b = -1 := by unfold cmpI; rw [if_pos (by omega)]
      simp [h, this]
    · subst h
      have : cmpI (a : Int) a = 0 := cmpI_eq.2 rfl
      simp [this]
    · have : cmpI (a : Int) b = 1 := by unfold cmpI; rw [if_neg (by omega), if_pos (by omega)]
      rw [if_neg (by omega), if_neg (by omega)]
      simp [this]
theorem ref6_compare (L : HRef6 p ext F) {a b : Vl} : FnD p ext (F 46) [.agg a.c, .agg b.c] (.lit (.int .i64 (cmpV a b))) := by
  refine fn_of L.h46 (M := M46) rfl ok46 rfl fun H => sem_run 9000 _ ?_
  simp
  rw [cmpV_null]
  cases an : a.null with
  | true =>
    cases bn : b.null with
    | true =>
      simp [an, bn]
      refine sem_ret ?_
      simp [M46]
      exact .same (by simp)
    | false =>
      simp [an, bn]
      refine sem_ret ?_
      simp [M46]
      exact .same (by simp)
  | false =>
    cases bn : b.null with
    | true =>
      simp [an, bn]
      refine sem_ret ?_
      simp [M46]
      exact .same (by simp)
    | false =>
      simp [bn]
      by_cases k1 : a.kind = 1
      · by_cases n1 : a.n = b.n
        · simp [k1, n1]
          have : cmpI b.n b.n = 0 := cmpI_eq.2 rfl
          refine sem_ret ?_
          simp [M46, this]
          exact .same (by simp)
        · simp [k1, n1]
          refine sem_if (fun h => ?_) fun h => ?_
          · simp
            have : cmpI a.n b.n = -1 := by unfold cmpI; rw [if_pos h]
            refine sem_ret ?_
            simp [M46, this]
            exact .same (by simp)
          · simp
            have : cmpI a.n b.n = 1 := by unfold cmpI; rw [if_neg h, if_pos (by omega)]
            refine sem_ret ?_
            simp [M46, this]
            exact .same (by simp)
      · by_cases k2 : a.kind = 2
        · by_cases n1 : a.bytes = b.bytes
          · simp [k2, n1]
            have : cmpB b.bytes b.bytes = 0 := cmpB_eq.2 rfl
            refine sem_ret ?_
            simp [M46, this]
            exact .same (by simp)
          · simp [k2, n1]
            rw [slt_cmp]
            refine sem_if (fun h => ?_) fun h => ?_
            · simp
              have : cmpB a.bytes b.bytes = -1 := h
              refine sem_ret ?_
              simp [M46, this]
              exact .same (by simp)
            · simp
              have h1 := cmpL_abs (x := bys a.bytes) (y := bys b.bytes)
              have h2 : ¬ cmpB a.bytes b.bytes = 0 := fun e => n1 (cmpB_eq.1 e)
              have : cmpB a.bytes b.bytes = 1 := by unfold cmpB at h2 ⊢; omega
              refine sem_ret ?_
              simp [M46, this]
              exact .same (by simp)
        · simp [k1, k2]
          refine sem_ret ?_
          simp [M46]
          exact .same (by simp)
end Go.Lib
end
