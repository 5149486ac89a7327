/-
  Texts that the claim's last one rests on, joined.
-/
import Derived.Test.YtnbmmnjihipahaaBModlBackf

section
namespace Go.Lib
open Go.Vm Go.Dv
set_option maxRecDepth 100000
abbrev K70 (F : Nat → Nat) : KC := .seq (.region [⟨(some 3),(.a (.box (.tmp 0))),none⟩,⟨(some 5),(.a (.box (.tmp 2))),none⟩,⟨(some 6),(.p (.mov (.val (.nilslice)))),none⟩,⟨(some 7),(.a (.new [.int .i64 (.ofNat 0),.int .i64 (.ofNat 0),.nilslice])),none⟩] [3,5] [1,5,7])
 (.seq (.region [⟨(some 14),(.p (.mov (.tmp 1))),none⟩,⟨(some 15),(.e (.call (F 72) [(.tmp 14)])),none⟩,⟨(some 1),(.p (.mov (.tmp 15))),none⟩] [] [1,5,7])
 (.seq (.region [⟨(some 16),(.p (.mkfunc (F 73) [] [(.tmp 5)])),none⟩,⟨(some 8),(.p (.mov (.tmp 16))),none⟩] [] [1,5,7,8])
 (.seq (.region [⟨(some 9),(.p (.mov (.val (.nilslice)))),none⟩] [] [1,5,7,8,9])
 (.seq (.seq (.region [⟨(some 17),(.p (.mov (.tmp 1))),none⟩,⟨(some 18),(.p (.lenb (.tmp 17))),none⟩,⟨(some 19),(.p (.mov (.val (.int .i64 (.ofNat 0))))),none⟩] [] [1,5,7,8,9,17,18,19])
 (.block 0 (.loop (.seq (.region [⟨(some 20),(.p (.bin .lss (.tmp 19) (.tmp 18))),none⟩] [] [1,5,7,8,9,17,18,19,20])
 (.seq (.cond (.tmp 20) (.skip)
 (.exit 0))
 (.seq (.block 1 (.seq (.region [⟨(some 21),(.p (.iaddr 1 (.tmp 17) (.tmp 19))),none⟩,⟨(some 22),(.load1 (.tmp 21)),none⟩,⟨(some 11),(.p (.mov (.tmp 22))),none⟩] [] [1,5,7,8,9,11,17,18,19])
 (.seq (.region [⟨(some 23),(.p (.mov (.tmp 8))),none⟩,⟨(some 24),(.p (.mov (.tmp 11))),none⟩,⟨(some 25),(.e (.callv (.tmp 23) [(.tmp 24)])),none⟩] [] [1,5,7,8,9,11,17,18,19,25])
 (.cond (.tmp 25) (.region [⟨(some 26),(.p (.mov (.tmp 9))),none⟩,⟨(some 27),(.p (.mov (.tmp 11))),none⟩,⟨(some 28),(.a (.bslice [.nilslice] 1 1 [(0,1,(.tmp 27))])),none⟩,⟨(some 29),(.e (.append 1 24 (.tmp 26) (.tmp 28))),none⟩,⟨(some 9),(.p (.mov (.tmp 29))),none⟩] [28] [1,5,7,8,9,17,18,19])
 (.skip)))))
 (.region [⟨(some 30),(.p (.bin .add (.tmp 19) (.val (.int .i64 (.ofNat 1))))),none⟩,⟨(some 19),(.p (.mov (.tmp 30))),none⟩] [] [1,5,7,8,9,17,18,19])))))))
 (.seq (.seq (.region [⟨(some 31),(.p (.faddr 0 (.tmp 5))),none⟩,⟨(some 32),(.load1 (.tmp 31)),none⟩] [] [1,5,7,8,9,32])
 (.block 2 (.seq (.region [⟨(some 34),(.p (.bin .eql (.tmp 32) (.val (.int .i64 (.ofNat 1))))),none⟩,⟨(some 33),(.p (.mov (.tmp 34))),none⟩] [] [1,5,7,8,9,32,33])
 (.cond (.tmp 33) (.seq (.region [⟨(some 35),(.p (.mov (.tmp 1))),none⟩,⟨(some 36),(.p (.faddr 1 (.tmp 5))),none⟩,⟨(some 37),(.load1 (.tmp 36)),none⟩,⟨(some 38),(.e (.call (F 74) [(.tmp 35),(.tmp 37)])),none⟩,⟨(some 39),(.p (.ext (.tmp 38) 0)),none⟩,⟨(some 40),(.p (.ext (.tmp 38) 1)),none⟩,⟨(some 6),(.p (.mov (.tmp 39))),none⟩,⟨none,(.e (.store 3 (.tmp 7) (.tmp 40))),none⟩] [] [6,7])
 (.ret))
 (.seq (.region [⟨(some 42),(.p (.bin .eql (.tmp 32) (.val (.int .i64 (.ofNat 2))))),none⟩,⟨(some 41),(.p (.mov (.tmp 42))),none⟩] [] [1,5,7,8,9,32,41])
 (.cond (.tmp 41) (.seq (.region [⟨(some 43),(.p (.mov (.tmp 1))),none⟩,⟨(some 44),(.loadn 14 (.tmp 5)),none⟩,⟨(some 45),(.e (.call (F 75) [(.tmp 43),(.tmp 44)])),none⟩,⟨(some 46),(.p (.ext (.tmp 45) 0)),none⟩,⟨(some 47),(.p (.ext (.tmp 45) 1)),none⟩,⟨(some 6),(.p (.mov (.tmp 46))),none⟩,⟨none,(.e (.store 3 (.tmp 7) (.tmp 47))),none⟩] [] [6,7])
 (.ret))
 (.seq (.region [⟨(some 49),(.p (.bin .eql (.tmp 32) (.val (.int .i64 (.ofNat 3))))),none⟩,⟨(some 48),(.p (.mov (.tmp 49))),none⟩] [] [1,5,7,8,9,32,48])
 (.cond (.tmp 48) (.seq (.region [⟨(some 50),(.p (.mov (.tmp 1))),none⟩,⟨(some 51),(.p (.mov (.tmp 8))),none⟩,⟨(some 52),(.e (.call (F 76) [(.tmp 50),(.tmp 51)])),none⟩,⟨(some 53),(.e (.call (F 39) [(.tmp 52)])),none⟩,⟨(some 54),(.p (.mov (.tmp 9))),none⟩,⟨(some 55),(.p (.lenb (.tmp 54))),none⟩,⟨(some 56),(.p (.build [.int .i64 (.ofNat 0),.int .i64 (.ofNat 0),.nilslice] [(1,1,(.tmp 55))])),none⟩,⟨(some 6),(.p (.mov (.tmp 53))),none⟩,⟨none,(.e (.store 3 (.tmp 7) (.tmp 56))),none⟩] [] [6,7])
 (.ret))
 (.seq (.region [⟨(some 58),(.p (.bin .eql (.tmp 32) (.val (.int .i64 (.ofNat 4))))),none⟩,⟨(some 57),(.p (.mov (.tmp 58))),none⟩] [] [1,5,7,9,32,57])
 (.cond (.tmp 57) (.seq (.region [⟨(some 59),(.p (.mov (.tmp 1))),none⟩,⟨(some 60),(.p (.mov (.tmp 9))),none⟩,⟨(some 61),(.p (.faddr 11 (.tmp 5))),none⟩,⟨(some 62),(.load1 (.tmp 61)),none⟩,⟨(some 63),(.e (.call (F 34) [(.tmp 60),(.tmp 62)])),none⟩,⟨(some 64),(.p (.build [.int .i64 (.ofNat 0),.int .i64 (.ofNat 0),.nilslice] [(2,1,(.tmp 63))])),none⟩,⟨(some 6),(.p (.mov (.tmp 59))),none⟩,⟨none,(.e (.store 3 (.tmp 7) (.tmp 64))),none⟩] [] [6,7])
 (.ret))
 (.seq (.region [⟨(some 66),(.p (.bin .eql (.tmp 32) (.val (.int .i64 (.ofNat 5))))),none⟩,⟨(some 65),(.p (.mov (.tmp 66))),none⟩] [] [1,5,7,9,32,65])
 (.cond (.tmp 65) (.seq (.region [⟨(some 68),(.p (.mov (.tmp 9))),none⟩,⟨(some 69),(.p (.faddr 12 (.tmp 5))),none⟩,⟨(some 70),(.load1 (.tmp 69)),none⟩,⟨(some 71),(.p (.faddr 13 (.tmp 5))),none⟩,⟨(some 72),(.load1 (.tmp 71)),none⟩,⟨(some 73),(.e (.call (F 32) [(.tmp 68),(.tmp 70),(.tmp 72)])),none⟩,⟨(some 67),(.p (.mov (.tmp 73))),none⟩,⟨(some 74),(.p (.ext (.tmp 67) 0)),none⟩,⟨(some 75),(.p (.ext (.tmp 67) 1)),none⟩,⟨(some 12),(.p (.mov (.tmp 74))),none⟩,⟨(some 13),(.p (.mov (.tmp 75))),none⟩] [] [1,7,12,13])
 (.seq (.seq (.region [⟨(some 76),(.p (.mov (.tmp 13))),none⟩,⟨(some 77),(.p (.not (.tmp 76))),none⟩] [] [1,7,12,77])
 (.cond (.tmp 77) (.seq (.region [⟨(some 78),(.p (.mov (.tmp 1))),none⟩,⟨(some 79),(.p (.build [.int .i64 (.ofNat 0),.int .i64 (.ofNat 0),.nilslice] [(0,1,(.val (.int .i64 (.ofNat 2))))])),none⟩,⟨(some 6),(.p (.mov (.tmp 78))),none⟩,⟨none,(.e (.store 3 (.tmp 7) (.tmp 79))),none⟩] [] [6,7])
 (.ret))
 (.skip)))
 (.seq (.region [⟨(some 80),(.p (.mov (.tmp 1))),none⟩,⟨(some 81),(.p (.mov (.tmp 12))),none⟩,⟨(some 82),(.p (.build [.int .i64 (.ofNat 0),.int .i64 (.ofNat 0),.nilslice] [(2,1,(.tmp 81))])),none⟩,⟨(some 6),(.p (.mov (.tmp 80))),none⟩,⟨none,(.e (.store 3 (.tmp 7) (.tmp 82))),none⟩] [] [6,7])
 (.ret))))
 (.seq (.region [⟨(some 84),(.p (.bin .eql (.tmp 32) (.val (.int .i64 (.ofNat 6))))),none⟩,⟨(some 83),(.p (.mov (.tmp 84))),none⟩] [] [1,7,83])
 (.cond (.tmp 83) (.seq (.region [⟨(some 85),(.p (.mov (.tmp 1))),none⟩,⟨(some 86),(.p (.build [.int .i64 (.ofNat 0),.int .i64 (.ofNat 0),.nilslice] [(0,1,(.val (.int .i64 (.ofNat 3))))])),none⟩,⟨(some 6),(.p (.mov (.tmp 85))),none⟩,⟨none,(.e (.store 3 (.tmp 7) (.tmp 86))),none⟩] [] [6,7])
 (.ret))
 (.skip)))))))))))))))
 (.seq (.region [⟨(some 87),(.p (.mov (.tmp 1))),none⟩,⟨(some 88),(.p (.build [.int .i64 (.ofNat 0),.int .i64 (.ofNat 0),.nilslice] [])),none⟩,⟨(some 6),(.p (.mov (.tmp 87))),none⟩,⟨none,(.e (.store 3 (.tmp 7) (.tmp 88))),none⟩] [] [6,7])
 (.ret)))))))
def M70 (F : Nat → Nat) : Fun := ⟨89,3,(K70 F).erase,[.tmp 6,.celln 3 7]⟩
theorem ok70 {F : Nat → Nat} : (K70 F).ok = true := rfl
abbrev K71 (F : Nat → Nat) : KC := .seq (.region [⟨(some 3),(.a (.box (.tmp 0))),none⟩,⟨(some 6),(.p (.mov (.val (.nilslice)))),none⟩,⟨(some 7),(.p (.mov (.val (.nilslice)))),none⟩] [3] [1,2,3])
 (.seq (.region [⟨(some 14),(.p (.mov (.tmp 1))),none⟩,⟨(some 15),(.e (.call (F 72) [(.tmp 14)])),none⟩,⟨(some 1),(.p (.mov (.tmp 15))),none⟩] [] [1,2,3])
 (.seq (.region [⟨(some 16),(.p (.mov (.tmp 1))),none⟩,⟨(some 8),(.p (.mov (.tmp 16))),none⟩] [] [1,2,3,8])
 (.seq (.region [⟨(some 9),(.p (.mov (.val (.nilslice)))),none⟩] [] [1,2,3,8,9])
 (.seq (.seq (.region [⟨(some 17),(.p (.mov (.tmp 2))),none⟩,⟨(some 18),(.p (.lenb (.tmp 17))),none⟩,⟨(some 19),(.p (.mov (.val (.int .i64 (.ofNat 0))))),none⟩] [] [1,3,8,9,17,18,19])
 (.block 0 (.loop (.seq (.region [⟨(some 20),(.p (.bin .lss (.tmp 19) (.tmp 18))),none⟩] [] [1,3,8,9,17,18,19,20])
 (.seq (.cond (.tmp 20) (.skip)
 (.exit 0))
 (.seq (.block 1 (.seq (.region [⟨(some 21),(.p (.iaddr 14 (.tmp 17) (.tmp 19))),none⟩,⟨(some 22),(.loadn 14 (.tmp 21)),none⟩,⟨(some 11),(.a (.new [.int .i64 (.ofNat 0),.nilslice,.int .i64 (.ofNat 0),.int .i64 (.ofNat 0),.int .i64 (.ofNat 0),.bool false,.int .i64 (.ofNat 0),.int .i64 (.ofNat 0),.nilslice,.nilslice,.nilslice,.nilslice,.int .i64 (.ofNat 0),.nilslice])),none⟩,⟨none,(.e (.store 14 (.tmp 11) (.tmp 22))),none⟩] [] [1,3,8,9,11,17,18,19])
 (.seq (.region [⟨(some 24),(.loadn 1 (.tmp 3)),none⟩,⟨(some 25),(.p (.mov (.tmp 8))),none⟩,⟨(some 26),(.loadn 14 (.tmp 11)),none⟩,⟨(some 27),(.e (.call (F 70) [(.tmp 24),(.tmp 25),(.tmp 26)])),none⟩,⟨(some 23),(.p (.mov (.tmp 27))),none⟩,⟨(some 28),(.p (.ext (.tmp 23) 0)),none⟩,⟨(some 29),(.p (.ext (.tmp 23) 1)),none⟩,⟨(some 13),(.a (.new [.int .i64 (.ofNat 0),.int .i64 (.ofNat 0),.nilslice])),none⟩,⟨(some 12),(.p (.mov (.tmp 28))),none⟩,⟨none,(.e (.store 3 (.tmp 13) (.tmp 29))),none⟩] [] [1,3,9,12,13,17,18,19])
 (.seq (.region [⟨(some 30),(.p (.mov (.tmp 9))),none⟩,⟨(some 31),(.loadn 3 (.tmp 13)),none⟩,⟨(some 32),(.a (.bslice [.int .i64 (.ofNat 0),.int .i64 (.ofNat 0),.nilslice] 3 1 [(0,3,(.tmp 31))])),none⟩,⟨(some 33),(.e (.append 3 40 (.tmp 30) (.tmp 32))),none⟩,⟨(some 9),(.p (.mov (.tmp 33))),none⟩] [32] [1,3,9,12,13,17,18,19])
 (.seq (.seq (.region [⟨(some 34),(.p (.faddr 0 (.tmp 13))),none⟩,⟨(some 35),(.load1 (.tmp 34)),none⟩,⟨(some 36),(.p (.bin .neq (.tmp 35) (.val (.int .i64 (.ofNat 0))))),none⟩] [] [1,3,9,12,17,18,19,36])
 (.cond (.tmp 36) (.seq (.region [⟨(some 37),(.p (.mov (.tmp 1))),none⟩,⟨(some 38),(.p (.mov (.tmp 9))),none⟩,⟨(some 39),(.e (.call (F 77) [(.tmp 38)])),none⟩,⟨(some 6),(.p (.mov (.tmp 37))),none⟩,⟨(some 7),(.p (.mov (.tmp 39))),none⟩] [] [6,7])
 (.ret))
 (.skip)))
 (.region [⟨(some 40),(.p (.mov (.tmp 12))),none⟩,⟨(some 8),(.p (.mov (.tmp 40))),none⟩] [] [1,3,8,9,17,18,19]))))))
 (.region [⟨(some 41),(.p (.bin .add (.tmp 19) (.val (.int .i64 (.ofNat 1))))),none⟩,⟨(some 19),(.p (.mov (.tmp 41))),none⟩] [] [1,3,8,9,17,18,19])))))))
 (.seq (.region [⟨(some 42),(.p (.mov (.tmp 8))),none⟩,⟨(some 43),(.p (.mov (.tmp 9))),none⟩,⟨(some 44),(.e (.call (F 77) [(.tmp 43)])),none⟩,⟨(some 6),(.p (.mov (.tmp 42))),none⟩,⟨(some 7),(.p (.mov (.tmp 44))),none⟩] [] [6,7])
 (.ret))))))
def M71 (F : Nat → Nat) : Fun := ⟨45,3,(K71 F).erase,[.tmp 6,.tmp 7]⟩
theorem ok71 {F : Nat → Nat} : (K71 F).ok = true := rfl
abbrev K72 (F : Nat → Nat) : KC := .seq (.region [⟨(some 2),(.p (.mov (.val (.nilslice)))),none⟩] [] [0])
 (.seq (.region [⟨(some 3),(.p (.mov (.val (.nilslice)))),none⟩] [] [0,3])
 (.seq (.seq (.region [⟨(some 6),(.p (.mov (.tmp 0))),none⟩,⟨(some 7),(.p (.lenb (.tmp 6))),none⟩,⟨(some 8),(.p (.mov (.val (.int .i64 (.ofNat 0))))),none⟩] [] [3,6,7,8])
 (.block 0 (.loop (.seq (.region [⟨(some 9),(.p (.bin .lss (.tmp 8) (.tmp 7))),none⟩] [] [3,6,7,8,9])
 (.seq (.cond (.tmp 9) (.skip)
 (.exit 0))
 (.seq (.block 1 (.seq (.region [⟨(some 10),(.p (.iaddr 1 (.tmp 6) (.tmp 8))),none⟩,⟨(some 11),(.load1 (.tmp 10)),none⟩,⟨(some 5),(.p (.mov (.tmp 11))),none⟩] [] [3,5,6,7,8])
 (.region [⟨(some 12),(.p (.mov (.tmp 3))),none⟩,⟨(some 13),(.p (.mov (.tmp 5))),none⟩,⟨(some 14),(.e (.call (F 4) [(.tmp 13)])),none⟩,⟨(some 15),(.a (.bslice [.nilslice] 1 1 [(0,1,(.tmp 14))])),none⟩,⟨(some 16),(.e (.append 1 24 (.tmp 12) (.tmp 15))),none⟩,⟨(some 3),(.p (.mov (.tmp 16))),none⟩] [15] [3,6,7,8])))
 (.region [⟨(some 17),(.p (.bin .add (.tmp 8) (.val (.int .i64 (.ofNat 1))))),none⟩,⟨(some 8),(.p (.mov (.tmp 17))),none⟩] [] [3,6,7,8])))))))
 (.seq (.region [⟨(some 18),(.p (.mov (.tmp 3))),none⟩,⟨(some 19),(.e (.call (F 39) [(.tmp 18)])),none⟩,⟨(some 2),(.p (.mov (.tmp 19))),none⟩] [] [2])
 (.ret))))
def M72 (F : Nat → Nat) : Fun := ⟨20,1,(K72 F).erase,[.tmp 2]⟩
theorem ok72 {F : Nat → Nat} : (K72 F).ok = true := rfl
abbrev K73 (F : Nat → Nat) : KC := .seq (.region [⟨(some 3),(.p (.mov (.val (.bool false)))),none⟩] [] [0,1])
 (.seq (.region [⟨(some 4),(.p (.faddr 2 (.tmp 1))),none⟩,⟨(some 5),(.loadn 8 (.tmp 4)),none⟩,⟨(some 6),(.p (.mov (.tmp 0))),none⟩,⟨(some 7),(.e (.call (F 65) [(.tmp 5),(.tmp 6)])),none⟩,⟨(some 8),(.p (.bin .eql (.tmp 7) (.val (.int .i64 (.ofNat 1))))),none⟩,⟨(some 3),(.p (.mov (.tmp 8))),none⟩] [] [3])
 (.ret))
def M73 (F : Nat → Nat) : Fun := ⟨9,2,(K73 F).erase,[.tmp 3]⟩
theorem ok73 {F : Nat → Nat} : (K73 F).ok = true := rfl
abbrev K74 (F : Nat → Nat) : KC := .seq (.region [⟨(some 4),(.p (.mov (.val (.nilslice)))),none⟩,⟨(some 5),(.a (.new [.int .i64 (.ofNat 0),.int .i64 (.ofNat 0),.nilslice])),none⟩] [] [0,1,5])
 (.seq (.region [⟨(some 9),(.p (.mov (.tmp 0))),none⟩,⟨(some 10),(.p (.mov (.tmp 1))),none⟩,⟨(some 11),(.e (.call (F 78) [(.tmp 10)])),none⟩,⟨(some 12),(.e (.call (F 79) [(.tmp 9),(.tmp 11),(.val (.func (F 80) [] []))])),none⟩,⟨(some 8),(.p (.mov (.tmp 12))),none⟩,⟨(some 13),(.p (.ext (.tmp 8) 0)),none⟩,⟨(some 14),(.p (.ext (.tmp 8) 1)),none⟩,⟨(some 6),(.p (.mov (.tmp 13))),none⟩,⟨(some 7),(.p (.mov (.tmp 14))),none⟩] [] [0,1,5,6,7])
 (.seq (.seq (.region [⟨(some 15),(.p (.mov (.tmp 7))),none⟩] [] [0,1,5,6,15])
 (.cond (.tmp 15) (.seq (.region [⟨(some 16),(.p (.mov (.tmp 0))),none⟩,⟨(some 17),(.p (.build [.int .i64 (.ofNat 0),.int .i64 (.ofNat 0),.nilslice] [(0,1,(.val (.int .i64 (.ofNat 1))))])),none⟩,⟨(some 4),(.p (.mov (.tmp 16))),none⟩,⟨none,(.e (.store 3 (.tmp 5) (.tmp 17))),none⟩] [] [4,5])
 (.ret))
 (.skip)))
 (.seq (.region [⟨(some 18),(.p (.mov (.tmp 0))),none⟩,⟨(some 19),(.p (.mov (.tmp 6))),none⟩,⟨(some 20),(.p (.mov (.tmp 1))),none⟩,⟨(some 21),(.e (.call (F 4) [(.tmp 20)])),none⟩,⟨(some 22),(.a (.bslice [.nilslice] 1 1 [(0,1,(.tmp 21))])),none⟩,⟨(some 23),(.e (.call (F 81) [(.tmp 18),(.tmp 19),(.tmp 22)])),none⟩,⟨(some 24),(.p (.build [.int .i64 (.ofNat 0),.int .i64 (.ofNat 0),.nilslice] [(1,1,(.val (.int .i64 (.ofNat 1))))])),none⟩,⟨(some 4),(.p (.mov (.tmp 23))),none⟩,⟨none,(.e (.store 3 (.tmp 5) (.tmp 24))),none⟩] [22] [4,5])
 (.ret))))
def M74 (F : Nat → Nat) : Fun := ⟨25,2,(K74 F).erase,[.tmp 4,.celln 3 5]⟩
theorem ok74 {F : Nat → Nat} : (K74 F).ok = true := rfl
abbrev K75 (F : Nat → Nat) : KC := .seq (.region [⟨(some 3),(.a (.box (.tmp 1))),none⟩,⟨(some 4),(.p (.mov (.val (.nilslice)))),none⟩,⟨(some 5),(.a (.new [.int .i64 (.ofNat 0),.int .i64 (.ofNat 0),.nilslice])),none⟩] [3] [0,3,5])
 (.seq (.region [⟨(some 12),(.p (.mov (.tmp 0))),none⟩,⟨(some 13),(.e (.call (F 72) [(.tmp 12)])),none⟩,⟨(some 6),(.p (.mov (.tmp 13))),none⟩] [] [0,3,5,6])
 (.seq (.region [⟨(some 7),(.p (.mov (.val (.int .i64 (.ofNat 0))))),none⟩] [] [0,3,5,6,7])
 (.seq (.seq (.region [⟨(some 14),(.p (.mov (.tmp 0))),none⟩,⟨(some 15),(.p (.lenb (.tmp 14))),none⟩,⟨(some 16),(.p (.mov (.val (.int .i64 (.ofNat 0))))),none⟩] [] [0,3,5,6,7,14,15,16])
 (.block 0 (.loop (.seq (.region [⟨(some 17),(.p (.bin .lss (.tmp 16) (.tmp 15))),none⟩] [] [0,3,5,6,7,14,15,16,17])
 (.seq (.cond (.tmp 17) (.skip)
 (.exit 0))
 (.seq (.block 1 (.seq (.region [⟨(some 18),(.p (.mov (.tmp 16))),none⟩,⟨(some 19),(.p (.iaddr 1 (.tmp 14) (.tmp 16))),none⟩,⟨(some 20),(.load1 (.tmp 19)),none⟩,⟨(some 8),(.p (.mov (.tmp 18))),none⟩,⟨(some 9),(.p (.mov (.tmp 20))),none⟩] [] [0,3,5,6,7,8,9,14,15,16])
 (.seq (.seq (.region [⟨(some 21),(.p (.faddr 2 (.tmp 3))),none⟩,⟨(some 22),(.loadn 8 (.tmp 21)),none⟩,⟨(some 23),(.p (.mov (.tmp 9))),none⟩,⟨(some 24),(.e (.call (F 65) [(.tmp 22),(.tmp 23)])),none⟩,⟨(some 25),(.p (.bin .neq (.tmp 24) (.val (.int .i64 (.ofNat 1))))),none⟩] [] [0,3,5,6,7,8,9,14,15,16,25])
 (.cond (.tmp 25) (.exit 1)
 (.skip)))
 (.seq (.region [⟨(some 27),(.p (.mov (.tmp 9))),none⟩,⟨(some 28),(.p (.faddr 10 (.tmp 3))),none⟩,⟨(some 29),(.load1 (.tmp 28)),none⟩,⟨(some 30),(.e (.call (F 35) [(.tmp 27),(.tmp 29)])),none⟩,⟨(some 26),(.p (.mov (.tmp 30))),none⟩,⟨(some 31),(.p (.ext (.tmp 26) 0)),none⟩,⟨(some 32),(.p (.ext (.tmp 26) 1)),none⟩,⟨(some 10),(.p (.mov (.tmp 31))),none⟩,⟨(some 11),(.p (.mov (.tmp 32))),none⟩] [] [0,3,5,6,7,8,10,11,14,15,16])
 (.seq (.seq (.region [⟨(some 33),(.p (.mov (.tmp 11))),none⟩,⟨(some 34),(.p (.not (.tmp 33))),none⟩] [] [0,3,5,6,7,8,10,14,15,16,34])
 (.cond (.tmp 34) (.seq (.region [⟨(some 35),(.p (.mov (.tmp 0))),none⟩,⟨(some 36),(.p (.build [.int .i64 (.ofNat 0),.int .i64 (.ofNat 0),.nilslice] [(0,1,(.val (.int .i64 (.ofNat 2))))])),none⟩,⟨(some 4),(.p (.mov (.tmp 35))),none⟩,⟨none,(.e (.store 3 (.tmp 5) (.tmp 36))),none⟩] [] [4,5])
 (.ret))
 (.skip)))
 (.seq (.region [⟨(some 37),(.p (.mov (.tmp 6))),none⟩,⟨(some 38),(.p (.mov (.tmp 8))),none⟩,⟨(some 39),(.p (.mov (.tmp 10))),none⟩,⟨(some 40),(.p (.iaddr 1 (.tmp 37) (.tmp 38))),none⟩,⟨none,(.e (.store 1 (.tmp 40) (.tmp 39))),none⟩] [] [0,3,5,6,7,14,15,16])
 (.region [⟨(some 41),(.p (.mov (.tmp 7))),none⟩,⟨(some 42),(.p (.bin .add (.tmp 41) (.val (.int .i64 (.ofNat 1))))),none⟩,⟨(some 7),(.p (.mov (.tmp 42))),none⟩] [] [0,3,5,6,7,14,15,16])))))))
 (.region [⟨(some 43),(.p (.bin .add (.tmp 16) (.val (.int .i64 (.ofNat 1))))),none⟩,⟨(some 16),(.p (.mov (.tmp 43))),none⟩] [] [0,3,5,6,7,14,15,16])))))))
 (.seq (.region [⟨(some 44),(.p (.mov (.tmp 6))),none⟩,⟨(some 45),(.p (.mov (.tmp 7))),none⟩,⟨(some 46),(.p (.build [.int .i64 (.ofNat 0),.int .i64 (.ofNat 0),.nilslice] [(1,1,(.tmp 45))])),none⟩,⟨(some 4),(.p (.mov (.tmp 44))),none⟩,⟨none,(.e (.store 3 (.tmp 5) (.tmp 46))),none⟩] [] [4,5])
 (.ret)))))
def M75 (F : Nat → Nat) : Fun := ⟨47,2,(K75 F).erase,[.tmp 4,.celln 3 5]⟩
theorem ok75 {F : Nat → Nat} : (K75 F).ok = true := rfl
abbrev K76 (F : Nat → Nat) : KC := .seq (.region [⟨(some 4),(.p (.mov (.val (.nilslice)))),none⟩] [] [0,1])
 (.seq (.region [⟨(some 8),(.p (.mov (.tmp 0))),none⟩,⟨(some 9),(.p (.mov (.tmp 1))),none⟩,⟨(some 10),(.e (.call (F 82) [(.tmp 8),(.tmp 9)])),none⟩,⟨(some 5),(.p (.mov (.tmp 10))),none⟩] [] [0,1,5])
 (.seq (.seq (.region [⟨(some 11),(.p (.mov (.tmp 5))),none⟩,⟨(some 12),(.p (.bin .eql (.tmp 11) (.val (.int .i64 (.negSucc 0))))),none⟩] [] [0,1,5,12])
 (.cond (.tmp 12) (.seq (.region [⟨(some 13),(.p (.mov (.tmp 0))),none⟩,⟨(some 4),(.p (.mov (.tmp 13))),none⟩] [] [4])
 (.ret))
 (.skip)))
 (.seq (.seq (.region [⟨(some 14),(.p (.mov (.tmp 5))),none⟩,⟨(some 15),(.p (.bin .add (.tmp 14) (.val (.int .i64 (.ofNat 1))))),none⟩,⟨(some 6),(.p (.mov (.tmp 15))),none⟩] [] [0,1,5,6])
 (.block 0 (.loop (.seq (.seq (.region [⟨(some 16),(.p (.mov (.tmp 6))),none⟩,⟨(some 17),(.p (.mov (.tmp 0))),none⟩,⟨(some 18),(.p (.lenb (.tmp 17))),none⟩,⟨(some 19),(.p (.bin .lss (.tmp 16) (.tmp 18))),none⟩] [] [0,1,5,6,19])
 (.cond (.tmp 19) (.skip)
 (.exit 0)))
 (.seq (.block 1 (.seq (.region [⟨(some 22),(.p (.mov (.tmp 0))),none⟩,⟨(some 23),(.p (.mov (.tmp 6))),none⟩,⟨(some 24),(.p (.iaddr 1 (.tmp 22) (.tmp 23))),none⟩,⟨(some 25),(.load1 (.tmp 24)),none⟩,⟨(some 7),(.p (.mov (.tmp 25))),none⟩] [] [0,1,5,6,7])
 (.seq (.region [⟨(some 26),(.p (.mov (.tmp 1))),none⟩,⟨(some 27),(.p (.mov (.tmp 7))),none⟩,⟨(some 28),(.e (.callv (.tmp 26) [(.tmp 27)])),none⟩,⟨(some 29),(.p (.not (.tmp 28))),none⟩] [] [0,1,5,6,7,29])
 (.cond (.tmp 29) (.seq (.region [⟨(some 30),(.p (.mov (.tmp 0))),none⟩,⟨(some 31),(.p (.mov (.tmp 5))),none⟩,⟨(some 32),(.p (.mov (.tmp 7))),none⟩,⟨(some 33),(.p (.iaddr 1 (.tmp 30) (.tmp 31))),none⟩,⟨none,(.e (.store 1 (.tmp 33) (.tmp 32))),none⟩] [] [0,1,5,6])
 (.region [⟨(some 34),(.p (.mov (.tmp 5))),none⟩,⟨(some 35),(.p (.bin .add (.tmp 34) (.val (.int .i64 (.ofNat 1))))),none⟩,⟨(some 5),(.p (.mov (.tmp 35))),none⟩] [] [0,1,5,6]))
 (.skip)))))
 (.region [⟨(some 20),(.p (.mov (.tmp 6))),none⟩,⟨(some 21),(.p (.bin .add (.tmp 20) (.val (.int .i64 (.ofNat 1))))),none⟩,⟨(some 6),(.p (.mov (.tmp 21))),none⟩] [] [0,1,5,6]))))))
 (.seq (.region [⟨(some 36),(.p (.mov (.tmp 0))),none⟩,⟨(some 37),(.p (.mov (.tmp 5))),none⟩,⟨(some 38),(.p (.slc 1 (.tmp 36) (some (.tmp 37)) none none)),none⟩,⟨none,(.e (.clear [.nilslice] (.tmp 38))),none⟩] [] [0,5])
 (.seq (.region [⟨(some 39),(.p (.mov (.tmp 0))),none⟩,⟨(some 40),(.p (.mov (.tmp 5))),none⟩,⟨(some 41),(.p (.slc 1 (.tmp 39) none (some (.tmp 40)) none)),none⟩,⟨(some 4),(.p (.mov (.tmp 41))),none⟩] [] [4])
 (.ret))))))
def M76 (F : Nat → Nat) : Fun := ⟨42,2,(K76 F).erase,[.tmp 4]⟩
theorem ok76 {F : Nat → Nat} : (K76 F).ok = true := rfl
abbrev K77 (_F : Nat → Nat) : KC := .seq (.region [⟨(some 2),(.p (.mov (.val (.nilslice)))),none⟩] [] [0])
 (.seq (.region [⟨(some 3),(.p (.mov (.tmp 0))),none⟩,⟨(some 4),(.p (.mov (.tmp 0))),none⟩,⟨(some 5),(.p (.lenb (.tmp 4))),none⟩,⟨(some 6),(.p (.mov (.tmp 0))),none⟩,⟨(some 7),(.p (.lenb (.tmp 6))),none⟩,⟨(some 8),(.p (.slc 3 (.tmp 3) none (some (.tmp 5)) (some (.tmp 7)))),none⟩,⟨(some 2),(.p (.mov (.tmp 8))),none⟩] [] [2])
 (.ret))
def M77 (F : Nat → Nat) : Fun := ⟨9,1,(K77 F).erase,[.tmp 2]⟩
theorem ok77 {F : Nat → Nat} : (K77 F).ok = true := rfl
abbrev K78 (F : Nat → Nat) : KC := .seq (.region [⟨(some 2),(.p (.mov (.val (.int .i64 (.ofNat 0))))),none⟩] [] [0])
 (.seq (.region [⟨(some 3),(.p (.mov (.tmp 0))),none⟩,⟨(some 4),(.e (.call (F 3) [(.tmp 3),(.val (.int .i64 (.ofNat 0)))])),none⟩,⟨(some 5),(.p (.field1 2 (.tmp 4))),none⟩,⟨(some 2),(.p (.mov (.tmp 5))),none⟩] [] [2])
 (.ret))
def M78 (F : Nat → Nat) : Fun := ⟨6,1,(K78 F).erase,[.tmp 2]⟩
theorem ok78 {F : Nat → Nat} : (K78 F).ok = true := rfl
abbrev K79 (_F : Nat → Nat) : KC := .seq (.region [⟨(some 6),(.p (.mov (.val (.int .i64 (.ofNat 0))))),none⟩,⟨(some 7),(.p (.mov (.val (.bool false)))),none⟩] [] [0,1,2])
 (.seq (.region [⟨(some 12),(.p (.mov (.tmp 0))),none⟩,⟨(some 13),(.p (.lenb (.tmp 12))),none⟩,⟨(some 8),(.p (.mov (.tmp 13))),none⟩] [] [0,1,2,8])
 (.seq (.region [⟨(some 14),(.p (.mov (.tmp 8))),none⟩,⟨(some 9),(.p (.mov (.val (.int .i64 (.ofNat 0))))),none⟩,⟨(some 10),(.p (.mov (.tmp 14))),none⟩] [] [0,1,2,8,9,10])
 (.seq (.block 0 (.loop (.seq (.seq (.region [⟨(some 15),(.p (.mov (.tmp 9))),none⟩,⟨(some 16),(.p (.mov (.tmp 10))),none⟩,⟨(some 17),(.p (.bin .lss (.tmp 15) (.tmp 16))),none⟩] [] [0,1,2,8,9,10,17])
 (.cond (.tmp 17) (.skip)
 (.exit 0)))
 (.block 1 (.seq (.region [⟨(some 18),(.p (.mov (.tmp 9))),none⟩,⟨(some 19),(.p (.mov (.tmp 10))),none⟩,⟨(some 20),(.p (.bin .add (.tmp 18) (.tmp 19))),none⟩,⟨(some 21),(.p (.conv (.int .u64) (.tmp 20))),none⟩,⟨(some 22),(.p (.bin .shr (.tmp 21) (.val (.int .u64 (.ofNat 1))))),none⟩,⟨(some 23),(.p (.conv (.int .i64) (.tmp 22))),none⟩,⟨(some 11),(.p (.mov (.tmp 23))),none⟩] [] [0,1,2,8,9,10,11])
 (.seq (.region [⟨(some 24),(.p (.mov (.tmp 2))),none⟩,⟨(some 25),(.p (.mov (.tmp 0))),none⟩,⟨(some 26),(.p (.mov (.tmp 11))),none⟩,⟨(some 27),(.p (.iaddr 1 (.tmp 25) (.tmp 26))),none⟩,⟨(some 28),(.load1 (.tmp 27)),none⟩,⟨(some 29),(.p (.mov (.tmp 1))),none⟩,⟨(some 30),(.e (.callv (.tmp 24) [(.tmp 28),(.tmp 29)])),none⟩,⟨(some 31),(.p (.bin .lss (.tmp 30) (.val (.int .i64 (.ofNat 0))))),none⟩] [] [0,1,2,8,9,10,11,31])
 (.cond (.tmp 31) (.region [⟨(some 32),(.p (.mov (.tmp 11))),none⟩,⟨(some 33),(.p (.bin .add (.tmp 32) (.val (.int .i64 (.ofNat 1))))),none⟩,⟨(some 9),(.p (.mov (.tmp 33))),none⟩] [] [0,1,2,8,9,10])
 (.region [⟨(some 34),(.p (.mov (.tmp 11))),none⟩,⟨(some 10),(.p (.mov (.tmp 34))),none⟩] [] [0,1,2,8,9,10]))))))))
 (.seq (.region [⟨(some 35),(.p (.mov (.tmp 9))),none⟩,⟨(some 36),(.p (.mov (.tmp 9))),none⟩,⟨(some 37),(.p (.mov (.tmp 8))),none⟩,⟨(some 38),(.p (.bin .lss (.tmp 36) (.tmp 37))),none⟩,⟨(some 39),(.p (.mov (.tmp 38))),none⟩,⟨(some 40),(.p (.mov (.tmp 2))),(some (39,true))⟩,⟨(some 41),(.p (.mov (.tmp 0))),(some (39,true))⟩,⟨(some 42),(.p (.mov (.tmp 9))),(some (39,true))⟩,⟨(some 43),(.p (.iaddr 1 (.tmp 41) (.tmp 42))),(some (39,true))⟩,⟨(some 44),(.load1 (.tmp 43)),(some (39,true))⟩,⟨(some 45),(.p (.mov (.tmp 1))),(some (39,true))⟩,⟨(some 46),(.e (.callv (.tmp 40) [(.tmp 44),(.tmp 45)])),(some (39,true))⟩,⟨(some 47),(.p (.bin .eql (.tmp 46) (.val (.int .i64 (.ofNat 0))))),(some (39,true))⟩,⟨(some 48),(.p (.pick (.tmp 39) (.tmp 47) (.val (.bool false)))),none⟩,⟨(some 6),(.p (.mov (.tmp 35))),none⟩,⟨(some 7),(.p (.mov (.tmp 48))),none⟩] [] [6,7])
 (.ret)))))
def M79 (F : Nat → Nat) : Fun := ⟨49,3,(K79 F).erase,[.tmp 6,.tmp 7]⟩
theorem ok79 {F : Nat → Nat} : (K79 F).ok = true := rfl
abbrev K80 (F : Nat → Nat) : KC := .seq (.region [⟨(some 4),(.p (.mov (.val (.int .i64 (.ofNat 0))))),none⟩] [] [0,1])
 (.seq (.region [⟨(some 5),(.p (.mov (.tmp 0))),none⟩,⟨(some 6),(.e (.call (F 78) [(.tmp 5)])),none⟩,⟨(some 7),(.p (.mov (.tmp 1))),none⟩,⟨(some 8),(.e (.call (F 10) [(.tmp 6),(.tmp 7)])),none⟩,⟨(some 4),(.p (.mov (.tmp 8))),none⟩] [] [4])
 (.ret))
def M80 (F : Nat → Nat) : Fun := ⟨9,2,(K80 F).erase,[.tmp 4]⟩
theorem ok80 {F : Nat → Nat} : (K80 F).ok = true := rfl
abbrev K81 (F : Nat → Nat) : KC := .seq (.region [⟨(some 6),(.p (.mov (.val (.nilslice)))),none⟩] [] [0,1,2])
 (.seq (.region [⟨(some 10),(.p (.mov (.tmp 0))),none⟩,⟨(some 11),(.p (.mov (.tmp 1))),none⟩,⟨(some 12),(.p (.slc 1 (.tmp 10) (some (.tmp 11)) none none)),none⟩] [] [0,1,2])
 (.seq (.region [⟨(some 13),(.p (.mov (.tmp 2))),none⟩,⟨(some 14),(.p (.lenb (.tmp 13))),none⟩,⟨(some 7),(.p (.mov (.tmp 14))),none⟩] [] [0,1,2,7])
 (.seq (.seq (.region [⟨(some 15),(.p (.mov (.tmp 7))),none⟩,⟨(some 16),(.p (.bin .eql (.tmp 15) (.val (.int .i64 (.ofNat 0))))),none⟩] [] [0,1,2,7,16])
 (.cond (.tmp 16) (.seq (.region [⟨(some 17),(.p (.mov (.tmp 0))),none⟩,⟨(some 6),(.p (.mov (.tmp 17))),none⟩] [] [6])
 (.ret))
 (.skip)))
 (.seq (.region [⟨(some 18),(.p (.mov (.tmp 0))),none⟩,⟨(some 19),(.p (.lenb (.tmp 18))),none⟩,⟨(some 8),(.p (.mov (.tmp 19))),none⟩] [] [0,1,2,7,8])
 (.seq (.seq (.region [⟨(some 20),(.p (.mov (.tmp 1))),none⟩,⟨(some 21),(.p (.mov (.tmp 8))),none⟩,⟨(some 22),(.p (.bin .eql (.tmp 20) (.tmp 21))),none⟩] [] [0,1,2,7,8,22])
 (.cond (.tmp 22) (.seq (.region [⟨(some 23),(.p (.mov (.tmp 0))),none⟩,⟨(some 24),(.p (.mov (.tmp 2))),none⟩,⟨(some 25),(.e (.append 1 24 (.tmp 23) (.tmp 24))),none⟩,⟨(some 6),(.p (.mov (.tmp 25))),none⟩] [] [6])
 (.ret))
 (.skip)))
 (.seq (.seq (.region [⟨(some 26),(.p (.mov (.tmp 8))),none⟩,⟨(some 27),(.p (.mov (.tmp 7))),none⟩,⟨(some 28),(.p (.bin .add (.tmp 26) (.tmp 27))),none⟩,⟨(some 29),(.p (.mov (.tmp 0))),none⟩,⟨(some 30),(.p (.caps (.tmp 29))),none⟩,⟨(some 31),(.p (.bin .gtr (.tmp 28) (.tmp 30))),none⟩] [] [0,1,2,7,8,31])
 (.cond (.tmp 31) (.seq (.region [⟨(some 32),(.p (.mov (.tmp 0))),none⟩,⟨(some 33),(.p (.mov (.tmp 1))),none⟩,⟨(some 34),(.p (.slc 1 (.tmp 32) none (some (.tmp 33)) none)),none⟩,⟨(some 35),(.p (.mov (.tmp 8))),none⟩,⟨(some 36),(.p (.mov (.tmp 7))),none⟩,⟨(some 37),(.p (.bin .add (.tmp 35) (.tmp 36))),none⟩,⟨(some 38),(.p (.mov (.tmp 1))),none⟩,⟨(some 39),(.p (.bin .sub (.tmp 37) (.tmp 38))),none⟩,⟨(some 40),(.e (.appendz [.nilslice] 1 24 (.tmp 34) (.tmp 39))),none⟩,⟨(some 9),(.p (.mov (.tmp 40))),none⟩] [] [0,1,2,7,9])
 (.seq (.region [⟨(some 41),(.p (.mov (.tmp 9))),none⟩,⟨(some 42),(.p (.mov (.tmp 1))),none⟩,⟨(some 43),(.p (.slc 1 (.tmp 41) (some (.tmp 42)) none none)),none⟩,⟨(some 44),(.p (.mov (.tmp 2))),none⟩,⟨(some 45),(.e (.copy 1 (.tmp 43) (.tmp 44))),none⟩] [] [0,1,7,9])
 (.seq (.dregion [⟨⟨(some 46),(.p (.mov (.tmp 9))),none⟩,0,8⟩,⟨⟨(some 47),(.p (.mov (.tmp 1))),none⟩,0,8⟩,⟨⟨(some 48),(.p (.mov (.tmp 7))),none⟩,0,8⟩,⟨⟨(some 49),(.p (.bin .add (.tmp 47) (.tmp 48))),none⟩,0,8⟩,⟨⟨(some 50),(.p (.slc 1 (.tmp 46) (some (.tmp 49)) none none)),none⟩,0,8⟩,⟨⟨(some 51),(.p (.mov (.tmp 0))),none⟩,0,8⟩,⟨⟨(some 52),(.p (.mov (.tmp 1))),none⟩,0,8⟩,⟨⟨(some 53),(.p (.slc 1 (.tmp 51) (some (.tmp 52)) none none)),none⟩,0,8⟩,⟨⟨(some 54),(.e (.copy 1 (.tmp 50) (.tmp 53))),none⟩,0,9⟩] [9])
 (.seq (.region [⟨(some 55),(.p (.mov (.tmp 9))),none⟩,⟨(some 6),(.p (.mov (.tmp 55))),none⟩] [] [6])
 (.ret)))))
 (.skip)))
 (.seq (.region [⟨(some 56),(.p (.mov (.tmp 0))),none⟩,⟨(some 57),(.p (.mov (.tmp 8))),none⟩,⟨(some 58),(.p (.mov (.tmp 7))),none⟩,⟨(some 59),(.p (.bin .add (.tmp 57) (.tmp 58))),none⟩,⟨(some 60),(.p (.slc 1 (.tmp 56) none (some (.tmp 59)) none)),none⟩,⟨(some 0),(.p (.mov (.tmp 60))),none⟩] [] [0,1,2,7,8])
 (.seq (.seq (.region [⟨(some 61),(.p (.mov (.tmp 2))),none⟩,⟨(some 62),(.p (.mov (.tmp 0))),none⟩,⟨(some 63),(.p (.mov (.tmp 1))),none⟩,⟨(some 64),(.p (.mov (.tmp 7))),none⟩,⟨(some 65),(.p (.bin .add (.tmp 63) (.tmp 64))),none⟩,⟨(some 66),(.p (.slc 1 (.tmp 62) (some (.tmp 65)) none none)),none⟩,⟨(some 67),(.e (.extern (F 83) [(.tmp 61),(.tmp 66)])),none⟩,⟨(some 68),(.p (.not (.tmp 67))),none⟩] [] [0,1,2,7,8,68])
 (.cond (.tmp 68) (.seq (.dregion [⟨⟨(some 69),(.p (.mov (.tmp 0))),none⟩,0,8⟩,⟨⟨(some 70),(.p (.mov (.tmp 1))),none⟩,0,8⟩,⟨⟨(some 71),(.p (.mov (.tmp 7))),none⟩,0,8⟩,⟨⟨(some 72),(.p (.bin .add (.tmp 70) (.tmp 71))),none⟩,0,8⟩,⟨⟨(some 73),(.p (.slc 1 (.tmp 69) (some (.tmp 72)) none none)),none⟩,0,8⟩,⟨⟨(some 74),(.p (.mov (.tmp 0))),none⟩,0,8⟩,⟨⟨(some 75),(.p (.mov (.tmp 1))),none⟩,0,8⟩,⟨⟨(some 76),(.p (.slc 1 (.tmp 74) (some (.tmp 75)) none none)),none⟩,0,8⟩,⟨⟨(some 77),(.e (.copy 1 (.tmp 73) (.tmp 76))),none⟩,0,9⟩] [0,1,2])
 (.seq (.region [⟨(some 78),(.p (.mov (.tmp 0))),none⟩,⟨(some 79),(.p (.mov (.tmp 1))),none⟩,⟨(some 80),(.p (.slc 1 (.tmp 78) (some (.tmp 79)) none none)),none⟩,⟨(some 81),(.p (.mov (.tmp 2))),none⟩,⟨(some 82),(.e (.copy 1 (.tmp 80) (.tmp 81))),none⟩] [] [0])
 (.seq (.region [⟨(some 83),(.p (.mov (.tmp 0))),none⟩,⟨(some 6),(.p (.mov (.tmp 83))),none⟩] [] [6])
 (.ret))))
 (.skip)))
 (.seq (.region [⟨(some 84),(.p (.mov (.tmp 0))),none⟩,⟨(some 85),(.p (.mov (.tmp 8))),none⟩,⟨(some 86),(.p (.slc 1 (.tmp 84) (some (.tmp 85)) none none)),none⟩,⟨(some 87),(.p (.mov (.tmp 2))),none⟩,⟨(some 88),(.e (.copy 1 (.tmp 86) (.tmp 87))),none⟩] [] [0,1,7])
 (.seq (.region [⟨(some 89),(.p (.mov (.tmp 0))),none⟩,⟨(some 90),(.p (.mov (.tmp 1))),none⟩,⟨(some 91),(.p (.slc 1 (.tmp 89) (some (.tmp 90)) none none)),none⟩,⟨(some 92),(.p (.mov (.tmp 7))),none⟩,⟨(some 93),(.e (.call (F 84) [(.tmp 91),(.tmp 92)])),none⟩] [] [0])
 (.seq (.region [⟨(some 94),(.p (.mov (.tmp 0))),none⟩,⟨(some 6),(.p (.mov (.tmp 94))),none⟩] [] [6])
 (.ret))))))))))))
def M81 (F : Nat → Nat) : Fun := ⟨95,3,(K81 F).erase,[.tmp 6]⟩
theorem ok81 {F : Nat → Nat} : (K81 F).ok = true := rfl
abbrev K82 (_F : Nat → Nat) : KC := .seq (.region [⟨(some 4),(.p (.mov (.val (.int .i64 (.ofNat 0))))),none⟩] [] [0,1])
 (.seq (.seq (.region [⟨(some 6),(.p (.mov (.tmp 0))),none⟩,⟨(some 7),(.p (.lenb (.tmp 6))),none⟩,⟨(some 8),(.p (.mov (.val (.int .i64 (.ofNat 0))))),none⟩] [] [0,1,7,8])
 (.block 0 (.loop (.seq (.region [⟨(some 9),(.p (.bin .lss (.tmp 8) (.tmp 7))),none⟩] [] [0,1,7,8,9])
 (.seq (.cond (.tmp 9) (.skip)
 (.exit 0))
 (.seq (.block 1 (.seq (.region [⟨(some 10),(.p (.mov (.tmp 8))),none⟩,⟨(some 5),(.p (.mov (.tmp 10))),none⟩] [] [0,1,5,7,8])
 (.seq (.region [⟨(some 11),(.p (.mov (.tmp 1))),none⟩,⟨(some 12),(.p (.mov (.tmp 0))),none⟩,⟨(some 13),(.p (.mov (.tmp 5))),none⟩,⟨(some 14),(.p (.iaddr 1 (.tmp 12) (.tmp 13))),none⟩,⟨(some 15),(.load1 (.tmp 14)),none⟩,⟨(some 16),(.e (.callv (.tmp 11) [(.tmp 15)])),none⟩] [] [0,1,5,7,8,16])
 (.cond (.tmp 16) (.seq (.region [⟨(some 17),(.p (.mov (.tmp 5))),none⟩,⟨(some 4),(.p (.mov (.tmp 17))),none⟩] [] [4])
 (.ret))
 (.skip)))))
 (.region [⟨(some 18),(.p (.bin .add (.tmp 8) (.val (.int .i64 (.ofNat 1))))),none⟩,⟨(some 8),(.p (.mov (.tmp 18))),none⟩] [] [0,1,7,8])))))))
 (.seq (.region [⟨(some 4),(.p (.mov (.val (.int .i64 (.negSucc 0))))),none⟩] [] [4])
 (.ret)))
def M82 (F : Nat → Nat) : Fun := ⟨19,2,(K82 F).erase,[.tmp 4]⟩
theorem ok82 {F : Nat → Nat} : (K82 F).ok = true := rfl
abbrev K84 (F : Nat → Nat) : KC := .region [⟨(some 4),(.p (.mov (.tmp 0))),none⟩,⟨(some 5),(.p (.mov (.tmp 0))),none⟩,⟨(some 6),(.p (.lenb (.tmp 5))),none⟩,⟨(some 7),(.p (.mov (.tmp 1))),none⟩,⟨(some 8),(.p (.bin .sub (.tmp 6) (.tmp 7))),none⟩,⟨(some 9),(.e (.call (F 85) [(.tmp 4),(.tmp 8)])),none⟩] [] []
def M84 (F : Nat → Nat) : Fun := ⟨10,2,(K84 F).erase,[]⟩
abbrev K85 (F : Nat → Nat) : KC := .seq (.region [⟨(some 4),(.p (.mov (.tmp 0))),none⟩,⟨(some 5),(.p (.mov (.tmp 1))),none⟩,⟨(some 6),(.p (.slc 1 (.tmp 4) none (some (.tmp 5)) none)),none⟩,⟨(some 7),(.e (.call (F 86) [(.tmp 6)])),none⟩] [] [0,1])
 (.seq (.region [⟨(some 8),(.p (.mov (.tmp 0))),none⟩,⟨(some 9),(.p (.mov (.tmp 1))),none⟩,⟨(some 10),(.p (.slc 1 (.tmp 8) (some (.tmp 9)) none none)),none⟩,⟨(some 11),(.e (.call (F 86) [(.tmp 10)])),none⟩] [] [0])
 (.region [⟨(some 12),(.p (.mov (.tmp 0))),none⟩,⟨(some 13),(.e (.call (F 86) [(.tmp 12)])),none⟩] [] []))
def M85 (F : Nat → Nat) : Fun := ⟨14,2,(K85 F).erase,[]⟩
abbrev K86 (_F : Nat → Nat) : KC := .seq (.region [⟨(some 4),(.p (.mov (.tmp 0))),none⟩,⟨(some 5),(.p (.lenb (.tmp 4))),none⟩,⟨(some 6),(.p (.bin .sub (.tmp 5) (.val (.int .i64 (.ofNat 1))))),none⟩,⟨(some 2),(.p (.mov (.val (.int .i64 (.ofNat 0))))),none⟩,⟨(some 3),(.p (.mov (.tmp 6))),none⟩] [] [0,2,3])
 (.block 0 (.loop (.seq (.seq (.region [⟨(some 7),(.p (.mov (.tmp 2))),none⟩,⟨(some 8),(.p (.mov (.tmp 3))),none⟩,⟨(some 9),(.p (.bin .lss (.tmp 7) (.tmp 8))),none⟩] [] [0,2,3,9])
 (.cond (.tmp 9) (.skip)
 (.exit 0)))
 (.seq (.block 1 (.dregion [⟨⟨(some 14),(.p (.mov (.tmp 0))),none⟩,0,11⟩,⟨⟨(some 15),(.p (.mov (.tmp 2))),none⟩,0,11⟩,⟨⟨(some 18),(.p (.mov (.tmp 0))),none⟩,0,11⟩,⟨⟨(some 19),(.p (.mov (.tmp 3))),none⟩,0,11⟩,⟨⟨(some 20),(.p (.iaddr 1 (.tmp 18) (.tmp 19))),none⟩,0,11⟩,⟨⟨(some 21),(.load1 (.tmp 20)),none⟩,0,11⟩,⟨⟨(some 22),(.p (.mov (.tmp 0))),none⟩,0,11⟩,⟨⟨(some 23),(.p (.mov (.tmp 2))),none⟩,0,11⟩,⟨⟨(some 24),(.p (.iaddr 1 (.tmp 22) (.tmp 23))),none⟩,0,11⟩,⟨⟨(some 25),(.load1 (.tmp 24)),none⟩,0,11⟩,⟨⟨(some 26),(.p (.iaddr 1 (.tmp 14) (.tmp 15))),none⟩,0,11⟩,⟨⟨none,(.e (.store 1 (.tmp 26) (.tmp 21))),none⟩,0,15⟩,⟨⟨(some 16),(.p (.mov (.tmp 0))),none⟩,0,15⟩,⟨⟨(some 17),(.p (.mov (.tmp 3))),none⟩,0,15⟩,⟨⟨(some 27),(.p (.iaddr 1 (.tmp 16) (.tmp 17))),none⟩,12,15⟩,⟨⟨none,(.e (.store 1 (.tmp 27) (.tmp 25))),none⟩,12,16⟩] [0,2,3]))
 (.region [⟨(some 10),(.p (.mov (.tmp 2))),none⟩,⟨(some 11),(.p (.bin .add (.tmp 10) (.val (.int .i64 (.ofNat 1))))),none⟩,⟨(some 12),(.p (.mov (.tmp 3))),none⟩,⟨(some 13),(.p (.bin .sub (.tmp 12) (.val (.int .i64 (.ofNat 1))))),none⟩,⟨(some 2),(.p (.mov (.tmp 11))),none⟩,⟨(some 3),(.p (.mov (.tmp 13))),none⟩] [] [0,2,3])))))
def M86 (F : Nat → Nat) : Fun := ⟨28,1,(K86 F).erase,[]⟩
end Go.Lib
end

section
namespace Go.Lib
open Go.Vm Go.Dv
set_option maxRecDepth 100000
abbrev K65 (F : Nat → Nat) : KC := .seq (.region [⟨(some 2),(.a (.box (.tmp 0))),none⟩,⟨(some 4),(.p (.mov (.val (.int .i64 (.ofNat 0))))),none⟩] [2] [1,2])
 (.seq (.seq (.region [⟨(some 6),(.p (.faddr 0 (.tmp 2))),none⟩,⟨(some 7),(.load1 (.tmp 6)),none⟩] [] [1,2,7])
 (.block 0 (.seq (.region [⟨(some 9),(.p (.bin .eql (.tmp 7) (.val (.int .i64 (.ofNat 1))))),none⟩,⟨(some 8),(.p (.mov (.tmp 9))),none⟩] [] [1,2,7,8])
 (.cond (.tmp 8) (.seq (.region [⟨(some 4),(.p (.mov (.val (.int .i64 (.ofNat 1))))),none⟩] [] [4])
 (.ret))
 (.seq (.region [⟨(some 11),(.p (.bin .eql (.tmp 7) (.val (.int .i64 (.ofNat 2))))),none⟩,⟨(some 10),(.p (.mov (.tmp 11))),none⟩] [] [1,2,7,10])
 (.cond (.tmp 10) (.seq (.region [⟨(some 12),(.p (.mov (.tmp 1))),none⟩,⟨(some 13),(.p (.faddr 1 (.tmp 2))),none⟩,⟨(some 14),(.load1 (.tmp 13)),none⟩,⟨(some 15),(.e (.call (F 3) [(.tmp 12),(.tmp 14)])),none⟩,⟨(some 5),(.a (.new [.bool false,.int .i64 (.ofNat 0),.int .i64 (.ofNat 0),.nilslice])),none⟩,⟨none,(.e (.store 4 (.tmp 5) (.tmp 15))),none⟩] [] [2,5])
 (.seq (.seq (.region [⟨(some 16),(.p (.faddr 0 (.tmp 5))),none⟩,⟨(some 17),(.load1 (.tmp 16)),none⟩] [] [2,5,17])
 (.cond (.tmp 17) (.seq (.region [⟨(some 4),(.p (.mov (.val (.int .i64 (.ofNat 3))))),none⟩] [] [4])
 (.ret))
 (.skip)))
 (.seq (.dregion [⟨⟨(some 20),(.loadn 4 (.tmp 5)),none⟩,0,3⟩,⟨⟨(some 21),(.p (.faddr 3 (.tmp 2))),none⟩,0,3⟩,⟨⟨(some 22),(.loadn 4 (.tmp 21)),none⟩,0,3⟩,⟨⟨(some 23),(.e (.call (F 1) [(.tmp 20),(.tmp 22)])),none⟩,0,6⟩,⟨⟨(some 18),(.p (.faddr 2 (.tmp 2))),none⟩,0,6⟩,⟨⟨(some 19),(.load1 (.tmp 18)),none⟩,0,6⟩,⟨⟨(some 24),(.e (.call (F 66) [(.tmp 19),(.tmp 23)])),none⟩,4,7⟩,⟨⟨(some 25),(.e (.call (F 67) [(.tmp 24)])),none⟩,7,9⟩,⟨⟨(some 4),(.p (.mov (.tmp 25))),none⟩,8,9⟩] [4])
 (.ret))))
 (.seq (.region [⟨(some 27),(.p (.bin .eql (.tmp 7) (.val (.int .i64 (.ofNat 3))))),none⟩,⟨(some 26),(.p (.mov (.tmp 27))),none⟩] [] [1,2,7,26])
 (.cond (.tmp 26) (.seq (.region [⟨(some 28),(.p (.mov (.tmp 1))),none⟩,⟨(some 29),(.p (.faddr 1 (.tmp 2))),none⟩,⟨(some 30),(.load1 (.tmp 29)),none⟩,⟨(some 31),(.e (.call (F 3) [(.tmp 28),(.tmp 30)])),none⟩,⟨(some 32),(.p (.field1 0 (.tmp 31))),none⟩,⟨(some 33),(.e (.call (F 67) [(.tmp 32)])),none⟩,⟨(some 4),(.p (.mov (.tmp 33))),none⟩] [] [4])
 (.ret))
 (.seq (.region [⟨(some 35),(.p (.bin .eql (.tmp 7) (.val (.int .i64 (.ofNat 4))))),none⟩,⟨(some 34),(.p (.mov (.tmp 35))),none⟩] [] [1,2,7,34])
 (.cond (.tmp 34) (.seq (.region [⟨(some 36),(.loadn 8 (.tmp 2)),none⟩,⟨(some 37),(.p (.mov (.tmp 1))),none⟩,⟨(some 38),(.e (.call (F 68) [(.tmp 36),(.tmp 37),(.val (.int .i64 (.ofNat 2))),(.val (.int .i64 (.ofNat 1)))])),none⟩,⟨(some 4),(.p (.mov (.tmp 38))),none⟩] [] [4])
 (.ret))
 (.seq (.region [⟨(some 40),(.p (.bin .eql (.tmp 7) (.val (.int .i64 (.ofNat 5))))),none⟩,⟨(some 39),(.p (.mov (.tmp 40))),none⟩] [] [1,2,7,39])
 (.cond (.tmp 39) (.seq (.region [⟨(some 41),(.loadn 8 (.tmp 2)),none⟩,⟨(some 42),(.p (.mov (.tmp 1))),none⟩,⟨(some 43),(.e (.call (F 68) [(.tmp 41),(.tmp 42),(.val (.int .i64 (.ofNat 1))),(.val (.int .i64 (.ofNat 2)))])),none⟩,⟨(some 4),(.p (.mov (.tmp 43))),none⟩] [] [4])
 (.ret))
 (.seq (.region [⟨(some 45),(.p (.bin .eql (.tmp 7) (.val (.int .i64 (.ofNat 6))))),none⟩,⟨(some 44),(.p (.mov (.tmp 45))),none⟩] [] [1,2,44])
 (.cond (.tmp 44) (.seq (.region [⟨(some 46),(.p (.faddr 7 (.tmp 2))),none⟩,⟨(some 47),(.load1 (.tmp 46)),none⟩,⟨(some 48),(.p (.lenb (.tmp 47))),none⟩,⟨(some 49),(.p (.bin .gtr (.tmp 48) (.val (.int .i64 (.ofNat 0))))),none⟩] [] [1,2,49])
 (.cond (.tmp 49) (.seq (.region [⟨(some 50),(.p (.faddr 7 (.tmp 2))),none⟩,⟨(some 51),(.load1 (.tmp 50)),none⟩,⟨(some 52),(.p (.iaddr 8 (.tmp 51) (.val (.int .i64 (.ofNat 0))))),none⟩,⟨(some 53),(.loadn 8 (.tmp 52)),none⟩,⟨(some 54),(.p (.mov (.tmp 1))),none⟩,⟨(some 55),(.e (.call (F 65) [(.tmp 53),(.tmp 54)])),none⟩,⟨(some 56),(.e (.call (F 69) [(.tmp 55)])),none⟩,⟨(some 4),(.p (.mov (.tmp 56))),none⟩] [] [4])
 (.ret))
 (.skip)))
 (.skip)))))))))))))))
 (.seq (.region [⟨(some 4),(.p (.mov (.val (.int .i64 (.ofNat 3))))),none⟩] [] [4])
 (.ret)))
def M65 (F : Nat → Nat) : Fun := ⟨57,2,(K65 F).erase,[.tmp 4]⟩
theorem ok65 {F : Nat → Nat} : (K65 F).ok = true := rfl
abbrev K66 (_F : Nat → Nat) : KC := .seq (.region [⟨(some 4),(.p (.mov (.val (.bool false)))),none⟩] [] [0,1])
 (.seq (.seq (.region [⟨(some 5),(.p (.mov (.tmp 0))),none⟩] [] [1,5])
 (.block 0 (.seq (.region [⟨(some 7),(.p (.bin .eql (.tmp 5) (.val (.int .i64 (.ofNat 1))))),none⟩,⟨(some 6),(.p (.mov (.tmp 7))),none⟩] [] [1,5,6])
 (.cond (.tmp 6) (.seq (.region [⟨(some 8),(.p (.mov (.tmp 1))),none⟩,⟨(some 9),(.p (.bin .eql (.tmp 8) (.val (.int .i64 (.ofNat 0))))),none⟩,⟨(some 4),(.p (.mov (.tmp 9))),none⟩] [] [4])
 (.ret))
 (.seq (.region [⟨(some 11),(.p (.bin .eql (.tmp 5) (.val (.int .i64 (.ofNat 2))))),none⟩,⟨(some 10),(.p (.mov (.tmp 11))),none⟩] [] [1,5,10])
 (.cond (.tmp 10) (.seq (.region [⟨(some 12),(.p (.mov (.tmp 1))),none⟩,⟨(some 13),(.p (.bin .neq (.tmp 12) (.val (.int .i64 (.ofNat 0))))),none⟩,⟨(some 4),(.p (.mov (.tmp 13))),none⟩] [] [4])
 (.ret))
 (.seq (.region [⟨(some 15),(.p (.bin .eql (.tmp 5) (.val (.int .i64 (.ofNat 3))))),none⟩,⟨(some 14),(.p (.mov (.tmp 15))),none⟩] [] [1,5,14])
 (.cond (.tmp 14) (.seq (.region [⟨(some 16),(.p (.mov (.tmp 1))),none⟩,⟨(some 17),(.p (.bin .lss (.tmp 16) (.val (.int .i64 (.ofNat 0))))),none⟩,⟨(some 4),(.p (.mov (.tmp 17))),none⟩] [] [4])
 (.ret))
 (.seq (.region [⟨(some 19),(.p (.bin .eql (.tmp 5) (.val (.int .i64 (.ofNat 4))))),none⟩,⟨(some 18),(.p (.mov (.tmp 19))),none⟩] [] [1,5,18])
 (.cond (.tmp 18) (.seq (.region [⟨(some 20),(.p (.mov (.tmp 1))),none⟩,⟨(some 21),(.p (.bin .leq (.tmp 20) (.val (.int .i64 (.ofNat 0))))),none⟩,⟨(some 4),(.p (.mov (.tmp 21))),none⟩] [] [4])
 (.ret))
 (.seq (.region [⟨(some 23),(.p (.bin .eql (.tmp 5) (.val (.int .i64 (.ofNat 5))))),none⟩,⟨(some 22),(.p (.mov (.tmp 23))),none⟩] [] [1,5,22])
 (.cond (.tmp 22) (.seq (.region [⟨(some 24),(.p (.mov (.tmp 1))),none⟩,⟨(some 25),(.p (.bin .gtr (.tmp 24) (.val (.int .i64 (.ofNat 0))))),none⟩,⟨(some 4),(.p (.mov (.tmp 25))),none⟩] [] [4])
 (.ret))
 (.seq (.region [⟨(some 27),(.p (.bin .eql (.tmp 5) (.val (.int .i64 (.ofNat 6))))),none⟩,⟨(some 26),(.p (.mov (.tmp 27))),none⟩] [] [1,26])
 (.cond (.tmp 26) (.seq (.region [⟨(some 28),(.p (.mov (.tmp 1))),none⟩,⟨(some 29),(.p (.bin .geq (.tmp 28) (.val (.int .i64 (.ofNat 0))))),none⟩,⟨(some 4),(.p (.mov (.tmp 29))),none⟩] [] [4])
 (.ret))
 (.skip)))))))))))))))
 (.seq (.region [⟨(some 4),(.p (.mov (.val (.bool false)))),none⟩] [] [4])
 (.ret)))
def M66 (F : Nat → Nat) : Fun := ⟨30,2,(K66 F).erase,[.tmp 4]⟩
theorem ok66 {F : Nat → Nat} : (K66 F).ok = true := rfl
abbrev K67 (_F : Nat → Nat) : KC := .seq (.region [⟨(some 2),(.p (.mov (.val (.int .i64 (.ofNat 0))))),none⟩] [] [0])
 (.seq (.seq (.region [⟨(some 3),(.p (.mov (.tmp 0))),none⟩] [] [3])
 (.cond (.tmp 3) (.seq (.region [⟨(some 2),(.p (.mov (.val (.int .i64 (.ofNat 1))))),none⟩] [] [2])
 (.ret))
 (.skip)))
 (.seq (.region [⟨(some 2),(.p (.mov (.val (.int .i64 (.ofNat 2))))),none⟩] [] [2])
 (.ret)))
def M67 (F : Nat → Nat) : Fun := ⟨4,1,(K67 F).erase,[.tmp 2]⟩
theorem ok67 {F : Nat → Nat} : (K67 F).ok = true := rfl
abbrev K68 (F : Nat → Nat) : KC := .seq (.region [⟨(some 4),(.a (.box (.tmp 0))),none⟩,⟨(some 8),(.p (.mov (.val (.int .i64 (.ofNat 0))))),none⟩] [4] [1,2,3,4])
 (.seq (.region [⟨(some 13),(.p (.mov (.tmp 3))),none⟩,⟨(some 9),(.p (.mov (.tmp 13))),none⟩] [] [1,2,4,9])
 (.seq (.seq (.region [⟨(some 14),(.p (.faddr 7 (.tmp 4))),none⟩,⟨(some 15),(.load1 (.tmp 14)),none⟩,⟨(some 16),(.p (.lenb (.tmp 15))),none⟩,⟨(some 17),(.p (.mov (.val (.int .i64 (.ofNat 0))))),none⟩] [] [1,2,9,15,16,17])
 (.block 0 (.loop (.seq (.region [⟨(some 18),(.p (.bin .lss (.tmp 17) (.tmp 16))),none⟩] [] [1,2,9,15,16,17,18])
 (.seq (.cond (.tmp 18) (.skip)
 (.exit 0))
 (.seq (.block 1 (.seq (.region [⟨(some 19),(.p (.iaddr 8 (.tmp 15) (.tmp 17))),none⟩,⟨(some 20),(.loadn 8 (.tmp 19)),none⟩,⟨(some 11),(.a (.new [.int .i64 (.ofNat 0),.int .i64 (.ofNat 0),.int .i64 (.ofNat 0),.bool false,.int .i64 (.ofNat 0),.int .i64 (.ofNat 0),.nilslice,.nilslice])),none⟩,⟨none,(.e (.store 8 (.tmp 11) (.tmp 20))),none⟩] [] [1,2,9,11,15,16,17])
 (.seq (.region [⟨(some 21),(.loadn 8 (.tmp 11)),none⟩,⟨(some 22),(.p (.mov (.tmp 1))),none⟩,⟨(some 23),(.e (.call (F 65) [(.tmp 21),(.tmp 22)])),none⟩,⟨(some 12),(.p (.mov (.tmp 23))),none⟩] [] [1,2,9,12,15,16,17])
 (.seq (.region [⟨(some 24),(.p (.mov (.tmp 12))),none⟩] [] [1,2,9,15,16,17,24])
 (.block 2 (.seq (.region [⟨(some 26),(.p (.mov (.tmp 2))),none⟩,⟨(some 27),(.p (.bin .eql (.tmp 24) (.tmp 26))),none⟩,⟨(some 25),(.p (.mov (.tmp 27))),none⟩] [] [1,2,9,15,16,17,24,25])
 (.cond (.tmp 25) (.seq (.region [⟨(some 28),(.p (.mov (.tmp 2))),none⟩,⟨(some 8),(.p (.mov (.tmp 28))),none⟩] [] [8])
 (.ret))
 (.seq (.region [⟨(some 30),(.p (.bin .eql (.tmp 24) (.val (.int .i64 (.ofNat 3))))),none⟩,⟨(some 29),(.p (.mov (.tmp 30))),none⟩] [] [1,2,9,15,16,17,29])
 (.cond (.tmp 29) (.region [⟨(some 9),(.p (.mov (.val (.int .i64 (.ofNat 3))))),none⟩] [] [1,2,9,15,16,17])
 (.skip))))))))))
 (.region [⟨(some 31),(.p (.bin .add (.tmp 17) (.val (.int .i64 (.ofNat 1))))),none⟩,⟨(some 17),(.p (.mov (.tmp 31))),none⟩] [] [1,2,9,15,16,17])))))))
 (.seq (.region [⟨(some 32),(.p (.mov (.tmp 9))),none⟩,⟨(some 8),(.p (.mov (.tmp 32))),none⟩] [] [8])
 (.ret))))
def M68 (F : Nat → Nat) : Fun := ⟨33,4,(K68 F).erase,[.tmp 8]⟩
theorem ok68 {F : Nat → Nat} : (K68 F).ok = true := rfl
abbrev K69 (_F : Nat → Nat) : KC := .seq (.region [⟨(some 2),(.p (.mov (.val (.int .i64 (.ofNat 0))))),none⟩] [] [0])
 (.seq (.seq (.region [⟨(some 3),(.p (.mov (.tmp 0))),none⟩] [] [3])
 (.block 0 (.seq (.region [⟨(some 5),(.p (.bin .eql (.tmp 3) (.val (.int .i64 (.ofNat 1))))),none⟩,⟨(some 4),(.p (.mov (.tmp 5))),none⟩] [] [3,4])
 (.cond (.tmp 4) (.seq (.region [⟨(some 2),(.p (.mov (.val (.int .i64 (.ofNat 2))))),none⟩] [] [2])
 (.ret))
 (.seq (.region [⟨(some 7),(.p (.bin .eql (.tmp 3) (.val (.int .i64 (.ofNat 2))))),none⟩,⟨(some 6),(.p (.mov (.tmp 7))),none⟩] [] [6])
 (.cond (.tmp 6) (.seq (.region [⟨(some 2),(.p (.mov (.val (.int .i64 (.ofNat 1))))),none⟩] [] [2])
 (.ret))
 (.skip)))))))
 (.seq (.region [⟨(some 2),(.p (.mov (.val (.int .i64 (.ofNat 3))))),none⟩] [] [2])
 (.ret)))
def M69 (F : Nat → Nat) : Fun := ⟨8,1,(K69 F).erase,[.tmp 2]⟩
theorem ok69 {F : Nat → Nat} : (K69 F).ok = true := rfl
end Go.Lib
end

section
namespace Go.Lib
open Go.Vm Go.Dv
set_option maxRecDepth 100000
end Go.Lib
end

section
namespace Go.Lib
open Go.Vm Go.Dv
set_option maxRecDepth 100000
abbrev K53 (F : Nat → Nat) : KC := .seq (.region [⟨(some 2),(.p (.mov (.val (.nilslice)))),none⟩] [] [0])
 (.seq (.region [⟨(some 3),(.p (.mov (.val (.nilslice)))),none⟩] [] [0,3])
 (.seq (.seq (.region [⟨(some 4),(.p (.mov (.val (.int .i64 (.ofNat 0))))),none⟩] [] [0,3,4])
 (.block 0 (.loop (.seq (.seq (.region [⟨(some 6),(.p (.mov (.tmp 4))),none⟩,⟨(some 7),(.p (.mov (.tmp 0))),none⟩,⟨(some 8),(.p (.lenb (.tmp 7))),none⟩,⟨(some 9),(.p (.bin .lss (.tmp 6) (.tmp 8))),none⟩] [] [0,3,4,9])
 (.cond (.tmp 9) (.skip)
 (.exit 0)))
 (.seq (.block 1 (.seq (.region [⟨(some 12),(.p (.mov (.tmp 3))),none⟩,⟨(some 13),(.p (.lenb (.tmp 12))),none⟩,⟨(some 5),(.p (.mov (.tmp 13))),none⟩] [] [0,3,4,5])
 (.seq (.block 2 (.loop (.seq (.seq (.dregion [⟨⟨(some 14),(.p (.mov (.tmp 5))),none⟩,0,12⟩,⟨⟨(some 15),(.p (.bin .gtr (.tmp 14) (.val (.int .i64 (.ofNat 0))))),none⟩,0,12⟩,⟨⟨(some 16),(.p (.mov (.tmp 15))),none⟩,0,12⟩,⟨⟨(some 17),(.p (.mov (.tmp 3))),(some (16,true))⟩,0,12⟩,⟨⟨(some 18),(.p (.mov (.tmp 5))),(some (16,true))⟩,0,12⟩,⟨⟨(some 19),(.p (.bin .sub (.tmp 18) (.val (.int .i64 (.ofNat 1))))),(some (16,true))⟩,0,12⟩,⟨⟨(some 20),(.p (.iaddr 1 (.tmp 17) (.tmp 19))),(some (16,true))⟩,0,12⟩,⟨⟨(some 21),(.load1 (.tmp 20)),(some (16,true))⟩,0,12⟩,⟨⟨(some 22),(.p (.mov (.tmp 0))),(some (16,true))⟩,0,12⟩,⟨⟨(some 23),(.p (.mov (.tmp 4))),(some (16,true))⟩,0,12⟩,⟨⟨(some 24),(.p (.iaddr 1 (.tmp 22) (.tmp 23))),(some (16,true))⟩,0,12⟩,⟨⟨(some 25),(.load1 (.tmp 24)),(some (16,true))⟩,0,12⟩,⟨⟨(some 26),(.e (.call (F 47) [(.tmp 21),(.tmp 25)])),(some (16,true))⟩,0,15⟩,⟨⟨(some 27),(.p (.bin .gtr (.tmp 26) (.val (.int .i64 (.ofNat 0))))),(some (16,true))⟩,13,15⟩,⟨⟨(some 28),(.p (.pick (.tmp 16) (.tmp 27) (.val (.bool false)))),none⟩,13,15⟩] [0,3,4,5,28])
 (.cond (.tmp 28) (.skip)
 (.exit 2)))
 (.block 3 (.region [⟨(some 29),(.p (.mov (.tmp 5))),none⟩,⟨(some 30),(.p (.bin .sub (.tmp 29) (.val (.int .i64 (.ofNat 1))))),none⟩,⟨(some 5),(.p (.mov (.tmp 30))),none⟩] [] [0,3,4,5])))))
 (.dregion [⟨⟨(some 31),(.a (.bslice [] 1 0 [])),none⟩,0,4⟩,⟨⟨(some 32),(.p (.mov (.tmp 3))),none⟩,0,4⟩,⟨⟨(some 33),(.p (.mov (.tmp 5))),none⟩,0,4⟩,⟨⟨(some 34),(.p (.slc 1 (.tmp 32) none (some (.tmp 33)) none)),none⟩,0,4⟩,⟨⟨(some 35),(.e (.append 1 24 (.tmp 31) (.tmp 34))),none⟩,0,10⟩,⟨⟨(some 36),(.p (.mov (.tmp 0))),none⟩,0,10⟩,⟨⟨(some 37),(.p (.mov (.tmp 4))),none⟩,0,10⟩,⟨⟨(some 38),(.p (.iaddr 1 (.tmp 36) (.tmp 37))),none⟩,0,10⟩,⟨⟨(some 39),(.load1 (.tmp 38)),none⟩,0,10⟩,⟨⟨(some 40),(.a (.bslice [.nilslice] 1 1 [(0,1,(.tmp 39))])),none⟩,0,10⟩,⟨⟨(some 41),(.e (.append 1 24 (.tmp 35) (.tmp 40))),none⟩,5,14⟩,⟨⟨(some 42),(.p (.mov (.tmp 3))),none⟩,0,14⟩,⟨⟨(some 43),(.p (.mov (.tmp 5))),none⟩,0,14⟩,⟨⟨(some 44),(.p (.slc 1 (.tmp 42) (some (.tmp 43)) none none)),none⟩,0,14⟩,⟨⟨(some 45),(.e (.append 1 24 (.tmp 41) (.tmp 44))),none⟩,11,16⟩,⟨⟨(some 3),(.p (.mov (.tmp 45))),none⟩,15,16⟩] [0,3,4]))))
 (.region [⟨(some 10),(.p (.mov (.tmp 4))),none⟩,⟨(some 11),(.p (.bin .add (.tmp 10) (.val (.int .i64 (.ofNat 1))))),none⟩,⟨(some 4),(.p (.mov (.tmp 11))),none⟩] [] [0,3,4]))))))
 (.seq (.region [⟨(some 46),(.p (.mov (.tmp 3))),none⟩,⟨(some 2),(.p (.mov (.tmp 46))),none⟩] [] [2])
 (.ret))))
def M53 (F : Nat → Nat) : Fun := ⟨47,1,(K53 F).erase,[.tmp 2]⟩
abbrev K54 (F : Nat → Nat) : KC := .seq (.region [⟨(some 4),(.p (.mov (.val (.nilslice)))),none⟩] [] [0,1])
 (.seq (.region [⟨(some 5),(.p (.mov (.val (.nilslice)))),none⟩] [] [0,1,5])
 (.seq (.seq (.region [⟨(some 6),(.p (.mov (.val (.int .i64 (.ofNat 0))))),none⟩] [] [0,1,5,6])
 (.block 0 (.loop (.seq (.seq (.region [⟨(some 9),(.p (.mov (.tmp 6))),none⟩,⟨(some 10),(.p (.mov (.tmp 0))),none⟩,⟨(some 11),(.p (.lenb (.tmp 10))),none⟩,⟨(some 12),(.p (.bin .lss (.tmp 9) (.tmp 11))),none⟩] [] [0,1,5,6,12])
 (.cond (.tmp 12) (.skip)
 (.exit 0)))
 (.seq (.block 1 (.seq (.region [⟨(some 7),(.p (.mov (.val (.nilslice)))),none⟩] [] [0,1,5,6,7])
 (.seq (.seq (.region [⟨(some 8),(.p (.mov (.val (.int .i64 (.ofNat 0))))),none⟩] [] [0,1,5,6,7,8])
 (.block 2 (.loop (.seq (.seq (.region [⟨(some 15),(.p (.mov (.tmp 8))),none⟩,⟨(some 16),(.p (.mov (.tmp 1))),none⟩,⟨(some 17),(.p (.lenb (.tmp 16))),none⟩,⟨(some 18),(.p (.bin .lss (.tmp 15) (.tmp 17))),none⟩] [] [0,1,5,6,7,8,18])
 (.cond (.tmp 18) (.skip)
 (.exit 2)))
 (.seq (.block 3 (.dregion [⟨⟨(some 21),(.p (.mov (.tmp 7))),none⟩,0,12⟩,⟨⟨(some 22),(.p (.mov (.tmp 0))),none⟩,0,12⟩,⟨⟨(some 23),(.p (.mov (.tmp 6))),none⟩,0,12⟩,⟨⟨(some 24),(.p (.iaddr 1 (.tmp 22) (.tmp 23))),none⟩,0,12⟩,⟨⟨(some 25),(.load1 (.tmp 24)),none⟩,0,12⟩,⟨⟨(some 26),(.p (.mov (.tmp 1))),none⟩,0,12⟩,⟨⟨(some 27),(.p (.mov (.tmp 8))),none⟩,0,12⟩,⟨⟨(some 28),(.p (.iaddr 1 (.tmp 26) (.tmp 27))),none⟩,0,12⟩,⟨⟨(some 29),(.load1 (.tmp 28)),none⟩,0,12⟩,⟨⟨(some 30),(.p (.iaddr 4 (.tmp 25) (.tmp 29))),none⟩,0,12⟩,⟨⟨(some 31),(.loadn 4 (.tmp 30)),none⟩,0,12⟩,⟨⟨(some 32),(.a (.bslice [.bool false,.int .i64 (.ofNat 0),.int .i64 (.ofNat 0),.nilslice] 4 1 [(0,4,(.tmp 31))])),none⟩,0,12⟩,⟨⟨(some 33),(.e (.append 4 48 (.tmp 21) (.tmp 32))),none⟩,0,14⟩,⟨⟨(some 7),(.p (.mov (.tmp 33))),none⟩,13,14⟩] [0,1,5,6,7,8]))
 (.region [⟨(some 19),(.p (.mov (.tmp 8))),none⟩,⟨(some 20),(.p (.bin .add (.tmp 19) (.val (.int .i64 (.ofNat 1))))),none⟩,⟨(some 8),(.p (.mov (.tmp 20))),none⟩] [] [0,1,5,6,7,8]))))))
 (.region [⟨(some 34),(.p (.mov (.tmp 5))),none⟩,⟨(some 35),(.p (.mov (.tmp 7))),none⟩,⟨(some 36),(.a (.bslice [.nilslice] 1 1 [(0,1,(.tmp 35))])),none⟩,⟨(some 37),(.e (.append 1 24 (.tmp 34) (.tmp 36))),none⟩,⟨(some 5),(.p (.mov (.tmp 37))),none⟩] [36] [0,1,5,6]))))
 (.region [⟨(some 13),(.p (.mov (.tmp 6))),none⟩,⟨(some 14),(.p (.bin .add (.tmp 13) (.val (.int .i64 (.ofNat 1))))),none⟩,⟨(some 6),(.p (.mov (.tmp 14))),none⟩] [] [0,1,5,6]))))))
 (.seq (.region [⟨(some 38),(.p (.mov (.tmp 5))),none⟩,⟨(some 39),(.e (.call (F 53) [(.tmp 38)])),none⟩,⟨(some 4),(.p (.mov (.tmp 39))),none⟩] [] [4])
 (.ret))))
def M54 (F : Nat → Nat) : Fun := ⟨40,2,(K54 F).erase,[.tmp 4]⟩
abbrev K55 (F : Nat → Nat) : KC := .seq (.region [⟨(some 6),(.p (.mov (.val (.nilslice)))),none⟩,⟨(some 7),(.p (.mov (.val (.bool false)))),none⟩] [] [0,1,2])
 (.seq (.seq (.region [⟨(some 16),(.p (.mov (.tmp 1))),none⟩,⟨(some 17),(.p (.bin .lss (.tmp 16) (.val (.int .i64 (.ofNat 0))))),none⟩] [] [0,1,2,17])
 (.cond (.tmp 17) (.seq (.region [⟨(some 19),(.p (.mov (.tmp 0))),none⟩,⟨(some 20),(.p (.mov (.tmp 2))),none⟩,⟨(some 21),(.e (.call (F 57) [(.tmp 19),(.tmp 20)])),none⟩,⟨(some 18),(.p (.mov (.tmp 21))),none⟩,⟨(some 22),(.p (.ext (.tmp 18) 0)),none⟩,⟨(some 23),(.p (.ext (.tmp 18) 1)),none⟩,⟨(some 8),(.p (.mov (.tmp 22))),none⟩,⟨(some 9),(.p (.mov (.tmp 23))),none⟩] [] [8,9])
 (.seq (.seq (.region [⟨(some 24),(.p (.mov (.tmp 9))),none⟩,⟨(some 25),(.p (.not (.tmp 24))),none⟩] [] [8,25])
 (.cond (.tmp 25) (.seq (.region [⟨(some 6),(.p (.mov (.val (.nilslice)))),none⟩,⟨(some 7),(.p (.mov (.val (.bool false)))),none⟩] [] [6,7])
 (.ret))
 (.skip)))
 (.seq (.region [⟨(some 26),(.p (.mov (.tmp 8))),none⟩,⟨(some 27),(.a (.bslice [.nilslice] 1 1 [(0,1,(.tmp 26))])),none⟩,⟨(some 6),(.p (.mov (.tmp 27))),none⟩,⟨(some 7),(.p (.mov (.val (.bool true)))),none⟩] [27] [6,7])
 (.ret))))
 (.skip)))
 (.seq (.region [⟨(some 10),(.p (.mov (.val (.nilslice)))),none⟩] [] [0,1,2,10])
 (.seq (.region [⟨(some 28),(.p (.mov (.tmp 0))),none⟩,⟨(some 29),(.p (.mov (.tmp 1))),none⟩,⟨(some 30),(.e (.call (F 58) [(.tmp 28),(.tmp 29)])),none⟩,⟨(some 31),(.e (.call (F 53) [(.tmp 30)])),none⟩,⟨(some 0),(.p (.mov (.tmp 31))),none⟩] [] [0,2,10])
 (.seq (.seq (.region [⟨(some 11),(.p (.mov (.val (.int .i64 (.ofNat 0))))),none⟩] [] [0,2,10,11])
 (.block 0 (.loop (.seq (.seq (.region [⟨(some 32),(.p (.mov (.tmp 11))),none⟩,⟨(some 33),(.p (.mov (.tmp 0))),none⟩,⟨(some 34),(.p (.lenb (.tmp 33))),none⟩,⟨(some 35),(.p (.bin .lss (.tmp 32) (.tmp 34))),none⟩] [] [0,2,10,11,35])
 (.cond (.tmp 35) (.skip)
 (.exit 0)))
 (.block 1 (.seq (.region [⟨(some 36),(.p (.mov (.tmp 11))),none⟩,⟨(some 12),(.p (.mov (.tmp 36))),none⟩] [] [0,2,10,11,12])
 (.seq (.region [⟨(some 13),(.p (.mov (.val (.nilslice)))),none⟩] [] [0,2,10,11,12,13])
 (.seq (.block 2 (.loop (.seq (.seq (.dregion [⟨⟨(some 37),(.p (.mov (.tmp 12))),none⟩,0,17⟩,⟨⟨(some 38),(.p (.mov (.tmp 0))),none⟩,0,17⟩,⟨⟨(some 39),(.p (.lenb (.tmp 38))),none⟩,0,17⟩,⟨⟨(some 40),(.p (.bin .lss (.tmp 37) (.tmp 39))),none⟩,0,17⟩,⟨⟨(some 41),(.p (.mov (.tmp 40))),none⟩,0,17⟩,⟨⟨(some 42),(.p (.mov (.tmp 0))),(some (41,true))⟩,0,17⟩,⟨⟨(some 43),(.p (.mov (.tmp 12))),(some (41,true))⟩,0,17⟩,⟨⟨(some 44),(.p (.iaddr 1 (.tmp 42) (.tmp 43))),(some (41,true))⟩,0,17⟩,⟨⟨(some 45),(.load1 (.tmp 44)),(some (41,true))⟩,0,17⟩,⟨⟨(some 46),(.p (.iaddr 4 (.tmp 45) (.val (.int .i64 (.ofNat 0))))),(some (41,true))⟩,0,17⟩,⟨⟨(some 47),(.loadn 4 (.tmp 46)),(some (41,true))⟩,0,17⟩,⟨⟨(some 48),(.p (.mov (.tmp 0))),(some (41,true))⟩,0,17⟩,⟨⟨(some 49),(.p (.mov (.tmp 11))),(some (41,true))⟩,0,17⟩,⟨⟨(some 50),(.p (.iaddr 1 (.tmp 48) (.tmp 49))),(some (41,true))⟩,0,17⟩,⟨⟨(some 51),(.load1 (.tmp 50)),(some (41,true))⟩,0,17⟩,⟨⟨(some 52),(.p (.iaddr 4 (.tmp 51) (.val (.int .i64 (.ofNat 0))))),(some (41,true))⟩,0,17⟩,⟨⟨(some 53),(.loadn 4 (.tmp 52)),(some (41,true))⟩,0,17⟩,⟨⟨(some 54),(.e (.call (F 50) [(.tmp 47),(.tmp 53)])),(some (41,true))⟩,0,19⟩,⟨⟨(some 55),(.p (.pick (.tmp 41) (.tmp 54) (.val (.bool false)))),none⟩,18,19⟩] [0,2,10,11,12,13,55])
 (.cond (.tmp 55) (.skip)
 (.exit 2)))
 (.block 3 (.seq (.region [⟨(some 56),(.p (.mov (.tmp 13))),none⟩,⟨(some 57),(.p (.mov (.tmp 0))),none⟩,⟨(some 58),(.p (.mov (.tmp 12))),none⟩,⟨(some 59),(.p (.iaddr 1 (.tmp 57) (.tmp 58))),none⟩,⟨(some 60),(.load1 (.tmp 59)),none⟩,⟨(some 61),(.p (.slc 4 (.tmp 60) (some (.val (.int .i64 (.ofNat 1)))) none none)),none⟩,⟨(some 62),(.a (.bslice [.nilslice] 1 1 [(0,1,(.tmp 61))])),none⟩,⟨(some 63),(.e (.append 1 24 (.tmp 56) (.tmp 62))),none⟩,⟨(some 13),(.p (.mov (.tmp 63))),none⟩] [62] [0,2,10,11,12,13])
 (.region [⟨(some 64),(.p (.mov (.tmp 12))),none⟩,⟨(some 65),(.p (.bin .add (.tmp 64) (.val (.int .i64 (.ofNat 1))))),none⟩,⟨(some 12),(.p (.mov (.tmp 65))),none⟩] [] [0,2,10,11,12,13]))))))
 (.seq (.region [⟨(some 67),(.p (.mov (.tmp 13))),none⟩,⟨(some 68),(.p (.mov (.tmp 2))),none⟩,⟨(some 69),(.e (.call (F 57) [(.tmp 67),(.tmp 68)])),none⟩,⟨(some 66),(.p (.mov (.tmp 69))),none⟩,⟨(some 70),(.p (.ext (.tmp 66) 0)),none⟩,⟨(some 71),(.p (.ext (.tmp 66) 1)),none⟩,⟨(some 14),(.p (.mov (.tmp 70))),none⟩,⟨(some 15),(.p (.mov (.tmp 71))),none⟩] [] [0,2,10,11,12,14,15])
 (.seq (.seq (.region [⟨(some 72),(.p (.mov (.tmp 15))),none⟩,⟨(some 73),(.p (.not (.tmp 72))),none⟩] [] [0,2,10,11,12,14,73])
 (.cond (.tmp 73) (.seq (.region [⟨(some 6),(.p (.mov (.val (.nilslice)))),none⟩,⟨(some 7),(.p (.mov (.val (.bool false)))),none⟩] [] [6,7])
 (.ret))
 (.skip)))
 (.seq (.region [⟨(some 74),(.p (.mov (.tmp 10))),none⟩,⟨(some 75),(.p (.mov (.tmp 0))),none⟩,⟨(some 76),(.p (.mov (.tmp 11))),none⟩,⟨(some 77),(.p (.iaddr 1 (.tmp 75) (.tmp 76))),none⟩,⟨(some 78),(.load1 (.tmp 77)),none⟩,⟨(some 79),(.p (.iaddr 4 (.tmp 78) (.val (.int .i64 (.ofNat 0))))),none⟩,⟨(some 80),(.loadn 4 (.tmp 79)),none⟩,⟨(some 81),(.a (.bslice [.bool false,.int .i64 (.ofNat 0),.int .i64 (.ofNat 0),.nilslice] 4 1 [(0,4,(.tmp 80))])),none⟩,⟨(some 82),(.p (.mov (.tmp 14))),none⟩,⟨(some 83),(.e (.append 4 48 (.tmp 81) (.tmp 82))),none⟩,⟨(some 84),(.a (.bslice [.nilslice] 1 1 [(0,1,(.tmp 83))])),none⟩,⟨(some 85),(.e (.append 1 24 (.tmp 74) (.tmp 84))),none⟩,⟨(some 10),(.p (.mov (.tmp 85))),none⟩] [84] [0,2,10,12])
 (.region [⟨(some 86),(.p (.mov (.tmp 12))),none⟩,⟨(some 11),(.p (.mov (.tmp 86))),none⟩] [] [0,2,10,11]))))))))))))
 (.seq (.region [⟨(some 87),(.p (.mov (.tmp 10))),none⟩,⟨(some 6),(.p (.mov (.tmp 87))),none⟩,⟨(some 7),(.p (.mov (.val (.bool true)))),none⟩] [] [6,7])
 (.ret))))))
def M55 (F : Nat → Nat) : Fun := ⟨88,3,(K55 F).erase,[.tmp 6,.tmp 7]⟩
abbrev K56 (F : Nat → Nat) : KC := .seq (.region [⟨(some 4),(.p (.mov (.val (.nilslice)))),none⟩,⟨(some 5),(.p (.mov (.val (.bool false)))),none⟩] [] [0,1])
 (.seq (.region [⟨(some 11),(.a (.bslice [] 4 0 [])),none⟩,⟨(some 12),(.p (.mov (.tmp 0))),none⟩,⟨(some 13),(.e (.append 4 48 (.tmp 11) (.tmp 12))),none⟩,⟨(some 6),(.p (.mov (.tmp 13))),none⟩] [] [1,6])
 (.seq (.seq (.region [⟨(some 7),(.p (.mov (.val (.int .i64 (.ofNat 0))))),none⟩] [] [1,6,7])
 (.block 0 (.loop (.seq (.seq (.region [⟨(some 14),(.p (.mov (.tmp 7))),none⟩,⟨(some 15),(.p (.mov (.tmp 1))),none⟩,⟨(some 16),(.p (.lenb (.tmp 15))),none⟩,⟨(some 17),(.p (.bin .lss (.tmp 14) (.tmp 16))),none⟩] [] [1,6,7,17])
 (.cond (.tmp 17) (.skip)
 (.exit 0)))
 (.seq (.block 1 (.seq (.region [⟨(some 20),(.p (.mov (.tmp 6))),none⟩,⟨(some 21),(.p (.mov (.tmp 1))),none⟩,⟨(some 22),(.p (.mov (.tmp 7))),none⟩,⟨(some 23),(.p (.iaddr 6 (.tmp 21) (.tmp 22))),none⟩,⟨(some 24),(.p (.faddr 0 (.tmp 23))),none⟩,⟨(some 25),(.load1 (.tmp 24)),none⟩,⟨(some 26),(.p (.iaddr 4 (.tmp 20) (.tmp 25))),none⟩,⟨(some 27),(.loadn 4 (.tmp 26)),none⟩,⟨(some 8),(.a (.new [.bool false,.int .i64 (.ofNat 0),.int .i64 (.ofNat 0),.nilslice])),none⟩,⟨none,(.e (.store 4 (.tmp 8) (.tmp 27))),none⟩] [] [1,6,7,8])
 (.block 2 (.seq (.region [⟨(some 29),(.p (.mov (.tmp 1))),none⟩,⟨(some 30),(.p (.mov (.tmp 7))),none⟩,⟨(some 31),(.p (.iaddr 6 (.tmp 29) (.tmp 30))),none⟩,⟨(some 32),(.p (.faddr 1 (.tmp 31))),none⟩,⟨(some 33),(.load1 (.tmp 32)),none⟩,⟨(some 34),(.p (.not (.tmp 33))),none⟩,⟨(some 28),(.p (.mov (.tmp 34))),none⟩] [] [1,6,7,8,28])
 (.cond (.tmp 28) (.dregion [⟨⟨(some 35),(.p (.mov (.tmp 6))),none⟩,0,12⟩,⟨⟨(some 36),(.p (.mov (.tmp 1))),none⟩,0,12⟩,⟨⟨(some 37),(.p (.mov (.tmp 7))),none⟩,0,12⟩,⟨⟨(some 38),(.p (.iaddr 6 (.tmp 36) (.tmp 37))),none⟩,0,12⟩,⟨⟨(some 39),(.p (.faddr 0 (.tmp 38))),none⟩,0,12⟩,⟨⟨(some 40),(.load1 (.tmp 39)),none⟩,0,12⟩,⟨⟨(some 41),(.p (.mov (.tmp 1))),none⟩,0,12⟩,⟨⟨(some 42),(.p (.mov (.tmp 7))),none⟩,0,12⟩,⟨⟨(some 43),(.p (.iaddr 6 (.tmp 41) (.tmp 42))),none⟩,0,12⟩,⟨⟨(some 44),(.p (.faddr 2 (.tmp 43))),none⟩,0,12⟩,⟨⟨(some 45),(.loadn 4 (.tmp 44)),none⟩,0,12⟩,⟨⟨(some 46),(.p (.iaddr 4 (.tmp 35) (.tmp 40))),none⟩,0,12⟩,⟨⟨none,(.e (.store 4 (.tmp 46) (.tmp 45))),none⟩,0,13⟩] [1,6,7])
 (.seq (.region [⟨(some 48),(.p (.faddr 0 (.tmp 8))),none⟩,⟨(some 49),(.load1 (.tmp 48)),none⟩,⟨(some 50),(.p (.not (.tmp 49))),none⟩,⟨(some 47),(.p (.mov (.tmp 50))),none⟩] [] [1,6,7,8,47])
 (.cond (.tmp 47) (.seq (.dregion [⟨⟨(some 52),(.loadn 4 (.tmp 8)),none⟩,0,7⟩,⟨⟨(some 53),(.p (.mov (.tmp 1))),none⟩,0,7⟩,⟨⟨(some 54),(.p (.mov (.tmp 7))),none⟩,0,7⟩,⟨⟨(some 55),(.p (.iaddr 6 (.tmp 53) (.tmp 54))),none⟩,0,7⟩,⟨⟨(some 56),(.p (.faddr 2 (.tmp 55))),none⟩,0,7⟩,⟨⟨(some 57),(.loadn 4 (.tmp 56)),none⟩,0,7⟩,⟨⟨(some 58),(.a (.bslice [.bool false,.int .i64 (.ofNat 0),.int .i64 (.ofNat 0),.nilslice,.bool false,.int .i64 (.ofNat 0),.int .i64 (.ofNat 0),.nilslice] 4 2 [(0,4,(.tmp 52)),(4,4,(.tmp 57))])),none⟩,0,7⟩,⟨⟨(some 59),(.e (.call (F 59) [(.tmp 58)])),none⟩,0,13⟩,⟨⟨(some 51),(.p (.mov (.tmp 59))),none⟩,8,13⟩,⟨⟨(some 60),(.p (.ext (.tmp 51) 0)),none⟩,8,13⟩,⟨⟨(some 61),(.p (.ext (.tmp 51) 1)),none⟩,8,13⟩,⟨⟨(some 9),(.p (.mov (.tmp 60))),none⟩,8,13⟩,⟨⟨(some 10),(.p (.mov (.tmp 61))),none⟩,8,13⟩] [1,6,7,8,9,10])
 (.seq (.seq (.region [⟨(some 62),(.p (.mov (.tmp 10))),none⟩,⟨(some 63),(.p (.not (.tmp 62))),none⟩] [] [1,6,7,8,9,63])
 (.cond (.tmp 63) (.seq (.region [⟨(some 4),(.p (.mov (.val (.nilslice)))),none⟩,⟨(some 5),(.p (.mov (.val (.bool false)))),none⟩] [] [4,5])
 (.ret))
 (.skip)))
 (.seq (.region [⟨(some 64),(.p (.mov (.tmp 9))),none⟩,⟨(some 65),(.p (.faddr 2 (.tmp 8))),none⟩,⟨none,(.e (.store 1 (.tmp 65) (.tmp 64))),none⟩] [] [1,6,7,8])
 (.dregion [⟨⟨(some 66),(.p (.mov (.tmp 6))),none⟩,0,8⟩,⟨⟨(some 67),(.p (.mov (.tmp 1))),none⟩,0,8⟩,⟨⟨(some 68),(.p (.mov (.tmp 7))),none⟩,0,8⟩,⟨⟨(some 69),(.p (.iaddr 6 (.tmp 67) (.tmp 68))),none⟩,0,8⟩,⟨⟨(some 70),(.p (.faddr 0 (.tmp 69))),none⟩,0,8⟩,⟨⟨(some 71),(.load1 (.tmp 70)),none⟩,0,8⟩,⟨⟨(some 72),(.loadn 4 (.tmp 8)),none⟩,0,8⟩,⟨⟨(some 73),(.p (.iaddr 4 (.tmp 66) (.tmp 71))),none⟩,0,8⟩,⟨⟨none,(.e (.store 4 (.tmp 73) (.tmp 72))),none⟩,0,9⟩] [1,6,7]))))
 (.skip))))))))
 (.region [⟨(some 18),(.p (.mov (.tmp 7))),none⟩,⟨(some 19),(.p (.bin .add (.tmp 18) (.val (.int .i64 (.ofNat 1))))),none⟩,⟨(some 7),(.p (.mov (.tmp 19))),none⟩] [] [1,6,7]))))))
 (.seq (.region [⟨(some 74),(.p (.mov (.tmp 6))),none⟩,⟨(some 4),(.p (.mov (.tmp 74))),none⟩,⟨(some 5),(.p (.mov (.val (.bool true)))),none⟩] [] [4,5])
 (.ret))))
def M56 (F : Nat → Nat) : Fun := ⟨75,2,(K56 F).erase,[.tmp 4,.tmp 5]⟩
abbrev K57 (F : Nat → Nat) : KC := .seq (.region [⟨(some 4),(.p (.mov (.val (.nilslice)))),none⟩,⟨(some 5),(.p (.mov (.val (.bool false)))),none⟩] [] [0,1])
 (.seq (.region [⟨(some 6),(.p (.mov (.val (.nilslice)))),none⟩] [] [0,1,6])
 (.seq (.seq (.region [⟨(some 7),(.p (.mov (.val (.int .i64 (.ofNat 0))))),none⟩] [] [0,1,6,7])
 (.block 0 (.loop (.seq (.seq (.region [⟨(some 10),(.p (.mov (.tmp 7))),none⟩,⟨(some 11),(.p (.mov (.tmp 1))),none⟩,⟨(some 12),(.p (.lenb (.tmp 11))),none⟩,⟨(some 13),(.p (.bin .lss (.tmp 10) (.tmp 12))),none⟩] [] [0,1,6,7,13])
 (.cond (.tmp 13) (.skip)
 (.exit 0)))
 (.seq (.block 1 (.seq (.region [⟨(some 17),(.p (.mov (.tmp 0))),none⟩,⟨(some 18),(.p (.mov (.tmp 1))),none⟩,⟨(some 19),(.p (.mov (.tmp 7))),none⟩,⟨(some 20),(.p (.iaddr 2 (.tmp 18) (.tmp 19))),none⟩,⟨(some 21),(.loadn 2 (.tmp 20)),none⟩,⟨(some 22),(.e (.call (F 60) [(.tmp 17),(.tmp 21)])),none⟩,⟨(some 16),(.p (.mov (.tmp 22))),none⟩,⟨(some 23),(.p (.ext (.tmp 16) 0)),none⟩,⟨(some 24),(.p (.ext (.tmp 16) 1)),none⟩,⟨(some 8),(.a (.new [.bool false,.int .i64 (.ofNat 0),.int .i64 (.ofNat 0),.nilslice])),none⟩,⟨none,(.e (.store 4 (.tmp 8) (.tmp 23))),none⟩,⟨(some 9),(.p (.mov (.tmp 24))),none⟩] [] [0,1,6,7,8,9])
 (.seq (.seq (.region [⟨(some 25),(.p (.mov (.tmp 9))),none⟩,⟨(some 26),(.p (.not (.tmp 25))),none⟩] [] [0,1,6,7,8,26])
 (.cond (.tmp 26) (.seq (.region [⟨(some 4),(.p (.mov (.val (.nilslice)))),none⟩,⟨(some 5),(.p (.mov (.val (.bool false)))),none⟩] [] [4,5])
 (.ret))
 (.skip)))
 (.region [⟨(some 27),(.p (.mov (.tmp 6))),none⟩,⟨(some 28),(.loadn 4 (.tmp 8)),none⟩,⟨(some 29),(.a (.bslice [.bool false,.int .i64 (.ofNat 0),.int .i64 (.ofNat 0),.nilslice] 4 1 [(0,4,(.tmp 28))])),none⟩,⟨(some 30),(.e (.append 4 48 (.tmp 27) (.tmp 29))),none⟩,⟨(some 6),(.p (.mov (.tmp 30))),none⟩] [29] [0,1,6,7]))))
 (.region [⟨(some 14),(.p (.mov (.tmp 7))),none⟩,⟨(some 15),(.p (.bin .add (.tmp 14) (.val (.int .i64 (.ofNat 1))))),none⟩,⟨(some 7),(.p (.mov (.tmp 15))),none⟩] [] [0,1,6,7]))))))
 (.seq (.region [⟨(some 31),(.p (.mov (.tmp 6))),none⟩,⟨(some 4),(.p (.mov (.tmp 31))),none⟩,⟨(some 5),(.p (.mov (.val (.bool true)))),none⟩] [] [4,5])
 (.ret))))
def M57 (F : Nat → Nat) : Fun := ⟨32,2,(K57 F).erase,[.tmp 4,.tmp 5]⟩
abbrev K58 (_F : Nat → Nat) : KC := .seq (.region [⟨(some 4),(.p (.mov (.val (.nilslice)))),none⟩] [] [0,1])
 (.seq (.region [⟨(some 5),(.p (.mov (.val (.nilslice)))),none⟩] [] [0,1,5])
 (.seq (.seq (.region [⟨(some 6),(.p (.mov (.val (.int .i64 (.ofNat 0))))),none⟩] [] [0,1,5,6])
 (.block 0 (.loop (.seq (.seq (.region [⟨(some 7),(.p (.mov (.tmp 6))),none⟩,⟨(some 8),(.p (.mov (.tmp 0))),none⟩,⟨(some 9),(.p (.lenb (.tmp 8))),none⟩,⟨(some 10),(.p (.bin .lss (.tmp 7) (.tmp 9))),none⟩] [] [0,1,5,6,10])
 (.cond (.tmp 10) (.skip)
 (.exit 0)))
 (.seq (.block 1 (.dregion [⟨⟨(some 14),(.p (.mov (.tmp 0))),none⟩,0,12⟩,⟨⟨(some 15),(.p (.mov (.tmp 6))),none⟩,0,12⟩,⟨⟨(some 16),(.p (.iaddr 1 (.tmp 14) (.tmp 15))),none⟩,0,12⟩,⟨⟨(some 17),(.load1 (.tmp 16)),none⟩,0,12⟩,⟨⟨(some 18),(.p (.mov (.tmp 1))),none⟩,0,12⟩,⟨⟨(some 19),(.p (.iaddr 4 (.tmp 17) (.tmp 18))),none⟩,0,12⟩,⟨⟨(some 20),(.loadn 4 (.tmp 19)),none⟩,0,12⟩,⟨⟨(some 21),(.a (.bslice [.bool false,.int .i64 (.ofNat 0),.int .i64 (.ofNat 0),.nilslice] 4 1 [(0,4,(.tmp 20))])),none⟩,0,12⟩,⟨⟨(some 22),(.p (.mov (.tmp 0))),none⟩,0,12⟩,⟨⟨(some 23),(.p (.mov (.tmp 6))),none⟩,0,12⟩,⟨⟨(some 24),(.p (.iaddr 1 (.tmp 22) (.tmp 23))),none⟩,0,12⟩,⟨⟨(some 25),(.load1 (.tmp 24)),none⟩,0,12⟩,⟨⟨(some 26),(.e (.append 4 48 (.tmp 21) (.tmp 25))),none⟩,0,15⟩,⟨⟨(some 13),(.p (.mov (.tmp 5))),none⟩,0,15⟩,⟨⟨(some 27),(.a (.bslice [.nilslice] 1 1 [(0,1,(.tmp 26))])),none⟩,13,15⟩,⟨⟨(some 28),(.e (.append 1 24 (.tmp 13) (.tmp 27))),none⟩,13,17⟩,⟨⟨(some 5),(.p (.mov (.tmp 28))),none⟩,16,17⟩] [0,1,5,6]))
 (.region [⟨(some 11),(.p (.mov (.tmp 6))),none⟩,⟨(some 12),(.p (.bin .add (.tmp 11) (.val (.int .i64 (.ofNat 1))))),none⟩,⟨(some 6),(.p (.mov (.tmp 12))),none⟩] [] [0,1,5,6]))))))
 (.seq (.region [⟨(some 29),(.p (.mov (.tmp 5))),none⟩,⟨(some 4),(.p (.mov (.tmp 29))),none⟩] [] [4])
 (.ret))))
def M58 (F : Nat → Nat) : Fun := ⟨30,2,(K58 F).erase,[.tmp 4]⟩
abbrev K59 (_F : Nat → Nat) : KC := .seq (.region [⟨(some 2),(.p (.mov (.val (.int .i64 (.ofNat 0))))),none⟩,⟨(some 3),(.p (.mov (.val (.bool false)))),none⟩] [] [0])
 (.seq (.region [⟨(some 4),(.p (.mov (.val (.int .i64 (.ofNat 0))))),none⟩,⟨(some 5),(.p (.mov (.val (.int .u64 (.ofNat 0))))),none⟩] [] [0,4,5])
 (.seq (.seq (.region [⟨(some 6),(.p (.mov (.val (.int .i64 (.ofNat 0))))),none⟩] [] [0,4,5,6])
 (.block 0 (.loop (.seq (.seq (.region [⟨(some 9),(.p (.mov (.tmp 6))),none⟩,⟨(some 10),(.p (.mov (.tmp 0))),none⟩,⟨(some 11),(.p (.lenb (.tmp 10))),none⟩,⟨(some 12),(.p (.bin .lss (.tmp 9) (.tmp 11))),none⟩] [] [0,4,5,6,12])
 (.cond (.tmp 12) (.skip)
 (.exit 0)))
 (.seq (.block 1 (.seq (.seq (.region [⟨(some 15),(.p (.mov (.tmp 0))),none⟩,⟨(some 16),(.p (.mov (.tmp 6))),none⟩,⟨(some 17),(.p (.iaddr 4 (.tmp 15) (.tmp 16))),none⟩,⟨(some 18),(.p (.faddr 0 (.tmp 17))),none⟩,⟨(some 19),(.load1 (.tmp 18)),none⟩] [] [0,4,5,6,19])
 (.cond (.tmp 19) (.exit 1)
 (.skip)))
 (.seq (.region [⟨(some 20),(.p (.mov (.tmp 0))),none⟩,⟨(some 21),(.p (.mov (.tmp 6))),none⟩,⟨(some 22),(.p (.iaddr 4 (.tmp 20) (.tmp 21))),none⟩,⟨(some 23),(.p (.faddr 2 (.tmp 22))),none⟩,⟨(some 24),(.load1 (.tmp 23)),none⟩,⟨(some 25),(.p (.conv (.int .u64) (.tmp 24))),none⟩,⟨(some 7),(.p (.mov (.tmp 25))),none⟩] [] [0,4,5,6,7])
 (.seq (.region [⟨(some 26),(.p (.mov (.tmp 5))),none⟩,⟨(some 8),(.p (.mov (.tmp 26))),none⟩] [] [0,4,5,6,7,8])
 (.seq (.region [⟨(some 27),(.p (.mov (.tmp 5))),none⟩,⟨(some 28),(.p (.mov (.tmp 7))),none⟩,⟨(some 29),(.p (.bin .add (.tmp 27) (.tmp 28))),none⟩,⟨(some 5),(.p (.mov (.tmp 29))),none⟩] [] [0,4,5,6,8])
 (.seq (.seq (.region [⟨(some 30),(.p (.mov (.tmp 5))),none⟩,⟨(some 31),(.p (.mov (.tmp 8))),none⟩,⟨(some 32),(.p (.bin .lss (.tmp 30) (.tmp 31))),none⟩] [] [0,4,5,6,32])
 (.cond (.tmp 32) (.region [⟨(some 33),(.p (.mov (.tmp 4))),none⟩,⟨(some 34),(.p (.bin .add (.tmp 33) (.val (.int .i64 (.ofNat 1))))),none⟩,⟨(some 4),(.p (.mov (.tmp 34))),none⟩] [] [0,4,5,6])
 (.skip)))
 (.seq (.region [⟨(some 35),(.p (.mov (.tmp 0))),none⟩,⟨(some 36),(.p (.mov (.tmp 6))),none⟩,⟨(some 37),(.p (.iaddr 4 (.tmp 35) (.tmp 36))),none⟩,⟨(some 38),(.p (.faddr 2 (.tmp 37))),none⟩,⟨(some 39),(.load1 (.tmp 38)),none⟩,⟨(some 40),(.p (.bin .lss (.tmp 39) (.val (.int .i64 (.ofNat 0))))),none⟩] [] [0,4,5,6,40])
 (.cond (.tmp 40) (.region [⟨(some 41),(.p (.mov (.tmp 4))),none⟩,⟨(some 42),(.p (.bin .sub (.tmp 41) (.val (.int .i64 (.ofNat 1))))),none⟩,⟨(some 4),(.p (.mov (.tmp 42))),none⟩] [] [0,4,5,6])
 (.skip)))))))))
 (.region [⟨(some 13),(.p (.mov (.tmp 6))),none⟩,⟨(some 14),(.p (.bin .add (.tmp 13) (.val (.int .i64 (.ofNat 1))))),none⟩,⟨(some 6),(.p (.mov (.tmp 14))),none⟩] [] [0,4,5,6]))))))
 (.seq (.region [⟨(some 43),(.p (.mov (.tmp 5))),none⟩,⟨(some 44),(.p (.conv (.int .i64) (.tmp 43))),none⟩,⟨(some 45),(.p (.mov (.tmp 4))),none⟩,⟨(some 46),(.p (.bin .eql (.tmp 45) (.val (.int .i64 (.ofNat 0))))),none⟩,⟨(some 47),(.p (.mov (.tmp 46))),none⟩,⟨(some 48),(.p (.mov (.tmp 5))),(some (47,true))⟩,⟨(some 49),(.p (.bin .lss (.tmp 48) (.val (.int .u64 (.ofNat 9223372036854775808))))),(some (47,true))⟩,⟨(some 50),(.p (.pick (.tmp 47) (.tmp 49) (.val (.bool false)))),none⟩,⟨(some 51),(.p (.mov (.tmp 50))),none⟩,⟨(some 52),(.p (.mov (.tmp 4))),(some (51,false))⟩,⟨(some 53),(.p (.bin .eql (.tmp 52) (.val (.int .i64 (.negSucc 0))))),(some (51,false))⟩,⟨(some 54),(.p (.mov (.tmp 53))),(some (51,false))⟩,⟨(some 55),(.p (.mov (.tmp 5))),(some (54,true))⟩,⟨(some 56),(.p (.bin .geq (.tmp 55) (.val (.int .u64 (.ofNat 9223372036854775808))))),(some (54,true))⟩,⟨(some 57),(.p (.pick (.tmp 54) (.tmp 56) (.val (.bool false)))),(some (51,false))⟩,⟨(some 58),(.p (.pick (.tmp 51) (.val (.bool true)) (.tmp 57))),none⟩,⟨(some 2),(.p (.mov (.tmp 44))),none⟩,⟨(some 3),(.p (.mov (.tmp 58))),none⟩] [] [2,3])
 (.ret))))
def M59 (F : Nat → Nat) : Fun := ⟨59,1,(K59 F).erase,[.tmp 2,.tmp 3]⟩
abbrev K60 (F : Nat → Nat) : KC := .seq (.region [⟨(some 3),(.a (.box (.tmp 1))),none⟩,⟨(some 4),(.a (.new [.bool false,.int .i64 (.ofNat 0),.int .i64 (.ofNat 0),.nilslice])),none⟩,⟨(some 5),(.p (.mov (.val (.bool false)))),none⟩] [3] [0,3,4])
 (.seq (.region [⟨(some 6),(.p (.mov (.val (.nilslice)))),none⟩] [] [0,3,4,6])
 (.seq (.region [⟨(some 14),(.p (.build [.bool false,.int .i64 (.ofNat 0),.int .i64 (.ofNat 0),.nilslice] [(0,1,(.val (.bool true)))])),none⟩,⟨(some 7),(.a (.new [.bool false,.int .i64 (.ofNat 0),.int .i64 (.ofNat 0),.nilslice])),none⟩,⟨none,(.e (.store 4 (.tmp 7) (.tmp 14))),none⟩] [] [0,3,4,6,7])
 (.seq (.seq (.region [⟨(some 8),(.p (.mov (.val (.int .i64 (.ofNat 0))))),none⟩] [] [0,3,4,6,7,8])
 (.block 0 (.loop (.seq (.seq (.region [⟨(some 15),(.p (.mov (.tmp 8))),none⟩,⟨(some 16),(.p (.mov (.tmp 0))),none⟩,⟨(some 17),(.p (.lenb (.tmp 16))),none⟩,⟨(some 18),(.p (.bin .lss (.tmp 15) (.tmp 17))),none⟩] [] [0,3,4,6,7,8,18])
 (.cond (.tmp 18) (.skip)
 (.exit 0)))
 (.seq (.block 1 (.seq (.dregion [⟨⟨(some 21),(.p (.mov (.tmp 0))),none⟩,0,9⟩,⟨⟨(some 22),(.p (.mov (.tmp 8))),none⟩,0,9⟩,⟨⟨(some 23),(.p (.iaddr 1 (.tmp 21) (.tmp 22))),none⟩,0,9⟩,⟨⟨(some 24),(.load1 (.tmp 23)),none⟩,0,9⟩,⟨⟨(some 25),(.p (.faddr 1 (.tmp 3))),none⟩,0,9⟩,⟨⟨(some 26),(.load1 (.tmp 25)),none⟩,0,9⟩,⟨⟨(some 27),(.p (.iaddr 4 (.tmp 24) (.tmp 26))),none⟩,0,9⟩,⟨⟨(some 28),(.loadn 4 (.tmp 27)),none⟩,0,9⟩,⟨⟨(some 9),(.a (.new [.bool false,.int .i64 (.ofNat 0),.int .i64 (.ofNat 0),.nilslice])),none⟩,0,9⟩,⟨⟨none,(.e (.store 4 (.tmp 9) (.tmp 28))),none⟩,0,10⟩] [0,3,4,6,7,8,9])
 (.seq (.region [⟨(some 29),(.p (.mov (.tmp 6))),none⟩,⟨(some 30),(.loadn 4 (.tmp 9)),none⟩,⟨(some 31),(.a (.bslice [.bool false,.int .i64 (.ofNat 0),.int .i64 (.ofNat 0),.nilslice] 4 1 [(0,4,(.tmp 30))])),none⟩,⟨(some 32),(.e (.append 4 48 (.tmp 29) (.tmp 31))),none⟩,⟨(some 6),(.p (.mov (.tmp 32))),none⟩] [31] [0,3,4,6,7,8,9])
 (.region [⟨(some 33),(.p (.faddr 1 (.tmp 9))),none⟩,⟨(some 34),(.load1 (.tmp 33)),none⟩,⟨(some 35),(.p (.faddr 1 (.tmp 7))),none⟩,⟨none,(.e (.store 1 (.tmp 35) (.tmp 34))),none⟩] [] [0,3,4,6,7,8]))))
 (.region [⟨(some 19),(.p (.mov (.tmp 8))),none⟩,⟨(some 20),(.p (.bin .add (.tmp 19) (.val (.int .i64 (.ofNat 1))))),none⟩,⟨(some 8),(.p (.mov (.tmp 20))),none⟩] [] [0,3,4,6,7,8]))))))
 (.seq (.seq (.region [⟨(some 36),(.p (.faddr 0 (.tmp 3))),none⟩,⟨(some 37),(.load1 (.tmp 36)),none⟩] [] [0,3,4,6,7,37])
 (.block 2 (.seq (.region [⟨(some 39),(.p (.bin .eql (.tmp 37) (.val (.int .i64 (.ofNat 1))))),none⟩,⟨(some 38),(.p (.mov (.tmp 39))),none⟩] [] [0,3,4,6,7,37,38])
 (.cond (.tmp 38) (.seq (.region [⟨(some 40),(.p (.mov (.tmp 0))),none⟩,⟨(some 41),(.p (.lenb (.tmp 40))),none⟩,⟨(some 42),(.p (.build [.bool false,.int .i64 (.ofNat 0),.int .i64 (.ofNat 0),.nilslice] [(1,1,(.val (.int .i64 (.ofNat 1)))),(2,1,(.tmp 41))])),none⟩,⟨none,(.e (.store 4 (.tmp 4) (.tmp 42))),none⟩,⟨(some 5),(.p (.mov (.val (.bool true)))),none⟩] [] [4,5])
 (.ret))
 (.seq (.region [⟨(some 44),(.p (.bin .eql (.tmp 37) (.val (.int .i64 (.ofNat 2))))),none⟩,⟨(some 43),(.p (.mov (.tmp 44))),none⟩] [] [3,4,6,7,43])
 (.cond (.tmp 43) (.seq (.region [⟨(some 46),(.p (.mov (.tmp 6))),none⟩,⟨(some 47),(.e (.call (F 59) [(.tmp 46)])),none⟩,⟨(some 45),(.p (.mov (.tmp 47))),none⟩,⟨(some 48),(.p (.ext (.tmp 45) 0)),none⟩,⟨(some 49),(.p (.ext (.tmp 45) 1)),none⟩,⟨(some 10),(.p (.mov (.tmp 48))),none⟩,⟨(some 11),(.p (.mov (.tmp 49))),none⟩] [] [4,10,11])
 (.seq (.region [⟨(some 50),(.p (.mov (.tmp 10))),none⟩,⟨(some 51),(.p (.build [.bool false,.int .i64 (.ofNat 0),.int .i64 (.ofNat 0),.nilslice] [(1,1,(.val (.int .i64 (.ofNat 1)))),(2,1,(.tmp 50))])),none⟩,⟨(some 52),(.p (.mov (.tmp 11))),none⟩,⟨none,(.e (.store 4 (.tmp 4) (.tmp 51))),none⟩,⟨(some 5),(.p (.mov (.tmp 52))),none⟩] [] [4,5])
 (.ret)))
 (.skip)))))))
 (.seq (.seq (.region [⟨(some 12),(.p (.mov (.val (.int .i64 (.ofNat 0))))),none⟩] [] [3,4,6,7,12])
 (.block 3 (.loop (.seq (.seq (.region [⟨(some 53),(.p (.mov (.tmp 12))),none⟩,⟨(some 54),(.p (.mov (.tmp 6))),none⟩,⟨(some 55),(.p (.lenb (.tmp 54))),none⟩,⟨(some 56),(.p (.bin .lss (.tmp 53) (.tmp 55))),none⟩] [] [3,4,6,7,12,56])
 (.cond (.tmp 56) (.skip)
 (.exit 3)))
 (.seq (.block 4 (.seq (.dregion [⟨⟨(some 59),(.p (.mov (.tmp 6))),none⟩,0,5⟩,⟨⟨(some 60),(.p (.mov (.tmp 12))),none⟩,0,5⟩,⟨⟨(some 61),(.p (.iaddr 4 (.tmp 59) (.tmp 60))),none⟩,0,5⟩,⟨⟨(some 62),(.loadn 4 (.tmp 61)),none⟩,0,5⟩,⟨⟨(some 63),(.loadn 4 (.tmp 7)),none⟩,0,5⟩,⟨⟨(some 64),(.e (.call (F 46) [(.tmp 62),(.tmp 63)])),none⟩,0,7⟩,⟨⟨(some 13),(.p (.mov (.tmp 64))),none⟩,6,7⟩] [3,4,6,7,12,13])
 (.seq (.region [⟨(some 65),(.p (.mov (.tmp 6))),none⟩,⟨(some 66),(.p (.mov (.tmp 12))),none⟩,⟨(some 67),(.p (.iaddr 4 (.tmp 65) (.tmp 66))),none⟩,⟨(some 68),(.p (.faddr 0 (.tmp 67))),none⟩,⟨(some 69),(.load1 (.tmp 68)),none⟩,⟨(some 70),(.p (.not (.tmp 69))),none⟩,⟨(some 71),(.p (.mov (.tmp 70))),none⟩,⟨(some 72),(.p (.faddr 0 (.tmp 7))),(some (71,true))⟩,⟨(some 73),(.load1 (.tmp 72)),(some (71,true))⟩,⟨(some 74),(.p (.mov (.tmp 73))),(some (71,true))⟩,⟨(some 75),(.p (.faddr 0 (.tmp 3))),(some (74,false))⟩,⟨(some 76),(.load1 (.tmp 75)),(some (74,false))⟩,⟨(some 77),(.p (.bin .eql (.tmp 76) (.val (.int .i64 (.ofNat 3))))),(some (74,false))⟩,⟨(some 78),(.p (.mov (.tmp 77))),(some (74,false))⟩,⟨(some 79),(.p (.mov (.tmp 13))),(some (78,true))⟩,⟨(some 80),(.p (.bin .lss (.tmp 79) (.val (.int .i64 (.ofNat 0))))),(some (78,true))⟩,⟨(some 81),(.p (.pick (.tmp 78) (.tmp 80) (.val (.bool false)))),(some (74,false))⟩,⟨(some 82),(.p (.pick (.tmp 74) (.val (.bool true)) (.tmp 81))),(some (71,true))⟩,⟨(some 83),(.p (.mov (.tmp 82))),(some (71,true))⟩,⟨(some 84),(.p (.faddr 0 (.tmp 3))),(some (83,false))⟩,⟨(some 85),(.load1 (.tmp 84)),(some (83,false))⟩,⟨(some 86),(.p (.bin .eql (.tmp 85) (.val (.int .i64 (.ofNat 4))))),(some (83,false))⟩,⟨(some 87),(.p (.mov (.tmp 86))),(some (83,false))⟩,⟨(some 88),(.p (.mov (.tmp 13))),(some (87,true))⟩,⟨(some 89),(.p (.bin .gtr (.tmp 88) (.val (.int .i64 (.ofNat 0))))),(some (87,true))⟩,⟨(some 90),(.p (.pick (.tmp 87) (.tmp 89) (.val (.bool false)))),(some (83,false))⟩,⟨(some 91),(.p (.pick (.tmp 83) (.val (.bool true)) (.tmp 90))),(some (71,true))⟩,⟨(some 92),(.p (.pick (.tmp 71) (.tmp 91) (.val (.bool false)))),none⟩] [] [3,4,6,7,12,92])
 (.cond (.tmp 92) (.region [⟨(some 93),(.p (.mov (.tmp 6))),none⟩,⟨(some 94),(.p (.mov (.tmp 12))),none⟩,⟨(some 95),(.p (.iaddr 4 (.tmp 93) (.tmp 94))),none⟩,⟨(some 96),(.loadn 4 (.tmp 95)),none⟩,⟨none,(.e (.store 4 (.tmp 7) (.tmp 96))),none⟩] [] [3,4,6,7,12])
 (.skip)))))
 (.region [⟨(some 57),(.p (.mov (.tmp 12))),none⟩,⟨(some 58),(.p (.bin .add (.tmp 57) (.val (.int .i64 (.ofNat 1))))),none⟩,⟨(some 12),(.p (.mov (.tmp 58))),none⟩] [] [3,4,6,7,12]))))))
 (.seq (.region [⟨(some 97),(.loadn 4 (.tmp 7)),none⟩,⟨none,(.e (.store 4 (.tmp 4) (.tmp 97))),none⟩,⟨(some 5),(.p (.mov (.val (.bool true)))),none⟩] [] [4,5])
 (.ret)))))))
def M60 (F : Nat → Nat) : Fun := ⟨98,2,(K60 F).erase,[.celln 4 4,.tmp 5]⟩
end Go.Lib
end

section
namespace Go.Lib
open Go.Vm Go.Dv
set_option maxRecDepth 100000
abbrev K46 (_F : Nat → Nat) : KC := .seq (.region [⟨(some 2),(.a (.box (.tmp 0))),none⟩,⟨(some 3),(.a (.box (.tmp 1))),none⟩,⟨(some 4),(.p (.mov (.val (.int .i64 (.ofNat 0))))),none⟩] [2,3] [2,3])
 (.seq (.block 0 (.seq (.region [⟨(some 6),(.p (.faddr 0 (.tmp 2))),none⟩,⟨(some 7),(.load1 (.tmp 6)),none⟩,⟨(some 8),(.p (.mov (.tmp 7))),none⟩,⟨(some 9),(.p (.faddr 0 (.tmp 3))),(some (8,false))⟩,⟨(some 10),(.load1 (.tmp 9)),(some (8,false))⟩,⟨(some 11),(.p (.pick (.tmp 8) (.val (.bool true)) (.tmp 10))),none⟩,⟨(some 5),(.p (.mov (.tmp 11))),none⟩] [] [2,3,5])
 (.cond (.tmp 5) (.seq (.seq (.region [⟨(some 12),(.p (.faddr 0 (.tmp 2))),none⟩,⟨(some 13),(.load1 (.tmp 12)),none⟩,⟨(some 14),(.p (.faddr 0 (.tmp 3))),none⟩,⟨(some 15),(.load1 (.tmp 14)),none⟩,⟨(some 16),(.p (.eq .bool false (.tmp 13) (.tmp 15))),none⟩] [] [2,16])
 (.cond (.tmp 16) (.seq (.region [⟨(some 4),(.p (.mov (.val (.int .i64 (.ofNat 0))))),none⟩] [] [4])
 (.ret))
 (.skip)))
 (.seq (.seq (.region [⟨(some 17),(.p (.faddr 0 (.tmp 2))),none⟩,⟨(some 18),(.load1 (.tmp 17)),none⟩] [] [18])
 (.cond (.tmp 18) (.seq (.region [⟨(some 4),(.p (.mov (.val (.int .i64 (.negSucc 0))))),none⟩] [] [4])
 (.ret))
 (.skip)))
 (.seq (.region [⟨(some 4),(.p (.mov (.val (.int .i64 (.ofNat 1))))),none⟩] [] [4])
 (.ret))))
 (.seq (.region [⟨(some 20),(.p (.faddr 1 (.tmp 2))),none⟩,⟨(some 21),(.load1 (.tmp 20)),none⟩,⟨(some 22),(.p (.bin .eql (.tmp 21) (.val (.int .i64 (.ofNat 1))))),none⟩,⟨(some 23),(.p (.mov (.tmp 22))),none⟩,⟨(some 24),(.p (.faddr 2 (.tmp 2))),(some (23,true))⟩,⟨(some 25),(.load1 (.tmp 24)),(some (23,true))⟩,⟨(some 26),(.p (.faddr 2 (.tmp 3))),(some (23,true))⟩,⟨(some 27),(.load1 (.tmp 26)),(some (23,true))⟩,⟨(some 28),(.p (.bin .neq (.tmp 25) (.tmp 27))),(some (23,true))⟩,⟨(some 29),(.p (.pick (.tmp 23) (.tmp 28) (.val (.bool false)))),none⟩,⟨(some 19),(.p (.mov (.tmp 29))),none⟩] [] [2,3,19])
 (.cond (.tmp 19) (.seq (.seq (.region [⟨(some 30),(.p (.faddr 2 (.tmp 2))),none⟩,⟨(some 31),(.load1 (.tmp 30)),none⟩,⟨(some 32),(.p (.faddr 2 (.tmp 3))),none⟩,⟨(some 33),(.load1 (.tmp 32)),none⟩,⟨(some 34),(.p (.bin .lss (.tmp 31) (.tmp 33))),none⟩] [] [34])
 (.cond (.tmp 34) (.seq (.region [⟨(some 4),(.p (.mov (.val (.int .i64 (.negSucc 0))))),none⟩] [] [4])
 (.ret))
 (.skip)))
 (.seq (.region [⟨(some 4),(.p (.mov (.val (.int .i64 (.ofNat 1))))),none⟩] [] [4])
 (.ret)))
 (.seq (.region [⟨(some 36),(.p (.faddr 1 (.tmp 2))),none⟩,⟨(some 37),(.load1 (.tmp 36)),none⟩,⟨(some 38),(.p (.bin .eql (.tmp 37) (.val (.int .i64 (.ofNat 2))))),none⟩,⟨(some 39),(.p (.mov (.tmp 38))),none⟩,⟨(some 40),(.p (.faddr 3 (.tmp 2))),(some (39,true))⟩,⟨(some 41),(.load1 (.tmp 40)),(some (39,true))⟩,⟨(some 42),(.e (.text (.tmp 41))),(some (39,true))⟩,⟨(some 43),(.p (.faddr 3 (.tmp 3))),(some (39,true))⟩,⟨(some 44),(.load1 (.tmp 43)),(some (39,true))⟩,⟨(some 45),(.e (.text (.tmp 44))),(some (39,true))⟩,⟨(some 46),(.p (.bin .neq (.tmp 42) (.tmp 45))),(some (39,true))⟩,⟨(some 47),(.p (.pick (.tmp 39) (.tmp 46) (.val (.bool false)))),none⟩,⟨(some 35),(.p (.mov (.tmp 47))),none⟩] [] [2,3,35])
 (.cond (.tmp 35) (.seq (.seq (.region [⟨(some 48),(.p (.faddr 3 (.tmp 2))),none⟩,⟨(some 49),(.load1 (.tmp 48)),none⟩,⟨(some 50),(.e (.text (.tmp 49))),none⟩,⟨(some 51),(.p (.faddr 3 (.tmp 3))),none⟩,⟨(some 52),(.load1 (.tmp 51)),none⟩,⟨(some 53),(.e (.text (.tmp 52))),none⟩,⟨(some 54),(.p (.bin .lss (.tmp 50) (.tmp 53))),none⟩] [] [54])
 (.cond (.tmp 54) (.seq (.region [⟨(some 4),(.p (.mov (.val (.int .i64 (.negSucc 0))))),none⟩] [] [4])
 (.ret))
 (.skip)))
 (.seq (.region [⟨(some 4),(.p (.mov (.val (.int .i64 (.ofNat 1))))),none⟩] [] [4])
 (.ret)))
 (.skip))))))))
 (.seq (.region [⟨(some 4),(.p (.mov (.val (.int .i64 (.ofNat 0))))),none⟩] [] [4])
 (.ret)))
def M46 (F : Nat → Nat) : Fun := ⟨55,2,(K46 F).erase,[.tmp 4]⟩
abbrev K47 (F : Nat → Nat) : KC := .seq (.region [⟨(some 4),(.p (.mov (.val (.int .i64 (.ofNat 0))))),none⟩] [] [0,1])
 (.seq (.seq (.region [⟨(some 5),(.p (.mov (.val (.int .i64 (.ofNat 0))))),none⟩] [] [0,1,5])
 (.block 0 (.loop (.seq (.seq (.region [⟨(some 7),(.p (.mov (.tmp 5))),none⟩,⟨(some 8),(.p (.mov (.tmp 0))),none⟩,⟨(some 9),(.p (.lenb (.tmp 8))),none⟩,⟨(some 10),(.p (.bin .lss (.tmp 7) (.tmp 9))),none⟩,⟨(some 11),(.p (.mov (.tmp 10))),none⟩,⟨(some 12),(.p (.mov (.tmp 5))),(some (11,true))⟩,⟨(some 13),(.p (.mov (.tmp 1))),(some (11,true))⟩,⟨(some 14),(.p (.lenb (.tmp 13))),(some (11,true))⟩,⟨(some 15),(.p (.bin .lss (.tmp 12) (.tmp 14))),(some (11,true))⟩,⟨(some 16),(.p (.pick (.tmp 11) (.tmp 15) (.val (.bool false)))),none⟩] [] [0,1,5,16])
 (.cond (.tmp 16) (.skip)
 (.exit 0)))
 (.seq (.block 1 (.seq (.dregion [⟨⟨(some 19),(.p (.mov (.tmp 0))),none⟩,0,8⟩,⟨⟨(some 20),(.p (.mov (.tmp 5))),none⟩,0,8⟩,⟨⟨(some 21),(.p (.iaddr 4 (.tmp 19) (.tmp 20))),none⟩,0,8⟩,⟨⟨(some 22),(.loadn 4 (.tmp 21)),none⟩,0,8⟩,⟨⟨(some 23),(.p (.mov (.tmp 1))),none⟩,0,8⟩,⟨⟨(some 24),(.p (.mov (.tmp 5))),none⟩,0,8⟩,⟨⟨(some 25),(.p (.iaddr 4 (.tmp 23) (.tmp 24))),none⟩,0,8⟩,⟨⟨(some 26),(.loadn 4 (.tmp 25)),none⟩,0,8⟩,⟨⟨(some 27),(.e (.call (F 46) [(.tmp 22),(.tmp 26)])),none⟩,0,10⟩,⟨⟨(some 6),(.p (.mov (.tmp 27))),none⟩,9,10⟩] [0,1,5,6])
 (.seq (.region [⟨(some 28),(.p (.mov (.tmp 6))),none⟩,⟨(some 29),(.p (.bin .neq (.tmp 28) (.val (.int .i64 (.ofNat 0))))),none⟩] [] [0,1,5,6,29])
 (.cond (.tmp 29) (.seq (.region [⟨(some 30),(.p (.mov (.tmp 6))),none⟩,⟨(some 4),(.p (.mov (.tmp 30))),none⟩] [] [4])
 (.ret))
 (.skip)))))
 (.region [⟨(some 17),(.p (.mov (.tmp 5))),none⟩,⟨(some 18),(.p (.bin .add (.tmp 17) (.val (.int .i64 (.ofNat 1))))),none⟩,⟨(some 5),(.p (.mov (.tmp 18))),none⟩] [] [0,1,5]))))))
 (.seq (.region [⟨(some 31),(.p (.mov (.tmp 0))),none⟩,⟨(some 32),(.p (.lenb (.tmp 31))),none⟩,⟨(some 33),(.p (.mov (.tmp 1))),none⟩,⟨(some 34),(.p (.lenb (.tmp 33))),none⟩,⟨(some 35),(.p (.bin .sub (.tmp 32) (.tmp 34))),none⟩,⟨(some 36),(.p (.max [(.tmp 35),(.val (.int .i64 (.negSucc 0)))])),none⟩,⟨(some 37),(.p (.min [(.tmp 36),(.val (.int .i64 (.ofNat 1)))])),none⟩,⟨(some 4),(.p (.mov (.tmp 37))),none⟩] [] [4])
 (.ret)))
def M47 (F : Nat → Nat) : Fun := ⟨38,2,(K47 F).erase,[.tmp 4]⟩
abbrev K48 (F : Nat → Nat) : KC := .seq (.region [⟨(some 4),(.p (.mov (.val (.bool false)))),none⟩] [] [0,1])
 (.seq (.seq (.region [⟨(some 6),(.p (.mov (.tmp 0))),none⟩,⟨(some 7),(.p (.lenb (.tmp 6))),none⟩,⟨(some 8),(.p (.mov (.tmp 1))),none⟩,⟨(some 9),(.p (.lenb (.tmp 8))),none⟩,⟨(some 10),(.p (.bin .neq (.tmp 7) (.tmp 9))),none⟩] [] [0,1,10])
 (.cond (.tmp 10) (.seq (.region [⟨(some 4),(.p (.mov (.val (.bool false)))),none⟩] [] [4])
 (.ret))
 (.skip)))
 (.seq (.seq (.region [⟨(some 5),(.p (.mov (.val (.int .i64 (.ofNat 0))))),none⟩] [] [0,1,5])
 (.block 0 (.loop (.seq (.seq (.region [⟨(some 11),(.p (.mov (.tmp 5))),none⟩,⟨(some 12),(.p (.mov (.tmp 0))),none⟩,⟨(some 13),(.p (.lenb (.tmp 12))),none⟩,⟨(some 14),(.p (.bin .lss (.tmp 11) (.tmp 13))),none⟩] [] [0,1,5,14])
 (.cond (.tmp 14) (.skip)
 (.exit 0)))
 (.seq (.block 1 (.seq (.dregion [⟨⟨(some 17),(.p (.mov (.tmp 0))),none⟩,0,8⟩,⟨⟨(some 18),(.p (.mov (.tmp 5))),none⟩,0,8⟩,⟨⟨(some 19),(.p (.iaddr 1 (.tmp 17) (.tmp 18))),none⟩,0,8⟩,⟨⟨(some 20),(.load1 (.tmp 19)),none⟩,0,8⟩,⟨⟨(some 21),(.p (.mov (.tmp 1))),none⟩,0,8⟩,⟨⟨(some 22),(.p (.mov (.tmp 5))),none⟩,0,8⟩,⟨⟨(some 23),(.p (.iaddr 1 (.tmp 21) (.tmp 22))),none⟩,0,8⟩,⟨⟨(some 24),(.load1 (.tmp 23)),none⟩,0,8⟩,⟨⟨(some 25),(.e (.call (F 49) [(.tmp 20),(.tmp 24)])),none⟩,0,10⟩,⟨⟨(some 26),(.p (.not (.tmp 25))),none⟩,9,10⟩] [0,1,5,26])
 (.cond (.tmp 26) (.seq (.region [⟨(some 4),(.p (.mov (.val (.bool false)))),none⟩] [] [4])
 (.ret))
 (.skip))))
 (.region [⟨(some 15),(.p (.mov (.tmp 5))),none⟩,⟨(some 16),(.p (.bin .add (.tmp 15) (.val (.int .i64 (.ofNat 1))))),none⟩,⟨(some 5),(.p (.mov (.tmp 16))),none⟩] [] [0,1,5]))))))
 (.seq (.region [⟨(some 4),(.p (.mov (.val (.bool true)))),none⟩] [] [4])
 (.ret))))
def M48 (F : Nat → Nat) : Fun := ⟨27,2,(K48 F).erase,[.tmp 4]⟩
theorem ok48 {F : Nat → Nat} : (K48 F).ok = true := rfl
abbrev K49 (F : Nat → Nat) : KC := .seq (.region [⟨(some 4),(.p (.mov (.val (.bool false)))),none⟩] [] [0,1])
 (.seq (.seq (.region [⟨(some 6),(.p (.mov (.tmp 0))),none⟩,⟨(some 7),(.p (.lenb (.tmp 6))),none⟩,⟨(some 8),(.p (.mov (.tmp 1))),none⟩,⟨(some 9),(.p (.lenb (.tmp 8))),none⟩,⟨(some 10),(.p (.bin .neq (.tmp 7) (.tmp 9))),none⟩] [] [0,1,10])
 (.cond (.tmp 10) (.seq (.region [⟨(some 4),(.p (.mov (.val (.bool false)))),none⟩] [] [4])
 (.ret))
 (.skip)))
 (.seq (.seq (.region [⟨(some 5),(.p (.mov (.val (.int .i64 (.ofNat 0))))),none⟩] [] [0,1,5])
 (.block 0 (.loop (.seq (.seq (.region [⟨(some 11),(.p (.mov (.tmp 5))),none⟩,⟨(some 12),(.p (.mov (.tmp 0))),none⟩,⟨(some 13),(.p (.lenb (.tmp 12))),none⟩,⟨(some 14),(.p (.bin .lss (.tmp 11) (.tmp 13))),none⟩] [] [0,1,5,14])
 (.cond (.tmp 14) (.skip)
 (.exit 0)))
 (.seq (.block 1 (.seq (.dregion [⟨⟨(some 17),(.p (.mov (.tmp 0))),none⟩,0,8⟩,⟨⟨(some 18),(.p (.mov (.tmp 5))),none⟩,0,8⟩,⟨⟨(some 19),(.p (.iaddr 4 (.tmp 17) (.tmp 18))),none⟩,0,8⟩,⟨⟨(some 20),(.loadn 4 (.tmp 19)),none⟩,0,8⟩,⟨⟨(some 21),(.p (.mov (.tmp 1))),none⟩,0,8⟩,⟨⟨(some 22),(.p (.mov (.tmp 5))),none⟩,0,8⟩,⟨⟨(some 23),(.p (.iaddr 4 (.tmp 21) (.tmp 22))),none⟩,0,8⟩,⟨⟨(some 24),(.loadn 4 (.tmp 23)),none⟩,0,8⟩,⟨⟨(some 25),(.e (.call (F 50) [(.tmp 20),(.tmp 24)])),none⟩,0,10⟩,⟨⟨(some 26),(.p (.not (.tmp 25))),none⟩,9,10⟩] [0,1,5,26])
 (.cond (.tmp 26) (.seq (.region [⟨(some 4),(.p (.mov (.val (.bool false)))),none⟩] [] [4])
 (.ret))
 (.skip))))
 (.region [⟨(some 15),(.p (.mov (.tmp 5))),none⟩,⟨(some 16),(.p (.bin .add (.tmp 15) (.val (.int .i64 (.ofNat 1))))),none⟩,⟨(some 5),(.p (.mov (.tmp 16))),none⟩] [] [0,1,5]))))))
 (.seq (.region [⟨(some 4),(.p (.mov (.val (.bool true)))),none⟩] [] [4])
 (.ret))))
def M49 (F : Nat → Nat) : Fun := ⟨27,2,(K49 F).erase,[.tmp 4]⟩
theorem ok49 {F : Nat → Nat} : (K49 F).ok = true := rfl
abbrev K50 (_F : Nat → Nat) : KC := .seq (.region [⟨(some 2),(.a (.box (.tmp 0))),none⟩,⟨(some 3),(.a (.box (.tmp 1))),none⟩,⟨(some 4),(.p (.mov (.val (.bool false)))),none⟩] [2,3] [2,3])
 (.seq (.region [⟨(some 5),(.p (.faddr 0 (.tmp 2))),none⟩,⟨(some 6),(.load1 (.tmp 5)),none⟩,⟨(some 7),(.p (.faddr 0 (.tmp 3))),none⟩,⟨(some 8),(.load1 (.tmp 7)),none⟩,⟨(some 9),(.p (.eq .bool false (.tmp 6) (.tmp 8))),none⟩,⟨(some 10),(.p (.mov (.tmp 9))),none⟩,⟨(some 11),(.p (.faddr 1 (.tmp 2))),(some (10,true))⟩,⟨(some 12),(.load1 (.tmp 11)),(some (10,true))⟩,⟨(some 13),(.p (.faddr 1 (.tmp 3))),(some (10,true))⟩,⟨(some 14),(.load1 (.tmp 13)),(some (10,true))⟩,⟨(some 15),(.p (.bin .eql (.tmp 12) (.tmp 14))),(some (10,true))⟩,⟨(some 16),(.p (.pick (.tmp 10) (.tmp 15) (.val (.bool false)))),none⟩,⟨(some 17),(.p (.mov (.tmp 16))),none⟩,⟨(some 18),(.p (.faddr 2 (.tmp 2))),(some (17,true))⟩,⟨(some 19),(.load1 (.tmp 18)),(some (17,true))⟩,⟨(some 20),(.p (.faddr 2 (.tmp 3))),(some (17,true))⟩,⟨(some 21),(.load1 (.tmp 20)),(some (17,true))⟩,⟨(some 22),(.p (.bin .eql (.tmp 19) (.tmp 21))),(some (17,true))⟩,⟨(some 23),(.p (.pick (.tmp 17) (.tmp 22) (.val (.bool false)))),none⟩,⟨(some 24),(.p (.mov (.tmp 23))),none⟩,⟨(some 25),(.p (.faddr 3 (.tmp 2))),(some (24,true))⟩,⟨(some 26),(.load1 (.tmp 25)),(some (24,true))⟩,⟨(some 27),(.e (.text (.tmp 26))),(some (24,true))⟩,⟨(some 28),(.p (.faddr 3 (.tmp 3))),(some (24,true))⟩,⟨(some 29),(.load1 (.tmp 28)),(some (24,true))⟩,⟨(some 30),(.e (.text (.tmp 29))),(some (24,true))⟩,⟨(some 31),(.p (.bin .eql (.tmp 27) (.tmp 30))),(some (24,true))⟩,⟨(some 32),(.p (.pick (.tmp 24) (.tmp 31) (.val (.bool false)))),none⟩,⟨(some 4),(.p (.mov (.tmp 32))),none⟩] [] [4])
 (.ret))
def M50 (F : Nat → Nat) : Fun := ⟨33,2,(K50 F).erase,[.tmp 4]⟩
theorem ok50 {F : Nat → Nat} : (K50 F).ok = true := rfl
end Go.Lib
end

section
namespace Go.Lib
open Go.Vm Go.Dv
set_option maxRecDepth 100000
abbrev K1 (F : Nat → Nat) : KC := .seq (.region [⟨(some 2),(.a (.box (.tmp 0))),none⟩,⟨(some 3),(.a (.box (.tmp 1))),none⟩,⟨(some 4),(.p (.mov (.val (.int .i64 (.ofNat 0))))),none⟩] [2,3] [2,3])
 (.seq (.seq (.dregion [⟨⟨(some 6),(.loadn 4 (.tmp 2)),none⟩,0,1⟩,⟨⟨(some 7),(.e (.call (F 8) [(.tmp 6)])),none⟩,0,3⟩,⟨⟨(some 8),(.loadn 4 (.tmp 3)),none⟩,0,3⟩,⟨⟨(some 9),(.e (.call (F 8) [(.tmp 8)])),none⟩,2,4⟩,⟨⟨(some 10),(.e (.call (F 9) [(.tmp 7),(.tmp 9)])),none⟩,4,6⟩,⟨⟨(some 5),(.p (.mov (.tmp 10))),none⟩,5,6⟩] [2,3,5])
 (.seq (.region [⟨(some 11),(.p (.mov (.tmp 5))),none⟩,⟨(some 12),(.p (.bin .neq (.tmp 11) (.val (.int .i64 (.ofNat 0))))),none⟩,⟨(some 13),(.p (.mov (.tmp 12))),none⟩,⟨(some 14),(.p (.faddr 0 (.tmp 2))),(some (13,false))⟩,⟨(some 15),(.load1 (.tmp 14)),(some (13,false))⟩,⟨(some 16),(.p (.pick (.tmp 13) (.val (.bool true)) (.tmp 15))),none⟩] [] [2,3,5,16])
 (.cond (.tmp 16) (.seq (.region [⟨(some 17),(.p (.mov (.tmp 5))),none⟩,⟨(some 4),(.p (.mov (.tmp 17))),none⟩] [] [4])
 (.ret))
 (.skip))))
 (.seq (.seq (.region [⟨(some 18),(.p (.faddr 1 (.tmp 2))),none⟩,⟨(some 19),(.load1 (.tmp 18)),none⟩] [] [2,3,19])
 (.block 0 (.seq (.region [⟨(some 21),(.p (.bin .eql (.tmp 19) (.val (.int .i64 (.ofNat 1))))),none⟩,⟨(some 20),(.p (.mov (.tmp 21))),none⟩] [] [2,3,19,20])
 (.cond (.tmp 20) (.seq (.region [⟨(some 22),(.p (.faddr 2 (.tmp 2))),none⟩,⟨(some 23),(.load1 (.tmp 22)),none⟩,⟨(some 24),(.p (.faddr 2 (.tmp 3))),none⟩,⟨(some 25),(.load1 (.tmp 24)),none⟩,⟨(some 26),(.e (.call (F 10) [(.tmp 23),(.tmp 25)])),none⟩,⟨(some 4),(.p (.mov (.tmp 26))),none⟩] [] [4])
 (.ret))
 (.seq (.region [⟨(some 28),(.p (.bin .eql (.tmp 19) (.val (.int .i64 (.ofNat 2))))),none⟩,⟨(some 27),(.p (.mov (.tmp 28))),none⟩] [] [2,3,27])
 (.cond (.tmp 27) (.seq (.region [⟨(some 29),(.p (.faddr 3 (.tmp 2))),none⟩,⟨(some 30),(.load1 (.tmp 29)),none⟩,⟨(some 31),(.p (.faddr 3 (.tmp 3))),none⟩,⟨(some 32),(.load1 (.tmp 31)),none⟩,⟨(some 33),(.e (.call (F 11) [(.tmp 30),(.tmp 32)])),none⟩,⟨(some 4),(.p (.mov (.tmp 33))),none⟩] [] [4])
 (.ret))
 (.skip)))))))
 (.seq (.region [⟨(some 4),(.p (.mov (.val (.int .i64 (.ofNat 0))))),none⟩] [] [4])
 (.ret))))
def M1 (F : Nat → Nat) : Fun := ⟨34,2,(K1 F).erase,[.tmp 4]⟩
theorem ok1 {F : Nat → Nat} : (K1 F).ok = true := rfl
abbrev K2 (F : Nat → Nat) : KC := .seq (.region [⟨(some 4),(.p (.mov (.val (.int .i64 (.ofNat 0))))),none⟩] [] [0,1])
 (.seq (.region [⟨(some 5),(.p (.mov (.tmp 0))),none⟩,⟨(some 6),(.p (.mov (.tmp 1))),none⟩,⟨(some 7),(.e (.call (F 12) [(.tmp 5),(.tmp 6),(.val (.func (F 1) [] []))])),none⟩,⟨(some 4),(.p (.mov (.tmp 7))),none⟩] [] [4])
 (.ret))
def M2 (F : Nat → Nat) : Fun := ⟨8,2,(K2 F).erase,[.tmp 4]⟩
theorem ok2 {F : Nat → Nat} : (K2 F).ok = true := rfl
abbrev K3 (F : Nat → Nat) : KC := .seq (.region [⟨(some 4),(.a (.new [.bool false,.int .i64 (.ofNat 0),.int .i64 (.ofNat 0),.nilslice])),none⟩] [] [0,1,4])
 (.seq (.seq (.region [⟨(some 5),(.p (.mov (.tmp 1))),none⟩,⟨(some 6),(.p (.bin .lss (.tmp 5) (.val (.int .i64 (.ofNat 0))))),none⟩,⟨(some 7),(.p (.mov (.tmp 6))),none⟩,⟨(some 8),(.p (.mov (.tmp 1))),(some (7,false))⟩,⟨(some 9),(.p (.mov (.tmp 0))),(some (7,false))⟩,⟨(some 10),(.p (.lenb (.tmp 9))),(some (7,false))⟩,⟨(some 11),(.p (.bin .geq (.tmp 8) (.tmp 10))),(some (7,false))⟩,⟨(some 12),(.p (.pick (.tmp 7) (.val (.bool true)) (.tmp 11))),none⟩] [] [0,1,4,12])
 (.cond (.tmp 12) (.seq (.region [⟨(some 13),(.p (.build [.bool false,.int .i64 (.ofNat 0),.int .i64 (.ofNat 0),.nilslice] [])),none⟩,⟨none,(.e (.store 4 (.tmp 4) (.tmp 13))),none⟩] [] [4])
 (.ret))
 (.skip)))
 (.seq (.region [⟨(some 14),(.p (.mov (.tmp 0))),none⟩,⟨(some 15),(.p (.mov (.tmp 1))),none⟩,⟨(some 16),(.p (.iaddr 4 (.tmp 14) (.tmp 15))),none⟩,⟨(some 17),(.loadn 4 (.tmp 16)),none⟩,⟨(some 18),(.e (.call (F 5) [(.tmp 17)])),none⟩,⟨none,(.e (.store 4 (.tmp 4) (.tmp 18))),none⟩] [] [4])
 (.ret)))
def M3 (F : Nat → Nat) : Fun := ⟨19,2,(K3 F).erase,[.celln 4 4]⟩
theorem ok3 {F : Nat → Nat} : (K3 F).ok = true := rfl
abbrev K4 (F : Nat → Nat) : KC := .seq (.region [⟨(some 2),(.p (.mov (.val (.nilslice)))),none⟩] [] [0])
 (.seq (.region [⟨(some 3),(.p (.mov (.val (.nilslice)))),none⟩] [] [0,3])
 (.seq (.seq (.region [⟨(some 6),(.p (.mov (.tmp 0))),none⟩,⟨(some 7),(.p (.lenb (.tmp 6))),none⟩,⟨(some 8),(.p (.mov (.val (.int .i64 (.ofNat 0))))),none⟩] [] [3,6,7,8])
 (.block 0 (.loop (.seq (.region [⟨(some 9),(.p (.bin .lss (.tmp 8) (.tmp 7))),none⟩] [] [3,6,7,8,9])
 (.seq (.cond (.tmp 9) (.skip)
 (.exit 0))
 (.seq (.block 1 (.seq (.region [⟨(some 10),(.p (.iaddr 4 (.tmp 6) (.tmp 8))),none⟩,⟨(some 11),(.loadn 4 (.tmp 10)),none⟩,⟨(some 5),(.a (.new [.bool false,.int .i64 (.ofNat 0),.int .i64 (.ofNat 0),.nilslice])),none⟩,⟨none,(.e (.store 4 (.tmp 5) (.tmp 11))),none⟩] [] [3,5,6,7,8])
 (.region [⟨(some 12),(.p (.mov (.tmp 3))),none⟩,⟨(some 13),(.loadn 4 (.tmp 5)),none⟩,⟨(some 14),(.e (.call (F 5) [(.tmp 13)])),none⟩,⟨(some 15),(.a (.bslice [.bool false,.int .i64 (.ofNat 0),.int .i64 (.ofNat 0),.nilslice] 4 1 [(0,4,(.tmp 14))])),none⟩,⟨(some 16),(.e (.append 4 48 (.tmp 12) (.tmp 15))),none⟩,⟨(some 3),(.p (.mov (.tmp 16))),none⟩] [15] [3,6,7,8])))
 (.region [⟨(some 17),(.p (.bin .add (.tmp 8) (.val (.int .i64 (.ofNat 1))))),none⟩,⟨(some 8),(.p (.mov (.tmp 17))),none⟩] [] [3,6,7,8])))))))
 (.seq (.region [⟨(some 18),(.p (.mov (.tmp 3))),none⟩,⟨(some 19),(.e (.call (F 13) [(.tmp 18)])),none⟩,⟨(some 2),(.p (.mov (.tmp 19))),none⟩] [] [2])
 (.ret))))
def M4 (F : Nat → Nat) : Fun := ⟨20,1,(K4 F).erase,[.tmp 2]⟩
theorem ok4 {F : Nat → Nat} : (K4 F).ok = true := rfl
abbrev K5 (F : Nat → Nat) : KC := .seq (.region [⟨(some 1),(.a (.box (.tmp 0))),none⟩,⟨(some 2),(.a (.new [.bool false,.int .i64 (.ofNat 0),.int .i64 (.ofNat 0),.nilslice])),none⟩] [] [1,2])
 (.seq (.region [⟨(some 3),(.p (.faddr 3 (.tmp 1))),none⟩,⟨(some 4),(.load1 (.tmp 3)),none⟩,⟨(some 5),(.e (.call (F 14) [(.tmp 4)])),none⟩,⟨(some 6),(.p (.faddr 3 (.tmp 1))),none⟩,⟨none,(.e (.store 1 (.tmp 6) (.tmp 5))),none⟩] [] [1,2])
 (.seq (.region [⟨(some 7),(.loadn 4 (.tmp 1)),none⟩,⟨none,(.e (.store 4 (.tmp 2) (.tmp 7))),none⟩] [] [2])
 (.ret)))
def M5 (F : Nat → Nat) : Fun := ⟨8,1,(K5 F).erase,[.celln 4 2]⟩
theorem ok5 {F : Nat → Nat} : (K5 F).ok = true := rfl
abbrev K6 (F : Nat → Nat) : KC := .seq (.region [⟨(some 2),(.a (.box (.tmp 0))),none⟩,⟨(some 3),(.a (.box (.tmp 1))),none⟩,⟨(some 4),(.p (.mov (.val (.bool false)))),none⟩] [2,3] [2,3])
 (.seq (.region [⟨(some 5),(.p (.faddr 0 (.tmp 2))),none⟩,⟨(some 6),(.load1 (.tmp 5)),none⟩,⟨(some 7),(.p (.faddr 0 (.tmp 3))),none⟩,⟨(some 8),(.load1 (.tmp 7)),none⟩,⟨(some 9),(.p (.eq .bool false (.tmp 6) (.tmp 8))),none⟩,⟨(some 10),(.p (.mov (.tmp 9))),none⟩,⟨(some 11),(.p (.faddr 1 (.tmp 2))),(some (10,true))⟩,⟨(some 12),(.load1 (.tmp 11)),(some (10,true))⟩,⟨(some 13),(.p (.faddr 1 (.tmp 3))),(some (10,true))⟩,⟨(some 14),(.load1 (.tmp 13)),(some (10,true))⟩,⟨(some 15),(.p (.bin .eql (.tmp 12) (.tmp 14))),(some (10,true))⟩,⟨(some 16),(.p (.pick (.tmp 10) (.tmp 15) (.val (.bool false)))),none⟩,⟨(some 17),(.p (.mov (.tmp 16))),none⟩,⟨(some 18),(.p (.faddr 2 (.tmp 2))),(some (17,true))⟩,⟨(some 19),(.load1 (.tmp 18)),(some (17,true))⟩,⟨(some 20),(.p (.faddr 2 (.tmp 3))),(some (17,true))⟩,⟨(some 21),(.load1 (.tmp 20)),(some (17,true))⟩,⟨(some 22),(.p (.bin .eql (.tmp 19) (.tmp 21))),(some (17,true))⟩,⟨(some 23),(.p (.pick (.tmp 17) (.tmp 22) (.val (.bool false)))),none⟩,⟨(some 24),(.p (.mov (.tmp 23))),none⟩,⟨(some 25),(.p (.faddr 3 (.tmp 2))),(some (24,true))⟩,⟨(some 26),(.load1 (.tmp 25)),(some (24,true))⟩,⟨(some 27),(.p (.faddr 3 (.tmp 3))),(some (24,true))⟩,⟨(some 28),(.load1 (.tmp 27)),(some (24,true))⟩,⟨(some 29),(.e (.call (F 15) [(.tmp 26),(.tmp 28)])),(some (24,true))⟩,⟨(some 30),(.p (.pick (.tmp 24) (.tmp 29) (.val (.bool false)))),none⟩,⟨(some 4),(.p (.mov (.tmp 30))),none⟩] [] [4])
 (.ret))
def M6 (F : Nat → Nat) : Fun := ⟨31,2,(K6 F).erase,[.tmp 4]⟩
abbrev K7 (F : Nat → Nat) : KC := .seq (.region [⟨(some 4),(.p (.mov (.val (.bool false)))),none⟩] [] [0,1])
 (.seq (.region [⟨(some 5),(.p (.mov (.tmp 0))),none⟩,⟨(some 6),(.p (.mov (.tmp 1))),none⟩,⟨(some 7),(.e (.call (F 16) [(.tmp 5),(.tmp 6),(.val (.func (F 17) [] []))])),none⟩,⟨(some 4),(.p (.mov (.tmp 7))),none⟩] [] [4])
 (.ret))
def M7 (F : Nat → Nat) : Fun := ⟨8,2,(K7 F).erase,[.tmp 4]⟩
abbrev K8 (_F : Nat → Nat) : KC := .seq (.region [⟨(some 1),(.a (.box (.tmp 0))),none⟩,⟨(some 2),(.p (.mov (.val (.int .i64 (.ofNat 0))))),none⟩] [1] [1])
 (.seq (.seq (.region [⟨(some 3),(.p (.faddr 0 (.tmp 1))),none⟩,⟨(some 4),(.load1 (.tmp 3)),none⟩] [] [4])
 (.cond (.tmp 4) (.seq (.region [⟨(some 2),(.p (.mov (.val (.int .i64 (.ofNat 0))))),none⟩] [] [2])
 (.ret))
 (.skip)))
 (.seq (.region [⟨(some 2),(.p (.mov (.val (.int .i64 (.ofNat 1))))),none⟩] [] [2])
 (.ret)))
def M8 (F : Nat → Nat) : Fun := ⟨5,1,(K8 F).erase,[.tmp 2]⟩
theorem ok8 {F : Nat → Nat} : (K8 F).ok = true := rfl
abbrev K9 (F : Nat → Nat) : KC := .seq (.region [⟨(some 4),(.p (.mov (.val (.int .i64 (.ofNat 0))))),none⟩] [] [0,1])
 (.seq (.region [⟨(some 7),(.p (.mov (.tmp 0))),none⟩,⟨(some 8),(.e (.call (F 18) [(.tmp 7)])),none⟩,⟨(some 5),(.p (.mov (.tmp 8))),none⟩] [] [0,1,5])
 (.seq (.region [⟨(some 9),(.p (.mov (.tmp 1))),none⟩,⟨(some 10),(.e (.call (F 18) [(.tmp 9)])),none⟩,⟨(some 6),(.p (.mov (.tmp 10))),none⟩] [] [0,1,5,6])
 (.seq (.seq (.region [⟨(some 11),(.p (.mov (.tmp 5))),none⟩] [] [0,1,6,11])
 (.cond (.tmp 11) (.seq (.seq (.region [⟨(some 12),(.p (.mov (.tmp 6))),none⟩] [] [12])
 (.cond (.tmp 12) (.seq (.region [⟨(some 4),(.p (.mov (.val (.int .i64 (.ofNat 0))))),none⟩] [] [4])
 (.ret))
 (.skip)))
 (.seq (.region [⟨(some 4),(.p (.mov (.val (.int .i64 (.negSucc 0))))),none⟩] [] [4])
 (.ret)))
 (.skip)))
 (.seq (.seq (.region [⟨(some 13),(.p (.mov (.tmp 6))),none⟩] [] [0,1,13])
 (.cond (.tmp 13) (.seq (.region [⟨(some 4),(.p (.mov (.val (.int .i64 (.ofNat 1))))),none⟩] [] [4])
 (.ret))
 (.skip)))
 (.seq (.seq (.region [⟨(some 14),(.p (.mov (.tmp 0))),none⟩,⟨(some 15),(.p (.mov (.tmp 1))),none⟩,⟨(some 16),(.p (.bin .lss (.tmp 14) (.tmp 15))),none⟩] [] [0,1,16])
 (.cond (.tmp 16) (.seq (.region [⟨(some 4),(.p (.mov (.val (.int .i64 (.negSucc 0))))),none⟩] [] [4])
 (.ret))
 (.skip)))
 (.seq (.seq (.region [⟨(some 17),(.p (.mov (.tmp 0))),none⟩,⟨(some 18),(.p (.mov (.tmp 1))),none⟩,⟨(some 19),(.p (.bin .gtr (.tmp 17) (.tmp 18))),none⟩] [] [19])
 (.cond (.tmp 19) (.seq (.region [⟨(some 4),(.p (.mov (.val (.int .i64 (.ofNat 1))))),none⟩] [] [4])
 (.ret))
 (.skip)))
 (.seq (.region [⟨(some 4),(.p (.mov (.val (.int .i64 (.ofNat 0))))),none⟩] [] [4])
 (.ret))))))))
def M9 (F : Nat → Nat) : Fun := ⟨20,2,(K9 F).erase,[.tmp 4]⟩
theorem ok9 {F : Nat → Nat} : (K9 F).ok = true := rfl
abbrev K10 (F : Nat → Nat) : KC := .seq (.region [⟨(some 4),(.p (.mov (.val (.int .i64 (.ofNat 0))))),none⟩] [] [0,1])
 (.seq (.region [⟨(some 7),(.p (.mov (.tmp 0))),none⟩,⟨(some 8),(.e (.call (F 19) [(.tmp 7)])),none⟩,⟨(some 5),(.p (.mov (.tmp 8))),none⟩] [] [0,1,5])
 (.seq (.region [⟨(some 9),(.p (.mov (.tmp 1))),none⟩,⟨(some 10),(.e (.call (F 19) [(.tmp 9)])),none⟩,⟨(some 6),(.p (.mov (.tmp 10))),none⟩] [] [0,1,5,6])
 (.seq (.seq (.region [⟨(some 11),(.p (.mov (.tmp 5))),none⟩] [] [0,1,6,11])
 (.cond (.tmp 11) (.seq (.seq (.region [⟨(some 12),(.p (.mov (.tmp 6))),none⟩] [] [12])
 (.cond (.tmp 12) (.seq (.region [⟨(some 4),(.p (.mov (.val (.int .i64 (.ofNat 0))))),none⟩] [] [4])
 (.ret))
 (.skip)))
 (.seq (.region [⟨(some 4),(.p (.mov (.val (.int .i64 (.negSucc 0))))),none⟩] [] [4])
 (.ret)))
 (.skip)))
 (.seq (.seq (.region [⟨(some 13),(.p (.mov (.tmp 6))),none⟩] [] [0,1,13])
 (.cond (.tmp 13) (.seq (.region [⟨(some 4),(.p (.mov (.val (.int .i64 (.ofNat 1))))),none⟩] [] [4])
 (.ret))
 (.skip)))
 (.seq (.seq (.region [⟨(some 14),(.p (.mov (.tmp 0))),none⟩,⟨(some 15),(.p (.mov (.tmp 1))),none⟩,⟨(some 16),(.p (.bin .lss (.tmp 14) (.tmp 15))),none⟩] [] [0,1,16])
 (.cond (.tmp 16) (.seq (.region [⟨(some 4),(.p (.mov (.val (.int .i64 (.negSucc 0))))),none⟩] [] [4])
 (.ret))
 (.skip)))
 (.seq (.seq (.region [⟨(some 17),(.p (.mov (.tmp 0))),none⟩,⟨(some 18),(.p (.mov (.tmp 1))),none⟩,⟨(some 19),(.p (.bin .gtr (.tmp 17) (.tmp 18))),none⟩] [] [19])
 (.cond (.tmp 19) (.seq (.region [⟨(some 4),(.p (.mov (.val (.int .i64 (.ofNat 1))))),none⟩] [] [4])
 (.ret))
 (.skip)))
 (.seq (.region [⟨(some 4),(.p (.mov (.val (.int .i64 (.ofNat 0))))),none⟩] [] [4])
 (.ret))))))))
def M10 (F : Nat → Nat) : Fun := ⟨20,2,(K10 F).erase,[.tmp 4]⟩
theorem ok10 {F : Nat → Nat} : (K10 F).ok = true := rfl
abbrev K11 (F : Nat → Nat) : KC := .seq (.region [⟨(some 4),(.p (.mov (.val (.int .i64 (.ofNat 0))))),none⟩] [] [0,1])
 (.seq (.region [⟨(some 5),(.p (.mov (.tmp 0))),none⟩,⟨(some 6),(.p (.mov (.tmp 1))),none⟩,⟨(some 7),(.e (.extern (F 20) [(.tmp 5),(.tmp 6)])),none⟩,⟨(some 4),(.p (.mov (.tmp 7))),none⟩] [] [4])
 (.ret))
def M11 (F : Nat → Nat) : Fun := ⟨8,2,(K11 F).erase,[.tmp 4]⟩
theorem ok11 {F : Nat → Nat} : (K11 F).ok = true := rfl
abbrev K12 (_F : Nat → Nat) : KC := .seq (.region [⟨(some 6),(.p (.mov (.val (.int .i64 (.ofNat 0))))),none⟩] [] [0,1,2])
 (.seq (.seq (.region [⟨(some 11),(.p (.mov (.tmp 0))),none⟩,⟨(some 12),(.p (.lenb (.tmp 11))),none⟩,⟨(some 13),(.p (.mov (.val (.int .i64 (.ofNat 0))))),none⟩] [] [0,1,2,11,12,13])
 (.block 0 (.loop (.seq (.region [⟨(some 14),(.p (.bin .lss (.tmp 13) (.tmp 12))),none⟩] [] [0,1,2,11,12,13,14])
 (.seq (.cond (.tmp 14) (.skip)
 (.exit 0))
 (.seq (.block 1 (.seq (.region [⟨(some 15),(.p (.mov (.tmp 13))),none⟩,⟨(some 16),(.p (.iaddr 4 (.tmp 11) (.tmp 13))),none⟩,⟨(some 17),(.loadn 4 (.tmp 16)),none⟩,⟨(some 8),(.a (.new [.bool false,.int .i64 (.ofNat 0),.int .i64 (.ofNat 0),.nilslice])),none⟩,⟨(some 7),(.p (.mov (.tmp 15))),none⟩,⟨none,(.e (.store 4 (.tmp 8) (.tmp 17))),none⟩] [] [0,1,2,7,8,11,12,13])
 (.seq (.seq (.region [⟨(some 18),(.p (.mov (.tmp 7))),none⟩,⟨(some 19),(.p (.mov (.tmp 1))),none⟩,⟨(some 20),(.p (.lenb (.tmp 19))),none⟩,⟨(some 21),(.p (.bin .geq (.tmp 18) (.tmp 20))),none⟩] [] [0,1,2,7,8,11,12,13,21])
 (.cond (.tmp 21) (.seq (.region [⟨(some 6),(.p (.mov (.val (.int .i64 (.ofNat 1))))),none⟩] [] [6])
 (.ret))
 (.skip)))
 (.seq (.region [⟨(some 22),(.p (.mov (.tmp 1))),none⟩,⟨(some 23),(.p (.mov (.tmp 7))),none⟩,⟨(some 24),(.p (.iaddr 4 (.tmp 22) (.tmp 23))),none⟩,⟨(some 25),(.loadn 4 (.tmp 24)),none⟩,⟨(some 9),(.a (.new [.bool false,.int .i64 (.ofNat 0),.int .i64 (.ofNat 0),.nilslice])),none⟩,⟨none,(.e (.store 4 (.tmp 9) (.tmp 25))),none⟩] [] [0,1,2,8,9,11,12,13])
 (.seq (.region [⟨(some 26),(.p (.mov (.tmp 2))),none⟩,⟨(some 27),(.loadn 4 (.tmp 8)),none⟩,⟨(some 28),(.loadn 4 (.tmp 9)),none⟩,⟨(some 29),(.e (.callv (.tmp 26) [(.tmp 27),(.tmp 28)])),none⟩,⟨(some 10),(.p (.mov (.tmp 29))),none⟩] [] [0,1,2,10,11,12,13])
 (.seq (.region [⟨(some 30),(.p (.mov (.tmp 10))),none⟩,⟨(some 31),(.p (.bin .neq (.tmp 30) (.val (.int .i64 (.ofNat 0))))),none⟩] [] [0,1,2,10,11,12,13,31])
 (.cond (.tmp 31) (.seq (.region [⟨(some 32),(.p (.mov (.tmp 10))),none⟩,⟨(some 6),(.p (.mov (.tmp 32))),none⟩] [] [6])
 (.ret))
 (.skip))))))))
 (.region [⟨(some 33),(.p (.bin .add (.tmp 13) (.val (.int .i64 (.ofNat 1))))),none⟩,⟨(some 13),(.p (.mov (.tmp 33))),none⟩] [] [0,1,2,11,12,13])))))))
 (.seq (.seq (.region [⟨(some 34),(.p (.mov (.tmp 0))),none⟩,⟨(some 35),(.p (.lenb (.tmp 34))),none⟩,⟨(some 36),(.p (.mov (.tmp 1))),none⟩,⟨(some 37),(.p (.lenb (.tmp 36))),none⟩,⟨(some 38),(.p (.bin .lss (.tmp 35) (.tmp 37))),none⟩] [] [38])
 (.cond (.tmp 38) (.seq (.region [⟨(some 6),(.p (.mov (.val (.int .i64 (.negSucc 0))))),none⟩] [] [6])
 (.ret))
 (.skip)))
 (.seq (.region [⟨(some 6),(.p (.mov (.val (.int .i64 (.ofNat 0))))),none⟩] [] [6])
 (.ret))))
def M12 (F : Nat → Nat) : Fun := ⟨39,3,(K12 F).erase,[.tmp 6]⟩
theorem ok12 {F : Nat → Nat} : (K12 F).ok = true := rfl
abbrev K13 (_F : Nat → Nat) : KC := .seq (.region [⟨(some 2),(.p (.mov (.val (.nilslice)))),none⟩] [] [0])
 (.seq (.region [⟨(some 3),(.p (.mov (.tmp 0))),none⟩,⟨(some 4),(.p (.mov (.tmp 0))),none⟩,⟨(some 5),(.p (.lenb (.tmp 4))),none⟩,⟨(some 6),(.p (.mov (.tmp 0))),none⟩,⟨(some 7),(.p (.lenb (.tmp 6))),none⟩,⟨(some 8),(.p (.slc 4 (.tmp 3) none (some (.tmp 5)) (some (.tmp 7)))),none⟩,⟨(some 2),(.p (.mov (.tmp 8))),none⟩] [] [2])
 (.ret))
def M13 (F : Nat → Nat) : Fun := ⟨9,1,(K13 F).erase,[.tmp 2]⟩
theorem ok13 {F : Nat → Nat} : (K13 F).ok = true := rfl
abbrev K14 (_F : Nat → Nat) : KC := .seq (.region [⟨(some 2),(.p (.mov (.val (.nilslice)))),none⟩] [] [0])
 (.seq (.seq (.region [⟨(some 3),(.p (.mov (.tmp 0))),none⟩,⟨(some 4),(.p (.eq .slice false (.tmp 3) (.val (.nilslice)))),none⟩] [] [0,4])
 (.cond (.tmp 4) (.seq (.region [⟨(some 2),(.p (.mov (.val (.nilslice)))),none⟩] [] [2])
 (.ret))
 (.skip)))
 (.seq (.region [⟨(some 5),(.a (.bslice [] 1 0 [])),none⟩,⟨(some 6),(.p (.mov (.tmp 0))),none⟩,⟨(some 7),(.e (.append 1 1 (.tmp 5) (.tmp 6))),none⟩,⟨(some 2),(.p (.mov (.tmp 7))),none⟩] [] [2])
 (.ret)))
def M14 (F : Nat → Nat) : Fun := ⟨8,1,(K14 F).erase,[.tmp 2]⟩
theorem ok14 {F : Nat → Nat} : (K14 F).ok = true := rfl
abbrev K15 (_F : Nat → Nat) : KC := .seq (.region [⟨(some 4),(.p (.mov (.val (.bool false)))),none⟩] [] [0,1])
 (.seq (.region [⟨(some 5),(.p (.mov (.tmp 0))),none⟩,⟨(some 6),(.e (.text (.tmp 5))),none⟩,⟨(some 7),(.p (.mov (.tmp 1))),none⟩,⟨(some 8),(.e (.text (.tmp 7))),none⟩,⟨(some 9),(.p (.bin .eql (.tmp 6) (.tmp 8))),none⟩,⟨(some 4),(.p (.mov (.tmp 9))),none⟩] [] [4])
 (.ret))
def M15 (F : Nat → Nat) : Fun := ⟨10,2,(K15 F).erase,[.tmp 4]⟩
abbrev K16 (_F : Nat → Nat) : KC := .seq (.region [⟨(some 6),(.p (.mov (.val (.bool false)))),none⟩] [] [0,1,2])
 (.seq (.seq (.region [⟨(some 10),(.p (.mov (.tmp 0))),none⟩,⟨(some 11),(.p (.lenb (.tmp 10))),none⟩,⟨(some 12),(.p (.mov (.tmp 1))),none⟩,⟨(some 13),(.p (.lenb (.tmp 12))),none⟩,⟨(some 14),(.p (.bin .neq (.tmp 11) (.tmp 13))),none⟩] [] [0,1,2,14])
 (.cond (.tmp 14) (.seq (.region [⟨(some 6),(.p (.mov (.val (.bool false)))),none⟩] [] [6])
 (.ret))
 (.skip)))
 (.seq (.seq (.region [⟨(some 15),(.p (.mov (.tmp 0))),none⟩,⟨(some 16),(.p (.lenb (.tmp 15))),none⟩,⟨(some 17),(.p (.mov (.val (.int .i64 (.ofNat 0))))),none⟩] [] [1,2,15,16,17])
 (.block 0 (.loop (.seq (.region [⟨(some 18),(.p (.bin .lss (.tmp 17) (.tmp 16))),none⟩] [] [1,2,15,16,17,18])
 (.seq (.cond (.tmp 18) (.skip)
 (.exit 0))
 (.seq (.block 1 (.seq (.region [⟨(some 19),(.p (.mov (.tmp 17))),none⟩,⟨(some 20),(.p (.iaddr 1 (.tmp 15) (.tmp 17))),none⟩,⟨(some 21),(.load1 (.tmp 20)),none⟩,⟨(some 7),(.p (.mov (.tmp 19))),none⟩,⟨(some 8),(.p (.mov (.tmp 21))),none⟩] [] [1,2,7,8,15,16,17])
 (.seq (.region [⟨(some 22),(.p (.mov (.tmp 1))),none⟩,⟨(some 23),(.p (.mov (.tmp 7))),none⟩,⟨(some 24),(.p (.iaddr 1 (.tmp 22) (.tmp 23))),none⟩,⟨(some 25),(.load1 (.tmp 24)),none⟩,⟨(some 9),(.p (.mov (.tmp 25))),none⟩] [] [1,2,8,9,15,16,17])
 (.seq (.region [⟨(some 26),(.p (.mov (.tmp 2))),none⟩,⟨(some 27),(.p (.mov (.tmp 8))),none⟩,⟨(some 28),(.p (.mov (.tmp 9))),none⟩,⟨(some 29),(.e (.callv (.tmp 26) [(.tmp 27),(.tmp 28)])),none⟩,⟨(some 30),(.p (.not (.tmp 29))),none⟩] [] [1,2,15,16,17,30])
 (.cond (.tmp 30) (.seq (.region [⟨(some 6),(.p (.mov (.val (.bool false)))),none⟩] [] [6])
 (.ret))
 (.skip))))))
 (.region [⟨(some 31),(.p (.bin .add (.tmp 17) (.val (.int .i64 (.ofNat 1))))),none⟩,⟨(some 17),(.p (.mov (.tmp 31))),none⟩] [] [1,2,15,16,17])))))))
 (.seq (.region [⟨(some 6),(.p (.mov (.val (.bool true)))),none⟩] [] [6])
 (.ret))))
def M16 (F : Nat → Nat) : Fun := ⟨32,3,(K16 F).erase,[.tmp 6]⟩
abbrev K17 (F : Nat → Nat) : KC := .seq (.region [⟨(some 4),(.p (.mov (.val (.bool false)))),none⟩] [] [0,1])
 (.seq (.region [⟨(some 5),(.p (.mov (.tmp 0))),none⟩,⟨(some 6),(.p (.mov (.tmp 1))),none⟩,⟨(some 7),(.e (.call (F 21) [(.tmp 5),(.tmp 6),(.val (.func (F 6) [] []))])),none⟩,⟨(some 4),(.p (.mov (.tmp 7))),none⟩] [] [4])
 (.ret))
def M17 (F : Nat → Nat) : Fun := ⟨8,2,(K17 F).erase,[.tmp 4]⟩
abbrev K18 (_F : Nat → Nat) : KC := .seq (.region [⟨(some 2),(.p (.mov (.val (.bool false)))),none⟩] [] [0])
 (.seq (.region [⟨(some 3),(.p (.mov (.tmp 0))),none⟩,⟨(some 4),(.p (.mov (.tmp 0))),none⟩,⟨(some 5),(.p (.bin .neq (.tmp 3) (.tmp 4))),none⟩,⟨(some 2),(.p (.mov (.tmp 5))),none⟩] [] [2])
 (.ret))
def M18 (F : Nat → Nat) : Fun := ⟨6,1,(K18 F).erase,[.tmp 2]⟩
theorem ok18 {F : Nat → Nat} : (K18 F).ok = true := rfl
abbrev K19 (_F : Nat → Nat) : KC := .seq (.region [⟨(some 2),(.p (.mov (.val (.bool false)))),none⟩] [] [0])
 (.seq (.region [⟨(some 3),(.p (.mov (.tmp 0))),none⟩,⟨(some 4),(.p (.mov (.tmp 0))),none⟩,⟨(some 5),(.p (.bin .neq (.tmp 3) (.tmp 4))),none⟩,⟨(some 2),(.p (.mov (.tmp 5))),none⟩] [] [2])
 (.ret))
def M19 (F : Nat → Nat) : Fun := ⟨6,1,(K19 F).erase,[.tmp 2]⟩
theorem ok19 {F : Nat → Nat} : (K19 F).ok = true := rfl
abbrev K21 (_F : Nat → Nat) : KC := .seq (.region [⟨(some 6),(.p (.mov (.val (.bool false)))),none⟩] [] [0,1,2])
 (.seq (.seq (.region [⟨(some 10),(.p (.mov (.tmp 0))),none⟩,⟨(some 11),(.p (.lenb (.tmp 10))),none⟩,⟨(some 12),(.p (.mov (.tmp 1))),none⟩,⟨(some 13),(.p (.lenb (.tmp 12))),none⟩,⟨(some 14),(.p (.bin .neq (.tmp 11) (.tmp 13))),none⟩] [] [0,1,2,14])
 (.cond (.tmp 14) (.seq (.region [⟨(some 6),(.p (.mov (.val (.bool false)))),none⟩] [] [6])
 (.ret))
 (.skip)))
 (.seq (.seq (.region [⟨(some 15),(.p (.mov (.tmp 0))),none⟩,⟨(some 16),(.p (.lenb (.tmp 15))),none⟩,⟨(some 17),(.p (.mov (.val (.int .i64 (.ofNat 0))))),none⟩] [] [1,2,15,16,17])
 (.block 0 (.loop (.seq (.region [⟨(some 18),(.p (.bin .lss (.tmp 17) (.tmp 16))),none⟩] [] [1,2,15,16,17,18])
 (.seq (.cond (.tmp 18) (.skip)
 (.exit 0))
 (.seq (.block 1 (.seq (.region [⟨(some 19),(.p (.mov (.tmp 17))),none⟩,⟨(some 20),(.p (.iaddr 4 (.tmp 15) (.tmp 17))),none⟩,⟨(some 21),(.loadn 4 (.tmp 20)),none⟩,⟨(some 8),(.a (.new [.bool false,.int .i64 (.ofNat 0),.int .i64 (.ofNat 0),.nilslice])),none⟩,⟨(some 7),(.p (.mov (.tmp 19))),none⟩,⟨none,(.e (.store 4 (.tmp 8) (.tmp 21))),none⟩] [] [1,2,7,8,15,16,17])
 (.seq (.region [⟨(some 22),(.p (.mov (.tmp 1))),none⟩,⟨(some 23),(.p (.mov (.tmp 7))),none⟩,⟨(some 24),(.p (.iaddr 4 (.tmp 22) (.tmp 23))),none⟩,⟨(some 25),(.loadn 4 (.tmp 24)),none⟩,⟨(some 9),(.a (.new [.bool false,.int .i64 (.ofNat 0),.int .i64 (.ofNat 0),.nilslice])),none⟩,⟨none,(.e (.store 4 (.tmp 9) (.tmp 25))),none⟩] [] [1,2,8,9,15,16,17])
 (.seq (.region [⟨(some 26),(.p (.mov (.tmp 2))),none⟩,⟨(some 27),(.loadn 4 (.tmp 8)),none⟩,⟨(some 28),(.loadn 4 (.tmp 9)),none⟩,⟨(some 29),(.e (.callv (.tmp 26) [(.tmp 27),(.tmp 28)])),none⟩,⟨(some 30),(.p (.not (.tmp 29))),none⟩] [] [1,2,15,16,17,30])
 (.cond (.tmp 30) (.seq (.region [⟨(some 6),(.p (.mov (.val (.bool false)))),none⟩] [] [6])
 (.ret))
 (.skip))))))
 (.region [⟨(some 31),(.p (.bin .add (.tmp 17) (.val (.int .i64 (.ofNat 1))))),none⟩,⟨(some 17),(.p (.mov (.tmp 31))),none⟩] [] [1,2,15,16,17])))))))
 (.seq (.region [⟨(some 6),(.p (.mov (.val (.bool true)))),none⟩] [] [6])
 (.ret))))
def M21 (F : Nat → Nat) : Fun := ⟨32,3,(K21 F).erase,[.tmp 6]⟩
end Go.Lib
end

section
namespace Go.Dv
open Go.Vm
variable {p : Prog} {ext : Ext} {F : Nat → Nat}
structure Has (p : Prog) (ext : Ext) (F : Nat → Nat) (i : Nat) (M : (Nat → Nat) → Fun) : Prop where
  get : p.funs.get (F i) = some (M F)
  ext : ∀ args h, ext (F i) args h = none
def Fin (H : HpD) (d : D) (d' : D) (H' : HpD) : Prop := ∃ H2, WeakV d' H' d H2 ∧ Sub H H2 ∧ d.under H.next
theorem Fin.same {H : HpD} {d : D} (hu : d.under H.next) : Fin H d d H := ⟨H, .refl, .refl, hu⟩
theorem Fin.le {H H' : HpD} {d d' : D} (hs : Sub H H') (hl : D.le d' d) (hu : d.under H.next) : Fin H d d' H' := ⟨H', .le hl, hs, hu⟩
theorem fn_of {i : Nat} {M : (Nat → Nat) → Fun} (hh : Has p ext F i M) {kc : KC} (hb : (M F).body = kc.erase) (hk : kc.ok = true) {args : List D} {d : D} (hn : args.length = (M F).nargs)
    (hs : ∀ H, Sem p ext (endD (M F).results (Fin H d)) (.code kc [] .mk (argsD 0 args) H)) : FnD p ext (F i) args d := by
  intro H
  refine WcD.drop (WcD.mono (enterD hh.ext hh.get hb hk hn (hs H)) ?_)
  rintro d' H' ⟨H2, w, s, u⟩
  exact ⟨d, H2, w, s, u, rfl, rfl⟩
theorem wc_of {i : Nat} {M : (Nat → Nat) → Fun} (hh : Has p ext F i M) {kc : KC} (hb : (M F).body = kc.erase) (hk : kc.ok = true) {args : List D} {H : HpD} {R : D → HpD → Prop} (hn : args.length = (M F).nargs)
    (hs : Sem p ext (endD (M F).results R) (.code kc [] .mk (argsD 0 args) H)) : WcD p ext (F i) args H R := enterD hh.ext hh.get hb hk hn hs
theorem underss_map {α : Type} {n : Nat} {f : α → List D} (h : ∀ x, D.unders n (f x)) : ∀ l : List α, D.underss n (l.map f)
  | [] => trivial
  | x :: l => ⟨h x, underss_map h l⟩
end Go.Dv
end

section
namespace Go.Dv
open Go.Vm
variable {p : Prog} {ext : Ext} {Q : ResD → Prop}
def D.hasB (x : Nat) : D → Prop
  | .slice b _ _ _ _ _ => x = b
  | _ => False
structure Gr (H0 H : HpD) (sz : Nat) (s : D) (el : List (List D)) : Prop where
  sub : Sub H0 H
  len : ∀ e, e ∈ el → e.length = sz
  at_ : (s = .lit .nilslice ∧ el = []) ∨ ∃ b ex el0, s = .slice b 0 sz el.length el.length ex ∧ H0.next ≤ b ∧ b < H.next ∧ H.blk b = .cells el0.flatten false ∧ D.less el0 el
section
variable {H0 H H1 : HpD} {sz : Nat} {s : D} {el : List (List D)}
theorem Gr.nil (hs : Sub H0 H) : Gr H0 H sz (.lit .nilslice) [] := ⟨hs, fun _ h => (by cases h), .inl ⟨rfl, rfl⟩⟩
theorem Gr.lit (hs : Sub H0 H) {ex : Bool} (he : ∀ e, e ∈ el → e.length = sz) {c : List D} (hc : c = el.flatten) {n : Nat} (hn : n = el.length) : Gr H0 (H.new (.cells c false)) sz (.slice H.next 0 sz n n ex) el :=
  ⟨hs.new, he, .inr ⟨H.next, ex, el, by rw [hn], hs.next, by simp [new_next], by simp [new_blk, hc], D.less_refl _⟩⟩
theorem Gr.start : Gr H H sz (.lit .nilslice) [] := .nil .refl
theorem Gr.mono (g : Gr H0 H sz s el) (h : Sub H H1) : Gr H0 H1 sz s el := by
  refine ⟨g.sub.trans h, g.len, ?_⟩
  rcases g.at_ with k | ⟨b, ex, el0, rfl, h1, h2, h3, h4⟩
  · exact .inl k
  · exact .inr ⟨b, ex, el0, rfl, h1, Nat.lt_of_lt_of_le h2 h.next, (h.blk b h2).trans h3, h4⟩
theorem Gr.keep (g : Gr H0 H sz s el) (hs : Sub H0 H1) (hn : H.next ≤ H1.next) (hk : ∀ x, s.hasB x → H1.blk x = H.blk x) : Gr H0 H1 sz s el := by
  refine ⟨hs, g.len, ?_⟩
  rcases g.at_ with k | ⟨b, ex, el0, rfl, h1, h2, h3, h4⟩
  · exact .inl k
  · exact .inr ⟨b, ex, el0, rfl, h1, Nat.lt_of_lt_of_le h2 hn, (hk b rfl).trans h3, h4⟩
theorem Gr.lenb (g : Gr H0 H sz s el) : lenbD s = some (.lit (.int .i64 (el.length : Int))) := by
  rcases g.at_ with ⟨rfl, rfl⟩ | ⟨b, ex, el0, rfl, _⟩ <;> rfl
theorem flatten_len {sz : Nat} : ∀ {el : List (List D)}, (∀ e, e ∈ el → e.length = sz) → el.flatten.length = el.length * sz
  | [], _ => by simp
  | e :: l, h => by
    rw [List.flatten_cons, List.length_append, flatten_len fun x hx => h x (List.mem_cons_of_mem _ hx), h e (List.mem_cons_self ..), List.length_cons, Nat.succ_mul, Nat.add_comm]
theorem flatsD_flatten : ∀ {l : List (List D)}, (∀ e, e ∈ l → flatsD e = true) → flatsD l.flatten = true
  | [], _ => rfl
  | e :: l, h => by
    have key : ∀ (a b : List D), flatsD (a ++ b) = (flatsD a && flatsD b) := by
      intro a b
      induction a with
      | nil => simp [flatsD]
      | cons d a ih => simp [flatsD, ih, Bool.and_assoc]
    rw [List.flatten_cons, key, h e (List.mem_cons_self ..), flatsD_flatten fun x hx => h x (List.mem_cons_of_mem _ hx)]
    rfl
theorem roomyD {by_ n : Nat} (h : by_ * n ≤ 1099511627776) (h2 : n ≤ 1099511627776) : roomy by_ n = true := roomy_of h h2
theorem less_append : ∀ {a a' b b' : List (List D)}, D.less a a' → D.less b b' → D.less (a ++ b) (a' ++ b')
  | [], [], _, _, _, k => k
  | x :: a, y :: a', b, b', k, k2 => by
    simp only [D.less, List.cons_append] at k ⊢
    exact ⟨k.1, less_append k.2 k2⟩
  | [], _ :: _, _, _, k, _ => by simp [D.less] at k
  | _ :: _, [], _, _, k, _ => by simp [D.less] at k
theorem less_sz : ∀ {a a' : List (List D)} {sz : Nat}, D.less a a' → (∀ e, e ∈ a' → e.length = sz) → ∀ e, e ∈ a → e.length = sz
  | [], _, _, _, _, e, he => by cases he
  | x :: a, y :: a', sz, k, h, e, he => by
    simp only [D.less] at k
    rcases List.mem_cons.1 he with rfl | he
    · rw [les_length k.1]; exact h y (List.mem_cons_self ..)
    · exact less_sz k.2 (fun z hz => h z (List.mem_cons_of_mem _ hz)) e he
  | _ :: _, [], _, k, _, _, _ => by simp [D.less] at k
theorem Gr.grow (g : Gr H0 H sz s el) {by_ n : Nat} {new0 new : List (List D)} (hle : D.less new0 new) (hn : new.length = n) (h0 : 0 < n) (he : ∀ e, e ∈ new → e.length = sz) (hr : roomy by_ (el.length + n) = true) :
    ∃ s' H', appendCD sz by_ H s n new0.flatten = some (s', H') ∧ Gr H0 H' sz s' (el ++ new) ∧ (∀ x, x < H.next → ¬ s.hasB x → H'.blk x = H.blk x) ∧ H.next < H'.next ∧ s' = .slice H.next 0 sz (el ++ new).length (el ++ new).length false := by
  have hlen : ∀ e, e ∈ el ++ new → e.length = sz := fun e h => by
    rcases List.mem_append.1 h with h | h
    · exact g.len e h
    · exact he e h
  rcases g.at_ with ⟨rfl, rfl⟩ | ⟨b, ex, el0, rfl, h1, h2, h3, h4⟩
  · simp only [List.length_nil, Nat.zero_add] at hr
    refine ⟨_, _, by simp only [appendCD, hr, cond_true]; rfl, ⟨g.sub.new, hlen, .inr ⟨H.next, false, new0, by simp [hn], g.sub.next, by simp [new_next], by simp [new_blk], by simpa using hle⟩⟩, fun x hx _ => by rw [new_blk, if_neg (by omega)], Nat.lt_succ_self _, by simp [hn]⟩
  · have hel := less_length h4
    have hf := flatten_len (less_sz h4 g.len)
    have hrd : readD H b 0 (el.length * sz) = some el0.flatten := by
      rw [readD_eq, h3, ← hel, ← hf]
      simp only [Nat.zero_add, Nat.le_refl, if_true, List.drop_zero, List.take_length]
    have hnew : D.less (el0 ++ new0) (el ++ new) := less_append h4 hle
    cases ex with
    | false =>
      refine ⟨.slice H.next 0 sz (el.length + n) (el.length + n) false, (H.put b .gone).new (.cells (el0.flatten ++ new0.flatten) false), ?_, ⟨(g.sub.put h1).new, hlen, .inr ⟨H.next, false, el0 ++ new0, by simp [hn], g.sub.next, by simp [new_next, put_next], by simp [new_blk, put_next], hnew⟩⟩, fun x hx hx2 => ?_, by simp [new_next, put_next], by simp [hn]⟩
      · simp only [appendCD, hr, hrd, h3, growD]
        rw [show Nat.beq sz sz = true from nbeq.2 rfl, show Nat.ble (el.length + n) el.length = false from by rw [nble_d]; exact decide_eq_false (by omega)]
        rfl
      · rw [new_blk, put_next, if_neg (by omega), put_blk, if_neg]
        exact hx2
    | true =>
      refine ⟨.slice H.next 0 sz (el.length + n) (el.length + n) false, H.new (.cells (el0.flatten ++ new0.flatten) false), ?_, ⟨g.sub.new, hlen, .inr ⟨H.next, false, el0 ++ new0, by simp [hn], g.sub.next, by simp [new_next], by simp [new_blk], hnew⟩⟩, fun x hx hx2 => ?_, by simp [new_next], by simp [hn]⟩
      · simp only [appendCD, hr, hrd, growD]
        rw [show Nat.beq sz sz = true from nbeq.2 rfl, show Nat.ble (el.length + n) el.length = false from by rw [nble_d]; exact decide_eq_false (by omega)]
        rfl
      · rw [new_blk, if_neg (by omega)]
theorem Gr.app' (g : Gr H0 H sz s el) {by_ : Nat} {m : Md} {new0 new : List (List D)} (hle : D.less new0 new) (he : ∀ e, e ∈ new → e.length = sz) (hf : ∀ e, e ∈ new0 → flatsD e = true) (hr : roomy by_ (el.length + new.length) = true) :
    ∃ s' H', appendD sz by_ H s (.row sz m new0) = some (s', H') ∧ Gr H0 H' sz s' (el ++ new) ∧ (∀ x, x < H.next → ¬ s.hasB x → H'.blk x = H.blk x) ∧ H.next ≤ H'.next := by
  have hln := less_length hle
  cases hn : new0 with
  | nil =>
    have : new = [] := by rw [hn] at hln; exact List.eq_nil_of_length_eq_zero hln.symm
    subst this
    refine ⟨s, H, ?_, by rw [List.append_nil]; exact g, fun _ _ _ => rfl, Nat.le_refl _⟩
    simp only [appendD, lenD, List.length_nil]
    rcases g.at_ with ⟨rfl, rfl⟩ | ⟨b, ex, el0, rfl, _⟩
    · rfl
    · simp only [sameD]
      rw [show Nat.beq sz sz = true from nbeq.2 rfl]
      rfl
  | cons e l =>
    rw [← hn]
    have h0 : 0 < new.length := by rw [← hln, hn]; simp
    obtain ⟨s', H', e1, g', k, n, _⟩ := g.grow (by_ := by_) hle rfl h0 he hr
    refine ⟨s', H', ?_, g', k, Nat.le_of_lt n⟩
    simp only [appendD, lenD]
    obtain ⟨k, hk⟩ : ∃ k, new.length = k + 1 := ⟨new.length - 1, by omega⟩
    rw [hln, hk]
    simp only
    have hm : srcD H sz (k + 1) (.row sz m new0) = some new0.flatten := by
      simp only [srcD]
      rw [show Nat.beq sz sz = true from nbeq.2 rfl, show Nat.ble (k + 1) new0.length = true from nble.2 (by omega)]
      rw [show new0.take (k + 1) = new0 from List.take_of_length_le (by omega)]
      cases m <;> rfl
    rw [hm]
    simp only [appendN, flatsD_flatten hf, cond_true]
    rw [← hk]; exact e1
theorem Gr.app (g : Gr H0 H sz s el) {by_ : Nat} {m : Md} {new : List (List D)} (he : ∀ e, e ∈ new → e.length = sz) (hf : ∀ e, e ∈ new → flatsD e = true) (hr : roomy by_ (el.length + new.length) = true) :
    ∃ s' H', appendD sz by_ H s (.row sz m new) = some (s', H') ∧ Gr H0 H' sz s' (el ++ new) ∧ (∀ x, x < H.next → ¬ s.hasB x → H'.blk x = H.blk x) ∧ H.next ≤ H'.next := g.app' (D.less_refl _) he hf hr
theorem Gr.push (g : Gr H0 H sz s el) {by_ : Nat} {m : Md} {e : List D} (e' : List D) (hle : D.les e e') (he : e'.length = sz) (hf : flatsD e = true) (hr : roomy by_ (el.length + 1) = true) :
    ∃ s' H', appendD sz by_ H s (.row sz m [e]) = some (s', H') ∧ Gr H0 H' sz s' (el ++ [e']) ∧ (∀ x, x < H.next → ¬ s.hasB x → H'.blk x = H.blk x) ∧ H.next ≤ H'.next ∧ s' = .slice H.next 0 sz (el.length + 1) (el.length + 1) false := by
  obtain ⟨s', H', e1, g', k, n, e2⟩ := g.grow (by_ := by_) (n := 1) (new0 := [e]) (new := [e']) (by simp only [D.less]; exact ⟨hle, trivial⟩) rfl (by omega) (by simp [he]) hr
  refine ⟨s', H', ?_, g', k, Nat.le_of_lt n, by simpa using e2⟩
  simp only [appendD, lenD, List.length_singleton]
  have hm : srcD H sz (0 + 1) (.row sz m [e]) = some [e].flatten := by
    simp only [srcD]
    rw [show Nat.beq sz sz = true from nbeq.2 rfl]
    cases m <;> rfl
  rw [hm]
  simp only [appendN]
  rw [show flatsD [e].flatten = true from by simpa using hf]
  exact e1
theorem appendD_slice1 {by_ b o cap : Nat} {ex ro : Bool} {cs : List D} (hb : H.blk b = .cells cs ro) (ho : o + sz ≤ cs.length) : appendD sz by_ H s (.slice b o sz 1 cap ex) = appendD sz by_ H s (.row sz .p [(cs.drop o).take sz]) := by
  simp only [appendD, lenD, List.length_singleton]
  have h1 : srcD H sz (0 + 1) (.slice b o sz 1 cap ex) = some ((cs.drop o).take sz) := by
    simp only [srcD]
    rw [show Nat.beq sz sz = true from nbeq.2 rfl, readD_eq, hb]
    simp [ho]
  have h2 : srcD H sz (0 + 1) (.row sz .p [(cs.drop o).take sz]) = some ((cs.drop o).take sz) := by
    simp only [srcD]
    rw [show Nat.beq sz sz = true from nbeq.2 rfl]
    simp
  rw [h1, h2]
theorem Gr.fin (g : Gr H0 H sz s el) (hu : D.underss H0.next el) {m : Md} (hm : m ≠ .c) : Fin H0 (.row sz m el) s H := by
  have hm' : m = .p ∨ m = .w := by cases m <;> simp at hm ⊢
  rcases g.at_ with ⟨rfl, rfl⟩ | ⟨b, ex, el0, rfl, h1, h2, h3, h4⟩
  · exact ⟨H, .le (by simp [D.le]), g.sub, by simp [D.under]⟩
  · have hel := less_length h4
    refine ⟨H.put b .gone, (WeakV.freeze h3 (less_sz h4 g.len)).trans (.le ?_), g.sub.put h1, by simpa [D.under] using hu⟩
    simp only [frz]
    rw [if_pos ⟨trivial, trivial, trivial, hel.symm, by omega⟩]
    simp only [D.le, h4, and_true, true_and]
    by_cases hx : el.length = el0.length ∧ ex = true
    · rcases hm' with rfl | rfl <;> simp [hx]
    · rcases hm' with rfl | rfl <;> simp [hx]
theorem Gr.slot (g : Gr H0 H sz s el) {t : Nat} {fr : FrD} {args : List D} (ht : lk fr t = s) {m : Md} (hm : m ≠ .c) :
    ∃ H', Weak args fr H args ((t, .row sz m el) :: fr) H' ∧ Sub H0 H' ∧ (∀ x, ¬ s.hasB x → H'.blk x = H.blk x) ∧ H'.next = H.next := by
  have hm' : m = .p ∨ m = .w := by cases m <;> simp at hm ⊢
  have put : ∀ {ψ : Nat → Option Nat} {S : Nat → Prop} {h : Hp} {fv : Fr} {d : D}, FrR h ψ S fr fv → VD h ψ S d (ev fv (.tmp t)) → FrR h ψ S ((t, d) :: fr) fv := by
    intro ψ S h fv d k kd u
    rw [lk_cons]
    split
    · rename_i e; subst e; exact kd
    · exact k u
  rcases g.at_ with ⟨rfl, rfl⟩ | ⟨b, ex, el0, rfl, h1, h2, h3, h4⟩
  · refine ⟨H, ?_, g.sub, fun _ _ => rfl, rfl⟩
    intro ψ S h fv vs sr kf kv
    refine ⟨ψ, S, .refl, sr, put kf (VD.le (.lit .nilslice) _ (by simp [D.le]) ?_), kv⟩
    have := kf t
    rwa [ht] at this
  · refine ⟨H.put b .gone, ?_, g.sub.put h1, fun x hx => by rw [put_blk, if_neg]; exact hx, put_next⟩
    intro ψ S h fv vs sr kf kv
    have hel := less_length h4
    obtain ⟨c, hc, hr⟩ := frz_row sr h3 (less_sz h4 g.len)
    obtain ⟨x0, s0⟩ := sr.freeze hc
    refine ⟨ψ, _, x0, s0, put (kf.mono x0) ?_, VDl.mono x0 _ kv⟩
    have := kf t
    rw [ht] at this
    simp only [VD] at this
    obtain ⟨c', e, e2⟩ := this
    rw [hc] at e; cases e
    rw [e2]
    rw [← hel]
    refine VD.le _ _ ?_ (hr _ _ (Nat.le_refl _))
    simp only [D.le, h4, and_true, true_and]
    rcases hm' with rfl | rfl <;> simp
theorem VDl.setD {h : Hp} {ψ : Nat → Option Nat} {S : Nat → Prop} {args : List D} {vs : List V} {j : Nat} {d d' : D} (k : VDl h ψ S args vs) (hj : args[j]? = some d) (hd : ∀ v, VD h ψ S d v → VD h ψ S d' v) : VDl h ψ S (args.set j d') vs := by
  obtain ⟨v, e, kv⟩ := VDl.get k hj
  have := VDl.set j k (hd v kv)
  have he : vs.set j v = vs := by
    obtain ⟨hl, rfl⟩ := List.getElem?_eq_some_iff.1 e
    exact List.set_getElem_self hl
  rwa [he] at this
theorem Gr.arg (g : Gr H0 H sz s el) (j : Nat) {fr : FrD} {args : List D} (ht : args[j]? = some s) {m : Md} (hm : m ≠ .c) :
    ∃ H', Weak args fr H (args.set j (.row sz m el)) fr H' ∧ Sub H0 H' ∧ (∀ x, ¬ s.hasB x → H'.blk x = H.blk x) ∧ H'.next = H.next := by
  have hm' : m = .p ∨ m = .w := by cases m <;> simp at hm ⊢
  rcases g.at_ with ⟨rfl, rfl⟩ | ⟨b, ex, el0, rfl, h1, h2, h3, h4⟩
  · refine ⟨H, ?_, g.sub, fun _ _ => rfl, rfl⟩
    intro ψ S h fv vs sr kf kv
    exact ⟨ψ, S, .refl, sr, kf, kv.setD ht fun v hv => VD.le (.lit .nilslice) _ (by simp [D.le]) hv⟩
  · refine ⟨H.put b .gone, ?_, g.sub.put h1, fun x hx => by rw [put_blk, if_neg]; exact hx, put_next⟩
    intro ψ S h fv vs sr kf kv
    have hel := less_length h4
    obtain ⟨c, hc, hr⟩ := frz_row sr h3 (less_sz h4 g.len)
    obtain ⟨x0, s0⟩ := sr.freeze hc
    refine ⟨ψ, _, x0, s0, kf.mono x0, (VDl.mono x0 _ kv).setD ht fun v hv => ?_⟩
    simp only [VD] at hv
    obtain ⟨c', e, e2⟩ := hv
    rw [hc] at e; cases e
    rw [e2]
    rw [← hel]
    refine VD.le _ _ ?_ (hr _ _ (Nat.le_refl _))
    simp only [D.le, h4, and_true, true_and]
    rcases hm' with rfl | rfl <;> simp
theorem sem_push_le {by_ : Nat} {m : Md} {e : List D} (e' : List D) {k : D → HpD → Cfg} (g : Gr H0 H sz s el) (hle : D.les e e') (he : e'.length = sz) (hf : flatsD e = true) (hr : roomy by_ (el.length + 1) = true)
    (hk : ∀ s' H', Gr H0 H' sz s' (el ++ [e']) → (∀ x, x < H.next → ¬ s.hasB x → H'.blk x = H.blk x) → (H.next ≤ H'.next ∧ s' = .slice H.next 0 sz (el.length + 1) (el.length + 1) false) → Sem p ext Q (k s' H')) : Sem p ext Q (optH (appendD sz by_ H s (.row sz m [e])) k) := by
  obtain ⟨s', H', e1, g', k1, n1⟩ := g.push (m := m) e' hle he hf hr
  rw [e1]
  exact hk s' H' g' k1 n1
theorem sem_push {by_ : Nat} {m : Md} {e : List D} {k : D → HpD → Cfg} (g : Gr H0 H sz s el) (he : e.length = sz) (hf : flatsD e = true) (hr : roomy by_ (el.length + 1) = true)
    (hk : ∀ s' H', Gr H0 H' sz s' (el ++ [e]) → (∀ x, x < H.next → ¬ s.hasB x → H'.blk x = H.blk x) → (H.next ≤ H'.next ∧ s' = .slice H.next 0 sz (el.length + 1) (el.length + 1) false) → Sem p ext Q (k s' H')) : Sem p ext Q (optH (appendD sz by_ H s (.row sz m [e])) k) :=
  sem_push_le e g (D.les_refl _) he hf hr hk
theorem sem_row (g : Gr H0 H sz s el) (j : Nat) {f : Nat} {args : List D} {dst : Option Nat} {l : List MO} {fz lv : List Nat} {K : List KD} {fr : FrD} (ht : args[j]? = some s)
    (hs : ∀ H', Sub H0 H' → (∀ x, ¬ s.hasB x → H'.blk x = H.blk x) → H'.next = H.next → Sem p ext Q (.call f (args.set j (.row sz .p el)) dst l fz lv K .mk fr H')) : Sem p ext Q (.call f args dst l fz lv K .mk fr H) := by
  obtain ⟨H', w, s', k, n⟩ := g.arg j (fr := fr) ht (m := .p) (by simp)
  exact sem_weak_call w (hs H' s' k n)
theorem sem_turn_exit (g : Gr H0 H sz s el) (t : Nat) {id : Nat} {K : List KD} {fr : FrD} (ht : lk fr t = s)
    (hs : ∀ H', Sub H0 H' → (∀ x, ¬ s.hasB x → H'.blk x = H.blk x) → H'.next = H.next → Sem p ext Q (.res (.exit id ((t, .row sz .p el) :: fr) H') K .mk)) : Sem p ext Q (.res (.exit id fr H) K .mk) := by
  obtain ⟨H', w, s', k, n⟩ := g.slot (args := []) ht (m := .p) (by simp)
  exact sem_weak_exit w (hs H' s' k n)
theorem sem_turn_ops (g : Gr H0 H sz s el) (t : Nat) {l : List MO} {fz lv : List Nat} {K : List KD} {fr : FrD} (ht : lk fr t = s)
    (hs : ∀ H', Sub H0 H' → (∀ x, ¬ s.hasB x → H'.blk x = H.blk x) → H'.next = H.next → Sem p ext Q (.ops l fz lv K .mk ((t, .row sz .p el) :: fr) H')) : Sem p ext Q (.ops l fz lv K .mk fr H) := by
  obtain ⟨H', w, s', k, n⟩ := g.slot (args := []) ht (m := .p) (by simp)
  exact sem_weak_ops w (hs H' s' k n)
theorem sem_turn (g : Gr H0 H sz s el) (t : Nat) {c : KC} {K : List KD} {fr : FrD} (ht : lk fr t = s)
    (hs : ∀ H', Sub H0 H' → (∀ x, ¬ s.hasB x → H'.blk x = H.blk x) → H'.next = H.next → Sem p ext Q (.code c K .mk ((t, .row sz .p el) :: fr) H')) : Sem p ext Q (.code c K .mk fr H) := by
  obtain ⟨H', w, s', k, n⟩ := g.slot (args := []) ht (m := .p) (by simp)
  exact sem_weak w (hs H' s' k n)
theorem Gr.finA (g : Gr H0 H sz s el) (hu : D.underss H0.next el) {m : Md} (hm : m ≠ .c) : Fin H0 (.agg [.row sz m el]) (.agg [s]) H := by
  obtain ⟨H2, w, sub, u⟩ := g.fin hu hm
  refine ⟨H2, ?_, sub, by simpa [D.under] using u⟩
  intro ψ S h v sr kv
  simp only [VD, VDl] at kv
  obtain ⟨l', rfl, x, r, rfl, kx, rfl⟩ := kv
  obtain ⟨ψ', S', x0, s', k'⟩ := w ψ S h x sr kx
  exact ⟨ψ', S', x0, s', by simp only [VD, VDl]; exact ⟨_, rfl, _, _, rfl, k', rfl⟩⟩
theorem WeakV.part {pre : List D} {b o n cap : Nat} {ex ro : Bool} {cs : List D} {el : List (List D)} (hb : H.blk b = .cells cs ro) (he : ∀ e, e ∈ el → e.length = sz) (hl : el.length = n) (hc : (cs.drop o).take (n * sz) = el.flatten) (hn : n ≤ cap) :
    WeakV (.agg (pre ++ [.slice b o sz n cap ex])) H (.agg (pre ++ [.row sz .p el])) (H.put b .gone) := by
  intro ψ S h v sr kv
  obtain ⟨c, h1, h2, l', h3, h4⟩ : ∃ c, ψ b = some c ∧ ¬ S c ∧ ∃ l', h.blk c = .cells l' ro ∧ VDl h ψ S cs l' := by
    obtain ⟨c, h1, h2, h3⟩ := sr.live b (by rw [hb]; rfl)
    rw [hb] at h3
    exact ⟨c, h1, h2, h3⟩
  obtain ⟨x0, s0⟩ := sr.freeze h1
  refine ⟨ψ, _, x0, s0, ?_⟩
  simp only [VD] at kv ⊢
  obtain ⟨l2, rfl, kl⟩ := kv
  refine ⟨l2, rfl, ?_⟩
  have key : ∀ (pre : List D) (l2 : List V), VDl h ψ S (pre ++ [.slice b o sz n cap ex]) l2 → VDl h ψ (fun x => S x ∨ x = c) (pre ++ [.row sz .p el]) l2 := by
    intro pre
    induction pre with
    | nil =>
      intro l2 kl
      simp only [List.nil_append, VDl, VD] at kl ⊢
      obtain ⟨x, r, rfl, ⟨c', e, rfl⟩, rfl⟩ := kl
      rw [h1] at e; cases e
      refine ⟨_, _, rfl, .inr ⟨c, o, cap, ex, by rw [hl], by rw [hl]; exact hn, fun e => (by cases e), .inr ⟨l', ro, .inr rfl, h3, ?_⟩⟩, rfl⟩
      have k1 := VDl.take (n * sz) (VDl.drop o h4)
      rw [hc] at k1
      have := VDss.of (us := (l'.drop o).drop (n * sz)) he (VDl.mono x0 _ k1)
      rwa [List.take_append_drop] at this
    | cons d pre ih =>
      intro l2 kl
      simp only [List.cons_append, VDl] at kl ⊢
      obtain ⟨x, r, rfl, k1, k2⟩ := kl
      exact ⟨x, r, rfl, VD.mono x0 _ k1, ih _ k2⟩
  exact key pre l2 kl
theorem own_fn {f : Nat} {args : List D} {sz : Nat} {el : List (List D)} (hw : ∀ H, WcD p ext f args H fun d H' => Gr H H' sz d el) (hu : ∀ n, D.underss n el) : FnD p ext f args (.row sz .p el) := by
  intro H
  refine WcD.drop ((hw H).mono ?_)
  intro d H' g
  obtain ⟨H2, w, s, u⟩ := g.fin (hu H.next) (m := .p) (by simp)
  exact ⟨_, H2, w, s, u, rfl, rfl⟩
theorem spliceD_flatten {sz j : Nat} {x : D} : ∀ {el : List (List D)} {i : Nat} {e : List D}, (∀ e, e ∈ el → e.length = sz) → el[i]? = some e → j < sz → spliceD el.flatten (i * sz + j) [x] = (el.set i (e.set j x)).flatten
  | [], _, _, _, he, _ => by simp at he
  | a :: l, 0, e, hs, he, hj => by
    simp at he
    subst he
    have ha := hs a (List.mem_cons_self ..)
    simp only [Nat.zero_mul, Nat.zero_add, List.flatten_cons, List.set_cons_zero]
    have key : ∀ (a m : List D) (j : Nat), j < a.length → spliceD (a ++ m) j [x] = a.set j x ++ m := by
      intro a
      induction a with
      | nil => intro m j h; simp at h
      | cons d a ih =>
        intro m j h
        cases j with
        | zero => simp [spliceD_zero]
        | succ j => simp only [List.cons_append, spliceD_succ, List.set_cons_succ]; rw [ih m j (by simpa using h)]
    exact key a _ j (by omega)
  | a :: l, i + 1, e, hs, he, hj => by
    have ha := hs a (List.mem_cons_self ..)
    have ih := spliceD_flatten (j := j) (x := x) (el := l) (i := i) (e := e) (fun y hy => hs y (List.mem_cons_of_mem _ hy)) (by simpa using he) hj
    simp only [List.flatten_cons, List.set_cons_succ]
    have key : ∀ (a m : List D) (k : Nat), spliceD (a ++ m) (a.length + k) [x] = a ++ spliceD m k [x] := by
      intro a
      induction a with
      | nil => intro m k; simp
      | cons d a ih2 =>
        intro m k
        rw [List.cons_append, List.length_cons, show a.length + 1 + k = (a.length + k) + 1 from by omega, spliceD_succ, ih2]; rfl
    rw [show (i + 1) * sz + j = a.length + (i * sz + j) from by rw [ha, Nat.succ_mul]; omega, key, ih]
theorem les_set : ∀ {l l' : List D} {j : Nat} {x : D}, D.les l l' → D.les (l.set j x) (l'.set j x)
  | [], [], _, _, k => k
  | a :: l, b :: l', 0, x, k => by simp only [D.les, List.set_cons_zero] at k ⊢; exact ⟨D.le_refl x, k.2⟩
  | a :: l, b :: l', j + 1, x, k => by simp only [D.les, List.set_cons_succ] at k ⊢; exact ⟨k.1, les_set k.2⟩
  | [], _ :: _, _, _, k => by simp [D.les] at k
  | _ :: _, [], _, _, k => by simp [D.les] at k
theorem less_get : ∀ {l l' : List (List D)} {i : Nat} {e : List D}, D.less l l' → l'[i]? = some e → ∃ e0, l[i]? = some e0 ∧ D.les e0 e
  | [], [], _, _, _, he => by simp at he
  | a :: l, b :: l', 0, e, k, he => by simp at he; subst he; simp only [D.less] at k; exact ⟨a, rfl, k.1⟩
  | a :: l, b :: l', i + 1, e, k, he => by simp only [D.less] at k; exact less_get (l := l) (l' := l') k.2 (by simpa using he)
  | [], _ :: _, _, _, k, _ => by simp [D.less] at k
  | _ :: _, [], _, _, k, _ => by simp [D.less] at k
theorem less_set : ∀ {l l' : List (List D)} {i : Nat} {a b : List D}, D.less l l' → D.les a b → D.less (l.set i a) (l'.set i b)
  | [], [], _, _, _, k, _ => k
  | x :: l, y :: l', 0, a, b, k, k2 => by simp only [D.less, List.set_cons_zero] at k ⊢; exact ⟨k2, k.2⟩
  | x :: l, y :: l', i + 1, a, b, k, k2 => by simp only [D.less, List.set_cons_succ] at k ⊢; exact ⟨k.1, less_set k.2 k2⟩
  | [], _ :: _, _, _, _, k, _ => by simp [D.less] at k
  | _ :: _, [], _, _, _, k, _ => by simp [D.less] at k
theorem Gr.place (g : Gr H0 H sz s el) (hn : 0 < el.length) : ∃ b ex el0, s = .slice b 0 sz el.length el.length ex ∧ H0.next ≤ b ∧ b < H.next ∧ H.blk b = .cells el0.flatten false ∧ D.less el0 el ∧ el0.flatten.length = el.length * sz := by
  rcases g.at_ with ⟨rfl, rfl⟩ | ⟨b, ex, el0, rfl, h1, h2, h3, h4⟩
  · simp at hn
  · exact ⟨b, ex, el0, rfl, h1, h2, h3, h4, by rw [flatten_len (less_sz h4 g.len), less_length h4]⟩
theorem Gr.set (g : Gr H0 H sz s el) {b : Nat} {ex : Bool} {el0 : List (List D)} (hs : s = .slice b 0 sz el.length el.length ex) (h1 : H0.next ≤ b) (h2 : b < H.next) (h4 : D.less el0 el) {i j o : Nat} {e : List D} {x : D} (he : el[i]? = some e) (hj : j < sz) (ho : o = i * sz + j) :
    Gr H0 (H.put b (.cells (spliceD el0.flatten o [x]) false)) sz s (el.set i (e.set j x)) := by
  subst ho
  obtain ⟨e0, h5, h6⟩ := less_get h4 he
  have hl : e.length = sz := g.len e (List.mem_of_getElem? he)
  refine ⟨g.sub.put h1, fun y hy => ?_, .inr ⟨b, ex, el0.set i (e0.set j x), by rw [List.length_set]; exact hs, h1, h2, ?_, less_set h4 (les_set h6)⟩⟩
  · rcases List.mem_or_eq_of_mem_set hy with hy | rfl
    · exact g.len y hy
    · rw [List.length_set]; exact hl
  · rw [put_blk, if_pos rfl, spliceD_flatten (less_sz h4 g.len) h5 hj]
end
end Go.Dv
end
