/-
  Texts that the claim's last one rests on, joined.
-/
import Derived.Test.YtcoghkkhjaokmaaDoorBReptApartf
import Derived.Test.YtcoghkkhjaokmaaDoorBReptApartg
import Derived.Test.YtcoghkkhjaokmaaDoorBReptApartc
import Derived.Test.YtcoghkkhjaokmaaDoorRows
import Derived.Shelf.LaysM
import Derived.Shelf.LaysC
import Derived.Shelf.Strings.Prefix
import Derived.Shelf.Small.Wraps
import Derived.Shelf.Small.Strs
import Derived.Shelf.Strings.Cut
import Derived.Shelf.Strings.SplitShaped
import Derived.Shelf.Strings.OnBuilder
import Derived.Shelf.Strconv.Itoa4
import Derived.Shelf.Strconv.ParseIntPublic10
import Derived.Shelf.Strconv.AtoiAll
import Derived.Stop.LaidErr
import Derived.Lay
import Derived.MakeChecks
import Derived.LaidOnce
import Derived.SevenTiedAt
import Derived.LaidSub
import Derived.Lib.LaidTab
import Derived.Shelf.Vars
import Derived.WalkKit
import Derived.ProofKit

section
namespace Go.Lib
open Go.Vm Go.Dv
set_option maxRecDepth 100000
abbrev K32 (F : Nat → Nat) : KC := .seq (.region [⟨(some 4),(.a (.box (.tmp 1))),none⟩,⟨(some 6),(.p (.mov (.val (.nilslice)))),none⟩,⟨(some 7),(.p (.mov (.val (.bool false)))),none⟩] [4] [0,2,4])
 (.seq (.seq (.region [l1 16 4,bi 17 .lss 16 0] [] [0,2,4,17])
 (.cond (.tmp 17) (.seq (.region [mv 19 0,mv 20 2,⟨(some 21),(.e (.call (F 36) [(.val (.nilslice)),(.tmp 19),(.tmp 20)])),none⟩,mv 18 21,et 22 18 0,et 23 18 1,mv 8 22,mv 9 23] [] [8,9])
 (.seq (.seq (.region [mv 24 9,⟨(some 25),(.p (.not (.tmp 24))),none⟩] [] [8,25])
 (.cond (.tmp 25) (.seq (.region [⟨(some 6),(.p (.mov (.val (.nilslice)))),none⟩,⟨(some 7),(.p (.mov (.val (.bool false)))),none⟩] [] [6,7])
 (.ret))
 (.skip)))
 (.seq (.region [mv 26 8,⟨(some 27),(.a (.bslice [.nilslice] 1 1 [(0,1,(.tmp 26))])),none⟩,mv 6 27,⟨(some 7),(.p (.mov (.val (.bool true)))),none⟩] [27] [6,7])
 (.ret))))
 (.skip)))
 (.seq (.region [mv 28 0,⟨(some 29),(.e (.call (F 37) [(.tmp 28)])),none⟩,mv 10 29] [] [2,4,10])
 (.seq (.region [mv 30 10,⟨(some 31),(.p (.mkfunc (F 38) [] [(.tmp 4)])),none⟩,⟨(some 32),(.e (.call (F 26) [(.tmp 30),(.tmp 31)])),none⟩] [] [2,4,10])
 (.seq (.region [⟨(some 11),(.p (.mov (.val (.nilslice)))),none⟩] [] [2,4,10,11])
 (.seq (.block 0 (.loop (.seq (.seq (.region [mv 33 10,lb 34 33,bi 35 .gtr 34 0] [] [2,4,10,11,35])
 (.cond (.tmp 35) (.skip)
 (.exit 0)))
 (.block 1 (.seq (.dregion [⟨mv 36 10,0,4⟩,⟨⟨(some 37),(.p (.iaddr 1 (.tmp 36) (.val (.int .i64 (.ofNat 0))))),none⟩,0,4⟩,⟨l1 38 37,0,4⟩,⟨l1 39 4,0,4⟩,⟨⟨(some 40),(.e (.call (F 3) [(.tmp 38),(.tmp 39)])),none⟩,0,6⟩,⟨⟨(some 12),(.a (.new [.bool false,.int .i64 (.ofNat 0),.int .i64 (.ofNat 0),.nilslice])),none⟩,0,6⟩,⟨⟨none,(.e (.store 4 (.tmp 12) (.tmp 40))),none⟩,5,7⟩] [2,4,10,11,12])
 (.seq (.region [mi 13 1] [] [2,4,10,11,12,13])
 (.seq (.block 2 (.loop (.seq (.seq (.dregion [⟨mv 41 13,0,10⟩,⟨mv 42 10,0,10⟩,⟨lb 43 42,0,10⟩,⟨bt 44 .lss 41 43,0,10⟩,⟨mv 45 44,0,10⟩,⟨⟨(some 46),(.p (.mov (.tmp 10))),(some (45,true))⟩,0,10⟩,⟨⟨(some 47),(.p (.mov (.tmp 13))),(some (45,true))⟩,0,10⟩,⟨⟨(some 48),(.p (.iaddr 1 (.tmp 46) (.tmp 47))),(some (45,true))⟩,0,10⟩,⟨⟨(some 49),(.load1 (.tmp 48)),(some (45,true))⟩,0,10⟩,⟨⟨(some 50),(.load1 (.tmp 4)),(some (45,true))⟩,0,10⟩,⟨⟨(some 51),(.e (.call (F 3) [(.tmp 49),(.tmp 50)])),(some (45,true))⟩,0,12⟩,⟨⟨(some 52),(.loadn 4 (.tmp 12)),(some (45,true))⟩,0,12⟩,⟨⟨(some 53),(.e (.call (F 1) [(.tmp 51),(.tmp 52)])),(some (45,true))⟩,11,15⟩,⟨⟨(some 54),(.p (.bin .eql (.tmp 53) (.val (.int .i64 (.ofNat 0))))),(some (45,true))⟩,13,15⟩,⟨⟨(some 55),(.p (.pick (.tmp 45) (.tmp 54) (.val (.bool false)))),none⟩,13,15⟩] [2,4,10,11,12,13,55])
 (.cond (.tmp 55) (.skip)
 (.exit 2)))
 (.block 3 (.region [mv 56 13,bi 57 .add 56 1,mv 13 57] [] [2,4,10,11,12,13])))))
 (.seq (.dregion [⟨ln 59 4 12,0,6⟩,⟨⟨(some 60),(.a (.bslice [.bool false,.int .i64 (.ofNat 0),.int .i64 (.ofNat 0),.nilslice] 4 1 [(0,4,(.tmp 59))])),none⟩,0,6⟩,⟨mv 61 10,0,6⟩,⟨mv 62 13,0,6⟩,⟨⟨(some 63),(.p (.slc 1 (.tmp 61) none (some (.tmp 62)) none)),none⟩,0,6⟩,⟨mv 64 2,0,6⟩,⟨⟨(some 65),(.e (.call (F 36) [(.tmp 60),(.tmp 63),(.tmp 64)])),none⟩,0,12⟩,⟨mv 58 65,7,12⟩,⟨et 66 58 0,7,12⟩,⟨et 67 58 1,7,12⟩,⟨mv 14 66,7,12⟩,⟨mv 15 67,7,12⟩] [2,4,10,11,13,14,15])
 (.seq (.seq (.region [mv 68 15,⟨(some 69),(.p (.not (.tmp 68))),none⟩] [] [2,4,10,11,13,14,69])
 (.cond (.tmp 69) (.seq (.region [⟨(some 6),(.p (.mov (.val (.nilslice)))),none⟩,⟨(some 7),(.p (.mov (.val (.bool false)))),none⟩] [] [6,7])
 (.ret))
 (.skip)))
 (.seq (.region [mv 70 11,mv 71 14,⟨(some 72),(.a (.bslice [.nilslice] 1 1 [(0,1,(.tmp 71))])),none⟩,⟨(some 73),(.e (.append 1 24 (.tmp 70) (.tmp 72))),none⟩,mv 11 73] [72] [2,4,10,11,13])
 (.region [mv 74 10,mv 75 13,⟨(some 76),(.p (.slc 1 (.tmp 74) (some (.tmp 75)) none none)),none⟩,mv 10 76] [] [2,4,10,11])))))))))))
 (.seq (.region [mv 77 11,⟨(some 78),(.e (.call (F 39) [(.tmp 77)])),none⟩,mv 6 78,⟨(some 7),(.p (.mov (.val (.bool true)))),none⟩] [] [6,7])
 (.ret)))))))
def M32 (F : Nat → Nat) : Fun := ⟨79,3,(K32 F).erase,[.tmp 6,.tmp 7]⟩
abbrev K33 (F : Nat → Nat) : KC := .seq (.region [⟨(some 2),(.p (.mov (.val (.nilslice)))),none⟩] [] [0])
 (.seq (.region [mv 4 0,⟨(some 5),(.e (.call (F 37) [(.tmp 4)])),none⟩,mv 3 5] [] [3])
 (.seq (.region [mv 6 3,⟨(some 7),(.e (.call (F 26) [(.tmp 6),(.val (.func (F 2) [] []))])),none⟩] [] [3])
 (.seq (.region [mv 8 3,mv 2 8] [] [2])
 (.ret))))
def M33 (F : Nat → Nat) : Fun := ⟨9,1,(K33 F).erase,[.tmp 2]⟩
abbrev K34 (F : Nat → Nat) : KC := .seq (.region [⟨(some 4),(.p (.mov (.val (.nilslice)))),none⟩] [] [0,1])
 (.seq (.region [⟨(some 5),(.p (.mov (.val (.nilslice)))),none⟩] [] [0,1,5])
 (.seq (.seq (.region [mv 11 0,lb 12 11,mi 13 0] [] [1,5,11,12,13])
 (.block 0 (.loop (.seq (.region [bt 14 .lss 13 12] [] [1,5,11,12,13,14])
 (.seq (.cond (.tmp 14) (.skip)
 (.exit 0))
 (.seq (.block 1 (.seq (.region [ix 15 1 11 13,l1 16 15,mv 7 16] [] [1,5,7,11,12,13])
 (.seq (.region [⟨(some 8),(.p (.mov (.val (.nilslice)))),none⟩] [] [1,5,7,8,11,12,13])
 (.seq (.seq (.region [mv 17 1,lb 18 17,mi 19 0] [] [1,5,7,8,11,12,13,17,18,19])
 (.block 2 (.loop (.seq (.region [bt 20 .lss 19 18] [] [1,5,7,8,11,12,13,17,18,19,20])
 (.seq (.cond (.tmp 20) (.skip)
 (.exit 2))
 (.seq (.block 3 (.seq (.region [ix 21 1 17 19,l1 22 21,mv 10 22] [] [1,5,7,8,10,11,12,13,17,18,19])
 (.region [mv 23 8,mv 24 7,mv 25 10,⟨(some 26),(.e (.call (F 3) [(.tmp 24),(.tmp 25)])),none⟩,⟨(some 27),(.a (.bslice [.bool false,.int .i64 (.ofNat 0),.int .i64 (.ofNat 0),.nilslice] 4 1 [(0,4,(.tmp 26))])),none⟩,⟨(some 28),(.e (.append 4 48 (.tmp 23) (.tmp 27))),none⟩,mv 8 28] [27] [1,5,7,8,11,12,13,17,18,19])))
 (.region [bi 29 .add 19 1,mv 19 29] [] [1,5,7,8,11,12,13,17,18,19])))))))
 (.region [mv 30 5,mv 31 8,⟨(some 32),(.a (.bslice [.nilslice] 1 1 [(0,1,(.tmp 31))])),none⟩,⟨(some 33),(.e (.append 1 24 (.tmp 30) (.tmp 32))),none⟩,mv 5 33] [32] [1,5,11,12,13])))))
 (.region [bi 34 .add 13 1,mv 13 34] [] [1,5,11,12,13])))))))
 (.seq (.region [mv 35 5,⟨(some 36),(.e (.call (F 33) [(.tmp 35)])),none⟩,mv 4 36] [] [4])
 (.ret))))
def M34 (F : Nat → Nat) : Fun := ⟨37,2,(K34 F).erase,[.tmp 4]⟩
abbrev K35 (F : Nat → Nat) : KC := .seq (.region [⟨(some 4),(.p (.mov (.val (.nilslice)))),none⟩,⟨(some 5),(.p (.mov (.val (.bool false)))),none⟩] [] [0,1])
 (.seq (.region [mv 12 0,⟨(some 13),(.e (.call (F 4) [(.tmp 12)])),none⟩,mv 6 13] [] [1,6])
 (.seq (.seq (.region [mv 14 1,lb 15 14,mi 16 0] [] [6,14,15,16])
 (.block 0 (.loop (.seq (.region [bt 17 .lss 16 15] [] [6,14,15,16,17])
 (.seq (.cond (.tmp 17) (.skip)
 (.exit 0))
 (.seq (.block 1 (.seq (.region [ix 18 6 14 16,ln 19 6 18,⟨(some 8),(.a (.new [.int .i64 (.ofNat 0),.bool false,.bool false,.int .i64 (.ofNat 0),.int .i64 (.ofNat 0),.nilslice])),none⟩,⟨none,(.e (.store 6 (.tmp 8) (.tmp 19))),none⟩] [] [6,8,14,15,16])
 (.seq (.seq (.region [fa 20 0 8,l1 21 20,bi 22 .lss 21 0,mv 23 22,⟨(some 24),(.p (.faddr 0 (.tmp 8))),(some (23,false))⟩,⟨(some 25),(.load1 (.tmp 24)),(some (23,false))⟩,⟨(some 26),(.p (.mov (.tmp 6))),(some (23,false))⟩,⟨(some 27),(.p (.lenb (.tmp 26))),(some (23,false))⟩,⟨(some 28),(.p (.bin .geq (.tmp 25) (.tmp 27))),(some (23,false))⟩,⟨(some 29),(.p (.pick (.tmp 23) (.val (.bool true)) (.tmp 28))),none⟩] [] [6,8,14,15,16,29])
 (.cond (.tmp 29) (.exit 1)
 (.skip)))
 (.seq (.region [mv 30 6,fa 31 0 8,l1 32 31,ix 33 4 30 32,mv 9 33] [] [6,8,9,14,15,16])
 (.block 2 (.seq (.region [fa 35 1 8,l1 36 35,⟨(some 37),(.p (.not (.tmp 36))),none⟩,mv 34 37] [] [6,8,9,14,15,16,34])
 (.cond (.tmp 34) (.region [mv 38 9,fa 39 2 8,ln 40 4 39,⟨(some 41),(.e (.call (F 5) [(.tmp 40)])),none⟩,⟨(some 42),(.p (.nilchk (.tmp 38))),none⟩,⟨none,(.e (.store 4 (.tmp 42) (.tmp 41))),none⟩] [] [6,14,15,16])
 (.seq (.region [mv 44 9,⟨(some 45),(.p (.nilchk (.tmp 44))),none⟩,fa 46 0 45,l1 47 46,⟨(some 48),(.p (.not (.tmp 47))),none⟩,mv 43 48] [] [6,8,9,14,15,16,43])
 (.cond (.tmp 43) (.seq (.dregion [⟨mv 50 9,0,7⟩,⟨⟨(some 51),(.p (.nilchk (.tmp 50))),none⟩,0,7⟩,⟨fa 52 2 51,0,7⟩,⟨l1 53 52,0,7⟩,⟨fa 54 2 8,0,7⟩,⟨fa 55 2 54,0,7⟩,⟨l1 56 55,0,7⟩,⟨⟨(some 57),(.e (.call (F 40) [(.tmp 53),(.tmp 56)])),none⟩,0,13⟩,⟨mv 49 57,8,13⟩,⟨et 58 49 0,8,13⟩,⟨et 59 49 1,8,13⟩,⟨mv 10 58,8,13⟩,⟨mv 11 59,8,13⟩] [6,9,10,11,14,15,16])
 (.seq (.seq (.region [mv 60 11,⟨(some 61),(.p (.not (.tmp 60))),none⟩] [] [6,9,10,14,15,16,61])
 (.cond (.tmp 61) (.seq (.region [⟨(some 4),(.p (.mov (.val (.nilslice)))),none⟩,⟨(some 5),(.p (.mov (.val (.bool false)))),none⟩] [] [4,5])
 (.ret))
 (.skip)))
 (.region [mv 62 9,mv 63 10,⟨(some 64),(.p (.nilchk (.tmp 62))),none⟩,fa 65 2 64,⟨none,(.e (.store 1 (.tmp 65) (.tmp 63))),none⟩] [] [6,14,15,16])))
 (.skip))))))))))
 (.region [bi 66 .add 16 1,mv 16 66] [] [6,14,15,16])))))))
 (.seq (.region [mv 67 6,mv 4 67,⟨(some 5),(.p (.mov (.val (.bool true)))),none⟩] [] [4,5])
 (.ret))))
def M35 (F : Nat → Nat) : Fun := ⟨68,2,(K35 F).erase,[.tmp 4,.tmp 5]⟩
abbrev K36 (F : Nat → Nat) : KC := .seq (.region [⟨(some 6),(.p (.mov (.val (.nilslice)))),none⟩,⟨(some 7),(.p (.mov (.val (.bool false)))),none⟩] [] [0,1,2])
 (.seq (.region [mv 13 0,mv 8 13] [] [1,2,8])
 (.seq (.seq (.region [mv 14 2,lb 15 14,mi 16 0] [] [1,8,14,15,16])
 (.block 0 (.loop (.seq (.region [bt 17 .lss 16 15] [] [1,8,14,15,16,17])
 (.seq (.cond (.tmp 17) (.skip)
 (.exit 0))
 (.seq (.block 1 (.seq (.region [ix 18 2 14 16,ln 19 2 18,⟨(some 10),(.a (.new [.int .i64 (.ofNat 0),.int .i64 (.ofNat 0)])),none⟩,⟨none,(.e (.store 2 (.tmp 10) (.tmp 19))),none⟩] [] [1,8,10,14,15,16])
 (.seq (.region [mv 21 1,ln 22 2 10,⟨(some 23),(.e (.call (F 41) [(.tmp 21),(.tmp 22)])),none⟩,mv 20 23,et 24 20 0,et 25 20 1,⟨(some 11),(.a (.new [.bool false,.int .i64 (.ofNat 0),.int .i64 (.ofNat 0),.nilslice])),none⟩,⟨none,(.e (.store 4 (.tmp 11) (.tmp 24))),none⟩,mv 12 25] [] [1,8,11,12,14,15,16])
 (.seq (.seq (.region [mv 26 12,⟨(some 27),(.p (.not (.tmp 26))),none⟩] [] [1,8,11,14,15,16,27])
 (.cond (.tmp 27) (.seq (.region [⟨(some 6),(.p (.mov (.val (.nilslice)))),none⟩,⟨(some 7),(.p (.mov (.val (.bool false)))),none⟩] [] [6,7])
 (.ret))
 (.skip)))
 (.region [mv 28 8,ln 29 4 11,⟨(some 30),(.a (.bslice [.bool false,.int .i64 (.ofNat 0),.int .i64 (.ofNat 0),.nilslice] 4 1 [(0,4,(.tmp 29))])),none⟩,⟨(some 31),(.e (.append 4 48 (.tmp 28) (.tmp 30))),none⟩,mv 8 31] [30] [1,8,14,15,16])))))
 (.region [bi 32 .add 16 1,mv 16 32] [] [1,8,14,15,16])))))))
 (.seq (.region [mv 33 8,⟨(some 34),(.e (.call (F 13) [(.tmp 33)])),none⟩,mv 6 34,⟨(some 7),(.p (.mov (.val (.bool true)))),none⟩] [] [6,7])
 (.ret))))
def M36 (F : Nat → Nat) : Fun := ⟨35,3,(K36 F).erase,[.tmp 6,.tmp 7]⟩
abbrev K37 (F : Nat → Nat) : KC := .seq (.region [⟨(some 2),(.p (.mov (.val (.nilslice)))),none⟩] [] [0])
 (.seq (.region [⟨(some 3),(.p (.mov (.val (.nilslice)))),none⟩] [] [0,3])
 (.seq (.seq (.region [mv 6 0,lb 7 6,mi 8 0] [] [3,6,7,8])
 (.block 0 (.loop (.seq (.region [bt 9 .lss 8 7] [] [3,6,7,8,9])
 (.seq (.cond (.tmp 9) (.skip)
 (.exit 0))
 (.seq (.block 1 (.seq (.region [ix 10 1 6 8,l1 11 10,mv 5 11] [] [3,5,6,7,8])
 (.region [mv 12 3,mv 13 5,⟨(some 14),(.e (.call (F 4) [(.tmp 13)])),none⟩,⟨(some 15),(.a (.bslice [.nilslice] 1 1 [(0,1,(.tmp 14))])),none⟩,⟨(some 16),(.e (.append 1 24 (.tmp 12) (.tmp 15))),none⟩,mv 3 16] [15] [3,6,7,8])))
 (.region [bi 17 .add 8 1,mv 8 17] [] [3,6,7,8])))))))
 (.seq (.region [mv 18 3,⟨(some 19),(.e (.call (F 39) [(.tmp 18)])),none⟩,mv 2 19] [] [2])
 (.ret))))
def M37 (F : Nat → Nat) : Fun := ⟨20,1,(K37 F).erase,[.tmp 2]⟩
abbrev K38 (F : Nat → Nat) : KC := .seq (.region [mi 5 0] [] [0,1,2])
 (.seq (.dregion [⟨mv 6 0,0,2⟩,⟨l1 7 2,0,2⟩,⟨⟨(some 8),(.e (.call (F 3) [(.tmp 6),(.tmp 7)])),none⟩,0,5⟩,⟨mv 9 1,0,5⟩,⟨l1 10 2,0,5⟩,⟨⟨(some 11),(.e (.call (F 3) [(.tmp 9),(.tmp 10)])),none⟩,3,6⟩,⟨⟨(some 12),(.e (.call (F 1) [(.tmp 8),(.tmp 11)])),none⟩,6,8⟩,⟨mv 5 12,7,8⟩] [5])
 (.ret))
def M38 (F : Nat → Nat) : Fun := ⟨13,3,(K38 F).erase,[.tmp 5]⟩
abbrev K39 (_F : Nat → Nat) : KC := .seq (.region [⟨(some 2),(.p (.mov (.val (.nilslice)))),none⟩] [] [0])
 (.seq (.region [mv 3 0,mv 4 0,lb 5 4,mv 6 0,lb 7 6,⟨(some 8),(.p (.slc 1 (.tmp 3) none (some (.tmp 5)) (some (.tmp 7)))),none⟩,mv 2 8] [] [2])
 (.ret))
def M39 (F : Nat → Nat) : Fun := ⟨9,1,(K39 F).erase,[.tmp 2]⟩
abbrev K40 (F : Nat → Nat) : KC := .seq (.region [mi 4 0,⟨(some 5),(.p (.mov (.val (.bool false)))),none⟩] [] [0,1])
 (.seq (.region [⟨(some 6),(.a (.new [.int .i64 (.ofNat 0),.int .u64 (.ofNat 0)])),none⟩] [] [0,1,6])
 (.seq (.region [mv 7 0,⟨(some 8),(.e (.call (F 42) [(.tmp 6),(.tmp 7)])),none⟩] [] [1,6])
 (.seq (.region [mv 9 1,⟨(some 10),(.e (.call (F 42) [(.tmp 6),(.tmp 9)])),none⟩] [] [6])
 (.seq (.dregion [⟨fa 11 1 6,0,12⟩,⟨l1 12 11,0,12⟩,⟨⟨(some 13),(.p (.conv (.int .i64) (.tmp 12))),none⟩,0,12⟩,⟨fa 14 0 6,0,12⟩,⟨l1 15 14,0,12⟩,⟨fa 16 1 6,0,12⟩,⟨l1 17 16,0,12⟩,⟨⟨(some 18),(.p (.conv (.int .i64) (.tmp 17))),none⟩,0,12⟩,⟨⟨(some 19),(.p (.bin .shr (.tmp 18) (.val (.int .u64 (.ofNat 63))))),none⟩,0,12⟩,⟨bt 20 .eql 15 19,0,12⟩,⟨mv 4 13,0,12⟩,⟨mv 5 20,0,12⟩] [4,5])
 (.ret)))))
def M40 (F : Nat → Nat) : Fun := ⟨21,2,(K40 F).erase,[.tmp 4,.tmp 5]⟩
abbrev K41 (F : Nat → Nat) : KC := .seq (.region [⟨(some 3),(.a (.box (.tmp 1))),none⟩,⟨(some 4),(.a (.new [.bool false,.int .i64 (.ofNat 0),.int .i64 (.ofNat 0),.nilslice])),none⟩,⟨(some 5),(.p (.mov (.val (.bool false)))),none⟩] [3] [0,3,4])
 (.seq (.seq (.region [fa 6 0 3,l1 7 6] [] [0,3,4,7])
 (.block 0 (.seq (.region [bi 9 .eql 7 1,mv 8 9] [] [0,3,4,7,8])
 (.cond (.tmp 8) (.seq (.region [mv 10 0,lb 11 10,⟨(some 12),(.p (.build [.bool false,.int .i64 (.ofNat 0),.int .i64 (.ofNat 0),.nilslice] [(1,1,(.val (.int .i64 (.ofNat 1)))),(2,1,(.tmp 11))])),none⟩,⟨none,(.e (.store 4 (.tmp 4) (.tmp 12))),none⟩,⟨(some 5),(.p (.mov (.val (.bool true)))),none⟩] [] [4,5])
 (.ret))
 (.seq (.region [bi 14 .eql 7 2,mv 13 14] [] [0,3,4,7,13])
 (.cond (.tmp 13) (.seq (.region [mv 15 0,fa 16 1 3,l1 17 16,⟨(some 18),(.e (.call (F 43) [(.tmp 15),(.tmp 17)])),none⟩,et 19 18 0,et 20 18 1,⟨none,(.e (.store 4 (.tmp 4) (.tmp 19))),none⟩,mv 5 20] [] [4,5])
 (.ret))
 (.seq (.region [bi 22 .eql 7 3,mv 21 22] [] [0,3,4,21])
 (.cond (.tmp 21) (.seq (.region [mv 23 0,fa 24 1 3,l1 25 24,⟨(some 26),(.e (.call (F 44) [(.tmp 23),(.tmp 25),(.val (.int .i64 (.negSucc 0)))])),none⟩,⟨none,(.e (.store 4 (.tmp 4) (.tmp 26))),none⟩,⟨(some 5),(.p (.mov (.val (.bool true)))),none⟩] [] [4,5])
 (.ret))
 (.skip)))))))))
 (.seq (.region [mv 27 0,fa 28 1 3,l1 29 28,⟨(some 30),(.e (.call (F 44) [(.tmp 27),(.tmp 29),(.val (.int .i64 (.ofNat 1)))])),none⟩,⟨none,(.e (.store 4 (.tmp 4) (.tmp 30))),none⟩,⟨(some 5),(.p (.mov (.val (.bool true)))),none⟩] [] [4,5])
 (.ret)))
def M41 (F : Nat → Nat) : Fun := ⟨31,2,(K41 F).erase,[.celln 4 4,.tmp 5]⟩
abbrev K42 (F : Nat → Nat) : KC := .seq (.region [mv 7 0,⟨(some 8),(.p (.nilchk (.tmp 7))),none⟩,fa 9 1 8,l1 10 9,mv 11 1,⟨(some 12),(.p (.conv (.int .u64) (.tmp 11))),none⟩,⟨(some 13),(.e (.extern (F 45) [(.tmp 10),(.tmp 12),(.val (.int .u64 (.ofNat 0)))])),none⟩,mv 6 13,et 14 6 0,et 15 6 1,mv 4 14,mv 5 15] [] [0,1,4,5])
 (.seq (.region [mv 16 0,mv 17 4,⟨(some 18),(.p (.nilchk (.tmp 16))),none⟩,fa 19 1 18,⟨none,(.e (.store 1 (.tmp 19) (.tmp 17))),none⟩] [] [0,1,5])
 (.region [mv 20 0,⟨(some 21),(.p (.nilchk (.tmp 20))),none⟩,fa 22 0 21,l1 23 22,mv 24 1,⟨(some 25),(.p (.bin .shr (.tmp 24) (.val (.int .u64 (.ofNat 63))))),none⟩,mv 26 5,⟨(some 27),(.p (.conv (.int .i64) (.tmp 26))),none⟩,bt 28 .add 25 27,bt 29 .add 23 28,⟨(some 30),(.p (.nilchk (.tmp 20))),none⟩,fa 31 0 30,⟨none,(.e (.store 1 (.tmp 31) (.tmp 29))),none⟩] [] []))
def M42 (F : Nat → Nat) : Fun := ⟨32,2,(K42 F).erase,[]⟩
abbrev K43 (F : Nat → Nat) : KC := .seq (.region [⟨(some 4),(.a (.new [.bool false,.int .i64 (.ofNat 0),.int .i64 (.ofNat 0),.nilslice])),none⟩,⟨(some 5),(.p (.mov (.val (.bool false)))),none⟩] [] [0,1,4])
 (.seq (.region [⟨(some 6),(.a (.new [.int .i64 (.ofNat 0),.int .u64 (.ofNat 0)])),none⟩] [] [0,1,4,6])
 (.seq (.seq (.region [mv 10 0,lb 11 10,mi 12 0] [] [1,4,6,10,11,12])
 (.block 0 (.loop (.seq (.region [bt 13 .lss 12 11] [] [1,4,6,10,11,12,13])
 (.seq (.cond (.tmp 13) (.skip)
 (.exit 0))
 (.seq (.block 1 (.seq (.region [ix 14 1 10 12,l1 15 14,mv 8 15] [] [1,4,6,8,10,11,12])
 (.seq (.region [mv 16 8,mv 17 1,⟨(some 18),(.e (.call (F 3) [(.tmp 16),(.tmp 17)])),none⟩,⟨(some 9),(.a (.new [.bool false,.int .i64 (.ofNat 0),.int .i64 (.ofNat 0),.nilslice])),none⟩,⟨none,(.e (.store 4 (.tmp 9) (.tmp 18))),none⟩] [] [1,4,6,9,10,11,12])
 (.seq (.region [fa 19 0 9,l1 20 19,⟨(some 21),(.p (.not (.tmp 20))),none⟩] [] [1,4,6,9,10,11,12,21])
 (.cond (.tmp 21) (.region [fa 22 2 9,l1 23 22,⟨(some 24),(.e (.call (F 42) [(.tmp 6),(.tmp 23)])),none⟩] [] [1,4,6,10,11,12])
 (.skip))))))
 (.region [bi 25 .add 12 1,mv 12 25] [] [1,4,6,10,11,12])))))))
 (.seq (.seq (.region [fa 26 0 6,l1 27 26,fa 28 1 6,l1 29 28,⟨(some 30),(.p (.conv (.int .i64) (.tmp 29))),none⟩,⟨(some 31),(.p (.bin .shr (.tmp 30) (.val (.int .u64 (.ofNat 63))))),none⟩,bt 32 .neq 27 31] [] [4,6,32])
 (.cond (.tmp 32) (.seq (.region [⟨(some 33),(.p (.build [.bool false,.int .i64 (.ofNat 0),.int .i64 (.ofNat 0),.nilslice] [])),none⟩,⟨none,(.e (.store 4 (.tmp 4) (.tmp 33))),none⟩,⟨(some 5),(.p (.mov (.val (.bool false)))),none⟩] [] [4,5])
 (.ret))
 (.skip)))
 (.seq (.region [fa 34 1 6,l1 35 34,⟨(some 36),(.p (.conv (.int .i64) (.tmp 35))),none⟩,⟨(some 37),(.p (.build [.bool false,.int .i64 (.ofNat 0),.int .i64 (.ofNat 0),.nilslice] [(1,1,(.val (.int .i64 (.ofNat 1)))),(2,1,(.tmp 36))])),none⟩,⟨none,(.e (.store 4 (.tmp 4) (.tmp 37))),none⟩,⟨(some 5),(.p (.mov (.val (.bool true)))),none⟩] [] [4,5])
 (.ret)))))
def M43 (F : Nat → Nat) : Fun := ⟨38,2,(K43 F).erase,[.celln 4 4,.tmp 5]⟩
abbrev K44 (F : Nat → Nat) : KC := .seq (.region [⟨(some 6),(.a (.new [.bool false,.int .i64 (.ofNat 0),.int .i64 (.ofNat 0),.nilslice])),none⟩] [] [0,1,2,6])
 (.seq (.region [⟨(some 11),(.p (.build [.bool false,.int .i64 (.ofNat 0),.int .i64 (.ofNat 0),.nilslice] [(0,1,(.val (.bool true)))])),none⟩,⟨(some 7),(.a (.new [.bool false,.int .i64 (.ofNat 0),.int .i64 (.ofNat 0),.nilslice])),none⟩,⟨none,(.e (.store 4 (.tmp 7) (.tmp 11))),none⟩] [] [0,1,2,6,7])
 (.seq (.seq (.region [mv 12 0,lb 13 12,mi 14 0] [] [1,2,6,7,12,13,14])
 (.block 0 (.loop (.seq (.region [bt 15 .lss 14 13] [] [1,2,6,7,12,13,14,15])
 (.seq (.cond (.tmp 15) (.skip)
 (.exit 0))
 (.seq (.block 1 (.seq (.region [ix 16 1 12 14,l1 17 16,mv 9 17] [] [1,2,6,7,9,12,13,14])
 (.seq (.region [mv 18 9,mv 19 1,⟨(some 20),(.e (.call (F 3) [(.tmp 18),(.tmp 19)])),none⟩,⟨(some 10),(.a (.new [.bool false,.int .i64 (.ofNat 0),.int .i64 (.ofNat 0),.nilslice])),none⟩,⟨none,(.e (.store 4 (.tmp 10) (.tmp 20))),none⟩] [] [1,2,6,7,10,12,13,14])
 (.block 2 (.seq (.region [fa 22 0 10,l1 23 22,mv 21 23] [] [1,2,6,7,10,12,13,14,21])
 (.cond (.tmp 21) (.region [fa 24 1 10,l1 25 24,fa 26 1 7,⟨none,(.e (.store 1 (.tmp 26) (.tmp 25))),none⟩] [] [1,2,6,7,12,13,14])
 (.seq (.region [fa 28 0 7,l1 29 28,mv 30 29,⟨(some 31),(.loadn 4 (.tmp 10)),(some (30,false))⟩,⟨(some 32),(.loadn 4 (.tmp 7)),(some (30,false))⟩,⟨(some 33),(.e (.call (F 1) [(.tmp 31),(.tmp 32)])),(some (30,false))⟩,⟨(some 34),(.p (.mov (.tmp 2))),(some (30,false))⟩,⟨(some 35),(.p (.bin .mul (.tmp 33) (.tmp 34))),(some (30,false))⟩,⟨(some 36),(.p (.bin .gtr (.tmp 35) (.val (.int .i64 (.ofNat 0))))),(some (30,false))⟩,⟨(some 37),(.p (.pick (.tmp 30) (.val (.bool true)) (.tmp 36))),none⟩,mv 27 37] [] [1,2,6,7,10,12,13,14,27])
 (.cond (.tmp 27) (.region [ln 38 4 10,⟨none,(.e (.store 4 (.tmp 7) (.tmp 38))),none⟩] [] [1,2,6,7,12,13,14])
 (.skip)))))))))
 (.region [bi 39 .add 14 1,mv 14 39] [] [1,2,6,7,12,13,14])))))))
 (.seq (.region [ln 40 4 7,⟨none,(.e (.store 4 (.tmp 6) (.tmp 40))),none⟩] [] [6])
 (.ret))))
def M44 (F : Nat → Nat) : Fun := ⟨41,3,(K44 F).erase,[.celln 4 6]⟩
end Go.Lib
end

section
namespace Go.Lib
open Go.Vm Go.Dv
set_option maxRecDepth 100000
abbrev K26 (F : Nat → Nat) : KC := .region [mv 4 0,mv 5 0,lb 6 5,mv 7 1,⟨(some 8),(.e (.call (F 27) [(.tmp 4),(.tmp 6),(.tmp 7)])),none⟩] [] []
def M26 (F : Nat → Nat) : Fun := ⟨9,2,(K26 F).erase,[]⟩
abbrev K27 (F : Nat → Nat) : KC := .seq (.region [mi 6 20] [] [0,1,2,6])
 (.seq (.region [mv 10 6,mi 7 0,mv 8 10] [] [0,1,2,6,7,8])
 (.seq (.block 0 (.loop (.seq (.seq (.region [mv 11 8,mv 12 1,bt 13 .leq 11 12] [] [0,1,2,6,7,8,13])
 (.cond (.tmp 13) (.skip)
 (.exit 0)))
 (.block 1 (.seq (.region [mv 14 0,mv 15 7,mv 16 8,mv 17 2,⟨(some 18),(.e (.call (F 28) [(.tmp 14),(.tmp 15),(.tmp 16),(.tmp 17)])),none⟩] [] [0,1,2,6,8])
 (.seq (.region [mv 19 8,mv 7 19] [] [0,1,2,6,7,8])
 (.region [mv 20 8,mv 21 6,bt 22 .add 20 21,mv 8 22] [] [0,1,2,6,7,8])))))))
 (.seq (.region [mv 23 0,mv 24 7,mv 25 1,mv 26 2,⟨(some 27),(.e (.call (F 28) [(.tmp 23),(.tmp 24),(.tmp 25),(.tmp 26)])),none⟩] [] [0,1,2,6])
 (.block 2 (.loop (.seq (.seq (.region [mv 28 6,mv 29 1,bt 30 .lss 28 29] [] [0,1,2,6,30])
 (.cond (.tmp 30) (.skip)
 (.exit 2)))
 (.block 3 (.seq (.region [mv 31 6,⟨(some 32),(.p (.bin .mul (.val (.int .i64 (.ofNat 2))) (.tmp 31))),none⟩,mi 7 0,mv 8 32] [] [0,1,2,6,7,8])
 (.seq (.block 4 (.loop (.seq (.seq (.region [mv 33 8,mv 34 1,bt 35 .leq 33 34] [] [0,1,2,6,7,8,35])
 (.cond (.tmp 35) (.skip)
 (.exit 4)))
 (.block 5 (.seq (.region [mv 36 0,mv 37 7,mv 38 7,mv 39 6,bt 40 .add 38 39,mv 41 8,mv 42 2,⟨(some 43),(.e (.call (F 29) [(.tmp 36),(.tmp 37),(.tmp 40),(.tmp 41),(.tmp 42)])),none⟩] [] [0,1,2,6,8])
 (.seq (.region [mv 44 8,mv 7 44] [] [0,1,2,6,7,8])
 (.region [mv 45 8,mv 46 6,⟨(some 47),(.p (.bin .mul (.val (.int .i64 (.ofNat 2))) (.tmp 46))),none⟩,bt 48 .add 45 47,mv 8 48] [] [0,1,2,6,7,8])))))))
 (.seq (.seq (.region [mv 49 7,mv 50 6,bt 51 .add 49 50,mv 9 51] [] [0,1,2,6,7,9])
 (.seq (.region [mv 52 9,mv 53 1,bt 54 .lss 52 53] [] [0,1,2,6,7,9,54])
 (.cond (.tmp 54) (.region [mv 55 0,mv 56 7,mv 57 9,mv 58 1,mv 59 2,⟨(some 60),(.e (.call (F 29) [(.tmp 55),(.tmp 56),(.tmp 57),(.tmp 58),(.tmp 59)])),none⟩] [] [0,1,2,6])
 (.skip))))
 (.region [mv 61 6,bi 62 .mul 61 2,mv 6 62] [] [0,1,2,6])))))))))))
def M27 (F : Nat → Nat) : Fun := ⟨63,3,(K27 F).erase,[]⟩
abbrev K28 (_F : Nat → Nat) : KC := .seq (.region [mv 10 1,bi 11 .add 10 1,mv 8 11] [] [0,1,2,3,8])
 (.block 0 (.loop (.seq (.seq (.region [mv 12 8,mv 13 2,bt 14 .lss 12 13] [] [0,1,2,3,8,14])
 (.cond (.tmp 14) (.skip)
 (.exit 0)))
 (.seq (.block 1 (.seq (.region [mv 17 8,mv 9 17] [] [0,1,2,3,8,9])
 (.block 2 (.loop (.seq (.seq (.dregion [⟨mv 18 9,0,14⟩,⟨mv 19 1,0,14⟩,⟨bt 20 .gtr 18 19,0,14⟩,⟨mv 21 20,0,14⟩,⟨⟨(some 22),(.p (.mov (.tmp 3))),(some (21,true))⟩,0,14⟩,⟨⟨(some 23),(.p (.mov (.tmp 0))),(some (21,true))⟩,0,14⟩,⟨⟨(some 24),(.p (.mov (.tmp 9))),(some (21,true))⟩,0,14⟩,⟨⟨(some 25),(.p (.iaddr 1 (.tmp 23) (.tmp 24))),(some (21,true))⟩,0,14⟩,⟨⟨(some 26),(.load1 (.tmp 25)),(some (21,true))⟩,0,14⟩,⟨⟨(some 27),(.p (.mov (.tmp 0))),(some (21,true))⟩,0,14⟩,⟨⟨(some 28),(.p (.mov (.tmp 9))),(some (21,true))⟩,0,14⟩,⟨⟨(some 29),(.p (.bin .sub (.tmp 28) (.val (.int .i64 (.ofNat 1))))),(some (21,true))⟩,0,14⟩,⟨⟨(some 30),(.p (.iaddr 1 (.tmp 27) (.tmp 29))),(some (21,true))⟩,0,14⟩,⟨⟨(some 31),(.load1 (.tmp 30)),(some (21,true))⟩,0,14⟩,⟨⟨(some 32),(.e (.callv (.tmp 22) [(.tmp 26),(.tmp 31)])),(some (21,true))⟩,0,17⟩,⟨⟨(some 33),(.p (.bin .lss (.tmp 32) (.val (.int .i64 (.ofNat 0))))),(some (21,true))⟩,15,17⟩,⟨⟨(some 34),(.p (.pick (.tmp 21) (.tmp 33) (.val (.bool false)))),none⟩,15,17⟩] [0,1,2,3,8,9,34])
 (.cond (.tmp 34) (.skip)
 (.exit 2)))
 (.seq (.block 3 (.dregion [⟨mv 37 0,0,12⟩,⟨mv 38 9,0,12⟩,⟨mv 42 0,0,12⟩,⟨mv 43 9,0,12⟩,⟨bi 44 .sub 43 1,0,12⟩,⟨ix 45 1 42 44,0,12⟩,⟨l1 46 45,0,12⟩,⟨mv 47 0,0,12⟩,⟨mv 48 9,0,12⟩,⟨ix 49 1 47 48,0,12⟩,⟨l1 50 49,0,12⟩,⟨ix 51 1 37 38,0,12⟩,⟨⟨none,(.e (.store 1 (.tmp 51) (.tmp 46))),none⟩,0,17⟩,⟨mv 39 0,0,17⟩,⟨mv 40 9,0,17⟩,⟨bi 41 .sub 40 1,0,17⟩,⟨ix 52 1 39 41,13,17⟩,⟨⟨none,(.e (.store 1 (.tmp 52) (.tmp 50))),none⟩,13,18⟩] [0,1,2,3,8,9]))
 (.region [mv 35 9,bi 36 .sub 35 1,mv 9 36] [] [0,1,2,3,8,9])))))))
 (.region [mv 15 8,bi 16 .add 15 1,mv 8 16] [] [0,1,2,3,8])))))
def M28 (F : Nat → Nat) : Fun := ⟨53,4,(K28 F).erase,[]⟩
abbrev K29 (F : Nat → Nat) : KC := .seq (.seq (.region [mv 25 2,mv 26 1,bt 27 .sub 25 26,bi 28 .eql 27 1] [] [0,1,2,3,4,28])
 (.cond (.tmp 28) (.seq (.region [mv 29 2,mv 10 29] [] [0,1,3,4,10])
 (.seq (.region [mv 30 3,mv 11 30] [] [0,1,4,10,11])
 (.seq (.block 0 (.loop (.seq (.seq (.region [mv 31 10,mv 32 11,bt 33 .lss 31 32] [] [0,1,4,10,11,33])
 (.cond (.tmp 33) (.skip)
 (.exit 0)))
 (.block 1 (.seq (.region [mv 34 10,mv 35 11,bt 36 .add 34 35,⟨(some 37),(.p (.conv (.int .u64) (.tmp 36))),none⟩,⟨(some 38),(.p (.bin .shr (.tmp 37) (.val (.int .u64 (.ofNat 1))))),none⟩,⟨(some 39),(.p (.conv (.int .i64) (.tmp 38))),none⟩,mv 12 39] [] [0,1,4,10,11,12])
 (.seq (.dregion [⟨mv 40 4,0,9⟩,⟨mv 41 0,0,9⟩,⟨mv 42 12,0,9⟩,⟨ix 43 1 41 42,0,9⟩,⟨l1 44 43,0,9⟩,⟨mv 45 0,0,9⟩,⟨mv 46 1,0,9⟩,⟨ix 47 1 45 46,0,9⟩,⟨l1 48 47,0,9⟩,⟨⟨(some 49),(.e (.callv (.tmp 40) [(.tmp 44),(.tmp 48)])),none⟩,0,11⟩,⟨bi 50 .lss 49 0,10,11⟩] [0,1,4,10,11,12,50])
 (.cond (.tmp 50) (.region [mv 51 12,bi 52 .add 51 1,mv 10 52] [] [0,1,4,10,11])
 (.region [mv 53 12,mv 11 53] [] [0,1,4,10,11]))))))))
 (.seq (.seq (.region [mv 54 1,mv 13 54] [] [0,10,13])
 (.block 2 (.loop (.seq (.seq (.region [mv 55 13,mv 56 10,bi 57 .sub 56 1,bt 58 .lss 55 57] [] [0,10,13,58])
 (.cond (.tmp 58) (.skip)
 (.exit 2)))
 (.seq (.block 3 (.dregion [⟨mv 61 0,0,12⟩,⟨mv 62 13,0,12⟩,⟨mv 66 0,0,12⟩,⟨mv 67 13,0,12⟩,⟨bi 68 .add 67 1,0,12⟩,⟨ix 69 1 66 68,0,12⟩,⟨l1 70 69,0,12⟩,⟨mv 71 0,0,12⟩,⟨mv 72 13,0,12⟩,⟨ix 73 1 71 72,0,12⟩,⟨l1 74 73,0,12⟩,⟨ix 75 1 61 62,0,12⟩,⟨⟨none,(.e (.store 1 (.tmp 75) (.tmp 70))),none⟩,0,17⟩,⟨mv 63 0,0,17⟩,⟨mv 64 13,0,17⟩,⟨bi 65 .add 64 1,0,17⟩,⟨ix 76 1 63 65,13,17⟩,⟨⟨none,(.e (.store 1 (.tmp 76) (.tmp 74))),none⟩,13,18⟩] [0,10,13]))
 (.region [mv 59 13,bi 60 .add 59 1,mv 13 60] [] [0,10,13]))))))
 (.ret)))))
 (.skip)))
 (.seq (.seq (.region [mv 77 3,mv 78 2,bt 79 .sub 77 78,bi 80 .eql 79 1] [] [0,1,2,3,4,80])
 (.cond (.tmp 80) (.seq (.region [mv 81 1,mv 14 81] [] [0,2,4,14])
 (.seq (.region [mv 82 2,mv 15 82] [] [0,2,4,14,15])
 (.seq (.block 4 (.loop (.seq (.seq (.region [mv 83 14,mv 84 15,bt 85 .lss 83 84] [] [0,2,4,14,15,85])
 (.cond (.tmp 85) (.skip)
 (.exit 4)))
 (.block 5 (.seq (.region [mv 86 14,mv 87 15,bt 88 .add 86 87,⟨(some 89),(.p (.conv (.int .u64) (.tmp 88))),none⟩,⟨(some 90),(.p (.bin .shr (.tmp 89) (.val (.int .u64 (.ofNat 1))))),none⟩,⟨(some 91),(.p (.conv (.int .i64) (.tmp 90))),none⟩,mv 16 91] [] [0,2,4,14,15,16])
 (.seq (.dregion [⟨mv 92 4,0,9⟩,⟨mv 93 0,0,9⟩,⟨mv 94 2,0,9⟩,⟨ix 95 1 93 94,0,9⟩,⟨l1 96 95,0,9⟩,⟨mv 97 0,0,9⟩,⟨mv 98 16,0,9⟩,⟨ix 99 1 97 98,0,9⟩,⟨l1 100 99,0,9⟩,⟨⟨(some 101),(.e (.callv (.tmp 92) [(.tmp 96),(.tmp 100)])),none⟩,0,12⟩,⟨bi 102 .lss 101 0,10,12⟩,⟨⟨(some 103),(.p (.not (.tmp 102))),none⟩,10,12⟩] [0,2,4,14,15,16,103])
 (.cond (.tmp 103) (.region [mv 104 16,bi 105 .add 104 1,mv 14 105] [] [0,2,4,14,15])
 (.region [mv 106 16,mv 15 106] [] [0,2,4,14,15]))))))))
 (.seq (.seq (.region [mv 107 2,mv 17 107] [] [0,14,17])
 (.block 6 (.loop (.seq (.seq (.region [mv 108 17,mv 109 14,bt 110 .gtr 108 109] [] [0,14,17,110])
 (.cond (.tmp 110) (.skip)
 (.exit 6)))
 (.seq (.block 7 (.dregion [⟨mv 113 0,0,12⟩,⟨mv 114 17,0,12⟩,⟨mv 118 0,0,12⟩,⟨mv 119 17,0,12⟩,⟨bi 120 .sub 119 1,0,12⟩,⟨ix 121 1 118 120,0,12⟩,⟨l1 122 121,0,12⟩,⟨mv 123 0,0,12⟩,⟨mv 124 17,0,12⟩,⟨ix 125 1 123 124,0,12⟩,⟨l1 126 125,0,12⟩,⟨ix 127 1 113 114,0,12⟩,⟨⟨none,(.e (.store 1 (.tmp 127) (.tmp 122))),none⟩,0,17⟩,⟨mv 115 0,0,17⟩,⟨mv 116 17,0,17⟩,⟨bi 117 .sub 116 1,0,17⟩,⟨ix 128 1 115 117,13,17⟩,⟨⟨none,(.e (.store 1 (.tmp 128) (.tmp 126))),none⟩,13,18⟩] [0,14,17]))
 (.region [mv 111 17,bi 112 .sub 111 1,mv 17 112] [] [0,14,17]))))))
 (.ret)))))
 (.skip)))
 (.seq (.region [mv 129 1,mv 130 3,bt 131 .add 129 130,⟨(some 132),(.p (.conv (.int .u64) (.tmp 131))),none⟩,⟨(some 133),(.p (.bin .shr (.tmp 132) (.val (.int .u64 (.ofNat 1))))),none⟩,⟨(some 134),(.p (.conv (.int .i64) (.tmp 133))),none⟩,mv 18 134] [] [0,1,2,3,4,18])
 (.seq (.region [mv 135 18,mv 136 2,bt 137 .add 135 136,mv 19 137] [] [0,1,2,3,4,18,19])
 (.seq (.region [mi 20 0,mi 21 0] [] [0,1,2,3,4,18,19])
 (.seq (.seq (.region [mv 138 2,mv 139 18,bt 140 .gtr 138 139] [] [0,1,2,3,4,18,19,140])
 (.cond (.tmp 140) (.seq (.region [mv 141 19,mv 142 3,bt 143 .sub 141 142,mv 20 143] [] [0,1,2,3,4,18,19,20])
 (.region [mv 144 18,mv 21 144] [] [0,1,2,3,4,18,19,20,21]))
 (.seq (.region [mv 145 1,mv 20 145] [] [0,1,2,3,4,18,19,20])
 (.region [mv 146 2,mv 21 146] [] [0,1,2,3,4,18,19,20,21]))))
 (.seq (.region [mv 147 19,bi 148 .sub 147 1,mv 22 148] [] [0,1,2,3,4,18,19,20,21,22])
 (.seq (.block 8 (.loop (.seq (.seq (.region [mv 149 20,mv 150 21,bt 151 .lss 149 150] [] [0,1,2,3,4,18,19,20,21,22,151])
 (.cond (.tmp 151) (.skip)
 (.exit 8)))
 (.block 9 (.seq (.region [mv 152 20,mv 153 21,bt 154 .add 152 153,⟨(some 155),(.p (.conv (.int .u64) (.tmp 154))),none⟩,⟨(some 156),(.p (.bin .shr (.tmp 155) (.val (.int .u64 (.ofNat 1))))),none⟩,⟨(some 157),(.p (.conv (.int .i64) (.tmp 156))),none⟩,mv 23 157] [] [0,1,2,3,4,18,19,20,21,22,23])
 (.seq (.dregion [⟨mv 158 4,0,11⟩,⟨mv 159 0,0,11⟩,⟨mv 160 22,0,11⟩,⟨mv 161 23,0,11⟩,⟨bt 162 .sub 160 161,0,11⟩,⟨ix 163 1 159 162,0,11⟩,⟨l1 164 163,0,11⟩,⟨mv 165 0,0,11⟩,⟨mv 166 23,0,11⟩,⟨ix 167 1 165 166,0,11⟩,⟨l1 168 167,0,11⟩,⟨⟨(some 169),(.e (.callv (.tmp 158) [(.tmp 164),(.tmp 168)])),none⟩,0,14⟩,⟨bi 170 .lss 169 0,12,14⟩,⟨⟨(some 171),(.p (.not (.tmp 170))),none⟩,12,14⟩] [0,1,2,3,4,18,19,20,21,22,23,171])
 (.cond (.tmp 171) (.region [mv 172 23,bi 173 .add 172 1,mv 20 173] [] [0,1,2,3,4,18,19,20,21,22])
 (.region [mv 174 23,mv 21 174] [] [0,1,2,3,4,18,19,20,21,22]))))))))
 (.seq (.region [mv 175 19,mv 176 20,bt 177 .sub 175 176,mv 24 177] [] [0,1,2,3,4,18,20,24])
 (.seq (.seq (.region [mv 178 20,mv 179 2,bt 180 .lss 178 179,mv 181 180,⟨(some 182),(.p (.mov (.tmp 2))),(some (181,true))⟩,⟨(some 183),(.p (.mov (.tmp 24))),(some (181,true))⟩,⟨(some 184),(.p (.bin .lss (.tmp 182) (.tmp 183))),(some (181,true))⟩,⟨(some 185),(.p (.pick (.tmp 181) (.tmp 184) (.val (.bool false)))),none⟩] [] [0,1,2,3,4,18,20,24,185])
 (.cond (.tmp 185) (.region [mv 186 0,mv 187 20,mv 188 2,mv 189 24,mv 190 4,⟨(some 191),(.e (.call (F 30) [(.tmp 186),(.tmp 187),(.tmp 188),(.tmp 189),(.tmp 190)])),none⟩] [] [0,1,3,4,18,20,24])
 (.skip)))
 (.seq (.seq (.region [mv 192 1,mv 193 20,bt 194 .lss 192 193,mv 195 194,⟨(some 196),(.p (.mov (.tmp 20))),(some (195,true))⟩,⟨(some 197),(.p (.mov (.tmp 18))),(some (195,true))⟩,⟨(some 198),(.p (.bin .lss (.tmp 196) (.tmp 197))),(some (195,true))⟩,⟨(some 199),(.p (.pick (.tmp 195) (.tmp 198) (.val (.bool false)))),none⟩] [] [0,1,3,4,18,20,24,199])
 (.cond (.tmp 199) (.region [mv 200 0,mv 201 1,mv 202 20,mv 203 18,mv 204 4,⟨(some 205),(.e (.call (F 29) [(.tmp 200),(.tmp 201),(.tmp 202),(.tmp 203),(.tmp 204)])),none⟩] [] [0,3,4,18,24])
 (.skip)))
 (.seq (.region [mv 206 18,mv 207 24,bt 208 .lss 206 207,mv 209 208,⟨(some 210),(.p (.mov (.tmp 24))),(some (209,true))⟩,⟨(some 211),(.p (.mov (.tmp 3))),(some (209,true))⟩,⟨(some 212),(.p (.bin .lss (.tmp 210) (.tmp 211))),(some (209,true))⟩,⟨(some 213),(.p (.pick (.tmp 209) (.tmp 212) (.val (.bool false)))),none⟩] [] [0,3,4,18,24,213])
 (.cond (.tmp 213) (.region [mv 214 0,mv 215 18,mv 216 24,mv 217 3,mv 218 4,⟨(some 219),(.e (.call (F 29) [(.tmp 214),(.tmp 215),(.tmp 216),(.tmp 217),(.tmp 218)])),none⟩] [] [])
 (.skip)))))))))))))
def M29 (F : Nat → Nat) : Fun := ⟨220,5,(K29 F).erase,[]⟩
abbrev K30 (F : Nat → Nat) : KC := .seq (.region [mv 12 2,mv 13 1,bt 14 .sub 12 13,mv 10 14] [] [0,2,3,4,10])
 (.seq (.region [mv 15 3,mv 16 2,bt 17 .sub 15 16,mv 11 17] [] [0,2,4,10,11])
 (.seq (.block 0 (.loop (.seq (.seq (.region [mv 18 10,mv 19 11,bt 20 .neq 18 19] [] [0,2,4,10,11,20])
 (.cond (.tmp 20) (.skip)
 (.exit 0)))
 (.block 1 (.seq (.region [mv 21 10,mv 22 11,bt 23 .gtr 21 22] [] [0,2,4,10,11,23])
 (.cond (.tmp 23) (.seq (.region [mv 24 0,mv 25 2,mv 26 10,bt 27 .sub 25 26,mv 28 2,mv 29 11,mv 30 4,⟨(some 31),(.e (.call (F 31) [(.tmp 24),(.tmp 27),(.tmp 28),(.tmp 29),(.tmp 30)])),none⟩] [] [0,2,4,10,11])
 (.region [mv 32 10,mv 33 11,bt 34 .sub 32 33,mv 10 34] [] [0,2,4,10,11]))
 (.seq (.region [mv 35 0,mv 36 2,mv 37 10,bt 38 .sub 36 37,mv 39 2,mv 40 11,bt 41 .add 39 40,mv 42 10,bt 43 .sub 41 42,mv 44 10,mv 45 4,⟨(some 46),(.e (.call (F 31) [(.tmp 35),(.tmp 38),(.tmp 43),(.tmp 44),(.tmp 45)])),none⟩] [] [0,2,4,10,11])
 (.region [mv 47 11,mv 48 10,bt 49 .sub 47 48,mv 11 49] [] [0,2,4,10,11]))))))))
 (.region [mv 50 0,mv 51 2,mv 52 10,bt 53 .sub 51 52,mv 54 2,mv 55 10,mv 56 4,⟨(some 57),(.e (.call (F 31) [(.tmp 50),(.tmp 53),(.tmp 54),(.tmp 55),(.tmp 56)])),none⟩] [] [])))
def M30 (F : Nat → Nat) : Fun := ⟨58,5,(K30 F).erase,[]⟩
abbrev K31 (_F : Nat → Nat) : KC := .seq (.region [mi 10 0] [] [0,1,2,3,10])
 (.block 0 (.loop (.seq (.seq (.region [mv 11 10,mv 12 3,bt 13 .lss 11 12] [] [0,1,2,3,10,13])
 (.cond (.tmp 13) (.skip)
 (.exit 0)))
 (.seq (.block 1 (.dregion [⟨mv 16 0,0,17⟩,⟨mv 17 1,0,17⟩,⟨mv 18 10,0,17⟩,⟨bt 19 .add 17 18,0,17⟩,⟨mv 24 0,0,17⟩,⟨mv 25 2,0,17⟩,⟨mv 26 10,0,17⟩,⟨bt 27 .add 25 26,0,17⟩,⟨ix 28 1 24 27,0,17⟩,⟨l1 29 28,0,17⟩,⟨mv 30 0,0,17⟩,⟨mv 31 1,0,17⟩,⟨mv 32 10,0,17⟩,⟨bt 33 .add 31 32,0,17⟩,⟨ix 34 1 30 33,0,17⟩,⟨l1 35 34,0,17⟩,⟨ix 36 1 16 19,0,17⟩,⟨⟨none,(.e (.store 1 (.tmp 36) (.tmp 29))),none⟩,0,23⟩,⟨mv 20 0,0,23⟩,⟨mv 21 2,0,23⟩,⟨mv 22 10,0,23⟩,⟨bt 23 .add 21 22,0,23⟩,⟨ix 37 1 20 23,18,23⟩,⟨⟨none,(.e (.store 1 (.tmp 37) (.tmp 35))),none⟩,18,24⟩] [0,1,2,3,10]))
 (.region [mv 14 10,bi 15 .add 14 1,mv 10 15] [] [0,1,2,3,10])))))
def M31 (F : Nat → Nat) : Fun := ⟨38,5,(K31 F).erase,[]⟩
end Go.Lib
end

section
namespace Go.Srt
variable {α : Type}
def Srt (cmp : α → α → Int) (L : List α) (a b : Nat) : Prop := ∀ p q x y, a ≤ p → p < q → q < b → L[p]? = some x → L[q]? = some y → ¬ cmp y x < 0
structure Mix (L L' : List α) (a b : Nat) : Prop where
  perm : L'.Perm L
  out : ∀ k, k < a ∨ b ≤ k → L'[k]? = L[k]?
theorem Mix.refl {L : List α} {a b : Nat} : Mix L L a b := ⟨.refl _, fun _ _ => rfl⟩
theorem Mix.trans {L L1 L2 : List α} {a b : Nat} (x : Mix L L1 a b) (y : Mix L1 L2 a b) : Mix L L2 a b := ⟨y.perm.trans x.perm, fun k hk => (y.out k hk).trans (x.out k hk)⟩
theorem Srt.mono {cmp : α → α → Int} {L : List α} {a b a' b' : Nat} (h : Srt cmp L a b) (ha : a ≤ a') (hb : b' ≤ b) : Srt cmp L a' b' :=
  fun p q x y h1 h2 h3 => h p q x y (by omega) h2 (by omega)
def Parted (cmp : α → α → Int) (L : List α) (a m b : Nat) : Prop := ∀ p q x y, a ≤ p → p < m → m ≤ q → q < b → L[p]? = some x → L[q]? = some y → ¬ cmp y x < 0
theorem Srt.join {cmp : α → α → Int} {L : List α} {a m b : Nat} (h1 : Srt cmp L a m) (h2 : Srt cmp L m b) (h3 : Parted cmp L a m b) : Srt cmp L a b := fun p q x y k1 k2 k3 k4 k5 => by
  rcases Nat.lt_or_ge q m with c | c
  · exact h1 p q x y k1 k2 c k4 k5
  · rcases Nat.lt_or_ge p m with d | d
    · exact h3 p q x y k1 d c k3 k4 k5
    · exact h2 p q x y d k2 k3 k4 k5
theorem parts (M : List α) {a b : Nat} (h : a ≤ b) : M = M.take a ++ ((M.take b).drop a ++ M.drop b) := by
  rw [← List.append_assoc]
  have : M.take a ++ (M.take b).drop a = M.take b := by
    have := List.take_append_drop a (M.take b)
    rwa [List.take_take, Nat.min_eq_left h] at this
  rw [this, List.take_append_drop]
theorem Mix.src {L L' : List α} {a b k : Nat} {v : α} (hm : Mix L L' a b) (h1 : a ≤ k) (h2 : k < b) (hv : L'[k]? = some v) : ∃ k', a ≤ k' ∧ k' < b ∧ L[k']? = some v := by
  have ht : L'.take a = L.take a := List.ext_getElem? fun i => by
    rw [List.getElem?_take, List.getElem?_take]
    split
    · exact hm.out i (by omega)
    · rfl
  have hd : L'.drop b = L.drop b := List.ext_getElem? fun i => by
    rw [List.getElem?_drop, List.getElem?_drop]
    exact hm.out _ (by omega)
  have hp := hm.perm
  rw [parts L' (show a ≤ b by omega), parts L (show a ≤ b by omega), ht, hd] at hp
  have hp := (List.perm_append_right_iff _).1 ((List.perm_append_left_iff _).1 hp)
  have hmem : v ∈ (L'.take b).drop a := by
    refine List.mem_of_getElem? (i := k - a) ?_
    rw [List.getElem?_drop, List.getElem?_take, if_pos (by omega), show a + (k - a) = k by omega]
    exact hv
  obtain ⟨i, hi⟩ := List.getElem?_of_mem (hp.mem_iff.1 hmem)
  rw [List.getElem?_drop, List.getElem?_take] at hi
  split at hi
  · exact ⟨a + i, by omega, by omega, hi⟩
  · cases hi
end Go.Srt
end

section
set_option maxRecDepth 10000
namespace Go.Lib
open Go.Vm Go.Dv Go.Srt
variable {p : Prog} {ext : Ext} {F : Nat → Nat} {α : Type}
structure HSrt (p : Prog) (ext : Ext) (F : Nat → Nat) : Prop where
  h26 : Has p ext F 26 M26
  h27 : Has p ext F 27 M27
  h28 : Has p ext F 28 M28
  h29 : Has p ext F 29 M29
  h30 : Has p ext F 30 M30
  h31 : Has p ext F 31 M31
structure Enc (α : Type) where
  d : α → D
  flat : ∀ x, flatD (d x) = true
  cells : ∀ x, cellsD (d x) = some [d x]
attribute [simp] Enc.flat Enc.cells
def hp (E : Enc α) (H : HpD) (bs : Nat) (L : List α) : HpD := H.put bs (.cells (L.map E.d) false)
theorem hp_blk {E : Enc α} {H : HpD} {bs : Nat} {L : List α} : (hp E H bs L).blk bs = .cells (L.map E.d) false := by simp [hp]
theorem put_put {H : HpD} {bs : Nat} {x y : BD} : (H.put bs x).put bs y = H.put bs y := by
  simp only [HpD.put]
  congr 1
  funext c
  by_cases h : c = bs <;> simp [h]
theorem hp_put {E : Enc α} {H : HpD} {bs : Nat} {L : List α} {l : List D} : (hp E H bs L).put bs (.cells l false) = H.put bs (.cells l false) := by
  simp only [hp, HpD.put]
  congr 1
  funext c
  by_cases h : c = bs <;> simp [h]
theorem hp_next {E : Enc α} {H : HpD} {bs : Nat} {L : List α} : (hp E H bs L).next = H.next := rfl
attribute [simp] hp_blk hp_next hp_put put_put
structure Cmp (p : Prog) (ext : Ext) (E : Enc α) (D : α → Prop) (cv : Dv.D) (cmp : α → α → Int) : Prop where
  fn : ∃ g a c, cv = .func g a c ∧ ∀ x y, D x → D y → FnD p ext g (a ++ E.d x :: E.d y :: c) (.lit (.int .i64 (cmp x y)))
  anti : ∀ x y, D x → D y → cmp x y < 0 → ¬ cmp y x < 0
  trans : ∀ x y z, D x → D y → D z → ¬ cmp y x < 0 → ¬ cmp z y < 0 → ¬ cmp z x < 0
structure Sym4 (cmp : α → α → Int) (Y : List α) (a s md e b : Nat) : Prop where
  s1 : Srt cmp Y a s
  s2 : Srt cmp Y s md
  s3 : Srt cmp Y md e
  s4 : Srt cmp Y e b
  part : Parted cmp Y a md b
end Go.Lib
end

section
set_option maxRecDepth 10000
namespace Go.Lib
open Go.Vm Go.Dv Go.Srt
variable {p : Prog} {ext : Ext} {F : Nat → Nat} {α : Type}
def Blk (cmp : α → α → Int) (Y : List α) (z lo n : Nat) : Prop := ∀ a, lo ≤ a → z ∣ a → Srt cmp Y a (min (a + z) n)
end Go.Lib
end

section
set_option maxRecDepth 10000
namespace Go.Lib
open Go.Vm Go.Dv Go.Srt
variable {p : Prog} {ext : Ext} {F : Nat → Nat}
structure HAggr (p : Prog) (ext : Ext) (F : Nat → Nat) : Prop where
  srt : HSrt p ext F
  schm : HSchm p ext F
  h32 : Has p ext F 32 M32
  h33 : Has p ext F 33 M33
  h34 : Has p ext F 34 M34
  h35 : Has p ext F 35 M35
  h36 : Has p ext F 36 M36
  h37 : Has p ext F 37 M37
  h38 : Has p ext F 38 M38
  h39 : Has p ext F 39 M39
  h40 : Has p ext F 40 M40
  h41 : Has p ext F 41 M41
  h42 : Has p ext F 42 M42
  h43 : Has p ext F 43 M43
  h44 : Has p ext F 44 M44
def Fine (l : List Row) : Prop := l.length < 1000000 ∧ ∀ r, r ∈ l → r.length < 1000000
end Go.Lib
end

section
set_option maxRecDepth 10000
namespace Go.Lib
open Go.Vm Go.Dv
variable {p : Prog} {ext : Ext} {F : Nat → Nat}
theorem max2_int {tab : Tab} {a b : Int} : foldD (max2V tab) [.lit (.int .i64 a), .lit (.int .i64 b)] = some (.lit (.int .i64 (max a b))) := by
  show litO (some (V.int .i64 (cond (ilt a b) b a))) = _
  rw [ilt_d]
  by_cases h : a < b
  · simp only [h, decide_true, cond_true, litO_int]; rw [Int.max_def, if_pos (by omega)]
  · simp only [h, decide_false, cond_false, litO_int]
    rw [Int.max_def]; split
    · rw [show a = b by omega]
    · rfl
theorem min2_int {tab : Tab} {a b : Int} : foldD (min2V tab) [.lit (.int .i64 a), .lit (.int .i64 b)] = some (.lit (.int .i64 (min a b))) := by
  show litO (some (V.int .i64 (cond (ilt b a) b a))) = _
  rw [ilt_d]
  by_cases h : b < a
  · simp only [h, decide_true, cond_true, litO_int]
    rw [Int.min_def, if_neg (by omega)]
  · simp only [h, decide_false, cond_false, litO_int]
    rw [Int.min_def, if_pos (by omega)]
attribute [simp] max2_int min2_int
theorem ref6_sameVal (L : HSame6 p ext F) {a b : Vl} : FnD p ext (F 50) [.agg a.c, .agg b.c] (.lit (.bool (decide (a = b)))) := by
  refine fn_of L.h50 (M := M50) rfl ok50 rfl fun H => sem_run 9000 _ ?_
  simp
  by_cases h1 : a.null = b.null
  · by_cases h2 : a.kind = b.kind
    · by_cases h3 : a.n = b.n
      · by_cases h4 : a.bytes = b.bytes
        · simp [h1, h2, h3, h4]
          refine sem_ret ?_
          simp [M50, vl_ext, h1, h2, h3, h4]
          exact .same (by simp)
        · simp [h1, h2, h3, h4]
          refine sem_ret ?_
          simp [M50, vl_ext, h4]
          exact .same (by simp)
      · simp [h1, h2, h3]
        refine sem_ret ?_
        simp [M50, vl_ext, h3]
        exact .same (by simp)
    · simp [h1, h2]
      refine sem_ret ?_
      simp [M50, vl_ext, h2]
      exact .same (by simp)
  · simp [h1]
    refine sem_ret ?_
    simp [M50, vl_ext, h1]
    exact .same (by simp)
def Same6I {α : Type} [DecidableEq α] (f : List α → D) (x y : List α) (H0 : HpD) (k : Nat) (fr : FrD) (H : HpD) : Prop :=
  ∃ i : Nat, k = x.length - i ∧ i ≤ x.length ∧ decide (x = y) = decide (x.drop i = y.drop i) ∧ fr = [(0, f x), (1, f y), (5, .lit (.int .i64 (i : Int)))] ∧ Sub H0 H
theorem ref6_sameRow (L : HSame6 p ext F) {x y : Row} (hx : x.length < 1000000) : FnD p ext (F 49) [rowD x, rowD y] (.lit (.bool (decide (x = y)))) := by
  refine fn_of L.h49 (M := M49) rfl ok49 rfl fun H => sem_run 9000 _ ?_
  simp
  by_cases hl : x.length = y.length
  · simp [hl]
    refine sem_loop (Same6I rowD x y H) ?_ (k := x.length) ⟨0, by simp, by simp, by simp, rfl, .refl⟩
    rintro k fr H' ⟨i, rfl, hi, hc, rfl, hs⟩
    refine sem_run 9000 _ ?_
    simp
    by_cases c : i < x.length
    · have c3 : i < y.length := by omega
      simp [c, c3]
      refine sem_dfn (ref6_sameVal L (a := x[i]) (b := y[i])) (by first | exact D.les_refl _ | simp) (sem_run 9000 _ ?_)
      simp
      rw [List.drop_eq_getElem_cons c, List.drop_eq_getElem_cons c3] at hc
      by_cases c4 : x[i] = y[i]
      · simp [c4]
        refine sem_ok ?_
        have hw : wr .i64 ((i : Int) + 1) = ((i + 1 : Nat) : Int) := by rw [wr_of] <;> omega
        exact ⟨_, by omega, i + 1, rfl, by omega, by rw [hc]; simp only [c4, List.cons.injEq, true_and], by rw [hw], (by have := hs.next; repeat (first | exact hs | apply Sub.new | refine Sub.put ?_ (by first | omega | (simp only [put_next, new_next]; omega))))⟩
      · simp [c4]
        refine sem_ret ?_
        simp
        refine sem_ret ?_
        simp [M49]
        exact .le (by have := hs.next; repeat (first | exact hs | apply Sub.new | refine Sub.put ?_ (by first | omega | (simp only [put_next, new_next]; omega)))) (by rw [hc]; simp only [c4, List.cons.injEq, false_and, decide_false, D.le_refl]) trivial
    · simp [c]
      refine sem_exit (sem_run 9000 _ ?_)
      simp
      refine sem_ret ?_
      simp [M49]
      rw [hc, List.drop_eq_nil_of_le (by omega : x.length ≤ i), List.drop_eq_nil_of_le (by omega : y.length ≤ i)]
      exact .le (by have := hs.next; repeat (first | exact hs | apply Sub.new | refine Sub.put ?_ (by first | omega | (simp only [put_next, new_next]; omega)))) (by simp) trivial
  · have hl' : ¬ (x.length : Int) = y.length := by omega
    have hne : ¬ x = y := fun e => hl (by rw [e])
    simp [hl']
    refine sem_ret ?_
    simp [M49]
    exact .le .refl (by simp [hne]) trivial
theorem ref6_same (L : HSame6 p ext F) {x y : List Row} (hx : Fine x) : FnD p ext (F 48) [rowsD x, rowsD y] (.lit (.bool (decide (x = y)))) := by
  refine fn_of L.h48 (M := M48) rfl ok48 rfl fun H => sem_run 9000 _ ?_
  simp
  have hx1 := hx.1
  by_cases hl : x.length = y.length
  · simp [hl]
    refine sem_loop (Same6I rowsD x y H) ?_ (k := x.length) ⟨0, by simp, by simp, by simp, rfl, .refl⟩
    rintro k fr H' ⟨i, rfl, hi, hc, rfl, hs⟩
    refine sem_run 9000 _ ?_
    simp
    by_cases c : i < x.length
    · have c3 : i < y.length := by omega
      simp [c, c3]
      refine sem_dfn (ref6_sameRow L (x := x[i]) (y := y[i]) (hx.2 _ (by simp))) (by first | exact D.les_refl _ | simp) (sem_run 9000 _ ?_)
      simp
      rw [List.drop_eq_getElem_cons c, List.drop_eq_getElem_cons c3] at hc
      by_cases c4 : x[i] = y[i]
      · simp [c4]
        refine sem_ok ?_
        have hw : wr .i64 ((i : Int) + 1) = ((i + 1 : Nat) : Int) := by rw [wr_of] <;> omega
        exact ⟨_, by omega, i + 1, rfl, by omega, by rw [hc]; simp only [c4, List.cons.injEq, true_and], by rw [hw], (by have := hs.next; repeat (first | exact hs | apply Sub.new | refine Sub.put ?_ (by first | omega | (simp only [put_next, new_next]; omega))))⟩
      · simp [c4]
        refine sem_ret ?_
        simp
        refine sem_ret ?_
        simp [M48]
        exact .le (by have := hs.next; repeat (first | exact hs | apply Sub.new | refine Sub.put ?_ (by first | omega | (simp only [put_next, new_next]; omega)))) (by rw [hc]; simp only [c4, List.cons.injEq, false_and, decide_false, D.le_refl]) trivial
    · simp [c]
      refine sem_exit (sem_run 9000 _ ?_)
      simp
      refine sem_ret ?_
      simp [M48]
      rw [hc, List.drop_eq_nil_of_le (by omega : x.length ≤ i), List.drop_eq_nil_of_le (by omega : y.length ≤ i)]
      exact .le (by have := hs.next; repeat (first | exact hs | apply Sub.new | refine Sub.put ?_ (by first | omega | (simp only [put_next, new_next]; omega)))) (by simp) trivial
  · have hl' : ¬ (x.length : Int) = y.length := by omega
    have hne : ¬ x = y := fun e => hl (by rw [e])
    simp [hl']
    refine sem_ret ?_
    simp [M48]
    exact .le .refl (by simp [hne]) trivial
end Go.Lib
end

section
namespace Go.Lib
open Go.Vm Go.Dv
set_option maxRecDepth 100000
abbrev K62 (F : Nat → Nat) : KC := .seq (.region [⟨(some 8),(.p (.mov (.val (.bool false)))),none⟩] [] [0,1,2,3])
 (.seq (.region [mv 23 0,⟨(some 24),(.e (.call (F 23) [(.tmp 23)])),none⟩,⟨(some 9),(.a (.new [.nilslice])),none⟩,⟨none,(.e (.store 1 (.tmp 9) (.tmp 24))),none⟩] [] [1,2,3,9])
 (.seq (.region [ln 25 1 9,mv 26 1,⟨(some 27),(.e (.call (F 22) [(.tmp 25),(.tmp 26)])),none⟩,mv 10 27] [] [2,3,9,10])
 (.seq (.region [⟨(some 28),(.a (.bslice [] 1 0 [])),none⟩,mv 29 10,⟨(some 30),(.e (.append 1 24 (.tmp 28) (.tmp 29))),none⟩,mv 11 30] [] [2,3,9,10,11])
 (.seq (.seq (.region [mi 12 0] [] [2,3,9,10,11,12])
 (.block 0 (.loop (.seq (.seq (.region [mv 31 12,bi 32 .add 31 1,mv 33 2,lb 34 33,bt 35 .lss 32 34,mv 36 35,⟨(some 37),(.p (.mov (.tmp 10))),(some (36,true))⟩,⟨(some 38),(.p (.lenb (.tmp 37))),(some (36,true))⟩,⟨(some 39),(.p (.bin .gtr (.tmp 38) (.val (.int .i64 (.ofNat 0))))),(some (36,true))⟩,⟨(some 40),(.p (.pick (.tmp 36) (.tmp 39) (.val (.bool false)))),none⟩] [] [2,3,9,10,11,12,40])
 (.cond (.tmp 40) (.skip)
 (.exit 0)))
 (.seq (.block 1 (.seq (.dregion [⟨mv 43 2,0,19⟩,⟨mv 44 12,0,19⟩,⟨ix 45 1 43 44,0,19⟩,⟨l1 46 45,0,19⟩,⟨bi 47 .and 46 255,0,19⟩,⟨mv 48 10,0,19⟩,⟨lb 49 48,0,19⟩,⟨bt 50 .rem 47 49,0,19⟩,⟨mv 51 2,0,19⟩,⟨mv 52 12,0,19⟩,⟨bi 53 .add 52 1,0,19⟩,⟨ix 54 1 51 53,0,19⟩,⟨l1 55 54,0,19⟩,⟨bi 56 .and 55 255,0,19⟩,⟨mv 57 10,0,19⟩,⟨lb 58 57,0,19⟩,⟨bt 59 .rem 56 58,0,19⟩,⟨mv 13 50,0,19⟩,⟨mv 14 59,0,19⟩] [2,3,9,10,11,12,13,14])
 (.dregion [⟨mv 60 11,0,11⟩,⟨mv 61 13,0,11⟩,⟨mv 64 11,0,11⟩,⟨mv 65 14,0,11⟩,⟨ix 66 1 64 65,0,11⟩,⟨l1 67 66,0,11⟩,⟨mv 68 11,0,11⟩,⟨mv 69 13,0,11⟩,⟨ix 70 1 68 69,0,11⟩,⟨l1 71 70,0,11⟩,⟨ix 72 1 60 61,0,11⟩,⟨⟨none,(.e (.store 1 (.tmp 72) (.tmp 67))),none⟩,0,15⟩,⟨mv 62 11,0,15⟩,⟨mv 63 14,0,15⟩,⟨ix 73 1 62 63,12,15⟩,⟨⟨none,(.e (.store 1 (.tmp 73) (.tmp 71))),none⟩,12,16⟩] [2,3,9,10,11,12])))
 (.region [mv 41 12,bi 42 .add 41 1,mv 12 42] [] [2,3,9,10,11,12]))))))
 (.seq (.region [mv 74 3,bi 75 .and 74 255,fa 76 0 9,l1 77 76,lb 78 77,bt 79 .rem 75 78,mv 15 79] [] [10,11,15])
 (.seq (.region [⟨(some 80),(.p (.build [.int .i64 (.ofNat 0),.int .i64 (.ofNat 0)] [(0,1,(.val (.int .i64 (.ofNat 1))))])),none⟩,⟨(some 81),(.p (.build [.int .i64 (.ofNat 0),.int .i64 (.ofNat 0)] [(0,1,(.val (.int .i64 (.ofNat 2))))])),none⟩,mv 82 15,⟨(some 83),(.p (.build [.int .i64 (.ofNat 0),.int .i64 (.ofNat 0)] [(0,1,(.val (.int .i64 (.ofNat 3)))),(1,1,(.tmp 82))])),none⟩,mv 84 15,⟨(some 85),(.p (.build [.int .i64 (.ofNat 0),.int .i64 (.ofNat 0)] [(0,1,(.val (.int .i64 (.ofNat 4)))),(1,1,(.tmp 84))])),none⟩,⟨(some 86),(.a (.bslice [.int .i64 (.ofNat 0),.int .i64 (.ofNat 0),.int .i64 (.ofNat 0),.int .i64 (.ofNat 0),.int .i64 (.ofNat 0),.int .i64 (.ofNat 0),.int .i64 (.ofNat 0),.int .i64 (.ofNat 0)] 2 4 [(0,2,(.tmp 80)),(2,2,(.tmp 81)),(4,2,(.tmp 83)),(6,2,(.tmp 85))])),none⟩,mv 16 86] [86] [10,11,15,16])
 (.seq (.seq (.region [mv 87 15,⟨(some 88),(.a (.bslice [.int .i64 (.ofNat 0),.int .i64 (.ofNat 0)] 1 2 [(0,1,(.val (.int .i64 (.negSucc 0)))),(1,1,(.tmp 87))])),none⟩,lb 89 88,mi 90 0] [88] [10,11,15,16,88,89,90])
 (.block 2 (.loop (.seq (.region [bt 91 .lss 90 89] [] [10,11,15,16,88,89,90,91])
 (.seq (.cond (.tmp 91) (.skip)
 (.exit 2))
 (.seq (.block 3 (.seq (.region [ix 92 1 88 90,l1 93 92,mv 18 93] [] [10,11,15,16,18,88,89,90])
 (.seq (.region [mv 95 10,mv 96 18,mv 97 16,⟨(some 98),(.e (.call (F 32) [(.tmp 95),(.tmp 96),(.tmp 97)])),none⟩,mv 94 98,et 99 94 0,et 100 94 1,mv 19 99,mv 20 100] [] [10,11,15,16,18,19,20,88,89,90])
 (.seq (.region [mv 102 11,mv 103 18,mv 104 16,⟨(some 105),(.e (.call (F 32) [(.tmp 102),(.tmp 103),(.tmp 104)])),none⟩,mv 101 105,et 106 101 0,et 107 101 1,mv 21 106,mv 22 107] [] [10,11,15,16,18,19,20,21,22,88,89,90])
 (.seq (.region [mv 108 20,mv 109 22,⟨(some 110),(.p (.eq .bool true (.tmp 108) (.tmp 109))),none⟩,mv 111 110,⟨(some 112),(.p (.mov (.tmp 19))),(some (111,false))⟩,⟨(some 113),(.p (.mov (.tmp 21))),(some (111,false))⟩,⟨(some 114),(.e (.call (F 48) [(.tmp 112),(.tmp 113)])),(some (111,false))⟩,⟨(some 115),(.p (.not (.tmp 114))),(some (111,false))⟩,⟨(some 116),(.p (.pick (.tmp 111) (.val (.bool true)) (.tmp 115))),none⟩,mv 117 116,⟨(some 118),(.p (.mov (.tmp 20))),(some (117,false))⟩,⟨(some 119),(.p (.mov (.tmp 118))),(some (117,false))⟩,⟨(some 120),(.p (.mov (.tmp 18))),(some (119,true))⟩,⟨(some 121),(.p (.bin .geq (.tmp 120) (.val (.int .i64 (.ofNat 0))))),(some (119,true))⟩,⟨(some 122),(.p (.pick (.tmp 119) (.tmp 121) (.val (.bool false)))),(some (117,false))⟩,⟨(some 123),(.p (.mov (.tmp 122))),(some (117,false))⟩,⟨(some 124),(.p (.mov (.tmp 19))),(some (123,true))⟩,⟨(some 125),(.p (.lenb (.tmp 124))),(some (123,true))⟩,⟨(some 126),(.p (.mov (.tmp 10))),(some (123,true))⟩,⟨(some 127),(.p (.lenb (.tmp 126))),(some (123,true))⟩,⟨(some 128),(.p (.bin .gtr (.tmp 125) (.tmp 127))),(some (123,true))⟩,⟨(some 129),(.p (.pick (.tmp 123) (.tmp 128) (.val (.bool false)))),(some (117,false))⟩,⟨(some 130),(.p (.pick (.tmp 117) (.val (.bool true)) (.tmp 129))),none⟩] [] [10,11,15,16,88,89,90,130])
 (.cond (.tmp 130) (.seq (.region [⟨(some 8),(.p (.mov (.val (.bool false)))),none⟩] [] [8])
 (.ret))
 (.skip)))))))
 (.region [bi 131 .add 90 1,mv 90 131] [] [10,11,15,16,88,89,90])))))))
 (.seq (.region [mv 132 10,⟨(some 133),(.e (.call (F 33) [(.tmp 132)])),none⟩,mv 134 11,⟨(some 135),(.e (.call (F 33) [(.tmp 134)])),none⟩,⟨(some 136),(.e (.call (F 48) [(.tmp 133),(.tmp 135)])),none⟩,mv 137 136,⟨(some 138),(.p (.mov (.tmp 10))),(some (137,true))⟩,⟨(some 139),(.p (.mov (.tmp 15))),(some (137,true))⟩,⟨(some 140),(.a (.bslice [.int .i64 (.ofNat 0),.int .i64 (.ofNat 0)] 1 2 [(0,1,(.tmp 139)),(1,1,(.val (.int .i64 (.ofNat 0))))])),(some (137,true))⟩,⟨(some 141),(.e (.call (F 34) [(.tmp 138),(.tmp 140)])),(some (137,true))⟩,⟨(some 142),(.p (.mov (.tmp 11))),(some (137,true))⟩,⟨(some 143),(.p (.mov (.tmp 15))),(some (137,true))⟩,⟨(some 144),(.a (.bslice [.int .i64 (.ofNat 0),.int .i64 (.ofNat 0)] 1 2 [(0,1,(.tmp 143)),(1,1,(.val (.int .i64 (.ofNat 0))))])),(some (137,true))⟩,⟨(some 145),(.e (.call (F 34) [(.tmp 142),(.tmp 144)])),(some (137,true))⟩,⟨(some 146),(.e (.call (F 48) [(.tmp 141),(.tmp 145)])),(some (137,true))⟩,⟨(some 147),(.p (.pick (.tmp 137) (.tmp 146) (.val (.bool false)))),none⟩,mv 148 147,⟨(some 149),(.e (.call (F 52) [])),(some (148,true))⟩,⟨(some 150),(.p (.pick (.tmp 148) (.tmp 149) (.val (.bool false)))),none⟩,mv 8 150] [140,144] [8])
 (.ret)))))))))
def M62 (F : Nat → Nat) : Fun := ⟨151,4,(K62 F).erase,[.tmp 8]⟩
end Go.Lib
end

section
namespace Go.Lib
open Go.Vm Go.Dv
set_option maxRecDepth 100000
abbrev K53 (F : Nat → Nat) : KC := .seq (.region [⟨(some 2),(.p (.mov (.val (.nilslice)))),none⟩] [] [0])
 (.seq (.region [⟨(some 3),(.p (.mov (.val (.nilslice)))),none⟩] [] [0,3])
 (.seq (.seq (.region [mi 4 0] [] [0,3,4])
 (.block 0 (.loop (.seq (.seq (.region [mv 6 4,mv 7 0,lb 8 7,bt 9 .lss 6 8] [] [0,3,4,9])
 (.cond (.tmp 9) (.skip)
 (.exit 0)))
 (.seq (.block 1 (.seq (.region [mv 12 3,lb 13 12,mv 5 13] [] [0,3,4,5])
 (.seq (.block 2 (.loop (.seq (.seq (.dregion [⟨mv 14 5,0,12⟩,⟨bi 15 .gtr 14 0,0,12⟩,⟨mv 16 15,0,12⟩,⟨⟨(some 17),(.p (.mov (.tmp 3))),(some (16,true))⟩,0,12⟩,⟨⟨(some 18),(.p (.mov (.tmp 5))),(some (16,true))⟩,0,12⟩,⟨⟨(some 19),(.p (.bin .sub (.tmp 18) (.val (.int .i64 (.ofNat 1))))),(some (16,true))⟩,0,12⟩,⟨⟨(some 20),(.p (.iaddr 1 (.tmp 17) (.tmp 19))),(some (16,true))⟩,0,12⟩,⟨⟨(some 21),(.load1 (.tmp 20)),(some (16,true))⟩,0,12⟩,⟨⟨(some 22),(.p (.mov (.tmp 0))),(some (16,true))⟩,0,12⟩,⟨⟨(some 23),(.p (.mov (.tmp 4))),(some (16,true))⟩,0,12⟩,⟨⟨(some 24),(.p (.iaddr 1 (.tmp 22) (.tmp 23))),(some (16,true))⟩,0,12⟩,⟨⟨(some 25),(.load1 (.tmp 24)),(some (16,true))⟩,0,12⟩,⟨⟨(some 26),(.e (.call (F 47) [(.tmp 21),(.tmp 25)])),(some (16,true))⟩,0,15⟩,⟨⟨(some 27),(.p (.bin .gtr (.tmp 26) (.val (.int .i64 (.ofNat 0))))),(some (16,true))⟩,13,15⟩,⟨⟨(some 28),(.p (.pick (.tmp 16) (.tmp 27) (.val (.bool false)))),none⟩,13,15⟩] [0,3,4,5,28])
 (.cond (.tmp 28) (.skip)
 (.exit 2)))
 (.block 3 (.region [mv 29 5,bi 30 .sub 29 1,mv 5 30] [] [0,3,4,5])))))
 (.dregion [⟨⟨(some 31),(.a (.bslice [] 1 0 [])),none⟩,0,4⟩,⟨mv 32 3,0,4⟩,⟨mv 33 5,0,4⟩,⟨⟨(some 34),(.p (.slc 1 (.tmp 32) none (some (.tmp 33)) none)),none⟩,0,4⟩,⟨⟨(some 35),(.e (.append 1 24 (.tmp 31) (.tmp 34))),none⟩,0,10⟩,⟨mv 36 0,0,10⟩,⟨mv 37 4,0,10⟩,⟨ix 38 1 36 37,0,10⟩,⟨l1 39 38,0,10⟩,⟨⟨(some 40),(.a (.bslice [.nilslice] 1 1 [(0,1,(.tmp 39))])),none⟩,0,10⟩,⟨⟨(some 41),(.e (.append 1 24 (.tmp 35) (.tmp 40))),none⟩,5,14⟩,⟨mv 42 3,0,14⟩,⟨mv 43 5,0,14⟩,⟨⟨(some 44),(.p (.slc 1 (.tmp 42) (some (.tmp 43)) none none)),none⟩,0,14⟩,⟨⟨(some 45),(.e (.append 1 24 (.tmp 41) (.tmp 44))),none⟩,11,16⟩,⟨mv 3 45,15,16⟩] [0,3,4]))))
 (.region [mv 10 4,bi 11 .add 10 1,mv 4 11] [] [0,3,4]))))))
 (.seq (.region [mv 46 3,mv 2 46] [] [2])
 (.ret))))
def M53 (F : Nat → Nat) : Fun := ⟨47,1,(K53 F).erase,[.tmp 2]⟩
abbrev K54 (F : Nat → Nat) : KC := .seq (.region [⟨(some 4),(.p (.mov (.val (.nilslice)))),none⟩] [] [0,1])
 (.seq (.region [⟨(some 5),(.p (.mov (.val (.nilslice)))),none⟩] [] [0,1,5])
 (.seq (.seq (.region [mi 6 0] [] [0,1,5,6])
 (.block 0 (.loop (.seq (.seq (.region [mv 9 6,mv 10 0,lb 11 10,bt 12 .lss 9 11] [] [0,1,5,6,12])
 (.cond (.tmp 12) (.skip)
 (.exit 0)))
 (.seq (.block 1 (.seq (.region [⟨(some 7),(.p (.mov (.val (.nilslice)))),none⟩] [] [0,1,5,6,7])
 (.seq (.seq (.region [mi 8 0] [] [0,1,5,6,7,8])
 (.block 2 (.loop (.seq (.seq (.region [mv 15 8,mv 16 1,lb 17 16,bt 18 .lss 15 17] [] [0,1,5,6,7,8,18])
 (.cond (.tmp 18) (.skip)
 (.exit 2)))
 (.seq (.block 3 (.dregion [⟨mv 21 7,0,12⟩,⟨mv 22 0,0,12⟩,⟨mv 23 6,0,12⟩,⟨ix 24 1 22 23,0,12⟩,⟨l1 25 24,0,12⟩,⟨mv 26 1,0,12⟩,⟨mv 27 8,0,12⟩,⟨ix 28 1 26 27,0,12⟩,⟨l1 29 28,0,12⟩,⟨ix 30 4 25 29,0,12⟩,⟨ln 31 4 30,0,12⟩,⟨⟨(some 32),(.a (.bslice [.bool false,.int .i64 (.ofNat 0),.int .i64 (.ofNat 0),.nilslice] 4 1 [(0,4,(.tmp 31))])),none⟩,0,12⟩,⟨⟨(some 33),(.e (.append 4 48 (.tmp 21) (.tmp 32))),none⟩,0,14⟩,⟨mv 7 33,13,14⟩] [0,1,5,6,7,8]))
 (.region [mv 19 8,bi 20 .add 19 1,mv 8 20] [] [0,1,5,6,7,8]))))))
 (.region [mv 34 5,mv 35 7,⟨(some 36),(.a (.bslice [.nilslice] 1 1 [(0,1,(.tmp 35))])),none⟩,⟨(some 37),(.e (.append 1 24 (.tmp 34) (.tmp 36))),none⟩,mv 5 37] [36] [0,1,5,6]))))
 (.region [mv 13 6,bi 14 .add 13 1,mv 6 14] [] [0,1,5,6]))))))
 (.seq (.region [mv 38 5,⟨(some 39),(.e (.call (F 53) [(.tmp 38)])),none⟩,mv 4 39] [] [4])
 (.ret))))
def M54 (F : Nat → Nat) : Fun := ⟨40,2,(K54 F).erase,[.tmp 4]⟩
abbrev K55 (F : Nat → Nat) : KC := .seq (.region [⟨(some 6),(.p (.mov (.val (.nilslice)))),none⟩,⟨(some 7),(.p (.mov (.val (.bool false)))),none⟩] [] [0,1,2])
 (.seq (.seq (.region [mv 16 1,bi 17 .lss 16 0] [] [0,1,2,17])
 (.cond (.tmp 17) (.seq (.region [mv 19 0,mv 20 2,⟨(some 21),(.e (.call (F 57) [(.tmp 19),(.tmp 20)])),none⟩,mv 18 21,et 22 18 0,et 23 18 1,mv 8 22,mv 9 23] [] [8,9])
 (.seq (.seq (.region [mv 24 9,⟨(some 25),(.p (.not (.tmp 24))),none⟩] [] [8,25])
 (.cond (.tmp 25) (.seq (.region [⟨(some 6),(.p (.mov (.val (.nilslice)))),none⟩,⟨(some 7),(.p (.mov (.val (.bool false)))),none⟩] [] [6,7])
 (.ret))
 (.skip)))
 (.seq (.region [mv 26 8,⟨(some 27),(.a (.bslice [.nilslice] 1 1 [(0,1,(.tmp 26))])),none⟩,mv 6 27,⟨(some 7),(.p (.mov (.val (.bool true)))),none⟩] [27] [6,7])
 (.ret))))
 (.skip)))
 (.seq (.region [⟨(some 10),(.p (.mov (.val (.nilslice)))),none⟩] [] [0,1,2,10])
 (.seq (.region [mv 28 0,mv 29 1,⟨(some 30),(.e (.call (F 58) [(.tmp 28),(.tmp 29)])),none⟩,⟨(some 31),(.e (.call (F 53) [(.tmp 30)])),none⟩,mv 0 31] [] [0,2,10])
 (.seq (.seq (.region [mi 11 0] [] [0,2,10,11])
 (.block 0 (.loop (.seq (.seq (.region [mv 32 11,mv 33 0,lb 34 33,bt 35 .lss 32 34] [] [0,2,10,11,35])
 (.cond (.tmp 35) (.skip)
 (.exit 0)))
 (.block 1 (.seq (.region [mv 36 11,mv 12 36] [] [0,2,10,11,12])
 (.seq (.region [⟨(some 13),(.p (.mov (.val (.nilslice)))),none⟩] [] [0,2,10,11,12,13])
 (.seq (.block 2 (.loop (.seq (.seq (.dregion [⟨mv 37 12,0,17⟩,⟨mv 38 0,0,17⟩,⟨lb 39 38,0,17⟩,⟨bt 40 .lss 37 39,0,17⟩,⟨mv 41 40,0,17⟩,⟨⟨(some 42),(.p (.mov (.tmp 0))),(some (41,true))⟩,0,17⟩,⟨⟨(some 43),(.p (.mov (.tmp 12))),(some (41,true))⟩,0,17⟩,⟨⟨(some 44),(.p (.iaddr 1 (.tmp 42) (.tmp 43))),(some (41,true))⟩,0,17⟩,⟨⟨(some 45),(.load1 (.tmp 44)),(some (41,true))⟩,0,17⟩,⟨⟨(some 46),(.p (.iaddr 4 (.tmp 45) (.val (.int .i64 (.ofNat 0))))),(some (41,true))⟩,0,17⟩,⟨⟨(some 47),(.loadn 4 (.tmp 46)),(some (41,true))⟩,0,17⟩,⟨⟨(some 48),(.p (.mov (.tmp 0))),(some (41,true))⟩,0,17⟩,⟨⟨(some 49),(.p (.mov (.tmp 11))),(some (41,true))⟩,0,17⟩,⟨⟨(some 50),(.p (.iaddr 1 (.tmp 48) (.tmp 49))),(some (41,true))⟩,0,17⟩,⟨⟨(some 51),(.load1 (.tmp 50)),(some (41,true))⟩,0,17⟩,⟨⟨(some 52),(.p (.iaddr 4 (.tmp 51) (.val (.int .i64 (.ofNat 0))))),(some (41,true))⟩,0,17⟩,⟨⟨(some 53),(.loadn 4 (.tmp 52)),(some (41,true))⟩,0,17⟩,⟨⟨(some 54),(.e (.call (F 50) [(.tmp 47),(.tmp 53)])),(some (41,true))⟩,0,19⟩,⟨⟨(some 55),(.p (.pick (.tmp 41) (.tmp 54) (.val (.bool false)))),none⟩,18,19⟩] [0,2,10,11,12,13,55])
 (.cond (.tmp 55) (.skip)
 (.exit 2)))
 (.block 3 (.seq (.region [mv 56 13,mv 57 0,mv 58 12,ix 59 1 57 58,l1 60 59,⟨(some 61),(.p (.slc 4 (.tmp 60) (some (.val (.int .i64 (.ofNat 1)))) none none)),none⟩,⟨(some 62),(.a (.bslice [.nilslice] 1 1 [(0,1,(.tmp 61))])),none⟩,⟨(some 63),(.e (.append 1 24 (.tmp 56) (.tmp 62))),none⟩,mv 13 63] [62] [0,2,10,11,12,13])
 (.region [mv 64 12,bi 65 .add 64 1,mv 12 65] [] [0,2,10,11,12,13]))))))
 (.seq (.region [mv 67 13,mv 68 2,⟨(some 69),(.e (.call (F 57) [(.tmp 67),(.tmp 68)])),none⟩,mv 66 69,et 70 66 0,et 71 66 1,mv 14 70,mv 15 71] [] [0,2,10,11,12,14,15])
 (.seq (.seq (.region [mv 72 15,⟨(some 73),(.p (.not (.tmp 72))),none⟩] [] [0,2,10,11,12,14,73])
 (.cond (.tmp 73) (.seq (.region [⟨(some 6),(.p (.mov (.val (.nilslice)))),none⟩,⟨(some 7),(.p (.mov (.val (.bool false)))),none⟩] [] [6,7])
 (.ret))
 (.skip)))
 (.seq (.region [mv 74 10,mv 75 0,mv 76 11,ix 77 1 75 76,l1 78 77,⟨(some 79),(.p (.iaddr 4 (.tmp 78) (.val (.int .i64 (.ofNat 0))))),none⟩,ln 80 4 79,⟨(some 81),(.a (.bslice [.bool false,.int .i64 (.ofNat 0),.int .i64 (.ofNat 0),.nilslice] 4 1 [(0,4,(.tmp 80))])),none⟩,mv 82 14,⟨(some 83),(.e (.append 4 48 (.tmp 81) (.tmp 82))),none⟩,⟨(some 84),(.a (.bslice [.nilslice] 1 1 [(0,1,(.tmp 83))])),none⟩,⟨(some 85),(.e (.append 1 24 (.tmp 74) (.tmp 84))),none⟩,mv 10 85] [84] [0,2,10,12])
 (.region [mv 86 12,mv 11 86] [] [0,2,10,11]))))))))))))
 (.seq (.region [mv 87 10,mv 6 87,⟨(some 7),(.p (.mov (.val (.bool true)))),none⟩] [] [6,7])
 (.ret))))))
def M55 (F : Nat → Nat) : Fun := ⟨88,3,(K55 F).erase,[.tmp 6,.tmp 7]⟩
abbrev K56 (F : Nat → Nat) : KC := .seq (.region [⟨(some 4),(.p (.mov (.val (.nilslice)))),none⟩,⟨(some 5),(.p (.mov (.val (.bool false)))),none⟩] [] [0,1])
 (.seq (.region [⟨(some 11),(.a (.bslice [] 4 0 [])),none⟩,mv 12 0,⟨(some 13),(.e (.append 4 48 (.tmp 11) (.tmp 12))),none⟩,mv 6 13] [] [1,6])
 (.seq (.seq (.region [mi 7 0] [] [1,6,7])
 (.block 0 (.loop (.seq (.seq (.region [mv 14 7,mv 15 1,lb 16 15,bt 17 .lss 14 16] [] [1,6,7,17])
 (.cond (.tmp 17) (.skip)
 (.exit 0)))
 (.seq (.block 1 (.seq (.region [mv 20 6,mv 21 1,mv 22 7,ix 23 6 21 22,fa 24 0 23,l1 25 24,ix 26 4 20 25,ln 27 4 26,⟨(some 8),(.a (.new [.bool false,.int .i64 (.ofNat 0),.int .i64 (.ofNat 0),.nilslice])),none⟩,⟨none,(.e (.store 4 (.tmp 8) (.tmp 27))),none⟩] [] [1,6,7,8])
 (.block 2 (.seq (.region [mv 29 1,mv 30 7,ix 31 6 29 30,fa 32 1 31,l1 33 32,⟨(some 34),(.p (.not (.tmp 33))),none⟩,mv 28 34] [] [1,6,7,8,28])
 (.cond (.tmp 28) (.dregion [⟨mv 35 6,0,12⟩,⟨mv 36 1,0,12⟩,⟨mv 37 7,0,12⟩,⟨ix 38 6 36 37,0,12⟩,⟨fa 39 0 38,0,12⟩,⟨l1 40 39,0,12⟩,⟨mv 41 1,0,12⟩,⟨mv 42 7,0,12⟩,⟨ix 43 6 41 42,0,12⟩,⟨fa 44 2 43,0,12⟩,⟨ln 45 4 44,0,12⟩,⟨ix 46 4 35 40,0,12⟩,⟨⟨none,(.e (.store 4 (.tmp 46) (.tmp 45))),none⟩,0,13⟩] [1,6,7])
 (.seq (.region [fa 48 0 8,l1 49 48,⟨(some 50),(.p (.not (.tmp 49))),none⟩,mv 47 50] [] [1,6,7,8,47])
 (.cond (.tmp 47) (.seq (.dregion [⟨ln 52 4 8,0,7⟩,⟨mv 53 1,0,7⟩,⟨mv 54 7,0,7⟩,⟨ix 55 6 53 54,0,7⟩,⟨fa 56 2 55,0,7⟩,⟨ln 57 4 56,0,7⟩,⟨⟨(some 58),(.a (.bslice [.bool false,.int .i64 (.ofNat 0),.int .i64 (.ofNat 0),.nilslice,.bool false,.int .i64 (.ofNat 0),.int .i64 (.ofNat 0),.nilslice] 4 2 [(0,4,(.tmp 52)),(4,4,(.tmp 57))])),none⟩,0,7⟩,⟨⟨(some 59),(.e (.call (F 59) [(.tmp 58)])),none⟩,0,13⟩,⟨mv 51 59,8,13⟩,⟨et 60 51 0,8,13⟩,⟨et 61 51 1,8,13⟩,⟨mv 9 60,8,13⟩,⟨mv 10 61,8,13⟩] [1,6,7,8,9,10])
 (.seq (.seq (.region [mv 62 10,⟨(some 63),(.p (.not (.tmp 62))),none⟩] [] [1,6,7,8,9,63])
 (.cond (.tmp 63) (.seq (.region [⟨(some 4),(.p (.mov (.val (.nilslice)))),none⟩,⟨(some 5),(.p (.mov (.val (.bool false)))),none⟩] [] [4,5])
 (.ret))
 (.skip)))
 (.seq (.region [mv 64 9,fa 65 2 8,⟨none,(.e (.store 1 (.tmp 65) (.tmp 64))),none⟩] [] [1,6,7,8])
 (.dregion [⟨mv 66 6,0,8⟩,⟨mv 67 1,0,8⟩,⟨mv 68 7,0,8⟩,⟨ix 69 6 67 68,0,8⟩,⟨fa 70 0 69,0,8⟩,⟨l1 71 70,0,8⟩,⟨ln 72 4 8,0,8⟩,⟨ix 73 4 66 71,0,8⟩,⟨⟨none,(.e (.store 4 (.tmp 73) (.tmp 72))),none⟩,0,9⟩] [1,6,7]))))
 (.skip))))))))
 (.region [mv 18 7,bi 19 .add 18 1,mv 7 19] [] [1,6,7]))))))
 (.seq (.region [mv 74 6,mv 4 74,⟨(some 5),(.p (.mov (.val (.bool true)))),none⟩] [] [4,5])
 (.ret))))
def M56 (F : Nat → Nat) : Fun := ⟨75,2,(K56 F).erase,[.tmp 4,.tmp 5]⟩
abbrev K57 (F : Nat → Nat) : KC := .seq (.region [⟨(some 4),(.p (.mov (.val (.nilslice)))),none⟩,⟨(some 5),(.p (.mov (.val (.bool false)))),none⟩] [] [0,1])
 (.seq (.region [⟨(some 6),(.p (.mov (.val (.nilslice)))),none⟩] [] [0,1,6])
 (.seq (.seq (.region [mi 7 0] [] [0,1,6,7])
 (.block 0 (.loop (.seq (.seq (.region [mv 10 7,mv 11 1,lb 12 11,bt 13 .lss 10 12] [] [0,1,6,7,13])
 (.cond (.tmp 13) (.skip)
 (.exit 0)))
 (.seq (.block 1 (.seq (.region [mv 17 0,mv 18 1,mv 19 7,ix 20 2 18 19,ln 21 2 20,⟨(some 22),(.e (.call (F 60) [(.tmp 17),(.tmp 21)])),none⟩,mv 16 22,et 23 16 0,et 24 16 1,⟨(some 8),(.a (.new [.bool false,.int .i64 (.ofNat 0),.int .i64 (.ofNat 0),.nilslice])),none⟩,⟨none,(.e (.store 4 (.tmp 8) (.tmp 23))),none⟩,mv 9 24] [] [0,1,6,7,8,9])
 (.seq (.seq (.region [mv 25 9,⟨(some 26),(.p (.not (.tmp 25))),none⟩] [] [0,1,6,7,8,26])
 (.cond (.tmp 26) (.seq (.region [⟨(some 4),(.p (.mov (.val (.nilslice)))),none⟩,⟨(some 5),(.p (.mov (.val (.bool false)))),none⟩] [] [4,5])
 (.ret))
 (.skip)))
 (.region [mv 27 6,ln 28 4 8,⟨(some 29),(.a (.bslice [.bool false,.int .i64 (.ofNat 0),.int .i64 (.ofNat 0),.nilslice] 4 1 [(0,4,(.tmp 28))])),none⟩,⟨(some 30),(.e (.append 4 48 (.tmp 27) (.tmp 29))),none⟩,mv 6 30] [29] [0,1,6,7]))))
 (.region [mv 14 7,bi 15 .add 14 1,mv 7 15] [] [0,1,6,7]))))))
 (.seq (.region [mv 31 6,mv 4 31,⟨(some 5),(.p (.mov (.val (.bool true)))),none⟩] [] [4,5])
 (.ret))))
def M57 (F : Nat → Nat) : Fun := ⟨32,2,(K57 F).erase,[.tmp 4,.tmp 5]⟩
abbrev K58 (_F : Nat → Nat) : KC := .seq (.region [⟨(some 4),(.p (.mov (.val (.nilslice)))),none⟩] [] [0,1])
 (.seq (.region [⟨(some 5),(.p (.mov (.val (.nilslice)))),none⟩] [] [0,1,5])
 (.seq (.seq (.region [mi 6 0] [] [0,1,5,6])
 (.block 0 (.loop (.seq (.seq (.region [mv 7 6,mv 8 0,lb 9 8,bt 10 .lss 7 9] [] [0,1,5,6,10])
 (.cond (.tmp 10) (.skip)
 (.exit 0)))
 (.seq (.block 1 (.dregion [⟨mv 14 0,0,12⟩,⟨mv 15 6,0,12⟩,⟨ix 16 1 14 15,0,12⟩,⟨l1 17 16,0,12⟩,⟨mv 18 1,0,12⟩,⟨ix 19 4 17 18,0,12⟩,⟨ln 20 4 19,0,12⟩,⟨⟨(some 21),(.a (.bslice [.bool false,.int .i64 (.ofNat 0),.int .i64 (.ofNat 0),.nilslice] 4 1 [(0,4,(.tmp 20))])),none⟩,0,12⟩,⟨mv 22 0,0,12⟩,⟨mv 23 6,0,12⟩,⟨ix 24 1 22 23,0,12⟩,⟨l1 25 24,0,12⟩,⟨⟨(some 26),(.e (.append 4 48 (.tmp 21) (.tmp 25))),none⟩,0,15⟩,⟨mv 13 5,0,15⟩,⟨⟨(some 27),(.a (.bslice [.nilslice] 1 1 [(0,1,(.tmp 26))])),none⟩,13,15⟩,⟨⟨(some 28),(.e (.append 1 24 (.tmp 13) (.tmp 27))),none⟩,13,17⟩,⟨mv 5 28,16,17⟩] [0,1,5,6]))
 (.region [mv 11 6,bi 12 .add 11 1,mv 6 12] [] [0,1,5,6]))))))
 (.seq (.region [mv 29 5,mv 4 29] [] [4])
 (.ret))))
def M58 (F : Nat → Nat) : Fun := ⟨30,2,(K58 F).erase,[.tmp 4]⟩
abbrev K59 (_F : Nat → Nat) : KC := .seq (.region [mi 2 0,⟨(some 3),(.p (.mov (.val (.bool false)))),none⟩] [] [0])
 (.seq (.region [mi 4 0,⟨(some 5),(.p (.mov (.val (.int .u64 (.ofNat 0))))),none⟩] [] [0,4,5])
 (.seq (.seq (.region [mi 6 0] [] [0,4,5,6])
 (.block 0 (.loop (.seq (.seq (.region [mv 9 6,mv 10 0,lb 11 10,bt 12 .lss 9 11] [] [0,4,5,6,12])
 (.cond (.tmp 12) (.skip)
 (.exit 0)))
 (.seq (.block 1 (.seq (.seq (.region [mv 15 0,mv 16 6,ix 17 4 15 16,fa 18 0 17,l1 19 18] [] [0,4,5,6,19])
 (.cond (.tmp 19) (.exit 1)
 (.skip)))
 (.seq (.region [mv 20 0,mv 21 6,ix 22 4 20 21,fa 23 2 22,l1 24 23,⟨(some 25),(.p (.conv (.int .u64) (.tmp 24))),none⟩,mv 7 25] [] [0,4,5,6,7])
 (.seq (.region [mv 26 5,mv 8 26] [] [0,4,5,6,7,8])
 (.seq (.region [mv 27 5,mv 28 7,bt 29 .add 27 28,mv 5 29] [] [0,4,5,6,8])
 (.seq (.seq (.region [mv 30 5,mv 31 8,bt 32 .lss 30 31] [] [0,4,5,6,32])
 (.cond (.tmp 32) (.region [mv 33 4,bi 34 .add 33 1,mv 4 34] [] [0,4,5,6])
 (.skip)))
 (.seq (.region [mv 35 0,mv 36 6,ix 37 4 35 36,fa 38 2 37,l1 39 38,bi 40 .lss 39 0] [] [0,4,5,6,40])
 (.cond (.tmp 40) (.region [mv 41 4,bi 42 .sub 41 1,mv 4 42] [] [0,4,5,6])
 (.skip)))))))))
 (.region [mv 13 6,bi 14 .add 13 1,mv 6 14] [] [0,4,5,6]))))))
 (.seq (.region [mv 43 5,⟨(some 44),(.p (.conv (.int .i64) (.tmp 43))),none⟩,mv 45 4,bi 46 .eql 45 0,mv 47 46,⟨(some 48),(.p (.mov (.tmp 5))),(some (47,true))⟩,⟨(some 49),(.p (.bin .lss (.tmp 48) (.val (.int .u64 (.ofNat 9223372036854775808))))),(some (47,true))⟩,⟨(some 50),(.p (.pick (.tmp 47) (.tmp 49) (.val (.bool false)))),none⟩,mv 51 50,⟨(some 52),(.p (.mov (.tmp 4))),(some (51,false))⟩,⟨(some 53),(.p (.bin .eql (.tmp 52) (.val (.int .i64 (.negSucc 0))))),(some (51,false))⟩,⟨(some 54),(.p (.mov (.tmp 53))),(some (51,false))⟩,⟨(some 55),(.p (.mov (.tmp 5))),(some (54,true))⟩,⟨(some 56),(.p (.bin .geq (.tmp 55) (.val (.int .u64 (.ofNat 9223372036854775808))))),(some (54,true))⟩,⟨(some 57),(.p (.pick (.tmp 54) (.tmp 56) (.val (.bool false)))),(some (51,false))⟩,⟨(some 58),(.p (.pick (.tmp 51) (.val (.bool true)) (.tmp 57))),none⟩,mv 2 44,mv 3 58] [] [2,3])
 (.ret))))
def M59 (F : Nat → Nat) : Fun := ⟨59,1,(K59 F).erase,[.tmp 2,.tmp 3]⟩
abbrev K60 (F : Nat → Nat) : KC := .seq (.region [⟨(some 3),(.a (.box (.tmp 1))),none⟩,⟨(some 4),(.a (.new [.bool false,.int .i64 (.ofNat 0),.int .i64 (.ofNat 0),.nilslice])),none⟩,⟨(some 5),(.p (.mov (.val (.bool false)))),none⟩] [3] [0,3,4])
 (.seq (.region [⟨(some 6),(.p (.mov (.val (.nilslice)))),none⟩] [] [0,3,4,6])
 (.seq (.region [⟨(some 14),(.p (.build [.bool false,.int .i64 (.ofNat 0),.int .i64 (.ofNat 0),.nilslice] [(0,1,(.val (.bool true)))])),none⟩,⟨(some 7),(.a (.new [.bool false,.int .i64 (.ofNat 0),.int .i64 (.ofNat 0),.nilslice])),none⟩,⟨none,(.e (.store 4 (.tmp 7) (.tmp 14))),none⟩] [] [0,3,4,6,7])
 (.seq (.seq (.region [mi 8 0] [] [0,3,4,6,7,8])
 (.block 0 (.loop (.seq (.seq (.region [mv 15 8,mv 16 0,lb 17 16,bt 18 .lss 15 17] [] [0,3,4,6,7,8,18])
 (.cond (.tmp 18) (.skip)
 (.exit 0)))
 (.seq (.block 1 (.seq (.dregion [⟨mv 21 0,0,9⟩,⟨mv 22 8,0,9⟩,⟨ix 23 1 21 22,0,9⟩,⟨l1 24 23,0,9⟩,⟨fa 25 1 3,0,9⟩,⟨l1 26 25,0,9⟩,⟨ix 27 4 24 26,0,9⟩,⟨ln 28 4 27,0,9⟩,⟨⟨(some 9),(.a (.new [.bool false,.int .i64 (.ofNat 0),.int .i64 (.ofNat 0),.nilslice])),none⟩,0,9⟩,⟨⟨none,(.e (.store 4 (.tmp 9) (.tmp 28))),none⟩,0,10⟩] [0,3,4,6,7,8,9])
 (.seq (.region [mv 29 6,ln 30 4 9,⟨(some 31),(.a (.bslice [.bool false,.int .i64 (.ofNat 0),.int .i64 (.ofNat 0),.nilslice] 4 1 [(0,4,(.tmp 30))])),none⟩,⟨(some 32),(.e (.append 4 48 (.tmp 29) (.tmp 31))),none⟩,mv 6 32] [31] [0,3,4,6,7,8,9])
 (.region [fa 33 1 9,l1 34 33,fa 35 1 7,⟨none,(.e (.store 1 (.tmp 35) (.tmp 34))),none⟩] [] [0,3,4,6,7,8]))))
 (.region [mv 19 8,bi 20 .add 19 1,mv 8 20] [] [0,3,4,6,7,8]))))))
 (.seq (.seq (.region [fa 36 0 3,l1 37 36] [] [0,3,4,6,7,37])
 (.block 2 (.seq (.region [bi 39 .eql 37 1,mv 38 39] [] [0,3,4,6,7,37,38])
 (.cond (.tmp 38) (.seq (.region [mv 40 0,lb 41 40,⟨(some 42),(.p (.build [.bool false,.int .i64 (.ofNat 0),.int .i64 (.ofNat 0),.nilslice] [(1,1,(.val (.int .i64 (.ofNat 1)))),(2,1,(.tmp 41))])),none⟩,⟨none,(.e (.store 4 (.tmp 4) (.tmp 42))),none⟩,⟨(some 5),(.p (.mov (.val (.bool true)))),none⟩] [] [4,5])
 (.ret))
 (.seq (.region [bi 44 .eql 37 2,mv 43 44] [] [3,4,6,7,43])
 (.cond (.tmp 43) (.seq (.region [mv 46 6,⟨(some 47),(.e (.call (F 59) [(.tmp 46)])),none⟩,mv 45 47,et 48 45 0,et 49 45 1,mv 10 48,mv 11 49] [] [4,10,11])
 (.seq (.region [mv 50 10,⟨(some 51),(.p (.build [.bool false,.int .i64 (.ofNat 0),.int .i64 (.ofNat 0),.nilslice] [(1,1,(.val (.int .i64 (.ofNat 1)))),(2,1,(.tmp 50))])),none⟩,mv 52 11,⟨none,(.e (.store 4 (.tmp 4) (.tmp 51))),none⟩,mv 5 52] [] [4,5])
 (.ret)))
 (.skip)))))))
 (.seq (.seq (.region [mi 12 0] [] [3,4,6,7,12])
 (.block 3 (.loop (.seq (.seq (.region [mv 53 12,mv 54 6,lb 55 54,bt 56 .lss 53 55] [] [3,4,6,7,12,56])
 (.cond (.tmp 56) (.skip)
 (.exit 3)))
 (.seq (.block 4 (.seq (.dregion [⟨mv 59 6,0,5⟩,⟨mv 60 12,0,5⟩,⟨ix 61 4 59 60,0,5⟩,⟨ln 62 4 61,0,5⟩,⟨ln 63 4 7,0,5⟩,⟨⟨(some 64),(.e (.call (F 46) [(.tmp 62),(.tmp 63)])),none⟩,0,7⟩,⟨mv 13 64,6,7⟩] [3,4,6,7,12,13])
 (.seq (.region [mv 65 6,mv 66 12,ix 67 4 65 66,fa 68 0 67,l1 69 68,⟨(some 70),(.p (.not (.tmp 69))),none⟩,mv 71 70,⟨(some 72),(.p (.faddr 0 (.tmp 7))),(some (71,true))⟩,⟨(some 73),(.load1 (.tmp 72)),(some (71,true))⟩,⟨(some 74),(.p (.mov (.tmp 73))),(some (71,true))⟩,⟨(some 75),(.p (.faddr 0 (.tmp 3))),(some (74,false))⟩,⟨(some 76),(.load1 (.tmp 75)),(some (74,false))⟩,⟨(some 77),(.p (.bin .eql (.tmp 76) (.val (.int .i64 (.ofNat 3))))),(some (74,false))⟩,⟨(some 78),(.p (.mov (.tmp 77))),(some (74,false))⟩,⟨(some 79),(.p (.mov (.tmp 13))),(some (78,true))⟩,⟨(some 80),(.p (.bin .lss (.tmp 79) (.val (.int .i64 (.ofNat 0))))),(some (78,true))⟩,⟨(some 81),(.p (.pick (.tmp 78) (.tmp 80) (.val (.bool false)))),(some (74,false))⟩,⟨(some 82),(.p (.pick (.tmp 74) (.val (.bool true)) (.tmp 81))),(some (71,true))⟩,⟨(some 83),(.p (.mov (.tmp 82))),(some (71,true))⟩,⟨(some 84),(.p (.faddr 0 (.tmp 3))),(some (83,false))⟩,⟨(some 85),(.load1 (.tmp 84)),(some (83,false))⟩,⟨(some 86),(.p (.bin .eql (.tmp 85) (.val (.int .i64 (.ofNat 4))))),(some (83,false))⟩,⟨(some 87),(.p (.mov (.tmp 86))),(some (83,false))⟩,⟨(some 88),(.p (.mov (.tmp 13))),(some (87,true))⟩,⟨(some 89),(.p (.bin .gtr (.tmp 88) (.val (.int .i64 (.ofNat 0))))),(some (87,true))⟩,⟨(some 90),(.p (.pick (.tmp 87) (.tmp 89) (.val (.bool false)))),(some (83,false))⟩,⟨(some 91),(.p (.pick (.tmp 83) (.val (.bool true)) (.tmp 90))),(some (71,true))⟩,⟨(some 92),(.p (.pick (.tmp 71) (.tmp 91) (.val (.bool false)))),none⟩] [] [3,4,6,7,12,92])
 (.cond (.tmp 92) (.region [mv 93 6,mv 94 12,ix 95 4 93 94,ln 96 4 95,⟨none,(.e (.store 4 (.tmp 7) (.tmp 96))),none⟩] [] [3,4,6,7,12])
 (.skip)))))
 (.region [mv 57 12,bi 58 .add 57 1,mv 12 58] [] [3,4,6,7,12]))))))
 (.seq (.region [ln 97 4 7,⟨none,(.e (.store 4 (.tmp 4) (.tmp 97))),none⟩,⟨(some 5),(.p (.mov (.val (.bool true)))),none⟩] [] [4,5])
 (.ret)))))))
def M60 (F : Nat → Nat) : Fun := ⟨98,2,(K60 F).erase,[.celln 4 4,.tmp 5]⟩
end Go.Lib
end

section
set_option maxRecDepth 10000
namespace Go.Lib
open Go.Vm Go.Dv Go.Srt
variable {p : Prog} {ext : Ext} {F : Nat → Nat}
def In64 (n : Int) : Prop := -9223372036854775808 ≤ n ∧ n < 9223372036854775808
def term (c : Int) (r : Row) : Int := if (atV r c).null = true then 0 else (atV r c).n
def sumT (c : Int) (l : List Row) : Int := (l.map (term c)).sum
def Nums (c : Int) (l : List Row) : Prop := ∀ r, r ∈ l → In64 (atV r c).n
theorem Nums.take {c : Int} {l : List Row} (h : Nums c l) (i : Nat) : Nums c (l.take i) := fun r hr => h r (List.mem_of_mem_take hr)
instance {n : Int} : Decidable (In64 n) := by unfold In64; exact inferInstance
def numV (n : Int) : Vl := ⟨false, 1, n, [], by simp⟩
end Go.Lib
end

section
set_option maxRecDepth 10000
namespace Go.Lib
open Go.Vm Go.Dv Go.Srt
variable {p : Prog} {ext : Ext} {F : Nat → Nat}
def setKind (v : Vl) (k : Int) : Vl := ⟨v.null, k, v.n, v.bytes, v.small⟩
def endS (sg : Int) (out v : Vl) : Vl := if v.null = true then setKind out v.kind else if out.null = true ∨ 0 < cmpV v out * sg then v else out
def nullV : Vl := ⟨true, 0, 0, [], by simp⟩
end Go.Lib
end

section
set_option maxRecDepth 10000
namespace Go.Lib
open Go.Vm Go.Dv Go.Srt
variable {p : Prog} {ext : Ext} {F : Nat → Nat}
structure Ag where
  kind : Int
  col : Int
def Ag.c (a : Ag) : List D := [.lit (.int .i64 a.kind), .lit (.int .i64 a.col)]
def agsE (l : List Ag) : List (List D) := l.map Ag.c
def agsD (l : List Ag) : D := .row 2 .p (agsE l)
theorem ags_len {l : List Ag} : (agsE l).length = l.length := by simp [agsE]
theorem lenb_ags {l : List Ag} : lenbD (agsD l) = some (.lit (.int .i64 (l.length : Int))) := by simp [agsD, ags_len]
theorem at_ags {l : List Ag} {n : Nat} : atO 2 (agsD l) (some n) = elemD (l[n]?.map Ag.c) := by simp [agsD, agsE]
theorem ag_len {a : Ag} : a.c.length = 2 := rfl
theorem ag_flats {a : Ag} : flatsD a.c = true := rfl
theorem ag_take {a : Ag} : a.c.take 2 = a.c := rfl
theorem ag_drop {a : Ag} : a.c.drop 2 = [] := rfl
attribute [simp] ags_len lenb_ags at_ags ag_len ag_flats ag_take ag_drop
def AgOk (l : List Row) (a : Ag) : Prop := a.kind = 2 → Nums a.col l
end Go.Lib
end

section
set_option maxRecDepth 10000
namespace Go.Lib
open Go.Vm Go.Dv Go.Srt
variable {p : Prog} {ext : Ext} {F : Nat → Nat}
def cnt (c : Int) (r : Row) (t : List Row) : Nat := 1 + (t.takeWhile fun x => decide (cmpV (atV x c) (atV r c) = 0)).length
end Go.Lib
end

section
set_option maxRecDepth 10000
namespace Go.Lib
open Go.Vm Go.Dv Go.Srt
def cs2 : List Ag := [⟨1, 0⟩, ⟨2, 0⟩]
def Low (l : List Row) : Prop := ∀ r, r ∈ l → 0 ≤ (atV r 0).n ∧ (atV r 0).n ≤ 1000
theorem Low.sum : ∀ {l : List Row}, Low l → 0 ≤ sumT 0 l ∧ sumT 0 l ≤ 1000 * (l.length : Int)
  | [], _ => by simp [sumT]
  | r :: l, h => by
    have ih := Low.sum (l := l) fun r hr => h r (by simp [hr])
    have h0 := h r (by simp)
    have : sumT 0 (r :: l) = term 0 r + sumT 0 l := by simp [sumT]
    rw [this, List.length_cons]
    unfold term
    split <;> omega
theorem Low.in {l : List Row} (h : Low l) (hl : l.length < 1000000) : In64 (sumT 0 l) := by
  have := h.sum
  unfold In64; omega
def grow (x : Vl × Nat × Int) : Row := [x.1, numV x.2.1, numV x.2.2]
structure GOk (c : Int) (l : List Row) (T : List (Vl × Nat × Int)) : Prop where
  ones : ∀ x, x ∈ T → 1 ≤ x.2.1
  pos : ∀ x, x ∈ T → 0 ≤ x.2.2
  cnt : (T.map fun x => x.2.1).sum = l.length
  sum : (T.map fun x => x.2.2).sum = sumT 0 l
  up : ∀ i a b, T[i]? = some a → T[i + 1]? = some b → cmpV a.1 b.1 < 0
  hd : ∀ a, T[0]? = some a → ∃ r, l[0]? = some r ∧ a.1 = atV r c
def cS (T : List (Vl × Nat × Int)) (i : Nat) : Nat := ((T.take i).map fun x => x.2.1).sum
def sS (T : List (Vl × Nat × Int)) (i : Nat) : Int := ((T.take i).map fun x => x.2.2).sum
theorem sum_pos : ∀ {T : List (Vl × Nat × Int)}, (∀ x, x ∈ T → 0 ≤ x.2.2) → 0 ≤ (T.map fun x => x.2.2).sum
  | [], _ => by simp
  | x :: T, h => by
    have := sum_pos (T := T) fun y hy => h y (by simp [hy])
    have := h x (by simp)
    simp only [List.map_cons, List.sum_cons]; omega
theorem GOk.le {c : Int} {l : List Row} {T : List (Vl × Nat × Int)} (ok : GOk c l T) (i : Nat) : cS T i ≤ l.length ∧ 0 ≤ sS T i ∧ sS T i ≤ sumT 0 l := by
  have e : T = T.take i ++ T.drop i := (List.take_append_drop i T).symm
  have h1 := ok.cnt
  have h2 := ok.sum
  rw [e, List.map_append, List.sum_append] at h1 h2
  have h3 := sum_pos (T := T.drop i) fun x hx => ok.pos x (List.mem_of_mem_drop hx)
  have h4 := sum_pos (T := T.take i) fun x hx => ok.pos x (List.mem_of_mem_take hx)
  unfold cS sS
  omega
theorem len_sum : ∀ {T : List (Vl × Nat × Int)}, (∀ x, x ∈ T → 1 ≤ x.2.1) → T.length ≤ (T.map fun x => x.2.1).sum
  | [], _ => by simp
  | x :: T, h => by
    have := len_sum (T := T) fun y hy => h y (by simp [hy])
    have := h x (by simp)
    simp only [List.map_cons, List.sum_cons, List.length_cons]; omega
theorem GOk.len {c : Int} {l : List Row} {T : List (Vl × Nat × Int)} (ok : GOk c l T) : T.length ≤ l.length := ok.cnt ▸ len_sum ok.ones
theorem GOk.all {c : Int} {l : List Row} {T : List (Vl × Nat × Int)} (ok : GOk c l T) : cS T T.length = l.length ∧ sS T T.length = sumT 0 l := by
  unfold cS sS
  rw [List.take_length]
  exact ⟨ok.cnt, ok.sum⟩
end Go.Lib
end

section
set_option maxRecDepth 10000
namespace Go.Lib
open Go.Vm Go.Dv Go.Srt
structure Vl.Good (v : Vl) : Prop where
  nul : v.null = true → v.n = 0 ∧ v.bytes = []
  kd : (v.kind = 1 ∧ v.bytes = []) ∨ (v.kind = 2 ∧ v.n = 0)
  int : In64 v.n
theorem cmpV_self {a : Vl} : cmpV a a = 0 := by
  have := (cmpV_ord (k := a.kind)).sym a a rfl rfl; omega
structure GoodR (ks : List Int) (r : Row) : Prop where
  kin : Kin ks r
  good : ∀ v, v ∈ r → v.Good
section
variable {α : Type} {G : α → Prop} {cmp : α → α → Int}
end
def IsEnd (sg : Int) (L : List Vl) (o : Vl) : Prop :=
  (L = [] ∧ o = nullV) ∨ (o ∈ L ∧ ∀ v, v ∈ L → v.null = true) ∨ (o ∈ L ∧ o.null = false ∧ ∀ v, v ∈ L → v.null = false → cmpV v o * sg ≤ 0)
theorem null_set {v : Vl} (hv : v.Good) (h : v.null = true) : setKind nullV v.kind = v := by
  obtain ⟨a, b⟩ := hv.nul h
  exact vl_ext.2 ⟨by simp [setKind, nullV, h], rfl, by simp [setKind, nullV, a], by simp [setKind, nullV, b]⟩
theorem set_self {o : Vl} {k : Int} (h : o.kind = k) : setKind o k = o := by subst h; rfl
def GoodL (k : Int) (L : List Vl) : Prop := ∀ v, v ∈ L → v.kind = k ∧ v.Good
theorem IsEnd.step {sg k : Int} (hsg : sg = 1 ∨ sg = -1) {L : List Vl} {o v : Vl} (hL : GoodL k (L ++ [v])) (h : IsEnd sg L o) : IsEnd sg (L ++ [v]) (endS sg o v) := by
  obtain ⟨hvk, hv⟩ := hL v (by simp)
  have hm : ∀ x, x ∈ L → x.kind = k ∧ x.Good := fun x hx => hL x (by simp [hx])
  unfold endS
  by_cases hn : v.null = true
  · rw [if_pos hn]
    rcases h with ⟨rfl, rfl⟩ | ⟨ho, ha⟩ | ⟨ho, hon, ha⟩
    · rw [null_set hv hn]
      exact .inr (.inl ⟨by simp, fun w hw => by simp at hw; rw [hw, hn]⟩)
    · rw [set_self (by rw [(hm o ho).1, hvk])]
      exact .inr (.inl ⟨by simp [ho], fun w hw => by
        rcases List.mem_append.1 hw with hw | hw
        · exact ha w hw
        · simp at hw; rw [hw, hn]⟩)
    · rw [set_self (by rw [(hm o ho).1, hvk])]
      exact .inr (.inr ⟨by simp [ho], hon, fun w hw hwn => by
        rcases List.mem_append.1 hw with hw | hw
        · exact ha w hw hwn
        · simp at hw; rw [hw, hn] at hwn; cases hwn⟩)
  · rw [if_neg hn]
    have hn' : v.null = false := by simpa using hn
    rcases h with ⟨rfl, rfl⟩ | ⟨ho, ha⟩ | ⟨ho, hon, ha⟩
    · rw [if_pos (.inl rfl)]
      exact .inr (.inr ⟨by simp, hn', fun w hw _ => by simp at hw; rw [hw, cmpV_self]; omega⟩)
    · rw [if_pos (.inl (ha o ho))]
      refine .inr (.inr ⟨by simp, hn', fun w hw hwn => ?_⟩)
      rcases List.mem_append.1 hw with hw | hw
      · rw [ha w hw] at hwn; cases hwn
      · simp at hw; rw [hw, cmpV_self]; omega
    · have oo := cmpV_ord (k := k)
      have s1 := oo.sym v o hvk (hm o ho).1
      split
      · rename_i e
        have e : 0 < cmpV v o * sg := by
          rcases e with e | e
          · rw [hon] at e; cases e
          · exact e
        refine .inr (.inr ⟨by simp, hn', fun w hw hwn => ?_⟩)
        rcases List.mem_append.1 hw with hw | hw
        · have h1 := ha w hw hwn
          have hwk := (hm w hw).1
          have s2 := oo.sym w o hwk (hm o ho).1
          have s3 := oo.sym w v hwk hvk
          have t1 := oo.tr w o v hwk (hm o ho).1 hvk
          have t2 := oo.tr v o w hvk (hm o ho).1 hwk
          rcases hsg with rfl | rfl <;> omega
        · simp at hw; rw [hw, cmpV_self]; omega
      · rename_i e
        have e : ¬ 0 < cmpV v o * sg := fun h => e (.inr h)
        refine .inr (.inr ⟨by simp [ho], hon, fun w hw hwn => ?_⟩)
        rcases List.mem_append.1 hw with hw | hw
        · exact ha w hw hwn
        · simp at hw; subst hw; omega
theorem IsEnd.perm {sg : Int} {L L' : List Vl} {o : Vl} (hp : L.Perm L') (h : IsEnd sg L o) : IsEnd sg L' o := by
  rcases h with ⟨rfl, rfl⟩ | ⟨ho, ha⟩ | ⟨ho, hon, ha⟩
  · exact .inl ⟨hp.nil_eq.symm, rfl⟩
  · exact .inr (.inl ⟨hp.mem_iff.1 ho, fun v hv => ha v (hp.mem_iff.2 hv)⟩)
  · exact .inr (.inr ⟨hp.mem_iff.1 ho, hon, fun v hv => ha v (hp.mem_iff.2 hv)⟩)
def GoodRs (ks : List Int) (l : List Row) : Prop := ∀ r, r ∈ l → GoodR ks r
def InK (ks : List Int) (c : Int) : Prop := 0 ≤ c ∧ c < ks.length
theorem GoodRs.perm {ks : List Int} {l l' : List Row} (hp : l.Perm l') (h : GoodRs ks l) : GoodRs ks l' := fun r hr => h r (hp.mem_iff.2 hr)
theorem atV_mem {r : Row} {c : Int} (h0 : 0 ≤ c) (h : c < r.length) : atV r c ∈ r ∧ r[c.toNat]? = some (atV r c) := by
  have hl : c.toNat < r.length := by omega
  rw [atV, if_neg (by omega)]
  simp [hl]
theorem GoodR.at_ {ks : List Int} {r : Row} {c : Int} (h : GoodR ks r) (hc : InK ks c) : (atV r c).kind = (ks[c.toNat]?).getD 0 ∧ (atV r c).Good := by
  have hk := h.kin
  unfold Kin at hk
  have hl : r.length = ks.length := by rw [← hk]; simp
  obtain ⟨h1, h2⟩ := atV_mem (r := r) hc.1 (by have := hc.2; omega)
  refine ⟨?_, h.good _ h1⟩
  rw [← hk, List.getElem?_map, h2]; rfl
theorem GoodRs.col {ks : List Int} {l : List Row} {c : Int} (h : GoodRs ks l) (hc : InK ks c) : GoodL ((ks[c.toNat]?).getD 0) (l.map fun r => atV r c) := by
  intro v hv
  obtain ⟨r, hr, rfl⟩ := List.mem_map.1 hv
  exact (h r hr).at_ hc
end Go.Lib
end

section
set_option maxRecDepth 10000
namespace Go.Lib
open Go.Vm Go.Dv Go.Srt
variable {p : Prog} {ext : Ext} {F : Nat → Nat}
structure HRef15 (p : Prog) (ext : Ext) (F : Nat → Nat) : Prop where
  ref6 : HRef6 p ext F
  h53 : Has p ext F 53 M53
  h54 : Has p ext F 54 M54
  h55 : Has p ext F 55 M55
  h56 : Has p ext F 56 M56
  h57 : Has p ext F 57 M57
  h58 : Has p ext F 58 M58
  h59 : Has p ext F 59 M59
  h60 : Has p ext F 60 M60
end Go.Lib
end

section
set_option maxRecDepth 10000
namespace Go.Lib
open Go.Vm Go.Dv Go.Srt
variable {p : Prog} {ext : Ext} {F : Nat → Nat}
end Go.Lib
end

section
set_option maxRecDepth 10000
namespace Go.Lib
open Go.Vm Go.Dv Go.Srt
variable {p : Prog} {ext : Ext} {F : Nat → Nat}
structure Sx where
  col : Int
  add : Bool
  v : Vl
def Sx.c (x : Sx) : List D := .lit (.int .i64 x.col) :: .lit (.bool x.add) :: x.v.c
def sxsE (l : List Sx) : List (List D) := l.map Sx.c
def sxsD (l : List Sx) : D := .row 6 .p (sxsE l)
theorem sxs_len {l : List Sx} : (sxsE l).length = l.length := by simp [sxsE]
theorem lenb_sxs {l : List Sx} : lenbD (sxsD l) = some (.lit (.int .i64 (l.length : Int))) := by simp [sxsD, sxs_len]
theorem at_sxs {l : List Sx} {n : Nat} : atO 6 (sxsD l) (some n) = elemD (l[n]?.map Sx.c) := by simp [sxsD, sxsE]
theorem sx_len {a : Sx} : a.c.length = 6 := rfl
theorem sx_flats {a : Sx} : flatsD a.c = true := rfl
theorem sx_take {a : Sx} : a.c.take 6 = a.c := rfl
theorem sx_drop {a : Sx} : a.c.drop 6 = [] := rfl
theorem sx_0 {a : Sx} : a.c[0]? = some (.lit (.int .i64 a.col)) := rfl
theorem sx_1 {a : Sx} : a.c[1]? = some (.lit (.bool a.add)) := rfl
theorem sx_4 {a : Sx} : a.c[4]? = some (.lit (.int .i64 a.v.n)) := rfl
theorem sx_v {a : Sx} : (a.c.drop 2).take 4 = a.v.c := rfl
theorem sx_unders {n : Nat} {a : Sx} : D.unders n a.c := by simp [Sx.c]
attribute [simp] sxs_len lenb_sxs at_sxs sx_len sx_flats sx_take sx_drop sx_0 sx_1 sx_4 sx_v sx_unders
def withN (v : Vl) (n : Int) : Vl := ⟨v.null, v.kind, n, v.bytes, v.small⟩
def setS (r : Row) (x : Sx) : Option Row :=
  if x.col < 0 ∨ (r.length : Int) ≤ x.col then some r else
  if x.add = false then some (r.set x.col.toNat x.v) else
  if (atV r x.col).null = true then some r else
  if In64 ((atV r x.col).n + x.v.n) then some (r.set x.col.toNat (withN (atV r x.col) ((atV r x.col).n + x.v.n))) else none
def setF : Row → List Sx → Option Row
  | r, [] => some r
  | r, x :: l => match setS r x with
    | some r' => setF r' l
    | none => none
def setD (o : Option Row) : D := .tup [rowD (o.getD []), .lit (.bool o.isSome)]
end Go.Lib
end

section
set_option maxRecDepth 10000
namespace Go.Lib
open Go.Vm Go.Dv Go.Srt
attribute [-simp] bin_and bin_xor
theorem GoodR.cons {k : Int} {ks : List Int} {v : Vl} {r : Row} (h1 : v.kind = k) (h2 : v.Good) (h : GoodR ks r) : GoodR (k :: ks) (v :: r) :=
  ⟨by have := h.kin; unfold Kin at this ⊢; simp [h1, this], fun w hw => by
    rcases List.mem_cons.1 hw with rfl | hw
    · exact h2
    · exact h.good w hw⟩
end Go.Lib
end

section
set_option maxRecDepth 10000
namespace Go.Lib
open Go.Vm Go.Dv Go.Srt
variable {p : Prog} {ext : Ext} {F : Nat → Nat}
theorem AgOk.good {ks : List Int} {l : List Row} {a : Ag} (hg : GoodRs ks l) (ha : InK ks a.col) : AgOk l a := fun _ r hr => ((hg r hr).at_ ha).2.int
theorem Fine.perm {l l' : List Row} (hp : l'.Perm l) (hl : Fine l) : Fine l' := ⟨by rw [hp.length_eq]; exact hl.1, fun r hr => hl.2 r (hp.mem_iff.1 hr)⟩
end Go.Lib
end

section
set_option maxRecDepth 10000
namespace Go.Lib
open Go.Vm Go.Dv Go.Srt
variable {p : Prog} {ext : Ext} {F : Nat → Nat}
attribute [-simp] bin_and bin_xor
structure HLaw16m (p : Prog) (ext : Ext) (F : Nat → Nat) : Prop where
  aggr : HAggr p ext F
  law6 : HLaw6 p ext F
  ref6 : HRef6 p ext F
  x45 : ∀ args h, ext (F 45) args h = extV .add64 args h
  awake : FnD p ext (F 52) [] (.lit (.bool true))
  h62 : Has p ext F 62 M62
end Go.Lib
end

section
set_option maxRecDepth 10000
namespace Go.Lib
open Go.Vm Go.Dv Go.Srt
variable {p : Prog} {ext : Ext} {F : Nat → Nat}
attribute [-simp] bin_and bin_xor
structure HRept (p : Prog) (ext : Ext) (F : Nat → Nat) (g : SG) : Prop where
  val : HVal p ext F g
  ref6 : HSame6 p ext F
  x207 : ∀ args h, ext (F 207) args h = strV g .join args h
  x208 : ∀ args h, ext (F 208) args h = strV g .itoa args h
  awake : FnD p ext (F 227) [] (.lit (.bool true))
  h222 : Has p ext F 222 M222
  h223 : Has p ext F 223 M223
  h224 : Has p ext F 224 M224
  h225 : Has p ext F 225 M225
  h226 : Has p ext F 226 M226
theorem rept_num {g : SG} (L : HRept p ext F g) {n : Int} (hn : wr .i64 n = n) : FnD p ext (F 225) [.lit (.int .i64 n)] (.lit (.str (itoaN n))) := by
  refine fn_of L.h225 (M := M225) rfl ok225 rfl fun H => sem_run 9000 _ ?_
  simp
  refine sem_fn (itoa_ext L.x208 L.val.pow hn) (by first | exact D.les_refl _ | simp) (sem_run 9000 _ ?_)
  simp
  refine sem_ret ?_
  simp [M225]
  exact .same (by simp)
def rowN (r : Row) : List Nat := [91] ++ joinN (r.map valN) [44] ++ [93]
structure Shy (r : Row) : Prop where
  len : r.length < 1000
  num : ∀ v, v ∈ r → wr .i64 v.n = v.n
  txt : (joinN (r.map valN) [44]).length < 1000000
def RptRowI (H0 : HpD) (r : Row) (k : Nat) (fr : FrD) (H : HpD) : Prop :=
  ∃ (i : Nat) (s : D), k = r.length - i ∧ i ≤ r.length ∧ fr = [(3, s), (6, rowD r), (7, .lit (.int .i64 (r.length : Int))), (8, .lit (.int .i64 (i : Int)))] ∧ Gr H0 H 1 s (strE ((r.take i).map valN))
theorem rept_row {g : SG} (L : HRept p ext F g) {r : Row} (hr : Shy r) : FnD p ext (F 226) [rowD r] (.lit (.str (rowN r))) := by
  refine fn_of L.h226 (M := M226) rfl ok226 rfl fun H => sem_run 9000 _ ?_
  have hl := hr.len
  simp
  refine sem_loop (RptRowI H r) ?_ (k := r.length) ⟨0, .lit .nilslice, by simp, by simp, rfl, by simpa [strE] using Gr.start⟩
  rintro k fr H' ⟨i, s, rfl, hi, rfl, gr⟩
  by_cases c : i < r.length
  · have hx : r[i]? = some r[i] := by simp
    refine sem_run 9000 _ ?_
    simp
    simp [c]
    refine sem_fn (text_val L.val (hr.num r[i] (by simp))) (by first | exact D.les_refl _ | simp) (sem_run 9000 _ ?_)
    simp
    refine sem_push (gr.mono (by repeat (first | exact Sub.refl | apply Sub.new | refine Sub.put ?_ (by first | omega | (simp only [put_next, new_next]; omega))))) rfl rfl (roomyD (by simp [str_len]; omega) (by simp [str_len]; omega)) fun s' H1 g1 _ _ => ?_
    simp
    refine sem_ok ?_
    have hw : wr .i64 ((i : Int) + 1) = ((i + 1 : Nat) : Int) := by rw [wr_of] <;> omega
    refine ⟨_, by omega, i + 1, s', rfl, by omega, by rw [hw], ?_⟩
    rw [List.take_succ_eq_append_getElem c, List.map_append, strE_append]; exact g1
  · have : i = r.length := by omega
    subst this
    rw [List.take_length] at gr
    refine sem_turn gr 3 (by simp) fun H1 s1 _ _ => ?_
    refine sem_run 9000 _ ?_
    simp
    refine sem_exit (sem_run 9000 _ ?_)
    simp
    have := hr.txt
    refine sem_fn (join_ext L.x207 (l := r.map valN) (sep := [44]) (by omega) (by simp; omega)) (by first | exact D.les_refl _ | simp [strsD]) (sem_run 9000 _ ?_)
    simp
    rw [sadd_of (by simp; omega)]
    simp
    rw [sadd_of (by simp; omega)]
    simp
    refine sem_ret ?_
    simp [M226]
    exact .le s1 (D.le_refl _) (by simp)
structure Re where
  err : Int
  n : Int
  rows : List Row
def Re.c (r : Re) : List D := [.lit (.int .i64 r.err), .lit (.int .i64 r.n), rowsD r.rows]
def rowsN (l : List Row) : List Nat := (l.map fun r => 32 :: rowN r).flatten
def resN (r : Re) : List Nat := if r.err ≠ 0 then [101,114,114,111,114,32] ++ itoaN r.err else [110,32] ++ itoaN r.n ++ rowsN r.rows
structure ShyR (r : Re) : Prop where
  err : wr .i64 r.err = r.err
  n : wr .i64 r.n = r.n
  len : r.rows.length < 1000
  rows : ∀ x, x ∈ r.rows → Shy x
theorem rowsN_append {a b : List Row} : rowsN (a ++ b) = rowsN a ++ rowsN b := by simp [rowsN]
theorem rowsN_one {a : Row} : rowsN [a] = 32 :: rowN a := by simp [rowsN]
theorem rowsN_len : ∀ {l : List Row}, (∀ x, x ∈ l → Shy x) → (rowsN l).length ≤ l.length * 1000010
  | [], _ => by simp [rowsN]
  | r :: l, h => by
    have h1 := rowsN_len (l := l) (fun x hx => h x (List.mem_cons_of_mem _ hx))
    have h2 := (h r List.mem_cons_self).txt
    simp only [rowsN, List.map_cons, List.flatten_cons, List.length_append, List.length_cons, rowN, List.length_nil] at h1 ⊢
    omega
def ResI (H0 : HpD) (r : Re) (k : Nat) (fr : FrD) (H : HpD) : Prop :=
  ∃ (i : Nat), k = r.rows.length - i ∧ i ≤ r.rows.length ∧ fr = [(3, .lit (.str ([110,32] ++ itoaN r.n ++ rowsN (r.rows.take i)))), (18, rowsD r.rows), (19, .lit (.int .i64 (r.rows.length : Int))), (20, .lit (.int .i64 (i : Int)))] ∧ Sub H0 H
theorem digN_len : ∀ {f u : Nat}, (digN f u).length ≤ f + 1
  | 0, u => by simp [digN]
  | f + 1, u => by
    have := digN_len (f := f) (u := Nat.div u 10)
    unfold digN
    cases Nat.blt u 10
    · simp; exact this
    · simp
theorem itoa_short {n : Int} : (itoaN n).length < 100 := by
  cases n with
  | ofNat n => have := digN_len (f := 20) (u := n); simp only [itoaN]; omega
  | negSucc n => have := digN_len (f := 20) (u := n + 1); simp only [itoaN, List.length_cons]; omega
theorem rept_res {g : SG} (L : HRept p ext F g) {r : Re} (hr : ShyR r) : FnD p ext (F 224) [.agg r.c] (.lit (.str (resN r))) := by
  refine fn_of L.h224 (M := M224) rfl ok224 rfl fun H => sem_run 9000 _ ?_
  have hl := hr.len
  simp [Re.c]
  by_cases he : r.err = 0
  · simp [he]
    refine sem_fn (rept_num L hr.n) (by first | exact D.les_refl _ | simp) (sem_run 9000 _ ?_)
    simp
    have h1 := itoa_short (n := r.n)
    rw [sadd_of (by simp; omega)]
    simp
    refine sem_loop (ResI H r) ?_ (k := r.rows.length) ⟨0, by simp, by simp, by simp [rowsN], (by repeat (first | exact Sub.refl | apply Sub.new | refine Sub.put ?_ (by first | omega | (simp only [put_next, new_next]; omega))))⟩
    rintro k fr H' ⟨i, rfl, hi, rfl, sb⟩
    refine sem_run 9000 _ ?_
    simp
    by_cases c : i < r.rows.length
    · have hx : r.rows[i]? = some r.rows[i] := by simp
      simp [c]
      have hs := hr.rows r.rows[i] (by simp)
      refine sem_fn (rept_row L hs) (by first | exact D.les_refl _ | simp) (sem_run 9000 _ ?_)
      simp
      have ht := hs.txt
      have h2 := rowsN_len (l := r.rows.take i) (fun x hx => hr.rows x (List.mem_of_mem_take hx))
      rw [List.length_take] at h2
      rw [sadd_of (by simp [rowN]; omega)]
      simp
      rw [sadd_of (by simp [rowN]; omega)]
      simp
      refine sem_ok ?_
      have hw : wr .i64 ((i : Int) + 1) = ((i + 1 : Nat) : Int) := by rw [wr_of] <;> omega
      refine ⟨_, by omega, i + 1, rfl, by omega, ?_, sb⟩
      rw [hw, List.take_succ_eq_append_getElem c]
      rw [rowsN_append, rowsN_one]; simp
    · simp [c]
      refine sem_exit (sem_run 9000 _ ?_)
      have : i = r.rows.length := by omega
      subst this
      rw [List.take_length]
      simp
      refine sem_ret ?_
      simp [M224]
      rw [show resN r = [110,32] ++ itoaN r.n ++ rowsN r.rows by simp [resN, he]]
      exact .le sb (D.le_refl _) (by simp)
  · simp [he]
    refine sem_fn (rept_num L hr.err) (by first | exact D.les_refl _ | simp) (sem_run 9000 _ ?_)
    simp
    have h1 := itoa_short (n := r.err)
    rw [sadd_of (by simp; omega)]
    simp
    refine sem_ret ?_
    simp [M224]
    rw [show resN r = [101,114,114,111,114,32] ++ itoaN r.err by simp [resN, he]]
    exact .le (by repeat (first | exact Sub.refl | apply Sub.new | refine Sub.put ?_ (by first | omega | (simp only [put_next, new_next]; omega)))) (D.le_refl _) (by simp)
def fldI (c : Int) (s : Nat) (m : Int) : Int := andI (shrI .i64 c s) m
def iV (n : Int) : Vl := ⟨false, 1, n, [], by simp⟩
def rowO (c : Int) (i : Nat) : Row := (List.range (1 + (fldI c (7 + i) 1).toNat)).map fun k => iV (fldI c (10 + 2 * i + k) 3)
def reO (c : Int) : Re := if fldI c 2 7 = 0 then ⟨1 + fldI c 5 3, andI c 3, []⟩ else ⟨0, andI c 3, (List.range (fldI c 5 3).toNat).map (rowO c)⟩
def OutI (H0 : HpD) (c : Int) (m : Nat) (k : Nat) (fr : FrD) (H : HpD) : Prop :=
  ∃ (i : Nat) (s : D), k = m - i ∧ i ≤ m ∧ fr = [(0, .lit (.int .i64 c)), (2, .ptr H0.next 0), (3, .ptr (H0.next + 1) 0), (4, .lit (.int .i64 (i : Int)))] ∧ H.blk H0.next = .cells [.lit (.int .i64 0), .lit (.int .i64 0), .lit .nilslice] false ∧ H.blk (H0.next + 1) = .cells [.lit (.int .i64 0), .lit (.int .i64 (andI c 3)), s] false ∧ H0.next + 2 ≤ H.next ∧ (∃ HB, HB.next = H0.next + 2 ∧ Gr HB H 1 s (rowsE ((List.range i).map (rowO c)))) ∧ Sub H0 H
def InI (H0 H1 : HpD) (c : Int) (i m : Nat) (k : Nat) (fr : FrD) (H : HpD) : Prop :=
  ∃ (j : Nat) (s : D), k = m - j ∧ j ≤ m ∧ fr = [(0, .lit (.int .i64 c)), (2, .ptr H0.next 0), (3, .ptr (H0.next + 1) 0), (4, .lit (.int .i64 (i : Int))), (5, s), (6, .lit (.int .i64 (j : Int)))] ∧ Gr H1 H 4 s (rowE ((List.range j).map fun k => iV (fldI c (10 + 2 * i + k) 3)))
theorem rept_mk {g : SG} (L : HRept p ext F g) {c : Int} : FnD p ext (F 223) [.lit (.int .i64 c)] (.agg (reO c).c) := by
  refine fn_of L.h223 (M := M223) rfl ok223 rfl fun H => sem_run 9000 _ ?_
  obtain ⟨m, hm, hm3⟩ := andI_small (a := shrI .i64 c 5) (m := 3) (by simp)
  have hm' : andI (shrI .i64 c 5) 3 = m := hm
  by_cases h0 : fldI c 2 7 = 0
  · have h0' : andI (shrI .i64 c 2) 7 = 0 := h0
    have hw : wr .i64 (1 + (m : Int)) = 1 + (m : Int) := by rw [wr_of] <;> omega
    simp [h0', hm', hw]
    refine sem_ret ?_
    simp [M223]
    rw [show reO c = ⟨1 + (m : Int), andI c 3, []⟩ by unfold reO; rw [if_pos h0]; simp [fldI, hm']]
    refine .le (by repeat (first | exact Sub.refl | apply Sub.new | refine Sub.put ?_ (by first | omega | (simp only [put_next, new_next]; omega)))) ?_ ?_
    · simp [Re.c, rowsD, rowsE, D.le, D.les]
    · simp [Re.c]
  · have h0' : ¬ andI (shrI .i64 c 2) 7 = 0 := h0
    simp [h0']
    refine sem_loop (OutI H c m) ?_ (k := m) ⟨0, .lit .nilslice, by simp, by simp, rfl, by simp, by simp, by simp, ?_, (by repeat (first | exact Sub.refl | apply Sub.new | refine Sub.put ?_ (by first | omega | (simp only [put_next, new_next]; omega))))⟩
    · rintro k fr H1 ⟨i, s, rfl, hi, rfl, b2, b3, hn, ⟨HB, hB, gr⟩, sb⟩
      by_cases ci : i < m
      · refine sem_run 9000 _ ?_
        simp [hm', ci]
        obtain ⟨q, hq, hq1⟩ := andI_small (a := shrI .i64 c (7 + i)) (m := 1) (by simp)
        have hq' : andI (shrI .i64 c (7 + i)) 1 = q := hq
        refine sem_loop (InI H H1 c i (1 + q)) ?_ (k := 1 + q) ⟨0, .lit .nilslice, by simp, by simp, rfl, by simpa [rowE] using Gr.start⟩
        rintro k fr H2 ⟨j, t, rfl, hj, rfl, gj⟩
        have w1 : wr .i64 (7 + (i : Int)) = 7 + (i : Int) := by rw [wr_of] <;> omega
        have w2 : wr .u64 (7 + (i : Int)) = 7 + (i : Int) := wr_u64 (by omega) (by omega)
        have p1 : (0 : Int) ≤ 7 + (i : Int) := by omega
        have t1 : (7 + (i : Int)).toNat = 7 + i := by omega
        have w3 : wr .i64 (1 + (q : Int)) = 1 + (q : Int) := by rw [wr_of] <;> omega
        by_cases cj : j < 1 + q
        · have w4 : wr .i64 (2 * (i : Int)) = 2 * (i : Int) := by rw [wr_of] <;> omega
          have w5 : wr .i64 (10 + 2 * (i : Int)) = 10 + 2 * (i : Int) := by rw [wr_of] <;> omega
          have w6 : wr .i64 (10 + 2 * (i : Int) + (j : Int)) = 10 + 2 * (i : Int) + (j : Int) := by rw [wr_of] <;> omega
          have w7 : wr .u64 (10 + 2 * (i : Int) + (j : Int)) = 10 + 2 * (i : Int) + (j : Int) := wr_u64 (by omega) (by omega)
          have p2 : (0 : Int) ≤ 10 + 2 * (i : Int) + (j : Int) := by omega
          have t2 : (10 + 2 * (i : Int) + (j : Int)).toNat = 10 + 2 * i + j := by omega
          have cj' : (j : Int) < 1 + (q : Int) := by omega
          refine sem_run 9000 _ ?_
          simp [w1, w2, hq', w3, bin_shr_nn p1, t1, cj', w4, w5, w6, w7, bin_shr_nn p2, t2]
          refine sem_push_le (iV (fldI c (10 + 2 * i + j) 3)).c gj ?_ rfl rfl (roomyD (by simp [rowE]; omega) (by simp [rowE]; omega)) fun s' H3 g3 _ _ => ?_
          · simp [Vl.c, iV, D.les, D.le, fldI, byD, byE]
          simp
          refine sem_ok ?_
          have hw : wr .i64 ((j : Int) + 1) = ((j + 1 : Nat) : Int) := by rw [wr_of] <;> omega
          refine ⟨_, by omega, j + 1, s', rfl, by omega, by rw [hw], ?_⟩
          rw [List.range_succ, List.map_append]
          simpa [rowE] using g3
        · refine sem_turn gj 5 (by simp) fun H3 s3 k3 n3 => ?_
          have cj' : ¬ (j : Int) < 1 + (q : Int) := by omega
          refine sem_run 9000 _ ?_
          simp [w1, w2, hq', w3, bin_shr_nn p1, t1, cj']
          have hjq : j = 1 + q := by omega
          have far : ¬ D.hasB (H.next + 1) s := fun h => by have := gr.far h; omega
          have c2 : H3.blk H.next = .cells [.lit (.int .i64 0), .lit (.int .i64 0), .lit .nilslice] false := (s3.blk _ (by omega)).trans b2
          have c3 : H3.blk (H.next + 1) = .cells [.lit (.int .i64 0), .lit (.int .i64 (andI c 3)), s] false := (s3.blk _ (by omega)).trans b3
          have hn3 := s3.next
          refine sem_exit (sem_run 9000 _ ?_)
          simp [c3]
          refine sem_push (gr.mono s3) rfl rfl (roomyD (by simp [rowsE]; omega) (by simp [rowsE]; omega)) fun s' H4 g4 k4 n4 => ?_
          obtain ⟨n4', e4⟩ := n4
          have c4 : H4.blk (H.next + 1) = .cells [.lit (.int .i64 0), .lit (.int .i64 (andI c 3)), s] false := (k4 _ (by omega) far).trans c3
          subst e4
          simp [c4]
          refine sem_ok ?_
          have hw : wr .i64 ((i : Int) + 1) = ((i + 1 : Nat) : Int) := by rw [wr_of] <;> omega
          have er : rowsE ((List.range i).map (rowO c)) ++ [[.row 4 .p (rowE ((List.range j).map fun k => iV (fldI c (10 + 2 * i + k) 3)))]] = rowsE ((List.range (i + 1)).map (rowO c)) := by
            have : (List.range j).map (fun k => iV (fldI c (10 + 2 * i + k) 3)) = rowO c i := by
              unfold rowO fldI; rw [hq', hjq]; rfl
            rw [this, List.range_succ, List.map_append]; simp [rowsE, rowD]
          rw [er] at g4
          have el : (rowsE ((List.range i).map (rowO c))).length + 1 = i + 1 := by simp [rowsE]
          rw [el] at g4
          have g5 := g4.rest (H3 := H4.put (H.next + 1) (.cells [.lit (.int .i64 0), .lit (.int .i64 (andI c 3)), .slice H3.next 0 1 (i + 1) (i + 1) false] false)) (by simp) (fun x hx => by have := g4.far hx; rw [put_blk, if_neg (by omega)])
          refine ⟨_, by omega, i + 1, _, rfl, by omega, by rw [hw], ?_, ?_, ?_, ⟨_, ?_, g5⟩, ?_⟩
          · rw [put_blk, if_neg (by omega), k4 _ (by omega) (fun h => by have := gr.far h; omega)]; exact c2
          · simp
          · simp; omega
          · exact hB
          · refine ⟨by simp; have := sb.next; omega, fun b hb => ?_⟩
            have := sb.next
            rw [put_blk, if_neg (by omega), k4 _ (by omega) (fun h => by have := gr.far h; omega), s3.blk _ (by omega)]
            exact sb.blk _ hb
      · have far : ¬ D.hasB (H.next + 1) s := fun h => by have := gr.far h; omega
        obtain ⟨H5, w5, c5, k5, n5, sub5⟩ := gr.incell b3 (j := 2) (by simp) far
        refine sem_weak (w5 _ _) ?_
        refine sem_run 9000 _ ?_
        simp [hm', ci]
        have him : i = m := by omega
        subst him
        refine sem_exit (sem_run 9000 _ ?_)
        have b5 : H5.blk H.next = .cells [.lit (.int .i64 0), .lit (.int .i64 0), .lit .nilslice] false := (k5 _ (by omega) (fun h => by have := gr.far h; omega)).trans b2
        simp at c5
        simp [c5, b5]
        refine sem_ret ?_
        simp [M223]
        have hsn := sb.next
        rw [show reO c = ⟨0, andI c 3, (List.range i).map (rowO c)⟩ by unfold reO; rw [if_neg h0]; simp [fldI, hm']]
        refine .le ((sub5 H sb (by omega) (by omega)).put (Nat.le_refl _)) (D.le_refl _) ?_
        simp [Re.c, rows_under]
    · exact ⟨⟨H.next + 2, _⟩, by simp, ⟨⟨by simp, fun b _ => rfl⟩, by simp [rowsE], .inl ⟨rfl, by simp [rowsE]⟩⟩⟩
end Go.Lib
end

section
set_option maxRecDepth 10000
namespace Go.Lib
open Go.Vm Go.Dv Go.Srt
variable {p : Prog} {ext : Ext} {F : Nat → Nat}
attribute [-simp] bin_and bin_xor
theorem fld_small {c : Int} {s : Nat} : ∃ q : Nat, fldI c s 3 = q ∧ q ≤ 3 := by
  obtain ⟨q, hq, h⟩ := andI_small (a := shrI .i64 c s) (m := 3) (by simp)
  exact ⟨q, hq, h⟩
theorem low_small {c : Int} : ∃ q : Nat, andI c 3 = q ∧ q ≤ 3 := by
  obtain ⟨q, hq, h⟩ := andI_small (a := c) (m := 3) (by simp)
  exact ⟨q, hq, h⟩
def LowR (r : Row) : Prop := ∃ a b : Nat, a ≤ 3 ∧ b ≤ 3 ∧ (r = [iV a] ∨ r = [iV a, iV b])
theorem rowO_low {c : Int} {i : Nat} : LowR (rowO c i) := by
  obtain ⟨q, hq, h⟩ := andI_small (a := shrI .i64 c (7 + i)) (m := 1) (by simp)
  have hq' : fldI c (7 + i) 1 = q := hq
  obtain ⟨a, ha, ha3⟩ := fld_small (c := c) (s := 10 + 2 * i + 0)
  obtain ⟨b, hb, hb3⟩ := fld_small (c := c) (s := 10 + 2 * i + 1)
  refine ⟨a, b, ha3, hb3, ?_⟩
  unfold rowO
  rw [hq']
  rcases (by omega : q = 0 ∨ q = 1) with rfl | rfl
  · left; show [iV (fldI c (10 + 2 * i + 0) 3)] = _; rw [ha]
  · right; show [iV (fldI c (10 + 2 * i + 0) 3), iV (fldI c (10 + 2 * i + 1) 3)] = _; rw [ha, hb]
theorem itoa_low : ∀ a : Nat, a ≤ 4 → itoaN (a : Int) = [48 + a] := by
  intro a h
  rcases (by omega : a = 0 ∨ a = 1 ∨ a = 2 ∨ a = 3 ∨ a = 4) with rfl | rfl | rfl | rfl | rfl <;> rfl
theorem val_low {a : Nat} (h : a ≤ 3) : valN (iV (a : Int)) = [48 + a] := by
  rw [show valN (iV (a : Int)) = itoaN (a : Int) from rfl, itoa_low a (by omega)]
theorem row_low1 {a : Nat} (h : a ≤ 3) : rowN [iV (a : Int)] = [91, 48 + a, 93] := by
  simp [rowN, val_low h, joinN, joinT]
theorem row_low2 {a b : Nat} (h : a ≤ 3) (hb : b ≤ 3) : rowN [iV (a : Int), iV (b : Int)] = [91, 48 + a, 44, 48 + b, 93] := by
  simp [rowN, val_low h, val_low hb, joinN, joinT]
theorem low_shy {r : Row} (h : LowR r) : Shy r := by
  obtain ⟨a, b, ha, hb, rfl | rfl⟩ := h
  · refine ⟨by simp, fun v hv => ?_, by simp [val_low ha, joinN, joinT]⟩
    simp at hv; subst hv; (show wr .i64 (a : Int) = a; rw [wr_of] <;> omega)
  · refine ⟨by simp, fun v hv => ?_, by simp [val_low ha, val_low hb, joinN, joinT]⟩
    simp at hv
    rcases hv with rfl | rfl
    · show wr .i64 (a : Int) = a; rw [wr_of] <;> omega
    · show wr .i64 (b : Int) = b; rw [wr_of] <;> omega
theorem rows_low : ∀ {R R' : List Row}, (∀ x, x ∈ R → LowR x) → (∀ x, x ∈ R' → LowR x) → rowsN R = rowsN R' → R = R'
  | [], [], _, _, _ => rfl
  | [], r :: R', _, _, h => by simp [rowsN] at h
  | r :: R, [], _, _, h => by simp [rowsN] at h
  | r :: R, r' :: R', h1, h2, h => by
    have ih := rows_low (R := R) (R' := R') (fun x hx => h1 x (List.mem_cons_of_mem _ hx)) (fun x hx => h2 x (List.mem_cons_of_mem _ hx))
    have e1 : rowsN (r :: R) = 32 :: rowN r ++ rowsN R := by simp [rowsN]
    have e2 : rowsN (r' :: R') = 32 :: rowN r' ++ rowsN R' := by simp [rowsN]
    rw [e1, e2] at h
    obtain ⟨a, b, ha, hb, rfl | rfl⟩ := h1 r List.mem_cons_self <;> obtain ⟨a', b', ha', hb', rfl | rfl⟩ := h2 r' List.mem_cons_self
    · rw [row_low1 ha, row_low1 ha'] at h
      simp at h
      obtain ⟨rfl, h⟩ := h
      rw [ih h]
    · rw [row_low1 ha, row_low2 ha' hb'] at h
      simp at h
    · rw [row_low2 ha hb, row_low1 ha'] at h
      simp at h
    · rw [row_low2 ha hb, row_low2 ha' hb'] at h
      simp at h
      obtain ⟨rfl, rfl, h⟩ := h
      rw [ih h]
theorem reO_shy {c : Int} : ShyR (reO c) ∧ Fine (reO c).rows := by
  obtain ⟨m, hm, hm3⟩ := fld_small (c := c) (s := 5)
  obtain ⟨n, hn, hn3⟩ := low_small (c := c)
  unfold reO
  split
  · refine ⟨⟨?_, ?_, by simp, by simp⟩, by simp [Fine]⟩
    · show wr .i64 (1 + fldI c 5 3) = 1 + fldI c 5 3; rw [hm, wr_of] <;> omega
    · show wr .i64 (andI c 3) = andI c 3; rw [hn, wr_of] <;> omega
  · have hl : ∀ x, x ∈ (List.range (fldI c 5 3).toNat).map (rowO c) → LowR x := fun x hx => by
      obtain ⟨i, _, rfl⟩ := List.mem_map.1 hx; exact rowO_low
    refine ⟨⟨rfl, ?_, ?_, fun x hx => low_shy (hl x hx)⟩, ?_, fun x hx => ?_⟩
    · show wr .i64 (andI c 3) = andI c 3; rw [hn, wr_of] <;> omega
    · simp [hm]; omega
    · simp [hm]; omega
    · have := (low_shy (hl x hx)).len; omega
def alikeR (x y : Re) : Prop := x.err = y.err ∧ (x.err ≠ 0 ∨ (x.n = y.n ∧ x.rows = y.rows))
instance {x y : Re} : Decidable (alikeR x y) := by unfold alikeR; infer_instance
theorem res_apart {a b : Int} : resN (reO a) = resN (reO b) ↔ alikeR (reO a) (reO b) := by
  obtain ⟨m, hm, hm3⟩ := fld_small (c := a) (s := 5)
  obtain ⟨n, hn, hn3⟩ := low_small (c := a)
  obtain ⟨m', hm', hm3'⟩ := fld_small (c := b) (s := 5)
  obtain ⟨n', hn', hn3'⟩ := low_small (c := b)
  have hl : ∀ c : Int, ∀ x, x ∈ (List.range (fldI c 5 3).toNat).map (rowO c) → LowR x := fun c x hx => by
    obtain ⟨i, _, rfl⟩ := List.mem_map.1 hx; exact rowO_low
  have e1 : ∀ m : Nat, (1 : Int) + m = ((1 + m : Nat) : Int) := by omega
  have z1 : ∀ m : Nat, ¬ (((1 + m : Nat) : Int) = 0) := by omega
  by_cases h1 : fldI a 2 7 = 0 <;> by_cases h2 : fldI b 2 7 = 0
  · rw [show reO a = ⟨((1 + m : Nat) : Int), n, []⟩ by unfold reO; rw [if_pos h1, hm, hn, e1], show reO b = ⟨((1 + m' : Nat) : Int), n', []⟩ by unfold reO; rw [if_pos h2, hm', hn', e1]]
    unfold resN alikeR
    simp only [ne_eq, z1, not_false_eq_true, if_true, true_or, and_true]
    rw [itoa_low _ (by omega), itoa_low _ (by omega)]
    simp; omega
  · rw [show reO a = ⟨((1 + m : Nat) : Int), n, []⟩ by unfold reO; rw [if_pos h1, hm, hn, e1], show reO b = ⟨0, n', _⟩ by unfold reO; rw [if_neg h2, hn']]
    unfold resN alikeR
    simp only [ne_eq, z1, not_false_eq_true, if_true, true_or, and_true]
    simp
  · rw [show reO b = ⟨((1 + m' : Nat) : Int), n', []⟩ by unfold reO; rw [if_pos h2, hm', hn', e1], show reO a = ⟨0, n, _⟩ by unfold reO; rw [if_neg h1, hn]]
    have z2 : ∀ m : Nat, ¬ (0 = ((1 + m : Nat) : Int)) := by omega
    unfold resN alikeR
    simp only [ne_eq, z1, z2, not_false_eq_true, if_true, not_true_eq_false, if_false, false_and, iff_false]
    simp
  · rw [show reO b = ⟨0, n', _⟩ by unfold reO; rw [if_neg h2, hn'], show reO a = ⟨0, n, _⟩ by unfold reO; rw [if_neg h1, hn]]
    unfold resN alikeR
    simp only [ne_eq, not_true_eq_false, if_false, false_or, true_and]
    rw [itoa_low _ (by omega), itoa_low _ (by omega)]
    constructor
    · intro h
      simp at h
      obtain ⟨rfl, h⟩ := h
      exact ⟨rfl, rows_low (hl a) (hl b) (by simpa using h)⟩
    · rintro ⟨h, h3⟩
      rw [h3, show n = n' by omega]
theorem reptApart {g : SG} (L : HRept p ext F g) {a b : Int} {same : Bool} : FnD p ext (F 222) [.lit (.int .i64 a), .lit (.int .i64 b), .lit (.bool same)] (.lit (.bool true)) := by
  refine fn_of L.h222 (M := M222) rfl ok222 rfl fun H => sem_run 9000 _ ?_
  generalize ha : andI a 16777215 = a'
  generalize hb : andI b 16777215 = b'
  have hx := (reO_shy (c := a')).1
  have fx := (reO_shy (c := a')).2
  have hy := (reO_shy (c := b')).1
  cases same
  · simp [ha, hb]
    refine sem_fn (rept_mk L) (by first | exact D.les_refl _ | simp) (sem_run 9000 _ ?_)
    simp
    refine sem_fn (rept_mk L) (by first | exact D.les_refl _ | simp) (sem_run 6 _ ?_)
    have hres := res_apart (a := a') (b := b')
    generalize reO a' = x at *
    generalize reO b' = y at *
    unfold alikeR at hres
    obtain ⟨e, n, R⟩ := x
    obtain ⟨e', n', R'⟩ := y
    simp [Re.c]
    refine sem_box (ro := false) (b := H.next) (cs := (Re.c ⟨e, n, R⟩)) 8 (by simp [Re.c]) (by simp) ?_
    refine sem_box (ro := false) (b := H.next + 1) (cs := (Re.c ⟨e', n', R'⟩)) 9 (by simp [Re.c]) (by simp) ?_
    refine sem_run 9000 _ ?_
    simp [Re.c]
    by_cases h1 : e = e'
    · subst h1
      by_cases h2 : e = 0
      · subst h2
        by_cases h3 : n = n'
        · subst h3
          simp
          refine sem_fn (ref6_same L.ref6 fx) (by first | exact D.les_refl _ | simp) (sem_run 9000 _ ?_)
          simp
          refine sem_dfn (rept_res L (r := ⟨0, n, R⟩) hx) (by first | exact D.les_refl _ | simp [Re.c]) (sem_run 9000 _ ?_)
          simp
          refine sem_dfn (rept_res L (r := ⟨0, n, R'⟩) hy) (by first | exact D.les_refl _ | simp [Re.c]) (sem_run 9000 _ ?_)
          simp [neqs_dec, hres]
          refine sem_dfn L.awake (by first | exact D.les_refl _ | simp) (sem_run 9000 _ ?_)
          simp
          refine sem_ret ?_
          simp [M222]
          exact .le (by repeat (first | exact Sub.refl | apply Sub.new | refine Sub.put ?_ (by first | omega | (simp only [put_next, new_next]; omega)))) (D.le_refl _) (by simp)
        · simp [h3]
          refine sem_dfn (rept_res L (r := ⟨0, n, R⟩) hx) (by first | exact D.les_refl _ | simp [Re.c]) (sem_run 9000 _ ?_)
          simp
          refine sem_dfn (rept_res L (r := ⟨0, n', R'⟩) hy) (by first | exact D.les_refl _ | simp [Re.c]) (sem_run 9000 _ ?_)
          simp [neqs_dec, hres, h3]
          refine sem_dfn L.awake (by first | exact D.les_refl _ | simp) (sem_run 9000 _ ?_)
          simp
          refine sem_ret ?_
          simp [M222]
          exact .le (by repeat (first | exact Sub.refl | apply Sub.new | refine Sub.put ?_ (by first | omega | (simp only [put_next, new_next]; omega)))) (D.le_refl _) (by simp)
      · simp [h2]
        refine sem_dfn (rept_res L (r := ⟨e, n, R⟩) hx) (by first | exact D.les_refl _ | simp [Re.c]) (sem_run 9000 _ ?_)
        simp
        refine sem_dfn (rept_res L (r := ⟨e, n', R'⟩) hy) (by first | exact D.les_refl _ | simp [Re.c]) (sem_run 9000 _ ?_)
        simp [neqs_dec, hres, h2]
        refine sem_dfn L.awake (by first | exact D.les_refl _ | simp) (sem_run 9000 _ ?_)
        simp
        refine sem_ret ?_
        simp [M222]
        exact .le (by repeat (first | exact Sub.refl | apply Sub.new | refine Sub.put ?_ (by first | omega | (simp only [put_next, new_next]; omega)))) (D.le_refl _) (by simp)
    · simp [h1]
      refine sem_dfn (rept_res L (r := ⟨e, n, R⟩) hx) (by first | exact D.les_refl _ | simp [Re.c]) (sem_run 9000 _ ?_)
      simp
      refine sem_dfn (rept_res L (r := ⟨e', n', R'⟩) hy) (by first | exact D.les_refl _ | simp [Re.c]) (sem_run 9000 _ ?_)
      simp [neqs_dec, hres, h1]
      refine sem_dfn L.awake (by first | exact D.les_refl _ | simp) (sem_run 9000 _ ?_)
      simp
      refine sem_ret ?_
      simp [M222]
      exact .le (by repeat (first | exact Sub.refl | apply Sub.new | refine Sub.put ?_ (by first | omega | (simp only [put_next, new_next]; omega)))) (D.le_refl _) (by simp)
  · simp [ha]
    refine sem_fn (rept_mk L) (by first | exact D.les_refl _ | simp) (sem_run 9000 _ ?_)
    simp
    refine sem_fn (rept_mk L) (by first | exact D.les_refl _ | simp) (sem_run 6 _ ?_)
    replace hy := hx
    generalize reO a' = x at *
    obtain ⟨e, n, R⟩ := x
    simp [Re.c]
    refine sem_box (ro := false) (b := H.next) (cs := (Re.c ⟨e, n, R⟩)) 8 (by simp [Re.c]) (by simp) ?_
    refine sem_box (ro := false) (b := H.next + 1) (cs := (Re.c ⟨e, n, R⟩)) 9 (by simp [Re.c]) (by simp) ?_
    refine sem_run 9000 _ ?_
    simp [Re.c]
    have hres : True := trivial
    by_cases h2 : e = 0
    · subst h2
      simp
      refine sem_fn (ref6_same L.ref6 fx) (by first | exact D.les_refl _ | simp) (sem_run 9000 _ ?_)
      simp
      refine sem_dfn (rept_res L (r := ⟨0, n, R⟩) hx) (by first | exact D.les_refl _ | simp [Re.c]) (sem_run 9000 _ ?_)
      simp
      refine sem_dfn (rept_res L (r := ⟨0, n, R⟩) hy) (by first | exact D.les_refl _ | simp [Re.c]) (sem_run 9000 _ ?_)
      simp [neqs_dec]
      refine sem_dfn L.awake (by first | exact D.les_refl _ | simp) (sem_run 9000 _ ?_)
      simp
      refine sem_ret ?_
      simp [M222]
      exact .le (by repeat (first | exact Sub.refl | apply Sub.new | refine Sub.put ?_ (by first | omega | (simp only [put_next, new_next]; omega)))) (D.le_refl _) (by simp)
    · simp [h2]
      refine sem_dfn (rept_res L (r := ⟨e, n, R⟩) hx) (by first | exact D.les_refl _ | simp [Re.c]) (sem_run 9000 _ ?_)
      simp
      refine sem_dfn (rept_res L (r := ⟨e, n, R⟩) hy) (by first | exact D.les_refl _ | simp [Re.c]) (sem_run 9000 _ ?_)
      simp [neqs_dec]
      refine sem_dfn L.awake (by first | exact D.les_refl _ | simp) (sem_run 9000 _ ?_)
      simp
      refine sem_ret ?_
      simp [M222]
      exact .le (by repeat (first | exact Sub.refl | apply Sub.new | refine Sub.put ?_ (by first | omega | (simp only [put_next, new_next]; omega)))) (D.le_refl _) (by simp)
end Go.Lib
end

section
namespace Go.Vm
open Go.RowKit
variable {P : Program}
def constP (pow : Nat) (l : List Nat) : Ext := fun f args h => cond (hasF f l) (cond (powCells (h.blk pow)) (match args with
  | [] => some (.bool true, h)
  | _ => none) none) none
theorem constP_rises (pow : Nat) (l : List Nat) : Rises (constP pow l) := by
  intro f args h v h' e
  unfold constP at e
  rw [cond_eq_ite] at e; split at e
  case isFalse => cases e
  rw [cond_eq_ite] at e; split at e
  case isFalse => cases e
  split at e
  · cases e; exact Nat.le_refl _
  · cases e
theorem laid_below (hm : P.follows .mixedOrders = true) {p : Prog} (hp : Valid P p) {ext : Ext} (hrx : Rises ext) (hx : CallOk P p.env ext) (htab : p.env.tab = []) (hints : IntsOk P p.env.ints)
    {t : List (Nat × Blk)} {pls : List Place} {f n : Nat} (hen : entered P f = true) (hv : runsL p ext n f [] (laidH P.globals.size pls.length t) = true) {w : World} (hl : LaidW P (laidE P t pls fun _ => .int .i64 0) w t) :
    Calls P f #[] w fun e w' => e = .returned (.bool true) ∧ Below w.heap.size w w' := by
  unfold runsL at hv
  split at hv
  case h_2 => cases hv
  rename_i h' hc
  have hok : EnvOk P (laidE P t pls fun _ => .int .i64 0) p.env := ⟨fun _ => ⟨_, _, rfl⟩, laid_gl, (by rw [htab]; exact fun _ _ _ _ _ _ h => (by cases h)), hints⟩
  have hfr : Fresh (laidE P t pls fun _ => .int .i64 0) (laidH P.globals.size pls.length t).next h'.next := fun b h1 _ => laid_fr b h1
  have := call_ok hm hp hrx hx n (laidE P t pls fun _ => .int .i64 0) f [] _ (.bool true) h' w [] hc hok (laid_hr hl) hfr .nil
  rcases this with ⟨_, h2⟩ | ⟨u, ψ, w', h1, _⟩
  · refine h2.mono ?_
    rintro e w' ⟨u, ψ, rfl, r1, r2⟩
    cases r1
    exact ⟨rfl, r2.os, r2.tape, r2.output, r2.size, fun k hk => r2.kept k hk fun b pl hb => by rw [laid_ro hl] at hb; cases hb⟩
  · rw [callFunc_entered hen] at h1
    cases h1
theorem constP_ok (hm : P.follows .mixedOrders = true) {p : Prog} (hp : Valid P p) {ext : Ext} (hrx : Rises ext) (hx : CallOk P p.env ext) (htab : p.env.tab = []) (hints : IntsOk P p.env.ints) {n pow : Nat} (hpow : pow < P.globals.size) {l : List Nat} {env : Env}
    (hl : ∀ f, f ∈ l → entered P f = true ∧ runsL p ext n f [] (laidH P.globals.size 0 [(pow, .whole (powL 20 1))]) = true) : CallOk P env (constP pow l) := by
  intro φ f args h v h' w us hv ok hr hfr hargs
  unfold constP at hv
  rw [cond_eq_ite] at hv; split at hv
  case isFalse => cases hv
  rename_i hf
  rw [cond_eq_ite] at hv; split at hv
  case isFalse => cases hv
  rename_i hpc
  obtain ⟨h1, h2⟩ := hl f (hasF_mem hf)
  split at hv
  case h_2 => cases hv
  cases hv
  cases hargs
  obtain ⟨e, fz, hh⟩ := powCells_ok hr ok.gl hpow hpc
  refine .inl ⟨h1, (laid_below hm hp hrx hx htab hints (t := [(pow, .whole (powL 20 1))]) (pls := []) h1 h2 (w := w) ?_).mono ?_⟩
  · intro g x hx
    simp only [tblAt, nbeq_d] at hx
    by_cases h1 : pow = g
    · subst h1
      simp at hx
      subst hx
      exact ⟨hpow, rfl, _, e, fz, hh, by simpa using powL_vr⟩
    · rw [show decide (pow = g) = false from decide_eq_false h1] at hx
      simp at hx
  · rintro e w' ⟨rfl, hb⟩
    exact ⟨_, φ, rfl, .bool true, .below hr hb⟩
end Go.Vm
end

section
namespace Go.Proofs.YtcoghkkhjaokmaaDoor.sa
def F0 (i : Nat) : Nat := ([0, 0, 0, 0, 0, 0, 78, 0, 0, 0, 0, 0, 0, 0, 0, 95, 0, 0, 0, 0, 0, 0, 0, 10, 0, 20, 0, 0, 0, 0, 0, 0, 0, 0, 0, 0, 0, 0, 0, 0, 0, 0, 0, 0, 0, 0, 0, 0, 7, 16, 23, 0, 0, 0, 0, 0, 0, 0, 0, 0, 0, 0, 0, 0, 0, 0, 0, 0, 0, 0, 0, 0, 0, 0, 0, 0, 0, 0, 0, 0, 0, 0, 0, 0, 0, 0, 0, 0, 0, 0, 0, 0, 0, 0, 0, 0, 0, 0, 0, 11, 0, 0, 0, 0, 0, 0, 0, 0, 0, 0, 0, 0, 0, 0, 0, 0, 0, 0, 0, 0, 0, 0, 0, 0, 0, 0, 0, 0, 0, 0, 0, 0, 0, 0, 0, 0, 0, 0, 0, 0, 0, 0, 0, 0, 0, 0, 0, 0, 0, 0, 0, 0, 0, 0, 0, 0, 0, 0, 0, 0, 0, 0, 0, 0, 0, 0, 0, 0, 0, 0, 0, 0, 0, 0, 0, 0, 0, 0, 0, 0, 0, 0, 0, 0, 0, 0, 0, 0, 0, 0, 0, 0, 0, 0, 0, 0, 0, 0, 0, 0, 36, 94, 53, 39, 32, 0, 47, 28, 27, 35, 33, 0, 12, 25, 21, 22, 29, 30, 45, 58, 34, 59, 3, 6, 8, 17, 18, 9, 4, 13, 14] : List Nat).getD i 0
end Go.Proofs.YtcoghkkhjaokmaaDoor.sa
end

section
set_option maxRecDepth 100000
namespace Go.Proofs.YtcoghkkhjaokmaaDoor
open Go.Vm
def m3 : Fun := Go.Lib.M222 Go.Proofs.YtcoghkkhjaokmaaDoor.sa.F0
theorem v3 : IsFun Tryd.prog 3 m3 := ⟨_, Tryd.func3, by kernel_rfl, by kernel_rfl⟩
def m6 : Fun := Go.Lib.M223 Go.Proofs.YtcoghkkhjaokmaaDoor.sa.F0
theorem v6 : IsFun Tryd.prog 6 m6 := ⟨_, Tryd.func6, by kernel_rfl, by kernel_rfl⟩
def m7 : Fun := Go.Lib.M48 Go.Proofs.YtcoghkkhjaokmaaDoor.sa.F0
theorem v7 : IsFun Tryd.prog 7 m7 := ⟨_, Tryd.func7, by kernel_rfl, by kernel_rfl⟩
def m8 : Fun := Go.Lib.M224 Go.Proofs.YtcoghkkhjaokmaaDoor.sa.F0
theorem v8 : IsFun Tryd.prog 8 m8 := ⟨_, Tryd.func8, by kernel_rfl, by kernel_rfl⟩
def m9 : Fun := ⟨32,0,.seq (.region [⟨(some 0),(.p (.mov (.val (.bool false)))),none⟩])
 (.seq (.region [⟨(some 2),(.p (.build [.bool false,.int .i64 (.ofNat 0),.int .i64 (.ofNat 0),.nilslice] [(1,1,(.val (.int .i64 (.ofNat 1)))),(2,1,(.val (.int .i64 (.ofNat 5))))])),none⟩,⟨(some 1),(.a (.new [.bool false,.int .i64 (.ofNat 0),.int .i64 (.ofNat 0),.nilslice])),none⟩,⟨none,(.e (.store 4 (.tmp 1) (.tmp 2))),none⟩])
 (.seq (.region [⟨(some 3),(.loadn 4 (.tmp 1)),none⟩,⟨(some 4),(.p (.build [.bool false,.int .i64 (.ofNat 0),.int .i64 (.ofNat 0),.nilslice] [(0,1,(.val (.bool true)))])),none⟩,⟨(some 5),(.a (.bslice [.bool false,.int .i64 (.ofNat 0),.int .i64 (.ofNat 0),.nilslice,.bool false,.int .i64 (.ofNat 0),.int .i64 (.ofNat 0),.nilslice] 4 2 [(0,4,(.tmp 3)),(4,4,(.tmp 4))])),none⟩,⟨(some 6),(.loadn 4 (.tmp 1)),none⟩,⟨(some 7),(.a (.bslice [.bool false,.int .i64 (.ofNat 0),.int .i64 (.ofNat 0),.nilslice] 4 1 [(0,4,(.tmp 6))])),none⟩,⟨(some 8),(.a (.bslice [.nilslice,.nilslice] 1 2 [(0,1,(.tmp 5)),(1,1,(.tmp 7))])),none⟩,⟨(some 9),(.p (.build [.int .i64 (.ofNat 0),.int .i64 (.ofNat 0),.nilslice] [(1,1,(.val (.int .i64 (.ofNat 2)))),(2,1,(.tmp 8))])),none⟩,⟨(some 10),(.e (.call 8 [(.tmp 9)])),none⟩,⟨(some 11),(.p (.bin .eql (.tmp 10) (.val (.str [110,32,50,32,91,53,44,110,117,108,108,93,32,91,53,93])))),none⟩,⟨(some 12),(.p (.mov (.tmp 11))),none⟩,⟨(some 13),(.p (.build [.int .i64 (.ofNat 0),.int .i64 (.ofNat 0),.nilslice] [(0,1,(.val (.int .i64 (.ofNat 1)))),(1,1,(.val (.int .i64 (.ofNat 3))))])),(some (12,true))⟩,⟨(some 14),(.e (.call 8 [(.tmp 13)])),(some (12,true))⟩,⟨(some 15),(.p (.bin .eql (.tmp 14) (.val (.str [101,114,114,111,114,32,49])))),(some (12,true))⟩,⟨(some 16),(.p (.pick (.tmp 12) (.tmp 15) (.val (.bool false)))),none⟩,⟨(some 17),(.p (.mov (.tmp 16))),none⟩,⟨(some 18),(.p (.build [.int .i64 (.ofNat 0),.int .i64 (.ofNat 0),.int .i64 (.ofNat 0),.int .i64 (.ofNat 0),.int .i64 (.ofNat 0),.nilslice,.int .i64 (.ofNat 0),.int .i64 (.ofNat 0)] [(0,1,(.val (.int .i64 (.ofNat 2)))),(1,1,(.val (.int .i64 (.ofNat 1)))),(2,1,(.val (.int .i64 (.ofNat 2))))])),(some (17,true))⟩,⟨(some 19),(.e (.call 19 [(.tmp 18)])),(some (17,true))⟩,⟨(some 20),(.p (.bin .eql (.tmp 19) (.val (.str [49,32,111,112,32,50,32,110,32,48])))),(some (17,true))⟩,⟨(some 21),(.p (.pick (.tmp 17) (.tmp 20) (.val (.bool false)))),none⟩,⟨(some 22),(.p (.mov (.tmp 21))),none⟩,⟨(some 23),(.p (.build [.int .i64 (.ofNat 0),.int .i64 (.ofNat 0),.int .i64 (.ofNat 0),.int .i64 (.ofNat 0),.int .i64 (.ofNat 0),.nilslice,.int .i64 (.ofNat 0),.int .i64 (.ofNat 0)] [(0,1,(.val (.int .i64 (.ofNat 3)))),(6,1,(.val (.int .i64 (.ofNat 7))))])),(some (22,true))⟩,⟨(some 24),(.e (.call 19 [(.tmp 23)])),(some (22,true))⟩,⟨(some 25),(.p (.bin .eql (.tmp 24) (.val (.str [48,32,99,111,109,109,105,116,32,55])))),(some (22,true))⟩,⟨(some 26),(.p (.pick (.tmp 22) (.tmp 25) (.val (.bool false)))),none⟩,⟨(some 27),(.p (.mov (.tmp 26))),none⟩,⟨(some 28),(.p (.build [.int .i64 (.ofNat 0),.int .i64 (.ofNat 0),.int .i64 (.ofNat 0),.int .i64 (.ofNat 0),.int .i64 (.ofNat 0),.nilslice,.int .i64 (.ofNat 0),.int .i64 (.ofNat 0)] [])),(some (27,true))⟩,⟨(some 29),(.e (.call 19 [(.tmp 28)])),(some (27,true))⟩,⟨(some 30),(.p (.bin .eql (.tmp 29) (.val (.str [])))),(some (27,true))⟩,⟨(some 31),(.p (.pick (.tmp 27) (.tmp 30) (.val (.bool false)))),none⟩,⟨(some 0),(.p (.mov (.tmp 31))),none⟩])
 (.ret))),[.tmp 0]⟩
theorem v9 : IsFun Tryd.prog 9 m9 := ⟨_, Tryd.func9, by kernel_rfl, by kernel_rfl⟩
def m16 : Fun := Go.Lib.M49 Go.Proofs.YtcoghkkhjaokmaaDoor.sa.F0
theorem v16 : IsFun Tryd.prog 16 m16 := ⟨_, Tryd.func16, by kernel_rfl, by kernel_rfl⟩
def m17 : Fun := Go.Lib.M225 Go.Proofs.YtcoghkkhjaokmaaDoor.sa.F0
theorem v17 : IsFun Tryd.prog 17 m17 := ⟨_, Tryd.func17, by kernel_rfl, by kernel_rfl⟩
def m18 : Fun := Go.Lib.M226 Go.Proofs.YtcoghkkhjaokmaaDoor.sa.F0
theorem v18 : IsFun Tryd.prog 18 m18 := ⟨_, Tryd.func18, by kernel_rfl, by kernel_rfl⟩
def m19 : Fun := ⟨42,1,.seq (.region [⟨(some 1),(.a (.box (.tmp 0))),none⟩,⟨(some 2),(.p (.mov (.val (.str [])))),none⟩])
 (.seq (.region [⟨(some 4),(.p (.faddr 1 (.tmp 1))),none⟩,⟨(some 5),(.load1 (.tmp 4)),none⟩,⟨(some 6),(.e (.call 17 [(.tmp 5)])),none⟩,⟨(some 3),(.p (.mov (.tmp 6))),none⟩])
 (.seq (.seq (.region [⟨(some 7),(.p (.faddr 0 (.tmp 1))),none⟩,⟨(some 8),(.load1 (.tmp 7)),none⟩])
 (.block 0 (.seq (.region [⟨(some 10),(.p (.bin .eql (.tmp 8) (.val (.int .i64 (.ofNat 1))))),none⟩,⟨(some 9),(.p (.mov (.tmp 10))),none⟩])
 (.cond (.tmp 9) (.seq (.region [⟨(some 11),(.p (.mov (.tmp 3))),none⟩,⟨(some 12),(.p (.bin .add (.tmp 11) (.val (.str [32,98,101,103,105,110])))),none⟩,⟨(some 2),(.p (.mov (.tmp 12))),none⟩])
 (.ret))
 (.seq (.region [⟨(some 14),(.p (.bin .eql (.tmp 8) (.val (.int .i64 (.ofNat 2))))),none⟩,⟨(some 13),(.p (.mov (.tmp 14))),none⟩])
 (.cond (.tmp 13) (.seq (.dregion [⟨⟨(some 17),(.p (.faddr 2 (.tmp 1))),none⟩,0,2⟩,⟨⟨(some 18),(.load1 (.tmp 17)),none⟩,0,2⟩,⟨⟨(some 19),(.e (.call 17 [(.tmp 18)])),none⟩,0,5⟩,⟨⟨(some 22),(.p (.faddr 3 (.tmp 1))),none⟩,0,5⟩,⟨⟨(some 23),(.loadn 3 (.tmp 22)),none⟩,0,5⟩,⟨⟨(some 24),(.e (.call 8 [(.tmp 23)])),none⟩,3,12⟩,⟨⟨(some 15),(.p (.mov (.tmp 3))),none⟩,0,12⟩,⟨⟨(some 16),(.p (.bin .add (.tmp 15) (.val (.str [32,111,112,32])))),none⟩,0,12⟩,⟨⟨(some 20),(.p (.bin .add (.tmp 16) (.tmp 19))),none⟩,3,12⟩,⟨⟨(some 21),(.p (.bin .add (.tmp 20) (.val (.str [32])))),none⟩,3,12⟩,⟨⟨(some 25),(.p (.bin .add (.tmp 21) (.tmp 24))),none⟩,6,12⟩,⟨⟨(some 2),(.p (.mov (.tmp 25))),none⟩,6,12⟩])
 (.ret))
 (.seq (.region [⟨(some 27),(.p (.bin .eql (.tmp 8) (.val (.int .i64 (.ofNat 3))))),none⟩,⟨(some 26),(.p (.mov (.tmp 27))),none⟩])
 (.cond (.tmp 26) (.seq (.region [⟨(some 28),(.p (.mov (.tmp 3))),none⟩,⟨(some 29),(.p (.bin .add (.tmp 28) (.val (.str [32,99,111,109,109,105,116,32])))),none⟩,⟨(some 30),(.p (.faddr 6 (.tmp 1))),none⟩,⟨(some 31),(.load1 (.tmp 30)),none⟩,⟨(some 32),(.e (.call 17 [(.tmp 31)])),none⟩,⟨(some 33),(.p (.bin .add (.tmp 29) (.tmp 32))),none⟩,⟨(some 2),(.p (.mov (.tmp 33))),none⟩])
 (.ret))
 (.seq (.region [⟨(some 35),(.p (.bin .eql (.tmp 8) (.val (.int .i64 (.ofNat 4))))),none⟩,⟨(some 34),(.p (.mov (.tmp 35))),none⟩])
 (.cond (.tmp 34) (.seq (.region [⟨(some 36),(.p (.mov (.tmp 3))),none⟩,⟨(some 37),(.p (.bin .add (.tmp 36) (.val (.str [32,97,98,111,114,116,32])))),none⟩,⟨(some 38),(.p (.faddr 7 (.tmp 1))),none⟩,⟨(some 39),(.load1 (.tmp 38)),none⟩,⟨(some 40),(.e (.call 17 [(.tmp 39)])),none⟩,⟨(some 41),(.p (.bin .add (.tmp 37) (.tmp 40))),none⟩,⟨(some 2),(.p (.mov (.tmp 41))),none⟩])
 (.ret))
 (.skip)))))))))))
 (.seq (.region [⟨(some 2),(.p (.mov (.val (.str [])))),none⟩])
 (.ret)))),[.tmp 2]⟩
theorem v19 : IsFun Tryd.prog 19 m19 := ⟨_, Tryd.func19, by kernel_rfl, by kernel_rfl⟩
def m23 : Fun := Go.Lib.M50 Go.Proofs.YtcoghkkhjaokmaaDoor.sa.F0
theorem v23 : IsFun Tryd.prog 23 m23 := ⟨_, Tryd.func23, by kernel_rfl, by kernel_rfl⟩
def m25 : Fun := Go.Lib.M213 Go.Proofs.YtcoghkkhjaokmaaDoor.sa.F0
theorem v25 : IsFun Tryd.prog 25 m25 := ⟨_, Tryd.func25, by kernel_rfl, by kernel_rfl⟩
end Go.Proofs.YtcoghkkhjaokmaaDoor
end

section
set_option maxRecDepth 100000
namespace Go.Proofs.YtcoghkkhjaokmaaDoor
open Go.Vm
def funs : T Fun := (.node (.node (.node (.node .leaf (some m7) (.node .leaf (some m23) .leaf)) (some m3) (.node (.node .leaf (some m19) .leaf) none .leaf)) none (.node (.node (.node .leaf (some m17) .leaf) (some m9) (.node .leaf (some m25) .leaf)) none .leaf)) none (.node (.node (.node (.node .leaf (some m16) .leaf) (some m8) .leaf) none .leaf) none (.node (.node (.node .leaf (some m18) .leaf) none .leaf) (some m6) .leaf)))
def ints : List Nat := [2,3,5,6,12,21,22,26,103,104,130,156,157,159,160]
theorem intsOk : IntsOk Tryd.prog ints := ints_of (by kernel_rfl)
def mach (tab : Tab) : Vm.Prog := { funs := funs, env := ⟨tab, ints⟩ }
theorem valid (tab : Tab) : Valid Tryd.prog (mach tab) := valid_of (show AllT (IsFun Tryd.prog) 1 0 funs from ⟨trivial, ⟨trivial, ⟨v3, ⟨v7, trivial, ⟨v23, trivial, trivial⟩⟩, ⟨trivial, ⟨v19, trivial, trivial⟩, trivial⟩⟩, ⟨trivial, ⟨v9, ⟨v17, trivial, trivial⟩, ⟨v25, trivial, trivial⟩⟩, trivial⟩⟩, ⟨trivial, ⟨trivial, ⟨v8, ⟨v16, trivial, trivial⟩, trivial⟩, trivial⟩, ⟨v6, ⟨trivial, ⟨v18, trivial, trivial⟩, trivial⟩, trivial⟩⟩⟩)
end Go.Proofs.YtcoghkkhjaokmaaDoor
end

section
set_option maxRecDepth 100000
namespace Go.Proofs.YtcoghkkhjaokmaaDoor
open Go.Vm
def exts : List (Nat × Ek) := []
theorem extsOk : ∀ x, x ∈ exts → IsExt Tryd.prog x := by
  intro x hx
  unfold exts at hx
  cases hx
end Go.Proofs.YtcoghkkhjaokmaaDoor
end

section
set_option maxRecDepth 100000
namespace Go.Proofs.YtcoghkkhjaokmaaDoor
open Go.RowKit Go.Shelf Go.Vm Go.Lib
def ren : Go.Shelf.Ren := ⟨fun x => match x with | 129 => 85 | 156 => 28 | 165 => 42 | 166 => 43 | 169 => 44 | 171 => 27 | 173 => 35 | 240 => 56 | 241 => 57 | 243 => 41 | 246 => 51 | 276 => 76 | 277 => 77 | 283 => 67 | 284 => 68 | 285 => 69 | 286 => 70 | 317 => 84 | 318 => 86 | 319 => 87 | 320 => 88 | 337 => 96 | 338 => 97 | n => n, fun x => match x with | 0 => 0 | 2 => 2 | 3 => 3 | 4 => 4 | 5 => 5 | 9 => 9 | 20 => 20 | 31 => 61 | 37 => 28 | 46 => 26 | 51 => 130 | 53 => 104 | 70 => 87 | 72 => 89 | 75 => 76 | 76 => 91 | 80 => 93 | 127 => 100 | 164 => 119 | 171 => 110 | 173 => 113 | 212 => 129 | 213 => 131 | 232 => 144 | 233 => 145 | n => n, fun x => match x with | 17 => 2 | 18 => 4 | 19 => 5 | n => n⟩
theorem L156 : Lays.n156 Tryd.prog ren := by constructor <;> first | kernel_rfl | (intro w; kernel_rfl) | decide | (constructor <;> first | kernel_rfl | (intro w; kernel_rfl) | decide | (constructor <;> first | kernel_rfl | (intro w; kernel_rfl) | decide | (constructor <;> first | kernel_rfl | (intro w; kernel_rfl) | decide)))
theorem X156 : Builder.Extra Tryd.prog ren := by constructor <;> first | kernel_rfl | (intro w; kernel_rfl) | decide | (constructor <;> first | kernel_rfl | (intro w; kernel_rfl) | decide | (constructor <;> first | kernel_rfl | (intro w; kernel_rfl) | decide | (constructor <;> first | kernel_rfl | (intro w; kernel_rfl) | decide)))
theorem L171 : LaysM.n171 Tryd.prog ren := by constructor <;> first | kernel_rfl | (intro w; kernel_rfl) | decide | (constructor <;> first | kernel_rfl | (intro w; kernel_rfl) | decide | (constructor <;> first | kernel_rfl | (intro w; kernel_rfl) | decide | (constructor <;> first | kernel_rfl | (intro w; kernel_rfl) | decide)))
theorem L173 : LaysM.n173 Tryd.prog ren := by constructor <;> first | kernel_rfl | (intro w; kernel_rfl) | decide | (constructor <;> first | kernel_rfl | (intro w; kernel_rfl) | decide | (constructor <;> first | kernel_rfl | (intro w; kernel_rfl) | decide | (constructor <;> first | kernel_rfl | (intro w; kernel_rfl) | decide)))
def sg : SG := ⟨3, 0, 1, 2, 0⟩
theorem sg_ok : sg.ok Tryd.prog := ⟨of_decide_eq_true (by kernel_rfl), of_decide_eq_true (by kernel_rfl), of_decide_eq_true (by kernel_rfl), of_decide_eq_true (by kernel_rfl)⟩
theorem tab_is (w : World) (h : PowIs w sg.pow) : Lib.TabIs Tryd.prog w "internal/strconv.uint64pow10" .u64 Lib.pow10Tab := by
  obtain ⟨e, fz, h⟩ := h
  have hg : Tryd.prog.globalNamed "internal/strconv.uint64pow10" = some sg.pow := by kernel_rfl
  simp only [Lib.TabIs, World.var?, hg, h, Option.bind_some]
theorem is_join : IsStr Tryd.prog sg (28, .join) := ⟨by kernel_rfl, ⟨fun a c sep w => Any.strings_Join_none L156 X156 a c sep w, fun bk o c xs sep w h1 h2 h3 h4 h5 => Any.strings_Join L156 X156 bk o c xs sep w h1 h2 h3 h4 h5⟩⟩
theorem is_itoa : IsStr Tryd.prog sg (27, .itoa) := ⟨by kernel_rfl, fun n w h0 h1 h2 => Any.strconv_Itoa L171 n h0 h1 w (tab_is w h2)⟩
theorem is_fmt : IsStr Tryd.prog sg (35, .fmt) := ⟨by kernel_rfl, fun n w h0 h1 h2 => Any.strconv_FormatInt_10 L173 n h0 h1 w (tab_is w h2)⟩
def strs : List (Nat × Sk) := [(28, .join), (27, .itoa), (35, .fmt)]
theorem strs_ok : ∀ x, x ∈ strs → IsStr Tryd.prog sg x := by
  intro x hx
  simp only [strs, List.mem_cons, List.not_mem_nil, or_false] at hx
  rcases hx with rfl | rfl | rfl
  · exact is_join
  · exact is_itoa
  · exact is_fmt
end Go.Proofs.YtcoghkkhjaokmaaDoor
end

section
set_option maxRecDepth 100000
namespace Go.Proofs.YtcoghkkhjaokmaaDoor.reptApart
open Go.RowKit Go.Vm Go.ChangeShapes
def laidL : List (String × DataW Unit) := [("math/bits.deBruijn32tab", Rows.laid_math_bits_deBruijn32tab), ("math/bits.deBruijn64tab", Rows.laid_math_bits_deBruijn64tab), ("internal/strconv.uint64pow10", Rows.laid_internal_strconv_uint64pow10)]
def tbl : List (Nat × Blk) := [(2, .whole (powL 20 1))]
theorem laid_w {W : World} (hL : laidMetH Tryd.prog laidL W) : ∀ σ, LaidW Tryd.prog (laidE Tryd.prog tbl [] σ) W tbl := by
  have h : laidMet Tryd.prog laidL W := (laidMetH_iff.1 hL).1
  have ht := Lib.tabIs_of_head (name := "internal/strconv.uint64pow10") (k := .u64) (zs := Lib.pow10Tab) (P := Tryd.prog) (W := W) (g := 2) (t := 129) (e := 104) (n := 20) (by kernel_rfl) (by kernel_rfl) (by show Program.underlying _ _ = _; kernel_rfl) (by show Program.underlying _ _ = _; kernel_rfl) (by kernel_rfl) (by kernel_rfl) h.tail.tail
  obtain ⟨e, fz, hh⟩ := var_heap (g := 2) (by kernel_rfl) ht
  intro σ g x hx
  simp only [tbl, tblAt, nbeq_d] at hx
  by_cases h1 : 2 = g
  · subst h1
    simp at hx
    subst hx
    exact ⟨of_decide_eq_true (by kernel_rfl), rfl, _, e, fz, hh, by simpa using powL_vr⟩
  · rw [show decide (2 = g) = false from decide_eq_false h1] at hx
    simp at hx
theorem door_met (os : Os) (args : Array Value) : laidMetH Tryd.prog laidL ((World.laidAll Tryd.prog os laidL).forCall (fun _ _ => 0) ⟨#[], args, []⟩).memory := by
  rw [MakeChecks.laidMetH_plain _ _ _ (by kernel_rfl)]
  exact laidMet_laidAll _ (by kernel_rfl) (by kernel_rfl)
end Go.Proofs.YtcoghkkhjaokmaaDoor.reptApart
end

section
set_option maxRecDepth 100000
namespace Go.Proofs.YtcoghkkhjaokmaaDoor.sa
open Go.Vm Go.Dv Go.Lib
def gl0 : Nat → Option (Blk → Prop) := fun c => if c = sg.pow then some (fun y => powCells y = true) else none
def pr : Vm.Prog := { mach [] with gl := gl0 }
theorem pow0 : PowGl pr sg := by show (if sg.pow = sg.pow then some (fun y => powCells y = true) else none) = _; rw [if_pos rfl]
def xt0 : Ext := orX (strX sg strs) (extBy exts)
def xt : Ext := orX (constP sg.pow [9]) xt0
theorem has48 : Go.Dv.Has pr xt F0 48 Go.Lib.M48 := ⟨by kernel_rfl, fun _ _ => rfl⟩
theorem has49 : Go.Dv.Has pr xt F0 49 Go.Lib.M49 := ⟨by kernel_rfl, fun _ _ => rfl⟩
theorem has50 : Go.Dv.Has pr xt F0 50 Go.Lib.M50 := ⟨by kernel_rfl, fun _ _ => rfl⟩
theorem has213 : Go.Dv.Has pr xt F0 213 Go.Lib.M213 := ⟨by kernel_rfl, fun _ _ => rfl⟩
theorem has222 : Go.Dv.Has pr xt F0 222 Go.Lib.M222 := ⟨by kernel_rfl, fun _ _ => rfl⟩
theorem has223 : Go.Dv.Has pr xt F0 223 Go.Lib.M223 := ⟨by kernel_rfl, fun _ _ => rfl⟩
theorem has224 : Go.Dv.Has pr xt F0 224 Go.Lib.M224 := ⟨by kernel_rfl, fun _ _ => rfl⟩
theorem has225 : Go.Dv.Has pr xt F0 225 Go.Lib.M225 := ⟨by kernel_rfl, fun _ _ => rfl⟩
theorem has226 : Go.Dv.Has pr xt F0 226 Go.Lib.M226 := ⟨by kernel_rfl, fun _ _ => rfl⟩
end Go.Proofs.YtcoghkkhjaokmaaDoor.sa
end

section
set_option maxRecDepth 100000
namespace Go.Proofs.YtcoghkkhjaokmaaDoor.sa
open Go.Vm
theorem awakeR : runsL (mach []) (orX (strX sg strs) (extBy exts)) 1000000 9 [] (laidH Tryd.prog.globals.size 0 [(sg.pow, .whole (powL 20 1))]) = true := by decide +kernel
end Go.Proofs.YtcoghkkhjaokmaaDoor.sa
end

section
set_option maxRecDepth 100000
namespace Go.Proofs.YtcoghkkhjaokmaaDoor.sa
open Go.Vm Go.Dv Go.Lib
theorem hawake : FnD pr xt (F0 227) [] (.lit (.bool true)) := by
  intro H ψ S h vs s k
  simp only [VDl] at k
  subst k
  have hp : powCells (h.blk sg.pow) = true := (s.gl sg.pow _ pow0).2
  refine wpc_ext (v := .bool true) (h' := h) ?_ ⟨ψ, S, _, H, .refl, s, ?_, rfl, rfl⟩
  · show orX (constP sg.pow [_]) xt0 _ [] h = _
    unfold orX constP
    rw [hp]; rfl
  · simp [VD, atomV]
theorem orX_none {a b : Ext} {f : Nat} {args : List V} {h : Hp} (hb : b f args h = none) : orX a b f args h = a f args h := by unfold orX; rw [hb]; cases a f args h <;> rfl
theorem orX_snd {a b : Ext} {f : Nat} {args : List V} {h : Hp} (ha : a f args h = none) : orX a b f args h = b f args h := by unfold orX; rw [ha]
theorem x207 : ∀ args h, xt (F0 207) args h = strV sg .join args h := fun _ _ => (orX_snd rfl).trans ((orX_none rfl).trans rfl)
theorem x208 : ∀ args h, xt (F0 208) args h = strV sg .itoa args h := fun _ _ => (orX_snd rfl).trans ((orX_none rfl).trans rfl)
theorem x209 : ∀ args h, xt (F0 209) args h = strV sg .fmt args h := fun _ _ => (orX_snd rfl).trans ((orX_none rfl).trans rfl)
theorem href6 : HSame6 pr xt F0 := ⟨has48, has49, has50⟩
theorem hlaw : HRept pr xt F0 sg := ⟨⟨has213, x209, pow0⟩, href6, x207, x208, hawake, has222, has223, has224, has225, has226⟩
theorem mixed : Tryd.prog.follows .mixedOrders = true := by kernel_rfl
theorem xt0_ok {env : Env} : CallOk Tryd.prog env xt0 := orX_ok (strX_ok sg_ok strs_ok) (extBy_ok extsOk)
theorem xt0_rises : Rises xt0 := orX_rises (strX_rises _ _) (extBy_rises _)
theorem xt_ok {env : Env} : CallOk Tryd.prog env xt := orX_ok (constP_ok mixed (valid []) xt0_rises xt0_ok rfl intsOk (n := 1000000) sg_ok.2.2.2 fun f hf => by
  rcases List.mem_cons.1 hf with rfl | hf
  · exact ⟨by kernel_rfl, awakeR⟩
  · cases hf) xt0_ok
theorem xt_rises : Rises xt := orX_rises (constP_rises _ _) xt0_rises
end Go.Proofs.YtcoghkkhjaokmaaDoor.sa
end
