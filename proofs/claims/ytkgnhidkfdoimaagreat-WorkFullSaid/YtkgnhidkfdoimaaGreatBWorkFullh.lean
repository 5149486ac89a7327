/-
 Texts that the claim's last one rests on, joined.
-/
import Derived.Test.YtkgnhidkfdoimaaGreatBWorkFullf
import Derived.Test.YtkgnhidkfdoimaaGreatBWorkFullg
import Derived.Test.YtkgnhidkfdoimaaGreatBWorkFullc
import Derived.Lib.SlKeysI
import Derived.Laws.AppendOwn
import Derived.Sort.Grow

section
namespace Go.Lib
open Go.Vm Go.Dv
set_option maxRecDepth 100000
abbrev K32 (F : Nat → Nat) : KC := .seq (.region [⟨some 4,.a (.box (.tmp 1)),none⟩,⟨some 6,.p (.mov (.val (.nilslice))),none⟩,⟨some 7,.p (.mov (.val (.bool false))),none⟩] [4] [0,2,4])
 (.seq (.seq (.region [l1 16 4,bi 17 .lss 16 0] [] [0,2,4,17])
 (.cond (.tmp 17) (.seq (.region [mv 19 0,mv 20 2,⟨some 21,.e (.call (F 36) [(.val (.nilslice)),(.tmp 19),(.tmp 20)]),none⟩,mv 18 21,et 22 18 0,et 23 18 1,mv 8 22,mv 9 23] [] [8,9])
 (.seq (.seq (.region [mv 24 9,⟨some 25,.p (.not (.tmp 24)),none⟩] [] [8,25])
 (.cond (.tmp 25) (.seq (.region [⟨some 6,.p (.mov (.val (.nilslice))),none⟩,⟨some 7,.p (.mov (.val (.bool false))),none⟩] [] [6,7])
 (.ret))
 (.skip)))
 (.seq (.region [mv 26 8,⟨some 27,.a (.bslice [.nilslice] 1 1 [(0,1,(.tmp 26))]),none⟩,mv 6 27,⟨some 7,.p (.mov (.val (.bool true))),none⟩] [27] [6,7])
 (.ret))))
 (.skip)))
 (.seq (.region [mv 28 0,⟨some 29,.e (.call (F 37) [(.tmp 28)]),none⟩,mv 10 29] [] [2,4,10])
 (.seq (.region [mv 30 10,⟨some 31,.p (.mkfunc (F 38) [] [(.tmp 4)]),none⟩,⟨some 32,.e (.call (F 26) [(.tmp 30),(.tmp 31)]),none⟩] [] [2,4,10])
 (.seq (.region [⟨some 11,.p (.mov (.val (.nilslice))),none⟩] [] [2,4,10,11])
 (.seq (.block 0 (.loop (.seq (.seq (.region [mv 33 10,lb 34 33,bi 35 .gtr 34 0] [] [2,4,10,11,35])
 (.cond (.tmp 35) (.skip)
 (.exit 0)))
 (.block 1 (.seq (.dregion [⟨mv 36 10,0,4⟩,⟨⟨some 37,.p (.iaddr 1 (.tmp 36) (.val (.int .i64 (.ofNat 0)))),none⟩,0,4⟩,⟨l1 38 37,0,4⟩,⟨l1 39 4,0,4⟩,⟨⟨some 40,.e (.call (F 3) [(.tmp 38),(.tmp 39)]),none⟩,0,6⟩,⟨⟨some 12,.a (.new [.bool false,.int .i64 (.ofNat 0),.int .i64 (.ofNat 0),.nilslice]),none⟩,0,6⟩,⟨⟨none,.e (.store 4 (.tmp 12) (.tmp 40)),none⟩,5,7⟩] [2,4,10,11,12])
 (.seq (.region [mi 13 1] [] [2,4,10,11,12,13])
 (.seq (.block 2 (.loop (.seq (.seq (.dregion [⟨mv 41 13,0,10⟩,⟨mv 42 10,0,10⟩,⟨lb 43 42,0,10⟩,⟨bt 44 .lss 41 43,0,10⟩,⟨mv 45 44,0,10⟩,⟨⟨some 46,.p (.mov (.tmp 10)),(some (45,true))⟩,0,10⟩,⟨⟨some 47,.p (.mov (.tmp 13)),(some (45,true))⟩,0,10⟩,⟨⟨some 48,.p (.iaddr 1 (.tmp 46) (.tmp 47)),(some (45,true))⟩,0,10⟩,⟨⟨some 49,.load1 (.tmp 48),(some (45,true))⟩,0,10⟩,⟨⟨some 50,.load1 (.tmp 4),(some (45,true))⟩,0,10⟩,⟨⟨some 51,.e (.call (F 3) [(.tmp 49),(.tmp 50)]),(some (45,true))⟩,0,12⟩,⟨⟨some 52,.loadn 4 (.tmp 12),(some (45,true))⟩,0,12⟩,⟨⟨some 53,.e (.call (F 1) [(.tmp 51),(.tmp 52)]),(some (45,true))⟩,11,15⟩,⟨⟨some 54,.p (.bin .eql (.tmp 53) (.val (.int .i64 (.ofNat 0)))),(some (45,true))⟩,13,15⟩,⟨⟨some 55,.p (.pick (.tmp 45) (.tmp 54) (.val (.bool false))),none⟩,13,15⟩] [2,4,10,11,12,13,55])
 (.cond (.tmp 55) (.skip)
 (.exit 2)))
 (.block 3 (.region [mv 56 13,bi 57 .add 56 1,mv 13 57] [] [2,4,10,11,12,13])))))
 (.seq (.dregion [⟨ln 59 4 12,0,6⟩,⟨⟨some 60,.a (.bslice [.bool false,.int .i64 (.ofNat 0),.int .i64 (.ofNat 0),.nilslice] 4 1 [(0,4,(.tmp 59))]),none⟩,0,6⟩,⟨mv 61 10,0,6⟩,⟨mv 62 13,0,6⟩,⟨⟨some 63,.p (.slc 1 (.tmp 61) none (some (.tmp 62)) none),none⟩,0,6⟩,⟨mv 64 2,0,6⟩,⟨⟨some 65,.e (.call (F 36) [(.tmp 60),(.tmp 63),(.tmp 64)]),none⟩,0,12⟩,⟨mv 58 65,7,12⟩,⟨et 66 58 0,7,12⟩,⟨et 67 58 1,7,12⟩,⟨mv 14 66,7,12⟩,⟨mv 15 67,7,12⟩] [2,4,10,11,13,14,15])
 (.seq (.seq (.region [mv 68 15,⟨some 69,.p (.not (.tmp 68)),none⟩] [] [2,4,10,11,13,14,69])
 (.cond (.tmp 69) (.seq (.region [⟨some 6,.p (.mov (.val (.nilslice))),none⟩,⟨some 7,.p (.mov (.val (.bool false))),none⟩] [] [6,7])
 (.ret))
 (.skip)))
 (.seq (.region [mv 70 11,mv 71 14,⟨some 72,.a (.bslice [.nilslice] 1 1 [(0,1,(.tmp 71))]),none⟩,⟨some 73,.e (.append 1 24 (.tmp 70) (.tmp 72)),none⟩,mv 11 73] [72] [2,4,10,11,13])
 (.region [mv 74 10,mv 75 13,⟨some 76,.p (.slc 1 (.tmp 74) (some (.tmp 75)) none none),none⟩,mv 10 76] [] [2,4,10,11])))))))))))
 (.seq (.region [mv 77 11,⟨some 78,.e (.call (F 39) [(.tmp 77)]),none⟩,mv 6 78,⟨some 7,.p (.mov (.val (.bool true))),none⟩] [] [6,7])
 (.ret)))))))
def M32 (F : Nat → Nat) : Fun := ⟨79,3,(K32 F).erase,[.tmp 6,.tmp 7]⟩
abbrev K33 (F : Nat → Nat) : KC := .seq (.region [⟨some 2,.p (.mov (.val (.nilslice))),none⟩] [] [0])
 (.seq (.region [mv 4 0,⟨some 5,.e (.call (F 37) [(.tmp 4)]),none⟩,mv 3 5] [] [3])
 (.seq (.region [mv 6 3,⟨some 7,.e (.call (F 26) [(.tmp 6),(.val (.func (F 2) [] []))]),none⟩] [] [3])
 (.seq (.region [mv 8 3,mv 2 8] [] [2])
 (.ret))))
def M33 (F : Nat → Nat) : Fun := ⟨9,1,(K33 F).erase,[.tmp 2]⟩
abbrev K34 (F : Nat → Nat) : KC := .seq (.region [⟨some 4,.p (.mov (.val (.nilslice))),none⟩] [] [0,1])
 (.seq (.region [⟨some 5,.p (.mov (.val (.nilslice))),none⟩] [] [0,1,5])
 (.seq (.seq (.region [mv 11 0,lb 12 11,mi 13 0] [] [1,5,11,12,13])
 (.block 0 (.loop (.seq (.region [bt 14 .lss 13 12] [] [1,5,11,12,13,14])
 (.seq (.cond (.tmp 14) (.skip)
 (.exit 0))
 (.seq (.block 1 (.seq (.region [ix 15 1 11 13,l1 16 15,mv 7 16] [] [1,5,7,11,12,13])
 (.seq (.region [⟨some 8,.p (.mov (.val (.nilslice))),none⟩] [] [1,5,7,8,11,12,13])
 (.seq (.seq (.region [mv 17 1,lb 18 17,mi 19 0] [] [1,5,7,8,11,12,13,17,18,19])
 (.block 2 (.loop (.seq (.region [bt 20 .lss 19 18] [] [1,5,7,8,11,12,13,17,18,19,20])
 (.seq (.cond (.tmp 20) (.skip)
 (.exit 2))
 (.seq (.block 3 (.seq (.region [ix 21 1 17 19,l1 22 21,mv 10 22] [] [1,5,7,8,10,11,12,13,17,18,19])
 (.region [mv 23 8,mv 24 7,mv 25 10,⟨some 26,.e (.call (F 3) [(.tmp 24),(.tmp 25)]),none⟩,⟨some 27,.a (.bslice [.bool false,.int .i64 (.ofNat 0),.int .i64 (.ofNat 0),.nilslice] 4 1 [(0,4,(.tmp 26))]),none⟩,⟨some 28,.e (.append 4 48 (.tmp 23) (.tmp 27)),none⟩,mv 8 28] [27] [1,5,7,8,11,12,13,17,18,19])))
 (.region [bi 29 .add 19 1,mv 19 29] [] [1,5,7,8,11,12,13,17,18,19])))))))
 (.region [mv 30 5,mv 31 8,⟨some 32,.a (.bslice [.nilslice] 1 1 [(0,1,(.tmp 31))]),none⟩,⟨some 33,.e (.append 1 24 (.tmp 30) (.tmp 32)),none⟩,mv 5 33] [32] [1,5,11,12,13])))))
 (.region [bi 34 .add 13 1,mv 13 34] [] [1,5,11,12,13])))))))
 (.seq (.region [mv 35 5,⟨some 36,.e (.call (F 33) [(.tmp 35)]),none⟩,mv 4 36] [] [4])
 (.ret))))
def M34 (F : Nat → Nat) : Fun := ⟨37,2,(K34 F).erase,[.tmp 4]⟩
abbrev K35 (F : Nat → Nat) : KC := .seq (.region [⟨some 4,.p (.mov (.val (.nilslice))),none⟩,⟨some 5,.p (.mov (.val (.bool false))),none⟩] [] [0,1])
 (.seq (.region [mv 12 0,⟨some 13,.e (.call (F 4) [(.tmp 12)]),none⟩,mv 6 13] [] [1,6])
 (.seq (.seq (.region [mv 14 1,lb 15 14,mi 16 0] [] [6,14,15,16])
 (.block 0 (.loop (.seq (.region [bt 17 .lss 16 15] [] [6,14,15,16,17])
 (.seq (.cond (.tmp 17) (.skip)
 (.exit 0))
 (.seq (.block 1 (.seq (.region [ix 18 6 14 16,ln 19 6 18,⟨some 8,.a (.new [.int .i64 (.ofNat 0),.bool false,.bool false,.int .i64 (.ofNat 0),.int .i64 (.ofNat 0),.nilslice]),none⟩,⟨none,.e (.store 6 (.tmp 8) (.tmp 19)),none⟩] [] [6,8,14,15,16])
 (.seq (.seq (.region [fa 20 0 8,l1 21 20,bi 22 .lss 21 0,mv 23 22,⟨some 24,.p (.faddr 0 (.tmp 8)),(some (23,false))⟩,⟨some 25,.load1 (.tmp 24),(some (23,false))⟩,⟨some 26,.p (.mov (.tmp 6)),(some (23,false))⟩,⟨some 27,.p (.lenb (.tmp 26)),(some (23,false))⟩,⟨some 28,.p (.bin .geq (.tmp 25) (.tmp 27)),(some (23,false))⟩,⟨some 29,.p (.pick (.tmp 23) (.val (.bool true)) (.tmp 28)),none⟩] [] [6,8,14,15,16,29])
 (.cond (.tmp 29) (.exit 1)
 (.skip)))
 (.seq (.region [mv 30 6,fa 31 0 8,l1 32 31,ix 33 4 30 32,mv 9 33] [] [6,8,9,14,15,16])
 (.block 2 (.seq (.region [fa 35 1 8,l1 36 35,⟨some 37,.p (.not (.tmp 36)),none⟩,mv 34 37] [] [6,8,9,14,15,16,34])
 (.cond (.tmp 34) (.region [mv 38 9,fa 39 2 8,ln 40 4 39,⟨some 41,.e (.call (F 5) [(.tmp 40)]),none⟩,⟨some 42,.p (.nilchk (.tmp 38)),none⟩,⟨none,.e (.store 4 (.tmp 42) (.tmp 41)),none⟩] [] [6,14,15,16])
 (.seq (.region [mv 44 9,⟨some 45,.p (.nilchk (.tmp 44)),none⟩,fa 46 0 45,l1 47 46,⟨some 48,.p (.not (.tmp 47)),none⟩,mv 43 48] [] [6,8,9,14,15,16,43])
 (.cond (.tmp 43) (.seq (.dregion [⟨mv 50 9,0,7⟩,⟨⟨some 51,.p (.nilchk (.tmp 50)),none⟩,0,7⟩,⟨fa 52 2 51,0,7⟩,⟨l1 53 52,0,7⟩,⟨fa 54 2 8,0,7⟩,⟨fa 55 2 54,0,7⟩,⟨l1 56 55,0,7⟩,⟨⟨some 57,.e (.call (F 40) [(.tmp 53),(.tmp 56)]),none⟩,0,13⟩,⟨mv 49 57,8,13⟩,⟨et 58 49 0,8,13⟩,⟨et 59 49 1,8,13⟩,⟨mv 10 58,8,13⟩,⟨mv 11 59,8,13⟩] [6,9,10,11,14,15,16])
 (.seq (.seq (.region [mv 60 11,⟨some 61,.p (.not (.tmp 60)),none⟩] [] [6,9,10,14,15,16,61])
 (.cond (.tmp 61) (.seq (.region [⟨some 4,.p (.mov (.val (.nilslice))),none⟩,⟨some 5,.p (.mov (.val (.bool false))),none⟩] [] [4,5])
 (.ret))
 (.skip)))
 (.region [mv 62 9,mv 63 10,⟨some 64,.p (.nilchk (.tmp 62)),none⟩,fa 65 2 64,⟨none,.e (.store 1 (.tmp 65) (.tmp 63)),none⟩] [] [6,14,15,16])))
 (.skip))))))))))
 (.region [bi 66 .add 16 1,mv 16 66] [] [6,14,15,16])))))))
 (.seq (.region [mv 67 6,mv 4 67,⟨some 5,.p (.mov (.val (.bool true))),none⟩] [] [4,5])
 (.ret))))
def M35 (F : Nat → Nat) : Fun := ⟨68,2,(K35 F).erase,[.tmp 4,.tmp 5]⟩
abbrev K36 (F : Nat → Nat) : KC := .seq (.region [⟨some 6,.p (.mov (.val (.nilslice))),none⟩,⟨some 7,.p (.mov (.val (.bool false))),none⟩] [] [0,1,2])
 (.seq (.region [mv 13 0,mv 8 13] [] [1,2,8])
 (.seq (.seq (.region [mv 14 2,lb 15 14,mi 16 0] [] [1,8,14,15,16])
 (.block 0 (.loop (.seq (.region [bt 17 .lss 16 15] [] [1,8,14,15,16,17])
 (.seq (.cond (.tmp 17) (.skip)
 (.exit 0))
 (.seq (.block 1 (.seq (.region [ix 18 2 14 16,ln 19 2 18,⟨some 10,.a (.new [.int .i64 (.ofNat 0),.int .i64 (.ofNat 0)]),none⟩,⟨none,.e (.store 2 (.tmp 10) (.tmp 19)),none⟩] [] [1,8,10,14,15,16])
 (.seq (.region [mv 21 1,ln 22 2 10,⟨some 23,.e (.call (F 41) [(.tmp 21),(.tmp 22)]),none⟩,mv 20 23,et 24 20 0,et 25 20 1,⟨some 11,.a (.new [.bool false,.int .i64 (.ofNat 0),.int .i64 (.ofNat 0),.nilslice]),none⟩,⟨none,.e (.store 4 (.tmp 11) (.tmp 24)),none⟩,mv 12 25] [] [1,8,11,12,14,15,16])
 (.seq (.seq (.region [mv 26 12,⟨some 27,.p (.not (.tmp 26)),none⟩] [] [1,8,11,14,15,16,27])
 (.cond (.tmp 27) (.seq (.region [⟨some 6,.p (.mov (.val (.nilslice))),none⟩,⟨some 7,.p (.mov (.val (.bool false))),none⟩] [] [6,7])
 (.ret))
 (.skip)))
 (.region [mv 28 8,ln 29 4 11,⟨some 30,.a (.bslice [.bool false,.int .i64 (.ofNat 0),.int .i64 (.ofNat 0),.nilslice] 4 1 [(0,4,(.tmp 29))]),none⟩,⟨some 31,.e (.append 4 48 (.tmp 28) (.tmp 30)),none⟩,mv 8 31] [30] [1,8,14,15,16])))))
 (.region [bi 32 .add 16 1,mv 16 32] [] [1,8,14,15,16])))))))
 (.seq (.region [mv 33 8,⟨some 34,.e (.call (F 13) [(.tmp 33)]),none⟩,mv 6 34,⟨some 7,.p (.mov (.val (.bool true))),none⟩] [] [6,7])
 (.ret))))
def M36 (F : Nat → Nat) : Fun := ⟨35,3,(K36 F).erase,[.tmp 6,.tmp 7]⟩
abbrev K37 (F : Nat → Nat) : KC := .seq (.region [⟨some 2,.p (.mov (.val (.nilslice))),none⟩] [] [0])
 (.seq (.region [⟨some 3,.p (.mov (.val (.nilslice))),none⟩] [] [0,3])
 (.seq (.seq (.region [mv 6 0,lb 7 6,mi 8 0] [] [3,6,7,8])
 (.block 0 (.loop (.seq (.region [bt 9 .lss 8 7] [] [3,6,7,8,9])
 (.seq (.cond (.tmp 9) (.skip)
 (.exit 0))
 (.seq (.block 1 (.seq (.region [ix 10 1 6 8,l1 11 10,mv 5 11] [] [3,5,6,7,8])
 (.region [mv 12 3,mv 13 5,⟨some 14,.e (.call (F 4) [(.tmp 13)]),none⟩,⟨some 15,.a (.bslice [.nilslice] 1 1 [(0,1,(.tmp 14))]),none⟩,⟨some 16,.e (.append 1 24 (.tmp 12) (.tmp 15)),none⟩,mv 3 16] [15] [3,6,7,8])))
 (.region [bi 17 .add 8 1,mv 8 17] [] [3,6,7,8])))))))
 (.seq (.region [mv 18 3,⟨some 19,.e (.call (F 39) [(.tmp 18)]),none⟩,mv 2 19] [] [2])
 (.ret))))
def M37 (F : Nat → Nat) : Fun := ⟨20,1,(K37 F).erase,[.tmp 2]⟩
abbrev K38 (F : Nat → Nat) : KC := .seq (.region [mi 5 0] [] [0,1,2])
 (.seq (.dregion [⟨mv 6 0,0,2⟩,⟨l1 7 2,0,2⟩,⟨⟨some 8,.e (.call (F 3) [(.tmp 6),(.tmp 7)]),none⟩,0,5⟩,⟨mv 9 1,0,5⟩,⟨l1 10 2,0,5⟩,⟨⟨some 11,.e (.call (F 3) [(.tmp 9),(.tmp 10)]),none⟩,3,6⟩,⟨⟨some 12,.e (.call (F 1) [(.tmp 8),(.tmp 11)]),none⟩,6,8⟩,⟨mv 5 12,7,8⟩] [5])
 (.ret))
def M38 (F : Nat → Nat) : Fun := ⟨13,3,(K38 F).erase,[.tmp 5]⟩
abbrev K39 (_F : Nat → Nat) : KC := .seq (.region [⟨some 2,.p (.mov (.val (.nilslice))),none⟩] [] [0])
 (.seq (.region [mv 3 0,mv 4 0,lb 5 4,mv 6 0,lb 7 6,⟨some 8,.p (.slc 1 (.tmp 3) none (some (.tmp 5)) (some (.tmp 7))),none⟩,mv 2 8] [] [2])
 (.ret))
def M39 (F : Nat → Nat) : Fun := ⟨9,1,(K39 F).erase,[.tmp 2]⟩
abbrev K40 (F : Nat → Nat) : KC := .seq (.region [mi 4 0,⟨some 5,.p (.mov (.val (.bool false))),none⟩] [] [0,1])
 (.seq (.region [⟨some 6,.a (.new [.int .i64 (.ofNat 0),.int .u64 (.ofNat 0)]),none⟩] [] [0,1,6])
 (.seq (.region [mv 7 0,⟨some 8,.e (.call (F 42) [(.tmp 6),(.tmp 7)]),none⟩] [] [1,6])
 (.seq (.region [mv 9 1,⟨some 10,.e (.call (F 42) [(.tmp 6),(.tmp 9)]),none⟩] [] [6])
 (.seq (.dregion [⟨fa 11 1 6,0,12⟩,⟨l1 12 11,0,12⟩,⟨⟨some 13,.p (.conv (.int .i64) (.tmp 12)),none⟩,0,12⟩,⟨fa 14 0 6,0,12⟩,⟨l1 15 14,0,12⟩,⟨fa 16 1 6,0,12⟩,⟨l1 17 16,0,12⟩,⟨⟨some 18,.p (.conv (.int .i64) (.tmp 17)),none⟩,0,12⟩,⟨⟨some 19,.p (.bin .shr (.tmp 18) (.val (.int .u64 (.ofNat 63)))),none⟩,0,12⟩,⟨bt 20 .eql 15 19,0,12⟩,⟨mv 4 13,0,12⟩,⟨mv 5 20,0,12⟩] [4,5])
 (.ret)))))
def M40 (F : Nat → Nat) : Fun := ⟨21,2,(K40 F).erase,[.tmp 4,.tmp 5]⟩
abbrev K41 (F : Nat → Nat) : KC := .seq (.region [⟨some 3,.a (.box (.tmp 1)),none⟩,⟨some 4,.a (.new [.bool false,.int .i64 (.ofNat 0),.int .i64 (.ofNat 0),.nilslice]),none⟩,⟨some 5,.p (.mov (.val (.bool false))),none⟩] [3] [0,3,4])
 (.seq (.seq (.region [fa 6 0 3,l1 7 6] [] [0,3,4,7])
 (.block 0 (.seq (.region [bi 9 .eql 7 1,mv 8 9] [] [0,3,4,7,8])
 (.cond (.tmp 8) (.seq (.region [mv 10 0,lb 11 10,⟨some 12,.p (.build [.bool false,.int .i64 (.ofNat 0),.int .i64 (.ofNat 0),.nilslice] [(1,1,(.val (.int .i64 (.ofNat 1)))),(2,1,(.tmp 11))]),none⟩,⟨none,.e (.store 4 (.tmp 4) (.tmp 12)),none⟩,⟨some 5,.p (.mov (.val (.bool true))),none⟩] [] [4,5])
 (.ret))
 (.seq (.region [bi 14 .eql 7 2,mv 13 14] [] [0,3,4,7,13])
 (.cond (.tmp 13) (.seq (.region [mv 15 0,fa 16 1 3,l1 17 16,⟨some 18,.e (.call (F 43) [(.tmp 15),(.tmp 17)]),none⟩,et 19 18 0,et 20 18 1,⟨none,.e (.store 4 (.tmp 4) (.tmp 19)),none⟩,mv 5 20] [] [4,5])
 (.ret))
 (.seq (.region [bi 22 .eql 7 3,mv 21 22] [] [0,3,4,21])
 (.cond (.tmp 21) (.seq (.region [mv 23 0,fa 24 1 3,l1 25 24,⟨some 26,.e (.call (F 44) [(.tmp 23),(.tmp 25),(.val (.int .i64 (.negSucc 0)))]),none⟩,⟨none,.e (.store 4 (.tmp 4) (.tmp 26)),none⟩,⟨some 5,.p (.mov (.val (.bool true))),none⟩] [] [4,5])
 (.ret))
 (.skip)))))))))
 (.seq (.region [mv 27 0,fa 28 1 3,l1 29 28,⟨some 30,.e (.call (F 44) [(.tmp 27),(.tmp 29),(.val (.int .i64 (.ofNat 1)))]),none⟩,⟨none,.e (.store 4 (.tmp 4) (.tmp 30)),none⟩,⟨some 5,.p (.mov (.val (.bool true))),none⟩] [] [4,5])
 (.ret)))
def M41 (F : Nat → Nat) : Fun := ⟨31,2,(K41 F).erase,[.celln 4 4,.tmp 5]⟩
abbrev K42 (F : Nat → Nat) : KC := .seq (.region [mv 7 0,⟨some 8,.p (.nilchk (.tmp 7)),none⟩,fa 9 1 8,l1 10 9,mv 11 1,⟨some 12,.p (.conv (.int .u64) (.tmp 11)),none⟩,⟨some 13,.e (.extern (F 45) [(.tmp 10),(.tmp 12),(.val (.int .u64 (.ofNat 0)))]),none⟩,mv 6 13,et 14 6 0,et 15 6 1,mv 4 14,mv 5 15] [] [0,1,4,5])
 (.seq (.region [mv 16 0,mv 17 4,⟨some 18,.p (.nilchk (.tmp 16)),none⟩,fa 19 1 18,⟨none,.e (.store 1 (.tmp 19) (.tmp 17)),none⟩] [] [0,1,5])
 (.region [mv 20 0,⟨some 21,.p (.nilchk (.tmp 20)),none⟩,fa 22 0 21,l1 23 22,mv 24 1,⟨some 25,.p (.bin .shr (.tmp 24) (.val (.int .u64 (.ofNat 63)))),none⟩,mv 26 5,⟨some 27,.p (.conv (.int .i64) (.tmp 26)),none⟩,bt 28 .add 25 27,bt 29 .add 23 28,⟨some 30,.p (.nilchk (.tmp 20)),none⟩,fa 31 0 30,⟨none,.e (.store 1 (.tmp 31) (.tmp 29)),none⟩] [] []))
def M42 (F : Nat → Nat) : Fun := ⟨32,2,(K42 F).erase,[]⟩
abbrev K43 (F : Nat → Nat) : KC := .seq (.region [⟨some 4,.a (.new [.bool false,.int .i64 (.ofNat 0),.int .i64 (.ofNat 0),.nilslice]),none⟩,⟨some 5,.p (.mov (.val (.bool false))),none⟩] [] [0,1,4])
 (.seq (.region [⟨some 6,.a (.new [.int .i64 (.ofNat 0),.int .u64 (.ofNat 0)]),none⟩] [] [0,1,4,6])
 (.seq (.seq (.region [mv 10 0,lb 11 10,mi 12 0] [] [1,4,6,10,11,12])
 (.block 0 (.loop (.seq (.region [bt 13 .lss 12 11] [] [1,4,6,10,11,12,13])
 (.seq (.cond (.tmp 13) (.skip)
 (.exit 0))
 (.seq (.block 1 (.seq (.region [ix 14 1 10 12,l1 15 14,mv 8 15] [] [1,4,6,8,10,11,12])
 (.seq (.region [mv 16 8,mv 17 1,⟨some 18,.e (.call (F 3) [(.tmp 16),(.tmp 17)]),none⟩,⟨some 9,.a (.new [.bool false,.int .i64 (.ofNat 0),.int .i64 (.ofNat 0),.nilslice]),none⟩,⟨none,.e (.store 4 (.tmp 9) (.tmp 18)),none⟩] [] [1,4,6,9,10,11,12])
 (.seq (.region [fa 19 0 9,l1 20 19,⟨some 21,.p (.not (.tmp 20)),none⟩] [] [1,4,6,9,10,11,12,21])
 (.cond (.tmp 21) (.region [fa 22 2 9,l1 23 22,⟨some 24,.e (.call (F 42) [(.tmp 6),(.tmp 23)]),none⟩] [] [1,4,6,10,11,12])
 (.skip))))))
 (.region [bi 25 .add 12 1,mv 12 25] [] [1,4,6,10,11,12])))))))
 (.seq (.seq (.region [fa 26 0 6,l1 27 26,fa 28 1 6,l1 29 28,⟨some 30,.p (.conv (.int .i64) (.tmp 29)),none⟩,⟨some 31,.p (.bin .shr (.tmp 30) (.val (.int .u64 (.ofNat 63)))),none⟩,bt 32 .neq 27 31] [] [4,6,32])
 (.cond (.tmp 32) (.seq (.region [⟨some 33,.p (.build [.bool false,.int .i64 (.ofNat 0),.int .i64 (.ofNat 0),.nilslice] []),none⟩,⟨none,.e (.store 4 (.tmp 4) (.tmp 33)),none⟩,⟨some 5,.p (.mov (.val (.bool false))),none⟩] [] [4,5])
 (.ret))
 (.skip)))
 (.seq (.region [fa 34 1 6,l1 35 34,⟨some 36,.p (.conv (.int .i64) (.tmp 35)),none⟩,⟨some 37,.p (.build [.bool false,.int .i64 (.ofNat 0),.int .i64 (.ofNat 0),.nilslice] [(1,1,(.val (.int .i64 (.ofNat 1)))),(2,1,(.tmp 36))]),none⟩,⟨none,.e (.store 4 (.tmp 4) (.tmp 37)),none⟩,⟨some 5,.p (.mov (.val (.bool true))),none⟩] [] [4,5])
 (.ret)))))
def M43 (F : Nat → Nat) : Fun := ⟨38,2,(K43 F).erase,[.celln 4 4,.tmp 5]⟩
abbrev K44 (F : Nat → Nat) : KC := .seq (.region [⟨some 6,.a (.new [.bool false,.int .i64 (.ofNat 0),.int .i64 (.ofNat 0),.nilslice]),none⟩] [] [0,1,2,6])
 (.seq (.region [⟨some 11,.p (.build [.bool false,.int .i64 (.ofNat 0),.int .i64 (.ofNat 0),.nilslice] [(0,1,(.val (.bool true)))]),none⟩,⟨some 7,.a (.new [.bool false,.int .i64 (.ofNat 0),.int .i64 (.ofNat 0),.nilslice]),none⟩,⟨none,.e (.store 4 (.tmp 7) (.tmp 11)),none⟩] [] [0,1,2,6,7])
 (.seq (.seq (.region [mv 12 0,lb 13 12,mi 14 0] [] [1,2,6,7,12,13,14])
 (.block 0 (.loop (.seq (.region [bt 15 .lss 14 13] [] [1,2,6,7,12,13,14,15])
 (.seq (.cond (.tmp 15) (.skip)
 (.exit 0))
 (.seq (.block 1 (.seq (.region [ix 16 1 12 14,l1 17 16,mv 9 17] [] [1,2,6,7,9,12,13,14])
 (.seq (.region [mv 18 9,mv 19 1,⟨some 20,.e (.call (F 3) [(.tmp 18),(.tmp 19)]),none⟩,⟨some 10,.a (.new [.bool false,.int .i64 (.ofNat 0),.int .i64 (.ofNat 0),.nilslice]),none⟩,⟨none,.e (.store 4 (.tmp 10) (.tmp 20)),none⟩] [] [1,2,6,7,10,12,13,14])
 (.block 2 (.seq (.region [fa 22 0 10,l1 23 22,mv 21 23] [] [1,2,6,7,10,12,13,14,21])
 (.cond (.tmp 21) (.region [fa 24 1 10,l1 25 24,fa 26 1 7,⟨none,.e (.store 1 (.tmp 26) (.tmp 25)),none⟩] [] [1,2,6,7,12,13,14])
 (.seq (.region [fa 28 0 7,l1 29 28,mv 30 29,⟨some 31,.loadn 4 (.tmp 10),(some (30,false))⟩,⟨some 32,.loadn 4 (.tmp 7),(some (30,false))⟩,⟨some 33,.e (.call (F 1) [(.tmp 31),(.tmp 32)]),(some (30,false))⟩,⟨some 34,.p (.mov (.tmp 2)),(some (30,false))⟩,⟨some 35,.p (.bin .mul (.tmp 33) (.tmp 34)),(some (30,false))⟩,⟨some 36,.p (.bin .gtr (.tmp 35) (.val (.int .i64 (.ofNat 0)))),(some (30,false))⟩,⟨some 37,.p (.pick (.tmp 30) (.val (.bool true)) (.tmp 36)),none⟩,mv 27 37] [] [1,2,6,7,10,12,13,14,27])
 (.cond (.tmp 27) (.region [ln 38 4 10,⟨none,.e (.store 4 (.tmp 7) (.tmp 38)),none⟩] [] [1,2,6,7,12,13,14])
 (.skip)))))))))
 (.region [bi 39 .add 14 1,mv 14 39] [] [1,2,6,7,12,13,14])))))))
 (.seq (.region [ln 40 4 7,⟨none,.e (.store 4 (.tmp 6) (.tmp 40)),none⟩] [] [6])
 (.ret))))
def M44 (F : Nat → Nat) : Fun := ⟨41,3,(K44 F).erase,[.celln 4 6]⟩
end Go.Lib
end

section
namespace Go.Lib
open Go.Vm Go.Dv
set_option maxRecDepth 100000
abbrev K26 (F : Nat → Nat) : KC := .region [mv 4 0,mv 5 0,lb 6 5,mv 7 1,⟨some 8,.e (.call (F 27) [(.tmp 4),(.tmp 6),(.tmp 7)]),none⟩] [] []
def M26 (F : Nat → Nat) : Fun := ⟨9,2,(K26 F).erase,[]⟩
abbrev K27 (F : Nat → Nat) : KC := .seq (.region [mi 6 20] [] [0,1,2,6])
 (.seq (.region [mv 10 6,mi 7 0,mv 8 10] [] [0,1,2,6,7,8])
 (.seq (.block 0 (.loop (.seq (.seq (.region [mv 11 8,mv 12 1,bt 13 .leq 11 12] [] [0,1,2,6,7,8,13])
 (.cond (.tmp 13) (.skip)
 (.exit 0)))
 (.block 1 (.seq (.region [mv 14 0,mv 15 7,mv 16 8,mv 17 2,⟨some 18,.e (.call (F 28) [(.tmp 14),(.tmp 15),(.tmp 16),(.tmp 17)]),none⟩] [] [0,1,2,6,8])
 (.seq (.region [mv 19 8,mv 7 19] [] [0,1,2,6,7,8])
 (.region [mv 20 8,mv 21 6,bt 22 .add 20 21,mv 8 22] [] [0,1,2,6,7,8])))))))
 (.seq (.region [mv 23 0,mv 24 7,mv 25 1,mv 26 2,⟨some 27,.e (.call (F 28) [(.tmp 23),(.tmp 24),(.tmp 25),(.tmp 26)]),none⟩] [] [0,1,2,6])
 (.block 2 (.loop (.seq (.seq (.region [mv 28 6,mv 29 1,bt 30 .lss 28 29] [] [0,1,2,6,30])
 (.cond (.tmp 30) (.skip)
 (.exit 2)))
 (.block 3 (.seq (.region [mv 31 6,⟨some 32,.p (.bin .mul (.val (.int .i64 (.ofNat 2))) (.tmp 31)),none⟩,mi 7 0,mv 8 32] [] [0,1,2,6,7,8])
 (.seq (.block 4 (.loop (.seq (.seq (.region [mv 33 8,mv 34 1,bt 35 .leq 33 34] [] [0,1,2,6,7,8,35])
 (.cond (.tmp 35) (.skip)
 (.exit 4)))
 (.block 5 (.seq (.region [mv 36 0,mv 37 7,mv 38 7,mv 39 6,bt 40 .add 38 39,mv 41 8,mv 42 2,⟨some 43,.e (.call (F 29) [(.tmp 36),(.tmp 37),(.tmp 40),(.tmp 41),(.tmp 42)]),none⟩] [] [0,1,2,6,8])
 (.seq (.region [mv 44 8,mv 7 44] [] [0,1,2,6,7,8])
 (.region [mv 45 8,mv 46 6,⟨some 47,.p (.bin .mul (.val (.int .i64 (.ofNat 2))) (.tmp 46)),none⟩,bt 48 .add 45 47,mv 8 48] [] [0,1,2,6,7,8])))))))
 (.seq (.seq (.region [mv 49 7,mv 50 6,bt 51 .add 49 50,mv 9 51] [] [0,1,2,6,7,9])
 (.seq (.region [mv 52 9,mv 53 1,bt 54 .lss 52 53] [] [0,1,2,6,7,9,54])
 (.cond (.tmp 54) (.region [mv 55 0,mv 56 7,mv 57 9,mv 58 1,mv 59 2,⟨some 60,.e (.call (F 29) [(.tmp 55),(.tmp 56),(.tmp 57),(.tmp 58),(.tmp 59)]),none⟩] [] [0,1,2,6])
 (.skip))))
 (.region [mv 61 6,bi 62 .mul 61 2,mv 6 62] [] [0,1,2,6])))))))))))
def M27 (F : Nat → Nat) : Fun := ⟨63,3,(K27 F).erase,[]⟩
abbrev K28 (_F : Nat → Nat) : KC := .seq (.region [mv 10 1,bi 11 .add 10 1,mv 8 11] [] [0,1,2,3,8])
 (.block 0 (.loop (.seq (.seq (.region [mv 12 8,mv 13 2,bt 14 .lss 12 13] [] [0,1,2,3,8,14])
 (.cond (.tmp 14) (.skip)
 (.exit 0)))
 (.seq (.block 1 (.seq (.region [mv 17 8,mv 9 17] [] [0,1,2,3,8,9])
 (.block 2 (.loop (.seq (.seq (.dregion [⟨mv 18 9,0,14⟩,⟨mv 19 1,0,14⟩,⟨bt 20 .gtr 18 19,0,14⟩,⟨mv 21 20,0,14⟩,⟨⟨some 22,.p (.mov (.tmp 3)),(some (21,true))⟩,0,14⟩,⟨⟨some 23,.p (.mov (.tmp 0)),(some (21,true))⟩,0,14⟩,⟨⟨some 24,.p (.mov (.tmp 9)),(some (21,true))⟩,0,14⟩,⟨⟨some 25,.p (.iaddr 1 (.tmp 23) (.tmp 24)),(some (21,true))⟩,0,14⟩,⟨⟨some 26,.load1 (.tmp 25),(some (21,true))⟩,0,14⟩,⟨⟨some 27,.p (.mov (.tmp 0)),(some (21,true))⟩,0,14⟩,⟨⟨some 28,.p (.mov (.tmp 9)),(some (21,true))⟩,0,14⟩,⟨⟨some 29,.p (.bin .sub (.tmp 28) (.val (.int .i64 (.ofNat 1)))),(some (21,true))⟩,0,14⟩,⟨⟨some 30,.p (.iaddr 1 (.tmp 27) (.tmp 29)),(some (21,true))⟩,0,14⟩,⟨⟨some 31,.load1 (.tmp 30),(some (21,true))⟩,0,14⟩,⟨⟨some 32,.e (.callv (.tmp 22) [(.tmp 26),(.tmp 31)]),(some (21,true))⟩,0,17⟩,⟨⟨some 33,.p (.bin .lss (.tmp 32) (.val (.int .i64 (.ofNat 0)))),(some (21,true))⟩,15,17⟩,⟨⟨some 34,.p (.pick (.tmp 21) (.tmp 33) (.val (.bool false))),none⟩,15,17⟩] [0,1,2,3,8,9,34])
 (.cond (.tmp 34) (.skip)
 (.exit 2)))
 (.seq (.block 3 (.dregion [⟨mv 37 0,0,12⟩,⟨mv 38 9,0,12⟩,⟨mv 42 0,0,12⟩,⟨mv 43 9,0,12⟩,⟨bi 44 .sub 43 1,0,12⟩,⟨ix 45 1 42 44,0,12⟩,⟨l1 46 45,0,12⟩,⟨mv 47 0,0,12⟩,⟨mv 48 9,0,12⟩,⟨ix 49 1 47 48,0,12⟩,⟨l1 50 49,0,12⟩,⟨ix 51 1 37 38,0,12⟩,⟨⟨none,.e (.store 1 (.tmp 51) (.tmp 46)),none⟩,0,17⟩,⟨mv 39 0,0,17⟩,⟨mv 40 9,0,17⟩,⟨bi 41 .sub 40 1,0,17⟩,⟨ix 52 1 39 41,13,17⟩,⟨⟨none,.e (.store 1 (.tmp 52) (.tmp 50)),none⟩,13,18⟩] [0,1,2,3,8,9]))
 (.region [mv 35 9,bi 36 .sub 35 1,mv 9 36] [] [0,1,2,3,8,9])))))))
 (.region [mv 15 8,bi 16 .add 15 1,mv 8 16] [] [0,1,2,3,8])))))
def M28 (F : Nat → Nat) : Fun := ⟨53,4,(K28 F).erase,[]⟩
abbrev K29 (F : Nat → Nat) : KC := .seq (.seq (.region [mv 25 2,mv 26 1,bt 27 .sub 25 26,bi 28 .eql 27 1] [] [0,1,2,3,4,28])
 (.cond (.tmp 28) (.seq (.region [mv 29 2,mv 10 29] [] [0,1,3,4,10])
 (.seq (.region [mv 30 3,mv 11 30] [] [0,1,4,10,11])
 (.seq (.block 0 (.loop (.seq (.seq (.region [mv 31 10,mv 32 11,bt 33 .lss 31 32] [] [0,1,4,10,11,33])
 (.cond (.tmp 33) (.skip)
 (.exit 0)))
 (.block 1 (.seq (.region [mv 34 10,mv 35 11,bt 36 .add 34 35,⟨some 37,.p (.conv (.int .u64) (.tmp 36)),none⟩,⟨some 38,.p (.bin .shr (.tmp 37) (.val (.int .u64 (.ofNat 1)))),none⟩,⟨some 39,.p (.conv (.int .i64) (.tmp 38)),none⟩,mv 12 39] [] [0,1,4,10,11,12])
 (.seq (.dregion [⟨mv 40 4,0,9⟩,⟨mv 41 0,0,9⟩,⟨mv 42 12,0,9⟩,⟨ix 43 1 41 42,0,9⟩,⟨l1 44 43,0,9⟩,⟨mv 45 0,0,9⟩,⟨mv 46 1,0,9⟩,⟨ix 47 1 45 46,0,9⟩,⟨l1 48 47,0,9⟩,⟨⟨some 49,.e (.callv (.tmp 40) [(.tmp 44),(.tmp 48)]),none⟩,0,11⟩,⟨bi 50 .lss 49 0,10,11⟩] [0,1,4,10,11,12,50])
 (.cond (.tmp 50) (.region [mv 51 12,bi 52 .add 51 1,mv 10 52] [] [0,1,4,10,11])
 (.region [mv 53 12,mv 11 53] [] [0,1,4,10,11]))))))))
 (.seq (.seq (.region [mv 54 1,mv 13 54] [] [0,10,13])
 (.block 2 (.loop (.seq (.seq (.region [mv 55 13,mv 56 10,bi 57 .sub 56 1,bt 58 .lss 55 57] [] [0,10,13,58])
 (.cond (.tmp 58) (.skip)
 (.exit 2)))
 (.seq (.block 3 (.dregion [⟨mv 61 0,0,12⟩,⟨mv 62 13,0,12⟩,⟨mv 66 0,0,12⟩,⟨mv 67 13,0,12⟩,⟨bi 68 .add 67 1,0,12⟩,⟨ix 69 1 66 68,0,12⟩,⟨l1 70 69,0,12⟩,⟨mv 71 0,0,12⟩,⟨mv 72 13,0,12⟩,⟨ix 73 1 71 72,0,12⟩,⟨l1 74 73,0,12⟩,⟨ix 75 1 61 62,0,12⟩,⟨⟨none,.e (.store 1 (.tmp 75) (.tmp 70)),none⟩,0,17⟩,⟨mv 63 0,0,17⟩,⟨mv 64 13,0,17⟩,⟨bi 65 .add 64 1,0,17⟩,⟨ix 76 1 63 65,13,17⟩,⟨⟨none,.e (.store 1 (.tmp 76) (.tmp 74)),none⟩,13,18⟩] [0,10,13]))
 (.region [mv 59 13,bi 60 .add 59 1,mv 13 60] [] [0,10,13]))))))
 (.ret)))))
 (.skip)))
 (.seq (.seq (.region [mv 77 3,mv 78 2,bt 79 .sub 77 78,bi 80 .eql 79 1] [] [0,1,2,3,4,80])
 (.cond (.tmp 80) (.seq (.region [mv 81 1,mv 14 81] [] [0,2,4,14])
 (.seq (.region [mv 82 2,mv 15 82] [] [0,2,4,14,15])
 (.seq (.block 4 (.loop (.seq (.seq (.region [mv 83 14,mv 84 15,bt 85 .lss 83 84] [] [0,2,4,14,15,85])
 (.cond (.tmp 85) (.skip)
 (.exit 4)))
 (.block 5 (.seq (.region [mv 86 14,mv 87 15,bt 88 .add 86 87,⟨some 89,.p (.conv (.int .u64) (.tmp 88)),none⟩,⟨some 90,.p (.bin .shr (.tmp 89) (.val (.int .u64 (.ofNat 1)))),none⟩,⟨some 91,.p (.conv (.int .i64) (.tmp 90)),none⟩,mv 16 91] [] [0,2,4,14,15,16])
 (.seq (.dregion [⟨mv 92 4,0,9⟩,⟨mv 93 0,0,9⟩,⟨mv 94 2,0,9⟩,⟨ix 95 1 93 94,0,9⟩,⟨l1 96 95,0,9⟩,⟨mv 97 0,0,9⟩,⟨mv 98 16,0,9⟩,⟨ix 99 1 97 98,0,9⟩,⟨l1 100 99,0,9⟩,⟨⟨some 101,.e (.callv (.tmp 92) [(.tmp 96),(.tmp 100)]),none⟩,0,12⟩,⟨bi 102 .lss 101 0,10,12⟩,⟨⟨some 103,.p (.not (.tmp 102)),none⟩,10,12⟩] [0,2,4,14,15,16,103])
 (.cond (.tmp 103) (.region [mv 104 16,bi 105 .add 104 1,mv 14 105] [] [0,2,4,14,15])
 (.region [mv 106 16,mv 15 106] [] [0,2,4,14,15]))))))))
 (.seq (.seq (.region [mv 107 2,mv 17 107] [] [0,14,17])
 (.block 6 (.loop (.seq (.seq (.region [mv 108 17,mv 109 14,bt 110 .gtr 108 109] [] [0,14,17,110])
 (.cond (.tmp 110) (.skip)
 (.exit 6)))
 (.seq (.block 7 (.dregion [⟨mv 113 0,0,12⟩,⟨mv 114 17,0,12⟩,⟨mv 118 0,0,12⟩,⟨mv 119 17,0,12⟩,⟨bi 120 .sub 119 1,0,12⟩,⟨ix 121 1 118 120,0,12⟩,⟨l1 122 121,0,12⟩,⟨mv 123 0,0,12⟩,⟨mv 124 17,0,12⟩,⟨ix 125 1 123 124,0,12⟩,⟨l1 126 125,0,12⟩,⟨ix 127 1 113 114,0,12⟩,⟨⟨none,.e (.store 1 (.tmp 127) (.tmp 122)),none⟩,0,17⟩,⟨mv 115 0,0,17⟩,⟨mv 116 17,0,17⟩,⟨bi 117 .sub 116 1,0,17⟩,⟨ix 128 1 115 117,13,17⟩,⟨⟨none,.e (.store 1 (.tmp 128) (.tmp 126)),none⟩,13,18⟩] [0,14,17]))
 (.region [mv 111 17,bi 112 .sub 111 1,mv 17 112] [] [0,14,17]))))))
 (.ret)))))
 (.skip)))
 (.seq (.region [mv 129 1,mv 130 3,bt 131 .add 129 130,⟨some 132,.p (.conv (.int .u64) (.tmp 131)),none⟩,⟨some 133,.p (.bin .shr (.tmp 132) (.val (.int .u64 (.ofNat 1)))),none⟩,⟨some 134,.p (.conv (.int .i64) (.tmp 133)),none⟩,mv 18 134] [] [0,1,2,3,4,18])
 (.seq (.region [mv 135 18,mv 136 2,bt 137 .add 135 136,mv 19 137] [] [0,1,2,3,4,18,19])
 (.seq (.region [mi 20 0,mi 21 0] [] [0,1,2,3,4,18,19])
 (.seq (.seq (.region [mv 138 2,mv 139 18,bt 140 .gtr 138 139] [] [0,1,2,3,4,18,19,140])
 (.cond (.tmp 140) (.seq (.region [mv 141 19,mv 142 3,bt 143 .sub 141 142,mv 20 143] [] [0,1,2,3,4,18,19,20])
 (.region [mv 144 18,mv 21 144] [] [0,1,2,3,4,18,19,20,21]))
 (.seq (.region [mv 145 1,mv 20 145] [] [0,1,2,3,4,18,19,20])
 (.region [mv 146 2,mv 21 146] [] [0,1,2,3,4,18,19,20,21]))))
 (.seq (.region [mv 147 19,bi 148 .sub 147 1,mv 22 148] [] [0,1,2,3,4,18,19,20,21,22])
 (.seq (.block 8 (.loop (.seq (.seq (.region [mv 149 20,mv 150 21,bt 151 .lss 149 150] [] [0,1,2,3,4,18,19,20,21,22,151])
 (.cond (.tmp 151) (.skip)
 (.exit 8)))
 (.block 9 (.seq (.region [mv 152 20,mv 153 21,bt 154 .add 152 153,⟨some 155,.p (.conv (.int .u64) (.tmp 154)),none⟩,⟨some 156,.p (.bin .shr (.tmp 155) (.val (.int .u64 (.ofNat 1)))),none⟩,⟨some 157,.p (.conv (.int .i64) (.tmp 156)),none⟩,mv 23 157] [] [0,1,2,3,4,18,19,20,21,22,23])
 (.seq (.dregion [⟨mv 158 4,0,11⟩,⟨mv 159 0,0,11⟩,⟨mv 160 22,0,11⟩,⟨mv 161 23,0,11⟩,⟨bt 162 .sub 160 161,0,11⟩,⟨ix 163 1 159 162,0,11⟩,⟨l1 164 163,0,11⟩,⟨mv 165 0,0,11⟩,⟨mv 166 23,0,11⟩,⟨ix 167 1 165 166,0,11⟩,⟨l1 168 167,0,11⟩,⟨⟨some 169,.e (.callv (.tmp 158) [(.tmp 164),(.tmp 168)]),none⟩,0,14⟩,⟨bi 170 .lss 169 0,12,14⟩,⟨⟨some 171,.p (.not (.tmp 170)),none⟩,12,14⟩] [0,1,2,3,4,18,19,20,21,22,23,171])
 (.cond (.tmp 171) (.region [mv 172 23,bi 173 .add 172 1,mv 20 173] [] [0,1,2,3,4,18,19,20,21,22])
 (.region [mv 174 23,mv 21 174] [] [0,1,2,3,4,18,19,20,21,22]))))))))
 (.seq (.region [mv 175 19,mv 176 20,bt 177 .sub 175 176,mv 24 177] [] [0,1,2,3,4,18,20,24])
 (.seq (.seq (.region [mv 178 20,mv 179 2,bt 180 .lss 178 179,mv 181 180,⟨some 182,.p (.mov (.tmp 2)),(some (181,true))⟩,⟨some 183,.p (.mov (.tmp 24)),(some (181,true))⟩,⟨some 184,.p (.bin .lss (.tmp 182) (.tmp 183)),(some (181,true))⟩,⟨some 185,.p (.pick (.tmp 181) (.tmp 184) (.val (.bool false))),none⟩] [] [0,1,2,3,4,18,20,24,185])
 (.cond (.tmp 185) (.region [mv 186 0,mv 187 20,mv 188 2,mv 189 24,mv 190 4,⟨some 191,.e (.call (F 30) [(.tmp 186),(.tmp 187),(.tmp 188),(.tmp 189),(.tmp 190)]),none⟩] [] [0,1,3,4,18,20,24])
 (.skip)))
 (.seq (.seq (.region [mv 192 1,mv 193 20,bt 194 .lss 192 193,mv 195 194,⟨some 196,.p (.mov (.tmp 20)),(some (195,true))⟩,⟨some 197,.p (.mov (.tmp 18)),(some (195,true))⟩,⟨some 198,.p (.bin .lss (.tmp 196) (.tmp 197)),(some (195,true))⟩,⟨some 199,.p (.pick (.tmp 195) (.tmp 198) (.val (.bool false))),none⟩] [] [0,1,3,4,18,20,24,199])
 (.cond (.tmp 199) (.region [mv 200 0,mv 201 1,mv 202 20,mv 203 18,mv 204 4,⟨some 205,.e (.call (F 29) [(.tmp 200),(.tmp 201),(.tmp 202),(.tmp 203),(.tmp 204)]),none⟩] [] [0,3,4,18,24])
 (.skip)))
 (.seq (.region [mv 206 18,mv 207 24,bt 208 .lss 206 207,mv 209 208,⟨some 210,.p (.mov (.tmp 24)),(some (209,true))⟩,⟨some 211,.p (.mov (.tmp 3)),(some (209,true))⟩,⟨some 212,.p (.bin .lss (.tmp 210) (.tmp 211)),(some (209,true))⟩,⟨some 213,.p (.pick (.tmp 209) (.tmp 212) (.val (.bool false))),none⟩] [] [0,3,4,18,24,213])
 (.cond (.tmp 213) (.region [mv 214 0,mv 215 18,mv 216 24,mv 217 3,mv 218 4,⟨some 219,.e (.call (F 29) [(.tmp 214),(.tmp 215),(.tmp 216),(.tmp 217),(.tmp 218)]),none⟩] [] [])
 (.skip)))))))))))))
def M29 (F : Nat → Nat) : Fun := ⟨220,5,(K29 F).erase,[]⟩
abbrev K30 (F : Nat → Nat) : KC := .seq (.region [mv 12 2,mv 13 1,bt 14 .sub 12 13,mv 10 14] [] [0,2,3,4,10])
 (.seq (.region [mv 15 3,mv 16 2,bt 17 .sub 15 16,mv 11 17] [] [0,2,4,10,11])
 (.seq (.block 0 (.loop (.seq (.seq (.region [mv 18 10,mv 19 11,bt 20 .neq 18 19] [] [0,2,4,10,11,20])
 (.cond (.tmp 20) (.skip)
 (.exit 0)))
 (.block 1 (.seq (.region [mv 21 10,mv 22 11,bt 23 .gtr 21 22] [] [0,2,4,10,11,23])
 (.cond (.tmp 23) (.seq (.region [mv 24 0,mv 25 2,mv 26 10,bt 27 .sub 25 26,mv 28 2,mv 29 11,mv 30 4,⟨some 31,.e (.call (F 31) [(.tmp 24),(.tmp 27),(.tmp 28),(.tmp 29),(.tmp 30)]),none⟩] [] [0,2,4,10,11])
 (.region [mv 32 10,mv 33 11,bt 34 .sub 32 33,mv 10 34] [] [0,2,4,10,11]))
 (.seq (.region [mv 35 0,mv 36 2,mv 37 10,bt 38 .sub 36 37,mv 39 2,mv 40 11,bt 41 .add 39 40,mv 42 10,bt 43 .sub 41 42,mv 44 10,mv 45 4,⟨some 46,.e (.call (F 31) [(.tmp 35),(.tmp 38),(.tmp 43),(.tmp 44),(.tmp 45)]),none⟩] [] [0,2,4,10,11])
 (.region [mv 47 11,mv 48 10,bt 49 .sub 47 48,mv 11 49] [] [0,2,4,10,11]))))))))
 (.region [mv 50 0,mv 51 2,mv 52 10,bt 53 .sub 51 52,mv 54 2,mv 55 10,mv 56 4,⟨some 57,.e (.call (F 31) [(.tmp 50),(.tmp 53),(.tmp 54),(.tmp 55),(.tmp 56)]),none⟩] [] [])))
def M30 (F : Nat → Nat) : Fun := ⟨58,5,(K30 F).erase,[]⟩
abbrev K31 (_F : Nat → Nat) : KC := .seq (.region [mi 10 0] [] [0,1,2,3,10])
 (.block 0 (.loop (.seq (.seq (.region [mv 11 10,mv 12 3,bt 13 .lss 11 12] [] [0,1,2,3,10,13])
 (.cond (.tmp 13) (.skip)
 (.exit 0)))
 (.seq (.block 1 (.dregion [⟨mv 16 0,0,17⟩,⟨mv 17 1,0,17⟩,⟨mv 18 10,0,17⟩,⟨bt 19 .add 17 18,0,17⟩,⟨mv 24 0,0,17⟩,⟨mv 25 2,0,17⟩,⟨mv 26 10,0,17⟩,⟨bt 27 .add 25 26,0,17⟩,⟨ix 28 1 24 27,0,17⟩,⟨l1 29 28,0,17⟩,⟨mv 30 0,0,17⟩,⟨mv 31 1,0,17⟩,⟨mv 32 10,0,17⟩,⟨bt 33 .add 31 32,0,17⟩,⟨ix 34 1 30 33,0,17⟩,⟨l1 35 34,0,17⟩,⟨ix 36 1 16 19,0,17⟩,⟨⟨none,.e (.store 1 (.tmp 36) (.tmp 29)),none⟩,0,23⟩,⟨mv 20 0,0,23⟩,⟨mv 21 2,0,23⟩,⟨mv 22 10,0,23⟩,⟨bt 23 .add 21 22,0,23⟩,⟨ix 37 1 20 23,18,23⟩,⟨⟨none,.e (.store 1 (.tmp 37) (.tmp 35)),none⟩,18,24⟩] [0,1,2,3,10]))
 (.region [mv 14 10,bi 15 .add 14 1,mv 10 15] [] [0,1,2,3,10])))))
def M31 (F : Nat → Nat) : Fun := ⟨38,5,(K31 F).erase,[]⟩
end Go.Lib
end

section
namespace Go.Srt
variable {α : Type}
def Srt (cmp : α → α → Int) (L : List α) (a b : Nat) : Prop := ∀ p q x y, a ≤ p → p < q → q < b → L[p]? = some x → L[q]? = some y → ¬ cmp y x < 0
structure Mix (L L' : List α) (a b : Nat) : Prop where
 perm : L'.Perm L
 out : ∀ k, k < a ∨ b ≤ k → L'[k]? = L[k]?
theorem Mix.refl {L : List α} {a b : Nat} : Mix L L a b := ⟨.refl _, fun _ _ => rfl⟩
theorem Mix.trans {L L1 L2 : List α} {a b : Nat} (x : Mix L L1 a b) (y : Mix L1 L2 a b) : Mix L L2 a b := ⟨y.perm.trans x.perm, fun k hk => (y.out k hk).trans (x.out k hk)⟩
theorem Srt.mono {cmp : α → α → Int} {L : List α} {a b a' b' : Nat} (h : Srt cmp L a b) (ha : a ≤ a') (hb : b' ≤ b) : Srt cmp L a' b' :=
 fun p q x y h1 h2 h3 => h p q x y (by omega) h2 (by omega)
def Parted (cmp : α → α → Int) (L : List α) (a m b : Nat) : Prop := ∀ p q x y, a ≤ p → p < m → m ≤ q → q < b → L[p]? = some x → L[q]? = some y → ¬ cmp y x < 0
theorem parts (M : List α) {a b : Nat} (h : a ≤ b) : M = M.take a ++ ((M.take b).drop a ++ M.drop b) := by
 rw [← List.append_assoc]
 have : M.take a ++ (M.take b).drop a = M.take b := by
  have := List.take_append_drop a (M.take b)
  rwa [List.take_take, Nat.min_eq_left h] at this
 rw [this, List.take_append_drop]
theorem Mix.src {L L' : List α} {a b k : Nat} {v : α} (hm : Mix L L' a b) (h1 : a ≤ k) (h2 : k < b) (hv : L'[k]? = some v) : ∃ k', a ≤ k' ∧ k' < b ∧ L[k']? = some v := by
 have ht : L'.take a = L.take a := List.ext_getElem? fun i => by
  rw [List.getElem?_take, List.getElem?_take];split
  ·exact hm.out i (by omega)
  ·rfl
 have hd : L'.drop b = L.drop b := List.ext_getElem? fun i => by
  rw [List.getElem?_drop, List.getElem?_drop];exact hm.out _ (by omega)
 have hp := hm.perm;rw [parts L' (show a ≤ b by omega), parts L (show a ≤ b by omega), ht, hd] at hp;have hp := (List.perm_append_right_iff _).1 ((List.perm_append_left_iff _).1 hp)
 have hmem : v ∈ (L'.take b).drop a := by
  refine List.mem_of_getElem? (i := k - a) ?_;rw [List.getElem?_drop, List.getElem?_take, if_pos (by omega), show a + (k - a) = k by omega];exact hv
 obtain ⟨i, hi⟩ := List.getElem?_of_mem (hp.mem_iff.1 hmem);rw [List.getElem?_drop, List.getElem?_take] at hi;split at hi
 ·exact ⟨a + i, by omega, by omega, hi⟩
 ·cases hi
end Go.Srt
end

section
set_option maxRecDepth 10000
namespace Go.Lib
open Go.Vm Go.Dv Go.Srt
variable {p : Prog} {ext : Ext} {F : Nat → Nat} {α : Type}
structure HSrt (p : Prog) (ext : Ext) (F : Nat → Nat) : Prop where
 h26 : Has p ext F 26 M26
 h27 : Has p ext F 27 M27
 h28 : Has p ext F 28 M28
 h29 : Has p ext F 29 M29
 h30 : Has p ext F 30 M30
 h31 : Has p ext F 31 M31
structure Enc (α : Type) where
 d : α → D
 flat : ∀ x, flatD (d x) = true
 cells : ∀ x, cellsD (d x) = some [d x]
attribute [simp] Enc.flat Enc.cells
def hp (E : Enc α) (H : HpD) (bs : Nat) (L : List α) : HpD := H.put bs (.cells (L.map E.d) false)
theorem hp_blk {E : Enc α} {H : HpD} {bs : Nat} {L : List α} : (hp E H bs L).blk bs = .cells (L.map E.d) false := by simp [hp]
theorem put_put {H : HpD} {bs : Nat} {x y : BD} : (H.put bs x).put bs y = H.put bs y := by
 simp only [HpD.put]
 congr 1
 funext c
 by_cases h : c = bs <;> simp [h]
theorem hp_put {E : Enc α} {H : HpD} {bs : Nat} {L : List α} {l : List D} : (hp E H bs L).put bs (.cells l false) = H.put bs (.cells l false) := by
 simp only [hp, HpD.put]
 congr 1
 funext c
 by_cases h : c = bs <;> simp [h]
theorem hp_next {E : Enc α} {H : HpD} {bs : Nat} {L : List α} : (hp E H bs L).next = H.next := rfl
attribute [simp] hp_blk hp_next hp_put put_put
structure Cmp (p : Prog) (ext : Ext) (E : Enc α) (D : α → Prop) (cv : Dv.D) (cmp : α → α → Int) : Prop where
 fn : ∃ g a c, cv = .func g a c ∧ ∀ x y, D x → D y → FnD p ext g (a ++ E.d x :: E.d y :: c) (.lit (.int .i64 (cmp x y)))
 anti : ∀ x y, D x → D y → cmp x y < 0 → ¬ cmp y x < 0
 trans : ∀ x y z, D x → D y → D z → ¬ cmp y x < 0 → ¬ cmp z y < 0 → ¬ cmp z x < 0
structure Sym4 (cmp : α → α → Int) (Y : List α) (a s md e b : Nat) : Prop where
 s1 : Srt cmp Y a s
 s2 : Srt cmp Y s md
 s3 : Srt cmp Y md e
 s4 : Srt cmp Y e b
 part : Parted cmp Y a md b
theorem Mix.wide {Y Z : List α} {a b c d : Nat} (h : Mix Y Z c d) (h1 : a ≤ c) (h2 : d ≤ b) : Mix Y Z a b := ⟨h.perm, fun k hk => h.out k (by omega)⟩
end Go.Lib
end

section
set_option maxRecDepth 10000
namespace Go.Lib
open Go.Vm Go.Dv Go.Srt
variable {p : Prog} {ext : Ext} {F : Nat → Nat} {α : Type}
def Blk (cmp : α → α → Int) (Y : List α) (z lo n : Nat) : Prop := ∀ a, lo ≤ a → z ∣ a → Srt cmp Y a (min (a + z) n)
end Go.Lib
end

section
set_option maxRecDepth 10000
namespace Go.Lib
open Go.Vm Go.Dv Go.Srt
variable {p : Prog} {ext : Ext} {F : Nat → Nat}
structure HAggr (p : Prog) (ext : Ext) (F : Nat → Nat) : Prop where
 srt : HSrt p ext F
 schm : HSchmC p ext F
 h32 : Has p ext F 32 M32
 h33 : Has p ext F 33 M33
 h34 : Has p ext F 34 M34
 h35 : Has p ext F 35 M35
 h36 : Has p ext F 36 M36
 h37 : Has p ext F 37 M37
 h38 : Has p ext F 38 M38
 h39 : Has p ext F 39 M39
 h40 : Has p ext F 40 M40
 h41 : Has p ext F 41 M41
 h42 : Has p ext F 42 M42
 h43 : Has p ext F 43 M43
 h44 : Has p ext F 44 M44
theorem slc_own {sz b n : Nat} {ex : Bool} : slcD sz (.slice b 0 sz n n ex) none (some (.lit (.int .i64 (n : Int)))) (some (.lit (.int .i64 (n : Int)))) = some (.slice b 0 sz n n true) := by
 simp [slcD, bndD, slcV, sliceO, needH, boundM, boundH, boundL, ble_d]
theorem slc_nil {sz : Nat} : slcD sz (.lit .nilslice) none (some (.lit (.int .i64 0))) (some (.lit (.int .i64 0))) = some (.lit .nilslice) := rfl
def Fine (l : List Row) : Prop := l.length < 1000000 ∧ ∀ r, r ∈ l → r.length < 1000000
end Go.Lib
end

section
set_option maxRecDepth 10000
namespace Go.Lib
open Go.Vm Go.Dv
variable {p : Prog} {ext : Ext} {F : Nat → Nat}
theorem max2_int {tab : Tab} {a b : Int} : foldD (max2V tab) [.lit (.int .i64 a), .lit (.int .i64 b)] = some (.lit (.int .i64 (max a b))) := by
 show litO (some (V.int .i64 (cond (ilt a b) b a))) = _;rw [ilt_d]
 by_cases h : a < b
 ·simp only [h, decide_true, cond_true, litO_int]; rw [Int.max_def, if_pos (by omega)]
 ·simp only [h, decide_false, cond_false, litO_int];rw [Int.max_def]; split
  ·rw [show a = b by omega]
  ·rfl
theorem min2_int {tab : Tab} {a b : Int} : foldD (min2V tab) [.lit (.int .i64 a), .lit (.int .i64 b)] = some (.lit (.int .i64 (min a b))) := by
 show litO (some (V.int .i64 (cond (ilt b a) b a))) = _;rw [ilt_d]
 by_cases h : b < a
 ·simp only [h, decide_true, cond_true, litO_int];rw [Int.min_def, if_neg (by omega)]
 ·simp only [h, decide_false, cond_false, litO_int];rw [Int.min_def, if_pos (by omega)]
attribute [simp] max2_int min2_int
end Go.Lib
end

section
set_option maxRecDepth 10000
namespace Go.Lib
open Go.Vm Go.Dv Go.Srt
variable {p : Prog} {ext : Ext} {F : Nat → Nat}
def In64 (n : Int) : Prop := -9223372036854775808 ≤ n ∧ n < 9223372036854775808
def term (c : Int) (r : Row) : Int := if (atV r c).null = true then 0 else (atV r c).n
def sumT (c : Int) (l : List Row) : Int := (l.map (term c)).sum
def Nums (c : Int) (l : List Row) : Prop := ∀ r, r ∈ l → In64 (atV r c).n
theorem Nums.take {c : Int} {l : List Row} (h : Nums c l) (i : Nat) : Nums c (l.take i) := fun r hr => h r (List.mem_of_mem_take hr)
instance {n : Int} : Decidable (In64 n) := by unfold In64; exact inferInstance
def numV (n : Int) : Vl := ⟨false, 1, n, [], by simp⟩
def sumV (c : Int) (l : List Row) : Vl × Bool := if In64 (sumT c l) then (numV (sumT c l), true) else (zv, false)
end Go.Lib
end

section
set_option maxRecDepth 10000
namespace Go.Lib
open Go.Vm Go.Dv Go.Srt
variable {p : Prog} {ext : Ext} {F : Nat → Nat}
def setKind (v : Vl) (k : Int) : Vl := ⟨v.null, k, v.n, v.bytes, v.small⟩
def endS (sg : Int) (out v : Vl) : Vl := if v.null = true then setKind out v.kind else if out.null = true ∨ 0 < cmpV v out * sg then v else out
def nullV : Vl := ⟨true, 0, 0, [], by simp⟩
def endF (c sg : Int) (l : List Row) : Vl := (l.map fun r => atV r c).foldl (endS sg) nullV
end Go.Lib
end

section
set_option maxRecDepth 10000
namespace Go.Lib
open Go.Vm Go.Dv Go.Srt
variable {p : Prog} {ext : Ext} {F : Nat → Nat}
structure Ag where
 kind : Int
 col : Int
def Ag.c (a : Ag) : List D := [.lit (.int .i64 a.kind), .lit (.int .i64 a.col)]
def agsE (l : List Ag) : List (List D) := l.map Ag.c
def agsD (l : List Ag) : D := .row 2 .p (agsE l)
theorem ags_len {l : List Ag} : (agsE l).length = l.length := by simp [agsE]
theorem lenb_ags {l : List Ag} : lenbD (agsD l) = some (.lit (.int .i64 (l.length : Int))) := by simp [agsD, ags_len]
theorem at_ags {l : List Ag} {n : Nat} : atO 2 (agsD l) (some n) = elemD (l[n]?.map Ag.c) := by simp [agsD, agsE]
theorem ag_len {a : Ag} : a.c.length = 2 := rfl
theorem ag_flats {a : Ag} : flatsD a.c = true := rfl
theorem ag_take {a : Ag} : a.c.take 2 = a.c := rfl
theorem ag_drop {a : Ag} : a.c.drop 2 = [] := rfl
attribute [simp] ags_len lenb_ags at_ags ag_len ag_flats ag_take ag_drop
def oneF (l : List Row) (a : Ag) : Vl × Bool :=
 if a.kind = 1 then (numV l.length, true) else if a.kind = 2 then sumV a.col l else if a.kind = 3 then (endF a.col (-1) l, true) else (endF a.col 1 l, true)
def AgOk (l : List Row) (a : Ag) : Prop := a.kind = 2 → Nums a.col l
def vals (l : List Row) (ags : List Ag) : Row := ags.map fun a => (oneF l a).1
end Go.Lib
end

section
set_option maxRecDepth 10000
namespace Go.Lib
open Go.Vm Go.Dv Go.Srt
variable {p : Prog} {ext : Ext} {F : Nat → Nat}
end Go.Lib
end

section
set_option maxRecDepth 10000
namespace Go.Lib
open Go.Vm Go.Dv Go.Srt
def cs2 : List Ag := [⟨1, 0⟩, ⟨2, 0⟩]
def grow (x : Vl × Nat × Int) : Row := [x.1, numV x.2.1, numV x.2.2]
def cS (T : List (Vl × Nat × Int)) (i : Nat) : Nat := ((T.take i).map fun x => x.2.1).sum
end Go.Lib
end

section
set_option maxRecDepth 10000
namespace Go.Lib
open Go.Vm Go.Dv Go.Srt
structure Vl.Good (v : Vl) : Prop where
 nul : v.null = true → v.n = 0 ∧ v.bytes = []
 kd : (v.kind = 1 ∧ v.bytes = []) ∨ (v.kind = 2 ∧ v.n = 0)
 int : In64 v.n
structure GoodR (ks : List Int) (r : Row) : Prop where
 kin : Kin ks r
 good : ∀ v, v ∈ r → v.Good
section
variable {α : Type} {G : α → Prop} {cmp : α → α → Int}
end
def GoodRs (ks : List Int) (l : List Row) : Prop := ∀ r, r ∈ l → GoodR ks r
def InK (ks : List Int) (c : Int) : Prop := 0 ≤ c ∧ c < ks.length
theorem atV_mem {r : Row} {c : Int} (h0 : 0 ≤ c) (h : c < r.length) : atV r c ∈ r ∧ r[c.toNat]? = some (atV r c) := by
 have hl : c.toNat < r.length := (by omega);rw [atV, if_neg (by omega)];simp [hl]
theorem GoodR.at_ {ks : List Int} {r : Row} {c : Int} (h : GoodR ks r) (hc : InK ks c) : (atV r c).kind = (ks[c.toNat]?).getD 0 ∧ (atV r c).Good := by
 have hk := h.kin;unfold Kin at hk;have hl : r.length = ks.length := (by rw [← hk]; simp);obtain ⟨h1, h2⟩ := atV_mem (r := r) hc.1 (by have := hc.2; omega);refine ⟨?_, h.good _ h1⟩;rw [← hk, List.getElem?_map, h2]; rfl
end Go.Lib
end

section
set_option maxRecDepth 10000
namespace Go.Lib
open Go.Vm Go.Dv Go.Srt
variable {p : Prog} {ext : Ext} {F : Nat → Nat}
end Go.Lib
end

section
set_option maxRecDepth 10000
namespace Go.Lib
open Go.Vm Go.Dv Go.Srt
variable {p : Prog} {ext : Ext} {F : Nat → Nat}
end Go.Lib
end

section
set_option maxRecDepth 10000
namespace Go.Lib
open Go.Vm Go.Dv Go.Srt
variable {p : Prog} {ext : Ext} {F : Nat → Nat}
structure Sx where
 col : Int
 add : Bool
 v : Vl
def Sx.c (x : Sx) : List D := .lit (.int .i64 x.col) :: .lit (.bool x.add) :: x.v.c
def sxsE (l : List Sx) : List (List D) := l.map Sx.c
def sxsD (l : List Sx) : D := .row 6 .p (sxsE l)
theorem sxs_len {l : List Sx} : (sxsE l).length = l.length := by simp [sxsE]
theorem lenb_sxs {l : List Sx} : lenbD (sxsD l) = some (.lit (.int .i64 (l.length : Int))) := by simp [sxsD, sxs_len]
theorem at_sxs {l : List Sx} {n : Nat} : atO 6 (sxsD l) (some n) = elemD (l[n]?.map Sx.c) := by simp [sxsD, sxsE]
theorem sx_len {a : Sx} : a.c.length = 6 := rfl
theorem sx_flats {a : Sx} : flatsD a.c = true := rfl
theorem sx_take {a : Sx} : a.c.take 6 = a.c := rfl
theorem sx_drop {a : Sx} : a.c.drop 6 = [] := rfl
theorem sx_0 {a : Sx} : a.c[0]? = some (.lit (.int .i64 a.col)) := rfl
theorem sx_1 {a : Sx} : a.c[1]? = some (.lit (.bool a.add)) := rfl
theorem sx_4 {a : Sx} : a.c[4]? = some (.lit (.int .i64 a.v.n)) := rfl
theorem sx_v {a : Sx} : (a.c.drop 2).take 4 = a.v.c := rfl
theorem sx_unders {n : Nat} {a : Sx} : D.unders n a.c := by simp [Sx.c]
attribute [simp] sxs_len lenb_sxs at_sxs sx_len sx_flats sx_take sx_drop sx_0 sx_1 sx_4 sx_v sx_unders
def withN (v : Vl) (n : Int) : Vl := ⟨v.null, v.kind, n, v.bytes, v.small⟩
def setS (r : Row) (x : Sx) : Option Row :=
 if x.col < 0 ∨ (r.length : Int) ≤ x.col then some r else
 if x.add = false then some (r.set x.col.toNat x.v) else
 if (atV r x.col).null = true then some r else
 if In64 ((atV r x.col).n + x.v.n) then some (r.set x.col.toNat (withN (atV r x.col) ((atV r x.col).n + x.v.n))) else none
def setF : Row → List Sx → Option Row
 | r, [] => some r
 | r, x :: l => match setS r x with
  | some r' => setF r' l
  | none => none
def setD (o : Option Row) : D := .tup [rowD (o.getD []), .lit (.bool o.isSome)]
end Go.Lib
end

section
set_option maxRecDepth 10000
namespace Go.Lib
open Go.Vm Go.Dv Go.Srt
variable {p : Prog} {ext : Ext} {F : Nat → Nat}
end Go.Lib
end

section
set_option maxRecDepth 10000
namespace Go.Lib
open Go.Vm Go.Dv
variable {p : Prog} {ext : Ext} {F : Nat → Nat}
structure Sp where
 bt : Int
 ba : Int
 et : Int
 ea : Int
deriving DecidableEq
def Sp.c (s : Sp) : List D := [.lit (.int .i64 s.bt), .lit (.int .i64 s.ba), .lit (.int .i64 s.et), .lit (.int .i64 s.ea)]
structure Ver where
 id : Int
 row : Row
 sp : Sp
 small : row.length < 1000000
def Ver.c (v : Ver) : List D := [.lit (.int .i64 v.id), rowD v.row, .lit (.int .i64 v.sp.bt), .lit (.int .i64 v.sp.ba), .lit (.int .i64 v.sp.et), .lit (.int .i64 v.sp.ea)]
def zVer : Ver := ⟨0, [], ⟨0, 0, 0, 0⟩, by simp⟩
theorem sp_len {s : Sp} : s.c.length = 4 := rfl
theorem sp_take {s : Sp} : s.c.take 4 = s.c := rfl
theorem sp_flats {s : Sp} : flatsD s.c = true := rfl
theorem ver_len {v : Ver} : v.c.length = 6 := rfl
theorem ver_take {v : Ver} : v.c.take 6 = v.c := rfl
theorem ver_drop {v : Ver} : v.c.drop 6 = [] := rfl
theorem ver_flats {v : Ver} : flatsD v.c = true := rfl
theorem ver_unders {n : Nat} {v : Ver} : D.unders n v.c := by simp [Ver.c]
theorem ver_0 {v : Ver} : v.c[0]? = some (.lit (.int .i64 v.id)) := rfl
theorem ver_1 {v : Ver} : v.c[1]? = some (rowD v.row) := rfl
theorem ver_set1 {v : Ver} : spliceD v.c 1 [rowD v.row] = v.c := rfl
theorem ver_sp {v : Ver} : (v.c.drop 2).take 4 = v.sp.c := rfl
theorem zver_le : D.le (.agg [.lit (.int .i64 0), .lit .nilslice, .lit (.int .i64 0), .lit (.int .i64 0), .lit (.int .i64 0), .lit (.int .i64 0)]) (.agg zVer.c) := by
 simp [Ver.c, zVer, rowD, rowE, D.le]
attribute [simp] sp_len sp_take sp_flats ver_len ver_take ver_drop ver_flats ver_unders ver_0 ver_1 ver_set1 ver_sp
abbrev Sto := List Ver
def stoD (l : Sto) : List (V × D) := l.map fun v => (.int .i64 v.id, .agg v.c)
def findV (l : Sto) (id : Int) : Option Ver := l.find? fun v => decide (v.id = id)
def putV (v : Ver) : Sto → Sto
 | [] => [v]
 | x :: r => if x.id = v.id then v :: r else x :: putV v r
def delV (id : Int) : Sto → Sto
 | [] => []
 | x :: r => if x.id = id then r else x :: delV id r
theorem same_int {k : IntKind} {a b : Int} : V.same (.int k a) (.int k b) = decide (a = b) := by
 rw [Bool.eq_iff_iff, decide_eq_true_iff];simp only [V.same, keq_self, cond_true, ieq_iff]
theorem mapFind_sto {id : Int} : ∀ {l : Sto}, mapFindD (.int .i64 id) (stoD l) = (findV l id).map fun v => .agg v.c
 | [] => rfl
 | x :: r => by
  have ih := mapFind_sto (id := id) (l := r);simp only [stoD, findV, List.map_cons, mapFindD, List.find?_cons, same_int] at ih ⊢
  by_cases h : x.id = id <;> simp [h, ih]
theorem mapSet_sto {v : Ver} {id : Int} (h : id = v.id) : ∀ {l : Sto}, mapSetD (.int .i64 id) (.agg v.c) (stoD l) = stoD (putV v l)
 | [] => by subst h; rfl
 | x :: r => by
  have ih := mapSet_sto (v := v) h (l := r);subst h;simp only [stoD, putV, List.map_cons, mapSetD, same_int] at ih ⊢
  by_cases h : x.id = v.id <;> simp [h, ih]
theorem mapDel_sto {id : Int} : ∀ {l : Sto}, mapDelD (.int .i64 id) (stoD l) = stoD (delV id l)
 | [] => rfl
 | x :: r => by
  have ih := mapDel_sto (id := id) (l := r);simp only [stoD, delV, List.map_cons, mapDelD, same_int] at ih ⊢
  by_cases h : x.id = id <;> simp [h, ih]
theorem sto_len {l : Sto} : (stoD l).length = l.length := by simp [stoD]
theorem sto_under {n : Nat} {kk : Option IntKind} {l : Sto} : (BD.map kk (stoD l)).under n := by
 intro k d hm;simp only [stoD, List.mem_map] at hm;obtain ⟨v, _, e⟩ := hm;cases e;simp [D.under]
structure StoAt (H : HpD) (bd bm : Nat) (most : Int) (l : Sto) : Prop where
 d : H.blk bd = .cells [.lit (.int .i64 most), .map bm] false
 m : H.blk bm = .map (some .i64) (stoD l)
 ld : bd < H.next
 lm : bm < H.next
section
variable {H : HpD} {b : Nat} {l : Sto} {id : Int} {z : V} {zd k d : D} {sk ok : Bool}
theorem lookupD_map : lookupD H sk z ok (.map b) k = withH H (lookupB sk z ok (H.blk b) k) := rfl
theorem withH_some : withH H (some d) = some (d, H) := rfl
theorem mapputD_map : mapputD H sk (.map b) k d = tupO (putO' H b (mapputB sk (H.blk b) k d)) := rfl
theorem mapdelD_map : mapdelD H sk (.map b) k = tupO (putO' H b (mapdelB sk (H.blk b) k)) := rfl
theorem lenmD_map : lenmD H (.map b) = withH H (lenmB (H.blk b)) := rfl
theorem keyIs_i {n : Int} : keyIs false (some .i64) (.int .i64 n) = true := rfl
theorem look_sto : lookupB false z true (.map (some .i64) (stoD l)) (.lit (.int .i64 id)) = some (foundD true (dV z) ((findV l id).map fun v => .agg v.c)) := by
 simp only [lookupB, keyIs_i, cond_true, mapFind_sto]
theorem found_some : foundD true zd (some d) = .tup [d, .lit (.bool true)] := rfl
theorem found_none : foundD true zd none = .tup [zd, .lit (.bool false)] := rfl
theorem put_sto {v : Ver} (h : id = v.id) : mapputB false (.map (some .i64) (stoD l)) (.lit (.int .i64 id)) (.agg v.c) = some (.map (some .i64) (stoD (putV v l))) := by
 simp only [mapputB, keyIs_i, cond_true, mapSet_sto h]
theorem del_sto : mapdelB false (.map (some .i64) (stoD l)) (.lit (.int .i64 id)) = some (.map (some .i64) (stoD (delV id l))) := by
 simp only [mapdelB, keyIs_i, cond_true, mapDel_sto]
theorem lenm_sto : lenmB (.map (some .i64) (stoD l)) = some (.lit (.int .i64 (l.length : Int))) := by
 simp only [lenmB, sto_len]
attribute [simp] lookupD_map withH_some mapputD_map mapdelD_map lenmD_map look_sto found_some found_none del_sto lenm_sto
end
structure HDelt (p : Prog) (ext : Ext) (F : Nat → Nat) : Prop where
 schm : HSchmR p ext F
 h315 : Has p ext F 315 M315
 h316 : Has p ext F 316 M316
 h318 : Has p ext F 318 M318
 h320 : Has p ext F 320 M320
 h321 : Has p ext F 321 M321
 h327 : Has p ext F 327 M327
theorem delt_still (L : HDelt p ext F) {v : Ver} : FnD p ext (F 327) [.agg v.c] (.agg v.c) := by
 refine fn_of L.h327 (M := M327) rfl ok327 rfl fun H => sem_run 9000 _ ?_;simp;refine sf (schm_row L.schm v.small) ?_;simp;refine sem_ret ?_;simp [M327];exact .le sR (D.le_refl _) (by simp)
theorem delt_get (L : HDelt p ext F) {bd bm : Nat} {most id : Int} {l : Sto} {H : HpD} (h : StoAt H bd bm most l) : Td p ext (F 318) [.ptr bd 0, .lit (.int .i64 id)] H (.tup [.agg ((findV l id).getD zVer).c, .lit (.bool (findV l id).isSome)]) H := by
 refine td_of L.h318 (M := M318) rfl ok318 rfl (Nat.le_refl _) (fun h => h) (sem_run 9000 _ ?_);simp [h.d, h.m, ltn h.ld, ltn h.lm]
 cases e : findV l id with
 | none =>
  simp [dV, dVs];refine sem_fn (delt_still L (v := zVer)) (by simp [D.les, zver_le]) (sem_run 9000 _ ?_);simp;refine sem_ret ?_;simp [M318];exact .le sR (D.le_refl _) (by simp)
 | some v =>
  simp;refine sf (delt_still L (v := v)) ?_;simp;refine sem_ret ?_;simp [M318];exact .le sR (D.le_refl _) (by simp)
theorem delt_drop (L : HDelt p ext F) {bd bm : Nat} {most id : Int} {l : Sto} {H : HpD} (h : StoAt H bd bm most l) : Td p ext (F 321) [.ptr bd 0, .lit (.int .i64 id)] H (.lit (.bool (findV l id).isSome)) (H.put bm (.map (some .i64) (stoD (delV id l)))) := by
 refine td_of L.h321 (M := M321) rfl ok321 rfl ?_ ?_ (sem_run 9000 _ ?_)
 ·simp
 ·exact fun n => n.put h.lm sto_under
 simp [h.d, h.m]
 cases e : findV l id with
 | none =>
  simp [dV, dVs, h.d, h.m, ltn h.ld, ltn h.lm];refine sem_ret ?_;simp [M321];have := h.lm;exact .le sW (D.le_refl _) (by simp)
 | some v =>
  simp [h.d, h.m, ltn h.ld, ltn h.lm];refine sem_ret ?_;simp [M321];have := h.lm;exact .le sW (D.le_refl _) (by simp)
def Ver.withSp (v : Ver) (s : Sp) : Ver := ⟨v.id, v.row, s, v.small⟩
theorem ver_setSp {v : Ver} {s : Sp} : spliceD v.c 2 s.c = (v.withSp s).c := rfl
def setSp (l : Sto) (id : Int) (s : Sp) : Sto := match findV l id with
 | some v => putV (v.withSp s) l
 | none => l
theorem findV_id {l : Sto} {id : Int} {v : Ver} (h : findV l id = some v) : v.id = id := by
 have := List.find?_some h;simpa using this
theorem delt_set (L : HDelt p ext F) {bd bm : Nat} {most id : Int} {l : Sto} {s : Sp} {H : HpD} (h : StoAt H bd bm most l) : Td p ext (F 320) [.ptr bd 0, .lit (.int .i64 id), .agg s.c] H (.lit (.bool (findV l id).isSome)) (H.put bm (.map (some .i64) (stoD (setSp l id s)))) := by
 refine td_of L.h320 (M := M320) rfl ok320 rfl ?_ ?_ (sem_run 9000 _ ?_)
 ·simp
 ·exact fun n => n.put h.lm sto_under
 simp [h.d, h.m]
 cases e : findV l id with
 | none =>
  simp [dV, dVs];refine sem_ret ?_;simp [M320];have hx : setSp l id s = l := (by unfold setSp; rw [e]);rw [hx];exact .le (Sub.same sW h.m) (D.le_refl _) (by simp)
 | some v =>
  have hv := findV_id e;have hp := put_sto (l := l) (v := v.withSp s) (id := id) hv.symm;simp [h.d, h.m, ltn h.ld, ltn h.lm, ver_setSp, hp];refine sem_ret ?_;simp [M320];have hx : setSp l id s = putV (v.withSp s) l := (by unfold setSp; rw [e]);rw [hx];have := h.lm;exact .le sW (D.le_refl _) (by simp)
theorem delt_add (L : HDelt p ext F) {bd bm : Nat} {most : Int} {v : Ver} {l : Sto} {H : HpD} (h : StoAt H bd bm most l) (hn : findV l v.id = none) (hl : (l.length : Int) < most) : Td p ext (F 316) [.ptr bd 0, .agg v.c] H (.lit (.bool true)) (H.put bm (.map (some .i64) (stoD (putV v l)))) := by
 refine td_of L.h316 (M := M316) rfl ok316 rfl ?_ ?_ (sem_run 9000 _ ?_)
 ·simp
 ·exact fun n => n.put h.lm sto_under
 have hp := put_sto (l := l) (v := v) (id := v.id) rfl;have hl' : ¬ most ≤ (l.length : Int) := (by omega);simp [h.d, h.m, ltn h.ld, ltn h.lm, hn, dV, dVs, hl'];refine sem_dfn (delt_still L (v := v)) (by first | exact D.les_refl _ | simp) (sem_run 9000 _ ?_);simp [h.d, h.m, ltn h.ld, ltn h.lm, hp];refine sem_ret ?_;simp [M316];have := h.lm;exact .le sW (D.le_refl _) (by simp)
theorem delt_full (L : HDelt p ext F) {bd bm : Nat} {most : Int} {v : Ver} {l : Sto} {H : HpD} (h : StoAt H bd bm most l) (hn : findV l v.id = none) (hl : ¬ (l.length : Int) < most) : Td p ext (F 316) [.ptr bd 0, .agg v.c] H (.lit (.bool false)) H := by
 refine td_of L.h316 (M := M316) rfl ok316 rfl (Nat.le_refl _) (fun h => h) (sem_run 9000 _ ?_);simp [h.d, h.m, ltn h.ld, ltn h.lm, hn, dV, dVs];have hl' : most ≤ (l.length : Int) := (by omega);simp [hl'];refine sem_ret ?_;simp [M316];exact .le sW (D.le_refl _) (by simp)
theorem delt_new (L : HDelt p ext F) {n : Int} {H : HpD} : Td p ext (F 315) [.lit (.int .i64 n)] H (.ptr (H.next + 1) 0) ((H.new (.map (some .i64) [])).new (.cells [.lit (.int .i64 (min (max n 1) 1000)), .map H.next] false)) := by
 refine td_of L.h315 (M := M315) rfl ok315 rfl ?_ ?_ (sem_run 9000 _ ?_)
 ·simp; omega
 ·exact fun h => (h.new (by intro k d hm; cases hm)).new (by simp [BD.under]; omega)
 simp;refine sem_ret ?_;simp [M315];exact .le sW (D.le_refl _) (by simp [D.under])
end Go.Lib
end

section
namespace Go.Vm
open Go.RowKit
variable {P : Program}
def insI (x : Int) : List Int → List Int
 | [] => [x]
 | y :: l => cond (ilt y x) (y :: insI x l) (x :: y :: l)
def sortI : List Int → List Int
 | [] => []
 | x :: l => insI x (sortI l)
def Hp.readO (h : Hp) (b : Nat) : Option (List V) := match h.blk b with
 | .cells _ false => h.read b 0 1
 | _ => none
theorem readO_read {h : Hp} {b : Nat} {l : List V} (e : h.readO b = some l) : h.read b 0 1 = some l ∧ ∃ c, h.blk b = .cells c false := by
 unfold Hp.readO at e;split at e
 ·rename_i c hb; exact ⟨e, c, hb⟩
 ·cases e
def sortedX (fS gK : Nat) : Ext := fun f args h => cond (Nat.beq fS f) (match args with
 | [.func g [] [.ptr bx 0]] => cond (Nat.beq g gK) (match h.readO bx with
  | some [.nilmap] => some (.nilslice, h)
  | some [.map b] => match h.blk b with
   | .map (some .i64) l => match keysI l with
    | some ks => cond (Nat.ble ks.length 1000000) (match sortI ks with
     | [] => some (.nilslice, h)
     | x :: r => some (.slice h.next 0 1 (r.length + 1) (r.length + 1) false, h.new (.cells (rowI (x :: r)) false))) none
    | none => none
   | _ => none
  | _ => none) none
 | _ => none) none
theorem insI_perm (x : Int) : ∀ l : List Int, (insI x l).Perm (x :: l)
 | [] => .refl _
 | y :: l => by
  simp only [insI];rw [cond_eq_ite]; split
  ·exact ((insI_perm x l).cons y).trans (.swap x y l)
  ·exact .refl _
theorem sortI_perm : ∀ l : List Int, (sortI l).Perm l
 | [] => .refl _
 | x :: l => (insI_perm x _).trans ((sortI_perm l).cons x)
theorem insI_sorted (x : Int) : ∀ {l : List Int}, l.Pairwise (fun a b => a ≤ b) → (insI x l).Pairwise (fun a b => a ≤ b)
 | [], _ => by simp [insI]
 | y :: l, h => by
  simp only [insI];rw [cond_eq_ite]; split
  ·rename_i hlt;rw [ilt_iff] at hlt;rw [List.pairwise_cons] at h ⊢;refine ⟨fun z hz => ?_, insI_sorted x h.2⟩;rcases List.mem_cons.1 ((insI_perm x l).subset hz) with rfl | hz
   ·omega
   ·exact h.1 z hz
  ·rename_i hlt;have : ¬ y < x := fun hh => hlt (ilt_iff.2 hh);rw [List.pairwise_cons];refine ⟨fun z hz => ?_, h⟩;rcases List.mem_cons.1 hz with rfl | hz
   ·omega
   ·have := (List.pairwise_cons.1 h).1 z hz; omega
theorem sortI_sorted : ∀ l : List Int, (sortI l).Pairwise (fun a b => a ≤ b)
 | [] => .nil
 | x :: l => insI_sorted x (sortI_sorted l)
theorem sortI_eq {l ss : List Int} (h : ss.Perm l) : ss.mergeSort leI = sortI l := by
 have h1 : ss.mergeSort leI = (sortI l).mergeSort leI := mergeSort_of_perm_i (h.trans (sortI_perm l).symm);rw [h1];refine List.Perm.eq_of_pairwise (le := fun a b : Int => a ≤ b) (fun a b _ _ h1 h2 => Int.le_antisymm h1 h2) ?_ (sortI_sorted l) (List.mergeSort_perm _ _);have tr : ∀ a b c : Int, leI a b = true → leI b c = true → leI a c = true := fun a b c h1 h2 => (by simp only [leI, decide_eq_true_eq] at *; omega);have to : ∀ a b : Int, (leI a b || leI b a) = true := fun a b => (by simp only [leI, Bool.or_eq_true, decide_eq_true_eq]; omega)
 exact (List.pairwise_mergeSort tr to (sortI l)).imp fun {a b} h => by simpa [leI] using h
def numKey : Value → Int
 | .int _ a => a
 | _ => 0
structure KeysSorted (P : Program) (fS gK : Nat) : Prop where
 enters : entered P fS = true
 some_ : ∀ (w : World) (Bm b : Nat) (es : Array MapEntry) (clock : Nat), w.cell? ⟨Bm, 0, none⟩ = some (.map (some b)) → w.heap[b]? = some (.map es clock) → MapKept.Stamped es clock →
  (∀ x, x ∈ es.toList → ∃ a : Int, x.key = .int .i64 a ∧ wr .i64 a = a) → es.size ≤ 1000000 →
  Calls P fS #[.func (.func gK) #[] #[.pointer (some ⟨Bm, 0, none⟩)]] w fun e w' => ∃ (v : Value) (ss : List Int) (t : TypeId), e = .returned v ∧ ss.Perm (es.toList.map fun x => numKey x.key) ∧
   w'.ownsRow w.heap.size t 1 v ss.length ((ss.mergeSort leI).map encZ) ∧ (v = .slice none 0 0 ↔ ss = []) ∧ Below w.heap.size w w'
 none_ : ∀ (w : World) (Bm : Nat), w.cell? ⟨Bm, 0, none⟩ = some (.map none) →
  Calls P fS #[.func (.func gK) #[] #[.pointer (some ⟨Bm, 0, none⟩)]] w fun e w' => e = .returned (.slice none 0 0) ∧ Below w.heap.size w w'
theorem rowI_rel {φ : Emb} : ∀ l : List Int, VRs φ (rowI l) (l.map encZ)
 | [] => .nil
 | n :: l => .cons _ _ _ _ (.int .i64 n) (rowI_rel l)
theorem keysI_spec {φ : Emb} {kk : Option IntKind} : ∀ {l : List (V × V)} {es : List MapEntry} {ks : List Int}, keysI l = some ks → Ents φ kk l es → ks = es.map (fun x => numKey x.key) ∧ ∀ x, x ∈ es → ∃ a : Int, x.key = .int .i64 a ∧ wr .i64 a = a
 | [], [], ks, h, _ => by simp only [keysI, Option.some.injEq] at h; subst h; exact ⟨rfl, fun _ h => by cases h⟩
 | [], _ :: _, ks, _, he => by have := he.1; simp at this
 | _ :: _, [], ks, _, he => by have := he.1; simp at this
 | (a, b) :: l, e :: es, ks, h, he => by
  obtain ⟨h1, h2⟩ := he.tail;unfold keysI at h;split at h
  ·rename_i e0; cases e0
  ·rename_i n v0 l' e0;cases e0;rw [cond_eq_ite] at h; split at h
   case isFalse => cases h
   rename_i hn;rw [ieq_iff] at hn;split at h
   case h_2 => cases h
   rename_i r hr;cases h;obtain ⟨i1, i2⟩ := keysI_spec hr h2;have hkey := h1.2.1;generalize hku : e.key = ku at hkey;cases hkey;refine ⟨by rw [i1, List.map_cons, hku]; rfl, fun x hx => ?_⟩;rcases List.mem_cons.1 hx with rfl | hx
   ·exact ⟨n, hku, hn⟩
   ·exact i2 x hx
  ·cases h
theorem read_live {h : Hp} {b o n : Nat} {l : List V} (hl : h.read b o n = some l) : (h.blk b).live = true := by
 unfold Hp.read at hl;split at hl
 ·rename_i e; rw [e]; rfl
 ·cases hl
theorem read_base {φ : Emb} {w : World} {pl : Place} {h : Hp} {b : Nat} (hl : ∃ c, h.blk b = .cells c false) (ha : BlkAt φ w pl (h.blk b)) : pl.base = 0 := by
 obtain ⟨c, e⟩ := hl;rw [e] at ha;exact ha.1
theorem sorted_ok {env : Env} {fS gK : Nat} (hk : KeysSorted P fS gK) : CallOk P env (sortedX fS gK) := by
 intro φ f args h v h' w us hv ok hr hfr hargs;unfold sortedX at hv;rw [cond_eq_ite] at hv; split at hv
 case isFalse => cases hv
 rename_i hf;rw [nbeq] at hf;subst hf;split at hv
 case h_2 => cases hv
 rename_i g bx;rw [cond_eq_ite] at hv; split at hv
 case isFalse => cases hv
 rename_i hg;rw [nbeq] at hg;subst hg
 cases hargs with | cons _ u1 _ us1 r1 rest =>
 cases rest
 cases r1 with | func _ _ _ fst cap f1 f2 =>
 have hfst : fst = #[] := by
  have hl := f1.length;simp at hl;exact Array.size_eq_zero_iff.1 hl.symm
 subst hfst
 have hcap : ∃ u2, cap = #[u2] ∧ VR φ (.ptr bx 0) u2 := by
  generalize hq : cap.toList = cl at f2
  cases f2 with | cons _ u2 _ us2 k1 k2 =>
  cases k2;exact ⟨u2, by apply Array.ext'; rw [hq], k1⟩
 obtain ⟨u2, rfl, k1⟩ := hcap
 cases k1 with | ptr _ _ pl hpl =>
 split at hv
 ·
  rename_i hrd;obtain ⟨hrd, hro⟩ := readO_read hrd;cases hv;obtain ⟨pl', us', r1, r2, r3, r4⟩ := hr.read hrd;rw [hpl] at r1; cases r1;obtain ⟨pl2, s1, s2⟩ := hr.lies bx (read_live hrd);rw [hpl] at s1; cases s1;have hb0 := read_base hro s2
  cases r3 with | cons _ m _ us2 m1 m2 =>
  cases m1;have hc := r4 0 _ rfl;rw [hb0] at hc ⊢;left;refine ⟨hk.enters, (hk.none_ w pl.blk hc).mono ?_⟩;rintro e w' ⟨rfl, hb⟩;exact ⟨_, φ, rfl, .nilslice, .below hr hb⟩
 ·rename_i b hrd;obtain ⟨hrd, hro⟩ := readO_read hrd;obtain ⟨pl', us', r1, r2, r3, r4⟩ := hr.read hrd;rw [hpl] at r1; cases r1;obtain ⟨pl2, s1, s2⟩ := hr.lies bx (read_live hrd);rw [hpl] at s1; cases s1;have hb0 := read_base hro s2
  cases r3 with | cons _ m _ us2 m1 m2 =>
  cases m1 with | map _ plm hpm =>
  have hc := r4 0 _ rfl;rw [hb0] at hc ⊢;split at hv
  case h_2 => cases hv
  rename_i l hbl;split at hv
  case h_2 => cases hv
  rename_i ks hks;rw [cond_eq_ite] at hv; split at hv
  case isFalse => cases hv
  rename_i hle;rw [nble] at hle;obtain ⟨plm', es, clock, p1, p2, p3, p4⟩ := map_at hr hbl;rw [hpm] at p1; cases p1;obtain ⟨e1, e2⟩ := keysI_spec hks p3;have hes : es.size ≤ 1000000 := (by rw [e1, List.length_map] at hle; simpa using hle);left;refine ⟨hk.enters, (hk.some_ w pl.blk plm.blk es clock hc p2 p4 e2 hes).mono ?_⟩;rintro e w' ⟨u, ss, t, rfl, hperm, hrow, hnil, hb⟩;rw [← e1] at hperm;have hsort : ss.mergeSort leI = sortI ks := sortI_eq hperm;rw [hsort] at hrow;have hlen : ss.length = (sortI ks).length := (by rw [← hsort, List.length_mergeSort]);split at hv
  ·rename_i hs0;cases hv;rw [hs0] at hlen;have : ss = [] := List.length_eq_zero_iff.1 hlen;rw [hnil.2 this];exact ⟨_, φ, rfl, .nilslice, .below hr hb⟩
  ·rename_i x r hs1;cases hv;rw [hs1] at hlen hrow;rcases hrow.2 with ⟨_, z⟩ | ⟨g', cap, cur, rfl, hbase, hgb, q1, q2, q3, q4⟩
   ·rw [z] at hlen; simp at hlen
   ·refine ⟨_, _, rfl, ?_, .belowNew hr hb (pl := ⟨g', 0, cap⟩) (hfr h.next (Nat.le_refl _) (Nat.lt_succ_self _)) hbase fun ψ hle' => ?_⟩
    ·rw [hlen];refine .slice _ _ _ _ _ _ _ _ (fun _ => ⟨⟨g', 0, cap⟩, ?_, rfl, fun _ => by simp⟩) (Nat.le_refl _) (by rw [hlen] at q1; simpa using q1) (fun ee => by cases ee);show (if h.next = h.next then some _ else _) = _;rw [if_pos rfl]
    ·have hl := hlen ▸ q1;refine ⟨rfl, by rw [rowI_length]; exact hl, cur, t, (0, 0), hgb, by simp; omega, .inl rfl, fun i v hi => ?_⟩;obtain ⟨u, m1, m2⟩ := (rowI_rel (φ := ψ) (x :: r)).get hi;refine ⟨u, ?_, m2⟩;rw [← q4, List.getElem?_take] at m1;split at m1
     ·simpa using m1
     ·cases m1
 ·cases hv
theorem sortedX_rises (fS gK : Nat) : Rises (sortedX fS gK) := by
 intro f args h v h' e;unfold sortedX at e
 repeat' (first | (cases e; done) | (rw [cond_eq_ite] at e; split at e) | split at e)
 all_goals (cases e; first | exact Nat.le_refl _ | exact Nat.le_succ _)
end Go.Vm
end

section
namespace Go.Vm
open Go.RowKit
variable {P : Program}
def numsI : List V → Option (List Int)
 | [] => some []
 | .int .i64 n :: l => cond (ieq (wr .i64 n) n) (match numsI l with
  | some r => some (n :: r)
  | none => none) none
 | _ => none
def valuesX (fA fV : Nat) : Ext := fun f args h => cond (Nat.beq fA f) (match args with
 | [.nilslice, .func g [] [.ptr bx 0]] => cond (Nat.beq g fV) (match h.readO bx with
  | some [.nilslice] => some (.nilslice, h)
  | some [.slice b o 1 len _ _] => match h.read b o len with
   | some cs => match numsI cs with
    | some ks => cond (Nat.ble len 1000000) (match ks with
     | [] => some (.nilslice, h)
     | x :: r => some (.slice h.next 0 1 (r.length + 1) (r.length + 1) false, h.new (.cells (rowI (x :: r)) false))) none
    | none => none
   | none => none
  | _ => none) none
 | _ => none) none
structure ValuesApp (P : Program) (fA fV : Nat) : Prop where
 enters : entered P fA = true
 some_ : ∀ (w : World) (Bm b off len cap : Nat) (zs : List Int), w.cell? ⟨Bm, 0, none⟩ = some (.slice (some ⟨b, off, none⟩) len cap) → zs.length = len → len ≤ 1000000 →
  (∀ j, j < len → w.cell? ⟨b, off + j, none⟩ = some (.int .i64 (zs[j]?.getD 0))) → Bm < w.heap.size → b < w.heap.size →
  Calls P fA #[.slice none 0 0, .func (.func fV) #[] #[.pointer (some ⟨Bm, 0, none⟩)]] w fun e w' => ∃ (v : Value) (t : TypeId), e = .returned v ∧
   w'.ownsRow w.heap.size t 1 v zs.length (zs.map encZ) ∧ (v = .slice none 0 0 ↔ zs = []) ∧ Below w.heap.size w w'
 none_ : ∀ (w : World) (Bm : Nat) (a : Option Addr) (cc : Nat), w.cell? ⟨Bm, 0, none⟩ = some (.slice a 0 cc) → Bm < w.heap.size →
  Calls P fA #[.slice none 0 0, .func (.func fV) #[] #[.pointer (some ⟨Bm, 0, none⟩)]] w fun e w' => e = .returned (.slice none 0 0) ∧ Below w.heap.size w w'
theorem numsI_spec {φ : Emb} : ∀ {l : List V} {us : List Value} {ks : List Int}, numsI l = some ks → VRs φ l us → us = ks.map encZ
 | [], us, ks, h, hr => by simp only [numsI, Option.some.injEq] at h; subst h; cases hr; rfl
 | v :: l, us, ks, h, hr => by
  unfold numsI at h;split at h
  ·rename_i e0; cases e0
  ·rename_i n l' e0;cases e0;rw [cond_eq_ite] at h; split at h
   case isFalse => cases h
   split at h
   case h_2 => cases h
   rename_i r hr';cases h
   cases hr with | cons _ u _ us' k1 k2 =>
   cases k1;rw [numsI_spec hr' k2];rfl
  ·cases h
theorem values_ok {env : Env} {fA fV : Nat} (hk : ValuesApp P fA fV) : CallOk P env (valuesX fA fV) := by
 intro φ f args h v h' w us hv ok hr hfr hargs;unfold valuesX at hv;rw [cond_eq_ite] at hv; split at hv
 case isFalse => cases hv
 rename_i hf;rw [nbeq] at hf;subst hf;split at hv
 case h_2 => cases hv
 rename_i g bx;rw [cond_eq_ite] at hv; split at hv
 case isFalse => cases hv
 rename_i hg;rw [nbeq] at hg;subst hg
 cases hargs with | cons _ u0 _ us0 r0 hargs =>
 cases r0
 cases hargs with | cons _ u1 _ us1 r1 rest =>
 cases rest
 cases r1 with | func _ _ _ fst cap f1 f2 =>
 have hfst : fst = #[] := by
  have hl := f1.length;simp at hl;exact Array.size_eq_zero_iff.1 hl.symm
 subst hfst
 have hcap : ∃ u2, cap = #[u2] ∧ VR φ (.ptr bx 0) u2 := by
  generalize hq : cap.toList = cl at f2
  cases f2 with | cons _ u2 _ us2 k1 k2 =>
  cases k2;exact ⟨u2, by apply Array.ext'; rw [hq], k1⟩
 obtain ⟨u2, rfl, k1⟩ := hcap
 cases k1 with | ptr _ _ pl hpl =>
 split at hv
 ·
  rename_i hrd;obtain ⟨hrd, hro⟩ := readO_read hrd;cases hv;obtain ⟨pl', us', r1, r2, r3, r4⟩ := hr.read hrd;rw [hpl] at r1; cases r1;obtain ⟨pl2, s1, s2⟩ := hr.lies bx (read_live hrd);rw [hpl] at s1; cases s1;have hb0 := read_base hro s2
  cases r3 with | cons _ m _ us2 m1 m2 =>
  cases m1;have hc := r4 0 _ rfl;rw [hb0] at hc ⊢;left;refine ⟨hk.enters, (hk.none_ w pl.blk none 0 hc (s2.lt (read_live hrd))).mono ?_⟩;rintro e w' ⟨rfl, hb⟩;exact ⟨_, φ, rfl, .nilslice, .below hr hb⟩
 ·rename_i b o len c ex hrd;obtain ⟨hrd, hro⟩ := readO_read hrd;obtain ⟨pl', us', r1, r2, r3, r4⟩ := hr.read hrd;rw [hpl] at r1; cases r1;obtain ⟨pl2, s1, s2⟩ := hr.lies bx (read_live hrd);rw [hpl] at s1; cases s1;have hb0 := read_base hro s2
  cases r3 with | cons _ m _ us2 m1 m2 =>
  split at hv
  case h_2 => cases hv
  rename_i cs hcs;split at hv
  case h_2 => cases hv
  rename_i ks hks;rw [cond_eq_ite] at hv; split at hv
  case isFalse => cases hv
  rename_i hle;rw [nble] at hle;obtain ⟨plm, usm, p1, p2, p3, p4⟩ := hr.read hcs;have hus := numsI_spec hks p3
  have hkl : ks.length = len := by
   have := p3.length;rw [hus, List.length_map] at this;omega
  cases m1 with | slice _ _ _ _ _ _ ad cc h0 h1 h2 h3 =>
  have hc := r4 0 _ rfl;rw [hb0] at hc ⊢;rcases Nat.eq_zero_or_pos cc with z | z
  ·
   have hlen0 : len = 0 := (by omega);have hks0 : ks = [] := List.length_eq_zero_iff.1 (by omega);subst hks0;cases hv;left;subst hlen0;refine ⟨hk.enters, (hk.none_ w pl.blk (some ad) cc hc (s2.lt (read_live hrd))).mono ?_⟩;rintro e w' ⟨rfl, hb⟩;exact ⟨_, φ, rfl, .nilslice, .below hr hb⟩
  ·obtain ⟨plq, q1, q2, _⟩ := h0 z;rw [p1] at q1; cases q1;rw [q2] at hc
   have hbl : plm.blk < w.heap.size := by
    obtain ⟨pl3, t1, t2⟩ := hr.lies b (read_live hcs);rw [p1] at t1; cases t1;exact t2.lt (read_live hcs)
   left;refine ⟨hk.enters, (hk.some_ w pl.blk plm.blk (plm.base + o) len cc ks hc hkl hle (fun j hj => ?_) (s2.lt (read_live hrd)) hbl).mono ?_⟩
   ·have hj' : j < ks.length := (by omega);have := p4 j (encZ (ks[j])) (by rw [hus]; simp [hj']);rw [this];simp [hj', encZ]
   rintro e w' ⟨u, t, rfl, hrow, hnil, hb⟩;split at hv
   ·cases hv;rw [hnil.2 rfl];exact ⟨_, φ, rfl, .nilslice, .below hr hb⟩
   ·rename_i x r;cases hv;rcases hrow.2 with ⟨_, z⟩ | ⟨g', cap, cur, rfl, hbase, hgb, q1, q2, q3, q4⟩
    ·simp at z
    ·have hl : (x :: r).length ≤ cap := q1;simp only [List.length_cons] at hl;refine ⟨_, _, rfl, ?_, .belowNew hr hb (pl := ⟨g', 0, cap⟩) (hfr h.next (Nat.le_refl _) (Nat.lt_succ_self _)) hbase fun ψ hle' => ?_⟩
     ·refine .slice _ _ _ _ _ _ _ _ (fun _ => ⟨⟨g', 0, cap⟩, ?_, rfl, fun _ => by simp⟩) (Nat.le_refl _) hl (fun ee => by cases ee);show (if h.next = h.next then some _ else _) = _;rw [if_pos rfl]
     ·refine ⟨rfl, by rw [rowI_length]; exact hl, cur, t, (0, 0), hgb, by simp; omega, .inl rfl, fun i v hi => ?_⟩;obtain ⟨u, m1, m2⟩ := (rowI_rel (φ := ψ) (x :: r)).get hi;refine ⟨u, ?_, m2⟩;rw [← q4, List.getElem?_take] at m1;split at m1
      ·simpa using m1
      ·cases m1
 ·cases hv
theorem valuesX_rises (fA fV : Nat) : Rises (valuesX fA fV) := by
 intro f args h v h' e;unfold valuesX at e
 repeat' (first | (cases e; done) | (rw [cond_eq_ite] at e; split at e) | split at e)
 all_goals (cases e; first | exact Nat.le_refl _ | exact Nat.le_succ _)
end Go.Vm
end

section
namespace Go.Vm
open Go.RowKit Go.Sort
variable {P : Program}
def sortX (fS : Nat) : Ext := fun f args h => cond (Nat.beq fS f) (match args with
 | [.nilslice] => some (.tup [], h)
 | [.slice b o 1 len _ _] => match h.read b o len with
  | some cs => match numsI cs with
   | some ks => cond (Nat.ble len 1000000) (match h.write b o (rowI (sortI ks)) with
    | some h' => some (.tup [], h')
    | none => none) none
   | none => none
  | none => none
 | _ => none) none
structure IntsSort (P : Program) (fS : Nat) : Prop where
 enters : entered P fS = true
 some_ : ∀ (blk off cap : Nat) (zs : List Int) (w : World), Holds (Value.int .i64) w blk off zs.toArray → blk < w.heap.size → zs.length ≤ 1000000 →
  Calls P fS #[.slice (some ⟨blk, off, none⟩) zs.length cap] w fun e w' => e = .returned (.tuple #[]) ∧ ∃ n os, w' = grow (putRow (Value.int .i64) (Sort.ahead w n) blk off (zs.mergeSort fun x y => decide (x ≤ y)).toArray) os
 none_ : ∀ (p : Option Addr) (cap : Nat) (w : World), Calls P fS #[.slice p 0 cap] w fun e w' => e = .returned (.tuple #[]) ∧ w' = w
theorem numsI_length : ∀ {l : List V} {ks : List Int}, numsI l = some ks → ks.length = l.length
 | [], ks, h => by simp only [numsI, Option.some.injEq] at h; subst h; rfl
 | v :: l, ks, h => by
  unfold numsI at h;split at h
  ·rename_i e0; cases e0
  ·rename_i n l' e0;cases e0;rw [cond_eq_ite] at h; split at h
   case isFalse => cases h
   split at h
   case h_2 => cases h
   rename_i r hr';cases h;simp [numsI_length hr']
  ·cases h
theorem below_sorted {w : World} {k o n : Nat} {zs : List Int} {os : Array Obj} {c : Array Value} {e : TypeId} {fz : Nat × Nat} (h : w.heap[k]? = some (.cells c e fz)) (hl : o + zs.length ≤ c.size) :
  Below w.heap.size (w.setCells k o (zs.map encZ)) (grow (putRow (Value.int .i64) (Sort.ahead w n) k o zs.toArray) os) := by
 obtain ⟨c', g1, g2, g3⟩ := heap_setCells k (zs.map encZ) o w c e fz h (by simpa using hl);obtain ⟨r1, r2, r3⟩ := rest_setCells k (zs.map encZ) o w;refine ⟨r1.symm, r2.symm, r3.symm, ?_, fun j hj => ?_⟩
 ·rw [size_setCells, size_grow, size_putRow]; simp only [heap_ahead]; omega
 ·rw [heap_grow_old _ _ (by rw [size_putRow]; exact hj)];simp only [putRow, mapBlock, heap_ahead, Array.getElem?_modify]
  by_cases ej : k = j
  ·subst ej;rw [if_pos rfl, g1, h];simp only [Option.map_some, onCells, Option.some.injEq, Obj.cells.injEq, and_true];apply Array.ext_getElem?;intro i;rw [g3];simp only [putCells, Array.getElem?_mapIdx, List.size_toArray, List.length_map]
   by_cases ci : o ≤ i ∧ i < o + zs.length
   ·have hi : i < c.size := (by omega);have hz : i - o < zs.length := (by omega);rw [if_pos ci];simp [hi, ci, hz, encZ]
   ·rw [if_neg ci]
    cases hc : c[i]? with
    | none => rfl
    | some x => simp [ci]
  ·rw [if_neg ej, heap_setCells_other _ _ _ _ _ (Ne.symm ej)]
theorem sort_ok {env : Env} {fS : Nat} (hk : IntsSort P fS) : CallOk P env (sortX fS) := by
 intro φ f args h v h' w us hv ok hr hfr hargs;unfold sortX at hv;rw [cond_eq_ite] at hv; split at hv
 case isFalse => cases hv
 rename_i hf;rw [nbeq] at hf;subst hf;split at hv
 ·cases hv
  cases hargs with | cons _ u0 _ us0 r0 rest =>
  cases rest;cases r0;left;refine ⟨hk.enters, (hk.none_ none 0 w).mono ?_⟩;rintro e w' ⟨rfl, rfl⟩;exact ⟨_, φ, rfl, .tup _ _ .nil, .refl hr⟩
 ·rename_i b o len c ex
  cases hargs with | cons _ u0 _ us0 r0 rest =>
  cases rest;split at hv
  case h_2 => cases hv
  rename_i cs hcs;split at hv
  case h_2 => cases hv
  rename_i ks hks;rw [cond_eq_ite] at hv; split at hv
  case isFalse => cases hv
  rename_i hle;rw [nble] at hle;split at hv
  case h_2 => cases hv
  rename_i h2 hw;cases hv;obtain ⟨plm, usm, p1, p2, p3, p4⟩ := hr.read hcs;have hus := numsI_spec hks p3;have hkl : ks.length = len := (by rw [numsI_length hks]; exact p2);have hperm := sortI_perm ks;have hsl : (sortI ks).length = len := (by rw [hperm.length_eq, hkl]);obtain ⟨pl, s1, s2, s3, s4⟩ := hr.store (us := (sortI ks).map encZ) (rowI_rel (φ := φ) (sortI ks)) hw;rw [p1] at s1; cases s1
  cases r0 with | slice _ _ _ _ _ _ ad cc h0 h1 h2' h3 =>
  left;rcases Nat.eq_zero_or_pos cc with z | z
  ·have hlen0 : len = 0 := (by omega);subst hlen0;have hks0 : ks = [] := List.length_eq_zero_iff.1 hkl;subst hks0;refine ⟨hk.enters, (hk.none_ (some ad) cc w).mono ?_⟩;rintro e w' ⟨rfl, rfl⟩;exact ⟨_, φ, rfl, .tup _ _ .nil, s4⟩
  ·obtain ⟨plq, q1, q2, _⟩ := h0 z;rw [p1] at q1; cases q1;obtain ⟨pl3, t1, t2⟩ := hr.lies b (read_live hcs);rw [p1] at t1; cases t1;have hbl := t2.lt (read_live hcs);subst q2
   have hopen : ∃ l, h.blk b = .cells l false ∧ o + (rowI (sortI ks)).length ≤ l.length := by
    unfold Hp.write at hw;split at hw
    ·rename_i l hb;rw [cond_eq_ite] at hw; split at hw
     case isFalse => cases hw
     rename_i hlen;rw [nble] at hlen;exact ⟨l, hb, hlen⟩
    ·cases hw
   obtain ⟨l, hb, hlen⟩ := hopen;rw [hb] at t2;obtain ⟨hb0, hle2, cc2, e2, fz, hc, hs, hf, _⟩ := t2;rw [rowI_length, hsl] at hlen;have := hk.some_ plm.blk (plm.base + o) cc ks w (fun j hj => ?_) hbl (by omega)
   ·rw [hkl] at this;refine ⟨hk.enters, this.mono ?_⟩;rintro e w' ⟨rfl, n, os, rfl⟩;have hms : (ks.mergeSort fun x y => decide (x ≤ y)) = sortI ks := sortI_eq (List.Perm.refl ks);rw [hms];exact ⟨_, φ, rfl, .tup _ _ .nil, s4.trans (.below s4.hr ((below_sorted hc (by omega)).mono (by rw [size_setCells]; exact Nat.le_refl _)))⟩
   ·have hj' : j < ks.length := (by simpa using hj);refine ⟨?_, frozen_of hc hf _ (by omega)⟩;have := p4 j (encZ (ks[j])) (by rw [hus]; simp [hj']);rw [this];simp [hj', encZ]
 ·cases hv
theorem sortX_rises (fS : Nat) : Rises (sortX fS) := by
 intro f args h v h' e;unfold sortX at e;rw [cond_eq_ite] at e; split at e
 case isFalse => cases e
 split at e
 ·cases e; exact Nat.le_refl _
 ·split at e
  case h_2 => cases e
  split at e
  case h_2 => cases e
  rw [cond_eq_ite] at e; split at e
  case isFalse => cases e
  split at e
  case h_2 => cases e
  rename_i hw;cases e;unfold Hp.write at hw;split at hw
  ·rw [cond_eq_ite] at hw; split at hw
   ·rw [cond_eq_ite] at hw; split at hw
    ·cases hw; exact Nat.le_refl _
    ·cases hw
   ·cases hw
  ·cases hw
 ·cases e
end Go.Vm
end

section
set_option maxRecDepth 10000
namespace Go.Lib
open Go.Vm Go.Dv
variable {p : Prog} {ext : Ext} {F : Nat → Nat}
def intsE (l : List Int) : List (List D) := l.map fun n => [.lit (.int .i64 n)]
theorem ints_row {m : Md} {l : List Int} : intsD m l = .row 1 m (intsE l) := rfl
theorem intsE_len {l : List Int} : (intsE l).length = l.length := by simp [intsE]
theorem intsE_one {l : List Int} : ∀ e, e ∈ intsE l → e.length = 1 := by simp [intsE]
theorem intsE_flatten {l : List Int} : (intsE l).flatten = l.map fun n => .lit (.int .i64 n) := by
 induction l with
 | nil => rfl
 | cons x l ih => simp only [intsE, List.map_cons, List.flatten_cons, List.singleton_append] at ih ⊢; rw [ih]
attribute [simp] intsE_len
def Ins (l : List Int) : Prop := ∀ x, x ∈ l → wr .i64 x = x
theorem numsI_of : ∀ {l : List Int}, Ins l → numsI (rowI l) = some l
 | [], _ => rfl
 | x :: l, h => by
  have hx : ieq (wr .i64 x) x = true := ieq_iff.2 (h x (List.mem_cons_self ..));simp only [rowI, numsI, hx, cond_true, numsI_of fun y hy => h y (List.mem_cons_of_mem _ hy)]
theorem ints_VDl {h : Hp} {ψ : Nat → Option Nat} {S : Fz} : ∀ {l : List Int} {vs : List V}, VDl h ψ S (l.map fun n => .lit (.int .i64 n)) vs → vs = rowI l
 | [], _, k => by simp only [List.map_nil, VDl] at k; exact k
 | x :: l, _, k => by
  simp only [List.map_cons, VDl] at k;obtain ⟨v, r, rfl, h1, k⟩ := k;simp only [VD] at h1;rw [h1.1, ints_VDl k]; rfl
theorem VDl_ints {h : Hp} {ψ : Nat → Option Nat} {S : Fz} : ∀ {l : List Int}, VDl h ψ S (l.map fun n => .lit (.int .i64 n)) (rowI l)
 | [] => by simp [VDl, rowI]
 | x :: l => by simp only [List.map_cons, rowI, VDl]; exact ⟨_, _, rfl, by simp [VD, atomV], VDl_ints⟩
theorem ins_perm {l m : List Int} (h : l.Perm m) (hi : Ins m) : Ins l := fun x hx => hi x (h.subset hx)
theorem sortI_len {l : List Int} : (sortI l).length = l.length := (sortI_perm l).length_eq
theorem allFlat_rowI : ∀ l : List Int, allFlat (rowI l) = true
 | [] => rfl
 | x :: l => by simp only [rowI, allFlat]; exact allFlat_rowI l
theorem over_all : ∀ {l m : List V}, l.length = m.length → over l m = m
 | [], [], _ => rfl
 | _ :: l, y :: m, h => by simp only [over]; rw [over_all (by simpa using h)]
 | [], _ :: _, h => by simp at h
 | _ :: _, [], h => by simp at h
theorem splice_all {l m : List V} (h : l.length = m.length) : splice l 0 m = m := by
 cases l <;> (simp only [splice]; exact over_all h)
theorem sort_wc {f : Nat} (hx : ∀ args h, ext f args h = sortX f f args h) {H0 H : HpD} {s : D} {l : List Int} (g : GrX H0 H 1 s (intsE l)) (hi : Ins l) (hl : l.length ≤ 1000000) :
  WcD p ext f [s] H fun d H' => d = .tup [] ∧ GrX H0 H' 1 s (intsE (sortI l)) ∧ (∀ x, ¬ s.hasB x → H'.blk x = H.blk x) ∧ H'.next = H.next := by
 intro ψ S h vs sr k;simp only [VDl] at k;obtain ⟨v, r, rfl, kv, rfl⟩ := k;rcases g.at_ with ⟨rfl, he⟩ | ⟨b, ex, rfl, h1, h2, h3⟩
 ·have hl0 : l = [] := (by simpa [intsE] using he);subst hl0;simp only [VD] at kv;refine wpc_ext (v := .tup []) (h' := h) ?_ ⟨ψ, S, .tup [], H, .refl, sr, by simp [VD, VDl], rfl, g, fun _ _ => rfl, rfl⟩;rw [hx, kv.1];simp only [sortX];rw [show Nat.beq f f = true from nbeq.2 rfl]; rfl
 ·simp only [VD] at kv;obtain ⟨c, hc, rfl⟩ := kv;rw [intsE_flatten] at h3;obtain ⟨hS, cs, hb, kcs⟩ := sr.cells hc h3;have := ints_VDl kcs;subst this
  have hlen : (rowI (sortI l)).length = (rowI l).length := by rw [rowI_length, rowI_length, sortI_len]
  have hrd : h.read c 0 l.length = some (rowI l) := by
   unfold Hp.read; rw [hb];show takeX l.length ((rowI l).drop 0) = _;rw [List.drop_zero, takeX_of (by rw [rowI_length]; exact Nat.le_refl _), List.take_of_length_le (by rw [rowI_length]; exact Nat.le_refl _)]
  have hwr : h.write c 0 (rowI (sortI l)) = some (h.put c (.cells (rowI (sortI l)) false)) := by
   unfold Hp.write; rw [hb];simp only [Nat.zero_add];rw [show Nat.ble (rowI (sortI l)).length (rowI l).length = true from nble.2 (by omega), allFlat_rowI, splice_all hlen.symm]; rfl
  refine wpc_ext (v := .tup []) (h' := h.put c (.cells (rowI (sortI l)) false)) ?_ ⟨ψ, S, .tup [], H.put b (.cells (intsE (sortI l)).flatten false), Ex.put hS, sr.put hc hS ⟨_, rfl, ?_⟩, by simp [VD, VDl], rfl, ?_, fun x hx => ?_, put_next⟩
  ·rw [hx];simp only [sortX, intsE_len];rw [show Nat.beq f f = true from nbeq.2 rfl, cond_true];simp only [hrd, numsI_of hi];rw [show Nat.ble l.length 1000000 = true from nble.2 hl, cond_true];simp only [hwr]
  ·rw [intsE_flatten]; exact VDl_ints
  ·have e : (intsE l).length = (intsE (sortI l)).length := (by simp [sortI_len]);rw [e];exact ⟨⟨g.gr.sub.put h1, intsE_one, .inr ⟨b, ex, intsE (sortI l), rfl, h1, by simpa using h2, by simp, D.less_refl _⟩⟩, .inr ⟨b, ex, rfl, h1, by simpa using h2, by simp⟩⟩
  ·rw [put_blk, if_neg]; exact fun e => hx (by simp only [D.hasB]; exact e)
theorem keysI_sto : ∀ {l : Sto} {ψ : Nat → Option Nat} {S : Fz} {h : Hp} {vs : List (V × V)}, (∀ v, v ∈ l → wr .i64 v.id = v.id) → VDm h ψ S (stoD l) vs → keysI vs = some (l.map (·.id))
 | [], _, _, _, _, _, k => by simp only [stoD, List.map_nil, VDm] at k; subst k; rfl
 | v :: l, _, _, _, _, hi, k => by
  simp only [stoD, List.map_cons, VDm] at k;obtain ⟨u, r, rfl, _, k⟩ := k;have hx : ieq (wr .i64 v.id) v.id = true := ieq_iff.2 (hi v (List.mem_cons_self ..));have ih := keysI_sto (l := l) (fun w hw => hi w (List.mem_cons_of_mem _ hw)) k;simp only [keysI, hx, cond_true, ih, List.map_cons]
def idsF (l : Sto) : List Int := sortI (l.map (·.id))
theorem sorted_wc {f g : Nat} (hx : ∀ args h, ext f args h = sortedX f g f args h) {H : HpD} {bx bm : Nat} {l : Sto} (hb : H.blk bx = .cells [.map bm] false) (hm : H.blk bm = .map (some .i64) (stoD l)) (hi : ∀ v, v ∈ l → wr .i64 v.id = v.id) (hl : l.length ≤ 1000000) :
  WcD p ext f [.func g [] [.ptr bx 0]] H fun d H' => Gr H H' 1 d (intsE (idsF l)) := by
 intro ψ S h vs sr k;simp only [VDl] at k;obtain ⟨v, r, rfl, kv, rfl⟩ := k;simp only [VD, VDl] at kv;obtain ⟨a', c', rfl, rfl, w, r2, rfl, ⟨c, hc, rfl⟩, rfl⟩ := kv;obtain ⟨hS, cs, hcb, kcs⟩ := sr.cells hc hb;simp only [VDl, VD] at kcs;obtain ⟨w, r2, rfl, ⟨cm, hcm, rfl⟩, rfl⟩ := kcs;obtain ⟨cm', e1, _, e3⟩ := sr.live bm (by rw [hm]; rfl);rw [hcm] at e1; cases e1;rw [hm] at e3;obtain ⟨ml, hml, km⟩ := e3;have hk := keysI_sto hi km;have hrO : h.readO c = some [.map cm] := (by unfold Hp.readO Hp.read; rw [hcb]; rfl);have hlen : (l.map (·.id)).length = l.length := List.length_map ..
 have hbase : ∀ v h', sortedX f g f [.func g [] [.ptr c 0]] h = some (v, h') → ext f [.func g [] [.ptr c 0]] h = some (v, h') := fun v h' e => by rw [hx]; exact e
 have hs : sortedX f g f [.func g [] [.ptr c 0]] h = (match idsF l with
   | [] => some (.nilslice, h)
   | x :: r => some (.slice h.next 0 1 (r.length + 1) (r.length + 1) false, h.new (.cells (rowI (x :: r)) false))) := by
  simp only [sortedX];rw [show Nat.beq f f = true from nbeq.2 rfl, show Nat.beq g g = true from nbeq.2 rfl, cond_true, cond_true];simp only [hrO, hml, hk];rw [show Nat.ble (l.map (·.id)).length 1000000 = true from nble.2 (by omega), cond_true];rfl
 cases hids : idsF l with
 | nil =>
  rw [hids] at hs;exact wpc_ext (hbase _ _ hs) ⟨ψ, S, .lit .nilslice, H, .refl, sr, by simp [VD, atomV], .nil .refl⟩
 | cons x r =>
  rw [hids] at hs;refine wpc_ext (hbase _ _ hs) ?_;obtain ⟨ψ', S', e1, e2, e3⟩ := To.newSlice (G := p.gl) sr (l := (intsE (x :: r)).flatten) (vs := rowI (x :: r)) (by rw [intsE_flatten]; exact VDl_ints) (ro := false) (sz := 1) (n := r.length + 1) (c := r.length + 1) (ex := false);exact ⟨ψ', S', _, _, e1, e2, e3, .lit .refl intsE_one rfl (by simp)⟩
end Go.Lib
end

section
set_option maxRecDepth 10000
namespace Go.Lib
open Go.Vm Go.Dv
variable {p : Prog} {ext : Ext} {F : Nat → Nat}
structure Tx where
 id : Int
 st : Int
 b : Int
 e : Int
deriving DecidableEq
def Tx.c (x : Tx) : List D := [.lit (.int .i64 x.id), .lit (.int .i64 x.st), .lit (.int .i64 x.b), .lit (.int .i64 x.e)]
def txE (l : List Tx) : List (List D) := l.map Tx.c
def txsD (l : List Tx) : D := .row 4 .p (txE l)
def zTx : Tx := ⟨0, 0, 0, 0⟩
theorem tx_len {v : Tx} : v.c.length = 4 := rfl
theorem tx_take {v : Tx} : v.c.take 4 = v.c := rfl
theorem tx_drop {v : Tx} : v.c.drop 4 = [] := rfl
theorem tx_flats {v : Tx} : flatsD v.c = true := rfl
theorem tx_unders {n : Nat} {v : Tx} : D.unders n v.c := by simp [Tx.c]
theorem tx_0 {v : Tx} : v.c[0]? = some (.lit (.int .i64 v.id)) := rfl
theorem tx_1 {v : Tx} : v.c[1]? = some (.lit (.int .i64 v.st)) := rfl
theorem tx_2 {v : Tx} : v.c[2]? = some (.lit (.int .i64 v.b)) := rfl
theorem tx_3 {v : Tx} : v.c[3]? = some (.lit (.int .i64 v.e)) := rfl
theorem txE_len {l : List Tx} : (txE l).length = l.length := by simp [txE]
theorem txE_4 {l : List Tx} : ∀ e, e ∈ txE l → e.length = 4 := by simp [txE]; exact fun _ _ => rfl
theorem txE_flats {l : List Tx} : ∀ e, e ∈ txE l → flatsD e = true := by simp [txE]; exact fun _ _ => rfl
theorem txE_underss {n : Nat} {l : List Tx} : D.underss n (txE l) := underss_map (fun _ => tx_unders) _
theorem lenb_txs {l : List Tx} : lenbD (txsD l) = some (.lit (.int .i64 (l.length : Int))) := by simp [txsD, txE_len]
theorem at_txs {l : List Tx} {n : Nat} : atO 4 (txsD l) (some n) = elemD (l[n]?.map Tx.c) := by simp [txsD, txE]
theorem cellsD_txs {l : List Tx} : cellsD (txsD l) = some [txsD l] := rfl
theorem ztx_le : D.le (.agg [.lit (.int .i64 0), .lit (.int .i64 0), .lit (.int .i64 0), .lit (.int .i64 0)]) (.agg zTx.c) := by simp [Tx.c, zTx, D.le]
attribute [simp] tx_len tx_take tx_drop tx_flats tx_unders tx_0 tx_1 tx_2 tx_3 txE_len txE_underss lenb_txs at_txs cellsD_txs
structure HStam (p : Prog) (ext : Ext) (F : Nat → Nat) : Prop where
 h337 : Has p ext F 337 M337
 h338 : Has p ext F 338 M338
 h340 : Has p ext F 340 M340
 h348 : Has p ext F 348 M348
 h349 : Has p ext F 349 M349
 h350 : Has p ext F 350 M350
 h351 : Has p ext F 351 M351
 h355 : Has p ext F 355 M355
 h356 : Has p ext F 356 M356
 x331 : ∀ args h, ext (F 331) args h = sortX (F 331) (F 331) args h
theorem state_is (L : HStam p ext F) {x : Tx} {id : Int} : FnD p ext (F 350) [.agg x.c, .rptr [.lit (.int .i64 id)] 0] (.lit (.bool (decide (x.id = id)))) := by
 refine fn_of L.h350 (M := M350) rfl ok350 rfl fun H => sem_run 9000 _ ?_;simp;refine sem_ret ?_;simp [M350];exact .le sR (D.le_refl _) (by simp)
def IxT (H0 : HpD) (f : Tx → Bool) (l : List Tx) (fv : D) (w : Nat) (fr : FrD) (H : HpD) : Prop :=
 ∃ i : Nat, w = l.length - i ∧ i ≤ l.length ∧ (∀ (j : Nat) z, j < i → l[j]? = some z → f z = false) ∧ fr = [(0, txsD l), (1, fv), (7, .lit (.int .i64 (l.length : Int))), (8, .lit (.int .i64 (i : Int)))] ∧ Sub H0 H
theorem ixT (L : Has p ext F 351 M351) {g : Nat} {cap : D} {f : Tx → Bool} {l : List Tx} (hl : l.length < 1000000) (hf : ∀ y, FnD p ext g [.agg y.c, cap] (.lit (.bool (f y)))) : FnD p ext (F 351) [txsD l, .func g [] [cap]] (.lit (.int .i64 (idxF f l))) := by
 refine fn_of L (M := M351) rfl ok351 rfl fun H => sem_run 9000 _ ?_;simp;refine sem_loop (IxT H f l (.func g [] [cap])) ?_ (k := l.length) ⟨0, by simp, by simp, by simp, rfl, sR⟩;rintro w fr H' ⟨i, rfl, hi, hn, rfl, sb⟩
 by_cases c : i < l.length
 ·obtain ⟨y, hy⟩ : ∃ y, l[i]? = some y := ⟨_, List.getElem?_eq_getElem c⟩;have hyi : l[i] = y := (by rw [List.getElem?_eq_getElem c] at hy; exact Option.some.inj hy);refine sem_run 9000 _ ?_;simp;simp [c, hyi];refine sf (hf y) ?_
  cases e : f y with
  | true =>
   simp;refine sem_ret ?_;simp [M351];refine sem_ret ?_;simp;rw [idxF_at hn hy e];exact .le sb (D.le_refl _) (by simp)
  | false =>
   simp;refine sem_ok ?_;have hw : wr .i64 ((i : Int) + 1) = ((i + 1 : Nat) : Int) := (by rw [wr_of] <;> omega);refine ⟨_, by omega, i + 1, rfl, by omega, fun j z hj hz => ?_, by rw [hw], sb⟩;rcases (by omega : j < i ∨ j = i) with h | rfl
   ·exact hn j z h hz
   ·rw [hy] at hz; cases hz; exact e
 ·have : i = l.length := (by omega);subst this;refine sem_run 9000 _ ?_;simp;refine sem_exit (sem_run 9000 _ ?_);simp;refine sem_ret ?_;simp [M351];rw [idxF_no hn];exact .le sb (D.le_refl _) (by simp)
def stateF (l : List Tx) (id : Int) : Tx := (l.find? fun x => decide (x.id = id)).getD zTx
theorem find_idx {α : Type} {f : α → Bool} {l : List α} : (l.find? f = none ∧ idxF f l = -1) ∨ ∃ (i : Nat) (x : α), l.find? f = some x ∧ l[i]? = some x ∧ idxF f l = i := by
 cases h : l.findIdx? f with
 | none =>
  refine .inl ⟨?_, by unfold idxF; rw [h]⟩;rw [List.findIdx?_eq_none_iff] at h;rw [List.find?_eq_none];intro x hx; rw [h x hx]; simp
 | some i =>
  obtain ⟨hi, h1, h2⟩ := List.findIdx?_eq_some_iff_getElem.1 h;refine .inr ⟨i, l[i], ?_, List.getElem?_eq_getElem hi, by unfold idxF; rw [h]⟩;rw [List.find?_eq_some_iff_getElem];exact ⟨h1, i, hi, rfl, fun j hj => by simpa using h2 j hj⟩
theorem stam_state (L : HStam p ext F) {l : List Tx} {id : Int} (hl : l.length < 1000000) : FnD p ext (F 340) [.lit (.int .i64 id), txsD l] (.agg (stateF l id).c) := by
 refine fn_of L.h340 (M := M340) rfl ok340 rfl fun H => sem_run 9000 _ ?_;simp;refine sf (ixT L.h351 hl (fun y => state_is L (x := y) (id := id))) ?_;simp;rcases find_idx (f := fun x : Tx => decide (x.id = id)) (l := l) with ⟨h1, h2⟩ | ⟨i, x, h1, h2, h3⟩
 ·rw [h2];simp;refine sem_ret ?_;simp [M340];unfold stateF; rw [h1];exact .le sR ztx_le (by simp)
 ·rw [h3];have hi : ¬ ((i : Int) < 0) := (by omega);have hi2 : i < l.length := (List.getElem?_eq_some_iff.1 h2).1;simp [hi, h2];refine sem_ret ?_;simp [M340];unfold stateF; rw [h1];exact .le sR (D.le_refl _) (by simp)
theorem eq_stp {a b c d : Int} : eqV (.struct [(0, none, .int), (1, none, .int)]) (.agg [.int .i64 a, .int .i64 b]) (.agg [.int .i64 c, .int .i64 d]) = some (decide (a = c) && decide (b = d)) := by
 simp only [eqV, eqVs, fieldOf, List.drop_zero, List.drop_succ_cons, keq_self, cond_true, ieq_d];have e1 : (a == c) = decide (a = c) := (by rw [Bool.eq_iff_iff]; simp);have e2 : (b == d) = decide (b = d) := (by rw [Bool.eq_iff_iff]; simp);rw [e1, e2]
 by_cases h1 : a = c <;> by_cases h2 : b = d <;> simp [h1, h2]
theorem isEq_stp {a b c d : Int} : isEq (.struct [(0, none, .int), (1, none, .int)]) (.agg [.lit (.int .i64 a), .lit (.int .i64 b)]) (.agg [.lit (.int .i64 c), .lit (.int .i64 d)]) = some (decide (a = c) && decide (b = d)) := by
 rw [← eq_stp]; rfl
attribute [simp] isEq_stp
theorem stam_never (L : HStam p ext F) {t a : Int} : FnD p ext (F 349) [.agg [.lit (.int .i64 t), .lit (.int .i64 a)]] (.lit (.bool (decide (t = 0) && decide (a = 0)))) := by
 refine fn_of L.h349 (M := M349) rfl ok349 rfl fun H => sem_run 9000 _ ?_;simp;refine sem_ret ?_;simp [M349];exact .le sR (D.le_refl _) (by simp)
def holdsT (l : List Tx) (t a at_ : Int) : Bool := if t = 0 then decide (a ≤ at_) else (decide ((stateF l t).st = 2) || decide ((stateF l t).st = 3)) && decide ((stateF l t).e ≤ at_)
def hangT (l : List Tx) (t a at_ : Int) : Bool := !decide (t = 0) && holdsT l t a at_ && decide ((stateF l t).st = 2)
theorem stam_holds (L : HStam p ext F) {l : List Tx} {t a at_ : Int} (hl : l.length < 1000000) : FnD p ext (F 355) [.agg [.lit (.int .i64 t), .lit (.int .i64 a)], .lit (.int .i64 at_), txsD l] (.tup [.lit (.bool (holdsT l t a at_)), .lit (.bool (hangT l t a at_))]) := by
 refine fn_of L.h355 (M := M355) rfl ok355 rfl fun H => sem_run 9000 _ ?_;simp
 by_cases h : t = 0
 ·simp [h];refine sem_ret ?_;simp [M355, holdsT, hangT];exact .le sR (D.le_refl _) (by simp)
 ·simp [h];refine sf (stam_state L hl (id := t)) ?_;simp
  by_cases h2 : (stateF l t).st = 2
  ·simp [h2]
   by_cases h3 : (stateF l t).e ≤ at_
   ·simp [h2, h3];refine sem_ret ?_;simp [M355, holdsT, hangT, h, h2, h3];exact .le sR (D.le_refl _) (by simp)
   ·simp [h3];refine sem_ret ?_;simp [M355, holdsT, hangT, h, h2, h3];exact .le sR (D.le_refl _) (by simp)
  ·simp [h2]
   by_cases h4 : (stateF l t).st = 3
   ·simp [h4]
    by_cases h3 : (stateF l t).e ≤ at_
    ·simp [h4, h3];refine sem_ret ?_;simp [M355, holdsT, hangT, h, h4, h3];exact .le sR (D.le_refl _) (by simp)
    ·simp [h3];refine sem_ret ?_;simp [M355, holdsT, hangT, h, h4, h3];exact .le sR (D.le_refl _) (by simp)
   ·simp [h4];refine sem_ret ?_;simp [M355, holdsT, hangT, h, h2, h4];exact .le sR (D.le_refl _) (by simp)
def neverF (t a : Int) : Bool := decide (t = 0) && decide (a = 0)
theorem sp_be {s : Sp} : s.c.take 2 = [.lit (.int .i64 s.bt), .lit (.int .i64 s.ba)] := rfl
theorem sp_en {s : Sp} : (s.c.drop 2).take 2 = [.lit (.int .i64 s.et), .lit (.int .i64 s.ea)] := rfl
theorem sp_0 {s : Sp} : s.c[0]? = some (.lit (.int .i64 s.bt)) := rfl
theorem sp_2 {s : Sp} : s.c[2]? = some (.lit (.int .i64 s.et)) := rfl
attribute [simp] sp_be sp_en sp_0 sp_2
def Calm (l : List Tx) (me : Int) : Prop := ∀ t, t ≠ me → (stateF l t).st ≠ 2
def begunF (l : List Tx) (s : Sp) (me at_ : Int) (mine : Bool) : Bool := if s.bt = me ∧ me ≠ 0 then mine else holdsT l s.bt s.ba at_
def endedF (l : List Tx) (s : Sp) (me at_ : Int) (mine : Bool) : Bool := if neverF s.et s.ea = true then false else if s.et = me ∧ me ≠ 0 then mine else holdsT l s.et s.ea at_
def seesF (l : List Tx) (s : Sp) (me at_ : Int) (mine : Bool) : Bool := begunF l s me at_ mine && !endedF l s me at_ mine
theorem hang_calm {l : List Tx} {me t a at_ : Int} (h : Calm l me) (ht : ¬ (t = me ∧ me ≠ 0)) : hangT l t a at_ = false := by
 unfold hangT
 by_cases h0 : t = 0
 ·simp [h0]
 ·have : t ≠ me := fun e => ht ⟨e, by rw [← e]; exact h0⟩;simp [h t this]
theorem compact_nil (L : HStam p ext F) : FnD p ext (F 356) [.lit .nilslice] (.lit .nilslice) := by
 refine fn_of L.h356 (M := M356) rfl ok356 rfl fun H => sem_run 9000 _ ?_;simp;refine sem_ret ?_;simp [M356];exact .le sR (D.le_refl _) (by simp)
theorem stam_sees (L : HStam p ext F) {l : List Tx} {s : Sp} {me at_ : Int} {mine : Bool} (hl : l.length < 1000000) (hc : Calm l me) : FnD p ext (F 348) [.agg s.c, .lit (.int .i64 me), .lit (.int .i64 at_), txsD l, .lit (.bool mine)] (.tup [.lit (.bool (seesF l s me at_ mine)), .lit .nilslice]) := by
 refine fn_of L.h348 (M := M348) rfl ok348 rfl fun H => sem_run 9000 _ ?_;simp;refine sem_fn (stam_holds L hl (t := s.bt) (a := s.ba) (at_ := at_)) (by first | exact D.les_refl _ | simp) (sem_run 21 _ ?_)
 have hx : (s.bt = me ∧ me ≠ 0) ∨ (s.bt = me ∧ me = 0) ∨ (s.bt ≠ me ∧ True) := by
  by_cases h1 : s.bt = me
  ·by_cases h2 : me = 0
   ·exact .inr (.inl ⟨h1, h2⟩)
   ·exact .inl ⟨h1, h2⟩
  ·exact .inr (.inr ⟨h1, trivial⟩)
 have hb1 : (s.bt = me ∧ me ≠ 0) → begunF l s me at_ mine = mine := fun h => if_pos h;have hb2 : ¬ (s.bt = me ∧ me ≠ 0) → begunF l s me at_ mine = holdsT l s.bt s.ba at_ := fun h => if_neg h;have hg : ¬ (s.bt = me ∧ me ≠ 0) → hangT l s.bt s.ba at_ = false := hang_calm hc
 let J : FrD → HpD → Prop := fun fr' H' => fr' = [(1, .lit (.int .i64 me)), (2, .lit (.int .i64 at_)), (3, txsD l), (4, .lit (.bool mine)), (5, .rptr s.c 0), (12, .lit .nilslice), (13, .lit (.bool (begunF l s me at_ mine))), (14, .lit (.bool false))] ∧ Sub H H'
 rcases hx with ⟨k1, k2⟩ | ⟨k1, k2⟩ | ⟨k1, k2⟩
 focus
  have hb := hb1 ⟨k1, k2⟩;refine sem_run 2 _ ?_;simp [k1, k2]
  refine sem_cut J (sem_run 9000 _ (by
   simp;refine sem_ok ⟨?_, sR⟩
   simp [hb])) ?_
 rotate_left
 focus
  have hb := hb2 (by simp [k2]);have hh := hg (by simp [k2]);have k1' : (s.bt = me) = True := eq_true k1;have k2' : (me = 0) = True := eq_true k2;refine sem_run 2 _ ?_;simp [k1', k2']
  refine sem_cut J (sem_run 9000 _ (by
   simp;refine sem_as_ok [(1, .lit (.int .i64 me)), (2, .lit (.int .i64 at_)), (3, txsD l), (4, .lit (.bool mine)), (5, .rptr s.c 0), (12, .lit .nilslice), (13, .lit (.bool (begunF l s me at_ mine))), (14, .lit (.bool false))] ?_ (sem_ok ⟨rfl, sR⟩)
   simp [frLe_cons, frLe_nil, lk, D.le_refl, hb, hh])) ?_
 rotate_left
 focus
  have hb := hb2 (by simp [k1]);have hh := hg (by simp [k1]);simp [k1]
  refine sem_cut J (sem_run 9000 _ (by
   simp;refine sem_as_ok [(1, .lit (.int .i64 me)), (2, .lit (.int .i64 at_)), (3, txsD l), (4, .lit (.bool mine)), (5, .rptr s.c 0), (12, .lit .nilslice), (13, .lit (.bool (begunF l s me at_ mine))), (14, .lit (.bool false))] ?_ (sem_ok ⟨rfl, sR⟩)
   simp [frLe_cons, frLe_nil, lk, D.le_refl, hb, hh])) ?_
 all_goals
  clear hb1 hb2 hg k1 k2;rintro fr' H' ⟨rfl, sub⟩
  cases hB : begunF l s me at_ mine with
  | false =>
   refine sem_run 9000 _ ?_;simp;refine sem_ret ?_;simp [M348, seesF, hB];exact .le sub (D.le_refl _) (by simp)
  | true =>
   refine sem_run 9000 _ ?_;simp;refine sem_fn (stam_holds L hl (t := s.et) (a := s.ea) (at_ := at_)) (by first | exact D.les_refl _ | simp) (sem_run 8 _ ?_);simp;refine sem_cut (fun fr' H2 => FrLe fr' [(12, .lit .nilslice), (14, .lit (.bool false)), (15, .lit (.bool (endedF l s me at_ mine)))] ∧ Sub H H2) (sem_run 9000 _ ?_) ?_
   ·simp;refine sf (stam_never L (t := s.et) (a := s.ea)) ?_;simp;have hn : (decide (s.et = 0) && decide (s.ea = 0)) = neverF s.et s.ea := rfl;rw [hn]
    cases h1 : neverF s.et s.ea with
    | true =>
     simp;refine sem_ok ⟨?_, sub⟩;have he : endedF l s me at_ mine = false := if_pos h1;simp [lk, D.le_refl, he]
    | false =>
     have he0 : endedF l s me at_ mine = (if s.et = me ∧ me ≠ 0 then mine else holdsT l s.et s.ea at_) := if_neg (by simp [h1])
     by_cases k1 : s.et = me
     ·by_cases k2 : me = 0
      ·have k1' : (s.et = me) = True := eq_true k1;have k2' : (me = 0) = True := eq_true k2;have he : endedF l s me at_ mine = holdsT l s.et s.ea at_ := he0.trans (if_neg (by simp [k2]));have hh := hang_calm (a := s.ea) (at_ := at_) hc (t := s.et) (by simp [k2]);simp [k1', k2'];refine sem_ok ⟨?_, sub⟩;simp [lk, D.le_refl, he, hh]
      ·have he : endedF l s me at_ mine = mine := he0.trans (if_pos ⟨k1, k2⟩);simp [k1, k2];refine sem_ok ⟨?_, sub⟩;simp [lk, D.le_refl, he]
     ·have he : endedF l s me at_ mine = holdsT l s.et s.ea at_ := he0.trans (if_neg (by simp [k1]));have hh := hang_calm (a := s.ea) (at_ := at_) hc (t := s.et) (by simp [k1]);simp [k1];refine sem_ok ⟨?_, sub⟩;simp [lk, D.le_refl, he, hh]
   ·rintro fr2 H2 ⟨hfr, sub2⟩;refine sem_as_ok [(12, .lit .nilslice), (14, .lit (.bool false)), (15, .lit (.bool (endedF l s me at_ mine)))] hfr ?_;refine sem_run 9000 _ ?_;simp;refine sem_call (sort_wc L.x331 (H0 := H2) (l := []) ⟨.nil .refl, .inl ⟨rfl, rfl⟩⟩ (fun _ h => by cases h) (by simp)) ?_;rintro _ H3 ⟨rfl, gx, _, _⟩;refine sem_run 9000 _ ?_;simp;refine sf (compact_nil L) ?_;simp;refine sem_ret ?_;simp [M348, seesF, hB];exact .le (sub2.trans gx.gr.sub) (D.le_refl _) (by simp)
theorem stam_Sees (L : HStam p ext F) {l : List Tx} {s : Sp} {me at_ : Int} (hl : l.length < 1000000) (hc : Calm l me) : FnD p ext (F 337) [.agg s.c, .lit (.int .i64 me), .lit (.int .i64 at_), txsD l] (.tup [.lit (.bool (seesF l s me at_ true)), .lit .nilslice]) := by
 refine fn_of L.h337 (M := M337) rfl ok337 rfl fun H => sem_run 9000 _ ?_;simp;refine sf (stam_sees L hl hc (s := s) (at_ := at_) (mine := true)) ?_;simp;refine sem_ret ?_;simp [M337];exact .le sR (D.le_refl _) (by simp)
theorem stam_Base (L : HStam p ext F) {l : List Tx} {s : Sp} {me at_ : Int} (hl : l.length < 1000000) (hc : Calm l me) : FnD p ext (F 338) [.agg s.c, .lit (.int .i64 me), .lit (.int .i64 at_), txsD l] (.tup [.lit (.bool (seesF l s me at_ false)), .lit .nilslice]) := by
 refine fn_of L.h338 (M := M338) rfl ok338 rfl fun H => sem_run 9000 _ ?_;simp;refine sf (stam_sees L hl hc (s := s) (at_ := at_) (mine := false)) ?_;simp;refine sem_ret ?_;simp [M338];exact .le sR (D.le_refl _) (by simp)
end Go.Lib
end

section
set_option maxRecDepth 10000
namespace Go.Lib
open Go.Vm Go.Dv
variable {p : Prog} {ext : Ext} {F : Nat → Nat}
structure Wr (H H' : HpD) (X : Nat → Prop) : Prop where
 next : H.next ≤ H'.next
 blk : ∀ b, b < H.next → ¬ X b → H'.blk b = H.blk b
structure Bk where
 ticks : Int
 l : List Tx
structure BkAt (H : HpD) (bb : Nat) (s : D) (k : Bk) : Prop where
 b : H.blk bb = .cells [.lit (.int .i64 k.ticks), s] false
 lt : bb < H.next
 at_ : (s = .lit .nilslice ∧ k.l = []) ∨ ∃ bl ex, s = .slice bl 0 4 k.l.length k.l.length ex ∧ bl < H.next ∧ H.blk bl = .cells (txE k.l).flatten false
theorem BkAt.mono {H H' : HpD} {bb : Nat} {s : D} {k : Bk} (h : BkAt H bb s k) (hs : Sub H H') : BkAt H' bb s k := by
 refine ⟨by rw [hs.blk _ h.lt]; exact h.b, Nat.lt_of_lt_of_le h.lt hs.next, ?_⟩;rcases h.at_ with h | ⟨bl, ex, h1, h2, h3⟩
 ·exact .inl h
 ·exact .inr ⟨bl, ex, h1, Nat.lt_of_lt_of_le h2 hs.next, by rw [hs.blk _ h2]; exact h3⟩
theorem sub00 {H : HpD} : Sub H00 H := ⟨Nat.zero_le _, fun _ h => absurd h (Nat.not_lt_zero _)⟩
theorem BkAt.gr {H : HpD} {bb : Nat} {s : D} {k : Bk} (h : BkAt H bb s k) : Gr H00 H 4 s (txE k.l) := by
 refine ⟨sub00, txE_4, ?_⟩;rcases h.at_ with ⟨rfl, h2⟩ | ⟨bl, ex, rfl, h2, h3⟩
 ·exact .inl ⟨rfl, by rw [h2]; rfl⟩
 ·exact .inr ⟨bl, ex, txE k.l, by simp, Nat.zero_le _, h2, h3, D.less_refl _⟩
theorem BkAt.nb {H : HpD} {bb : Nat} {s : D} {k : Bk} (h : BkAt H bb s k) : ¬ s.hasB bb := by
 rcases h.at_ with ⟨rfl, h2⟩ | ⟨bl, ex, rfl, h2, h3⟩
 ·simp [D.hasB]
 ·simp only [D.hasB];rintro rfl;rw [h.b] at h3
  have := congrArg (fun x => match x with | BD.cells l _ => l.length | _ => 0) h3
  simp at this
  cases hl : k.l with
  | nil => rw [hl] at this; simp [txE] at this
  | cons x l => rw [hl] at this; simp [txE, Tx.c] at this; omega
theorem BkAt.rig {H : HpD} {bb : Nat} {s : D} {k : Bk} (h : BkAt H bb s k) : rigid s = true := by
 rcases h.at_ with ⟨rfl, _⟩ | ⟨bl, ex, rfl, _⟩ <;> rfl
theorem BkAt.lenb {H : HpD} {bb : Nat} {s : D} {k : Bk} (h : BkAt H bb s k) : lenbD s = some (.lit (.int .i64 (k.l.length : Int))) := by
 rcases h.at_ with ⟨rfl, h2⟩ | ⟨bl, ex, rfl, _⟩
 ·rw [h2]; rfl
 ·rfl
structure HTxns (p : Prog) (ext : Ext) (F : Nat → Nat) : Prop where
 h341 : Has p ext F 341 M341
 h342 : Has p ext F 342 M342
 h343 : Has p ext F 343 M343
 h344 : Has p ext F 344 M344
 h345 : Has p ext F 345 M345
 h346 : Has p ext F 346 M346
 h347 : Has p ext F 347 M347
 h352 : Has p ext F 352 M352
 h353 : Has p ext F 353 M353
 h354 : Has p ext F 354 M354
 h357 : Has p ext F 357 M357
 h358 : Has p ext F 358 M358
theorem txns_new (L : HTxns p ext F) {H : HpD} : Td p ext (F 345) [] H (.ptr H.next 0) (H.new (.cells [.lit (.int .i64 0), .lit .nilslice] false)) := by
 refine td_of L.h345 (M := M345) rfl ok345 rfl ?_ ?_ (sem_run 9000 _ ?_)
 ·simp
 ·exact fun n => n.new (by simp [BD.under])
 simp;refine sem_ret ?_;simp [M345];exact .le sW (D.le_refl _) (by simp [D.under])
theorem txns_now (L : HTxns p ext F) {bb : Nat} {s : D} {k : Bk} {H : HpD} (h : BkAt H bb s k) (hk : 0 ≤ k.ticks ∧ k.ticks < 1000000000) : Td p ext (F 347) [.ptr bb 0] H (.lit (.int .i64 (k.ticks + 1))) H := by
 refine td_of L.h347 (M := M347) rfl ok347 rfl (Nat.le_refl _) (fun h => h) (sem_run 9000 _ ?_);simp [h.b];have hw : wr .i64 (k.ticks + 1) = k.ticks + 1 := (by rw [wr_of] <;> omega);refine sem_ret ?_;simp [M347, hw];exact .le sW (D.le_refl _) (by simp)
theorem appendD_sliceN {sz by_ b cap n : Nat} {ex ro : Bool} {el : List (List D)} {H : HpD} {s : D} (hb : H.blk b = .cells el.flatten ro) (hl : ∀ e, e ∈ el → e.length = sz) (hn : n = el.length) : appendD sz by_ H s (.slice b 0 sz n cap ex) = appendD sz by_ H s (.row sz .p el) := by
 subst hn;simp only [appendD, lenD]
 cases hm : el.length with
 | zero => rfl
 | succ m =>
  simp only
  have h1 : srcD H sz (m + 1) (.slice b 0 sz (m + 1) cap ex) = some el.flatten := by
   simp only [srcD];rw [show Nat.beq sz sz = true from nbeq.2 rfl, show Nat.ble (m + 1) (m + 1) = true from nble.2 (Nat.le_refl _), readD_eq, hb];simp only [Nat.zero_add, List.drop_zero, cond_true];have := flatten_len hl;rw [if_pos (by rw [this, hm]; exact Nat.le_refl _), List.take_of_length_le (by rw [this, hm]; exact Nat.le_refl _)]
  have h2 : srcD H sz (m + 1) (.row sz .p el) = some el.flatten := by
   simp only [srcD];rw [show Nat.beq sz sz = true from nbeq.2 rfl, show Nat.ble (m + 1) el.length = true from nble.2 (by omega)];simp only [cond_true];rw [List.take_of_length_le (by omega)]
  rw [h1, h2]
theorem nilC_slice {b o sz n c : Nat} {ex : Bool} {k : Bool → Cfg} : nilC (.slice b o sz n c ex) (.lit .nilslice) k = k false := rfl
attribute [simp] nilC_slice
theorem clip_txs (L : Has p ext F 354 M354) {H0 H : HpD} {s : D} {el : List (List D)} (g : Gr H0 H 4 s el) : WcD p ext (F 354) [s] H fun d H' => Gr H0 H' 4 d el ∧ H' = H := by
 refine wc_of L (M := M354) rfl ok354 rfl (sem_run 9000 _ ?_);rcases g.at_ with ⟨rfl, he⟩ | ⟨b, ex, el0, rfl, h1, h2, h3, h4⟩
 ·simp [slc_nil];refine sem_ret ?_;simp [M354];exact g
 ·simp [slc_own];refine sem_ret ?_;simp [M354];exact ⟨g.sub, g.len, .inr ⟨b, true, el0, rfl, h1, h2, h3, h4⟩⟩
theorem clone_txs (L : HTxns p ext F) {bb : Nat} {s : D} {k : Bk} {H : HpD} (h : BkAt H bb s k) (hl : k.l.length < 1000000) : WcD p ext (F 353) [s] H (fun d H' => Gr H H' 4 d (txE k.l)) := by
 refine wc_of L.h353 (M := M353) rfl ok353 rfl (sem_run 9000 _ ?_);rcases h.at_ with ⟨rfl, h2⟩ | ⟨bl, ex, rfl, h2, h3⟩
 ·simp;refine sem_ret ?_;simp [M353, h2];exact .start
 ·simp;obtain ⟨s', H', e, g, _⟩ := (Gr.lit (el := []) (sz := 4) (H := H) (ex := true) (c := []) (n := 0) Sub.refl (by simp) rfl rfl).app (by_ := 32) (m := .p) (new := txE k.l) txE_4 txE_flats (roomyD (by simp; omega) (by simp; omega));have e2 := appendD_sliceN (sz := 4) (by_ := 32) (b := bl) (cap := k.l.length) (n := k.l.length) (ex := ex) (ro := false) (el := txE k.l) (H := H.new (.cells [] false)) (s := .slice H.next 0 4 0 0 true) (by simp [ltn h2, h3]) txE_4 (by simp);rw [e] at e2;simp [e2];refine sem_ret ?_;simp [M353];simpa using g
theorem txns_all (L : HTxns p ext F) {bb : Nat} {s : D} {k : Bk} {H : HpD} (h : BkAt H bb s k) (hl : k.l.length < 1000000) : Td p ext (F 346) [.ptr bb 0] H (txsD k.l) H := by
 refine td_of L.h346 (M := M346) rfl ok346 rfl (Nat.le_refl _) (fun h => h) (sem_run 9000 _ ?_);simp [h.b];refine sem_call (clone_txs L h hl) fun d H1 g1 => ?_;refine sem_run 9000 _ ?_;simp;refine sem_call (clip_txs L.h354 g1) ?_;rintro d2 H2 ⟨g2, rfl⟩;refine sem_run 9000 _ ?_;simp;refine sem_ret ?_;simp [M346];exact g2.fin (by simp) (.inl rfl)
def inF (l : List Tx) (id : Int) (sts : List Int) : Bool := decide (1 ≤ id ∧ id ≤ l.length) && sts.any fun x => decide (((l[(id - 1).toNat]?).getD zTx).st = x)
def IxTx (H0 : HpD) (l : List Int) (x : Int) (w : Nat) (fr : FrD) (H : HpD) : Prop :=
 ∃ i : Nat, w = l.length - i ∧ i ≤ l.length ∧ (∀ (j : Nat) z, j < i → l[j]? = some z → decide (x = z) = false) ∧ fr = [(0, intsD .c l), (1, .lit (.int .i64 x)), (7, .lit (.int .i64 (l.length : Int))), (8, .lit (.int .i64 (i : Int)))] ∧ Sub H0 H
theorem ixInts (L : HTxns p ext F) {l : List Int} {x : Int} (hl : l.length < 1000000) : FnD p ext (F 358) [intsD .c l, .lit (.int .i64 x)] (.lit (.int .i64 (idxF (fun z => decide (x = z)) l))) := by
 refine fn_of L.h358 (M := M358) rfl ok358 rfl fun H => sem_run 9000 _ ?_;simp;refine sem_loop (IxTx H l x) ?_ (k := l.length) ⟨0, by simp, by simp, by simp, rfl, sR⟩;rintro w fr H' ⟨i, rfl, hi, hn, rfl, sb⟩
 by_cases c : i < l.length
 ·obtain ⟨y, hy⟩ : ∃ y, l[i]? = some y := ⟨_, List.getElem?_eq_getElem c⟩;have hyi : l[i] = y := (by rw [List.getElem?_eq_getElem c] at hy; exact Option.some.inj hy);refine sem_run 9000 _ ?_;simp;simp [c, hyi]
  by_cases e : x = y
  ·simp [e];refine sem_ret ?_;simp [M358];refine sem_ret ?_;simp;rw [e] at hn;rw [idxF_at hn hy (by simp)];exact .le sb (D.le_refl _) (by simp)
  ·simp [e];refine sem_ok ?_;have hw : wr .i64 ((i : Int) + 1) = ((i + 1 : Nat) : Int) := (by rw [wr_of] <;> omega);refine ⟨_, by omega, i + 1, rfl, by omega, fun j z hj hz => ?_, by rw [hw], sb⟩;rcases (by omega : j < i ∨ j = i) with h | rfl
   ·exact hn j z h hz
   ·rw [hy] at hz; cases hz; simpa using e
 ·have : i = l.length := (by omega);subst this;refine sem_run 9000 _ ?_;simp;refine sem_exit (sem_run 9000 _ ?_);simp;refine sem_ret ?_;simp [M358];rw [idxF_no hn];exact .le sb (D.le_refl _) (by simp)
theorem containsInts (L : HTxns p ext F) {l : List Int} {x : Int} (hl : l.length < 1000000) : FnD p ext (F 357) [intsD .c l, .lit (.int .i64 x)] (.lit (.bool (l.any fun z => decide (x = z)))) := by
 refine fn_of L.h357 (M := M357) rfl ok357 rfl fun H => sem_run 9000 _ ?_;simp;refine sf (ixInts L hl (x := x)) ?_;simp;refine sem_ret ?_;simp [M357];rw [idxF_any];exact .le sR (D.le_refl _) (by simp)
def inD (s : D) (l : List Tx) (id : Int) (sts : List Int) : D := if inF l id sts = true then (match s with | .slice bl _ _ _ _ _ => .ptr bl ((id - 1).toNat * 4) | _ => .lit .nilptr) else .lit .nilptr
theorem txns_in (L : HTxns p ext F) {bb : Nat} {s : D} {k : Bk} {id : Int} {sts : List Int} {H : HpD} (h : BkAt H bb s k) (hl : k.l.length < 1000000) (hs : sts.length < 1000000) (hid : -1000000000 < id) : Td p ext (F 352) [.ptr bb 0, .lit (.int .i64 id), intsD .c sts] H (inD s k.l id sts) H := by
 refine td_of L.h352 (M := M352) rfl ok352 rfl (Nat.le_refl _) (fun h => h) (sem_run 9000 _ ?_);simp
 by_cases c1 : id < 1
 ·simp [c1];refine sem_ret ?_;have : inF k.l id sts = false := (by unfold inF; rw [decide_eq_false (by omega)]; rfl);simp [M352, inD, this];exact .le sW (D.le_refl _) (by simp)
 ·have e1 := h.lenb
  by_cases c2 : (k.l.length : Int) < id
  ·simp [c1, c2, h.b, e1];refine sem_ret ?_;have : inF k.l id sts = false := (by unfold inF; rw [decide_eq_false (by omega)]; rfl);simp [M352, inD, this];exact .le sW (D.le_refl _) (by simp)
  ·obtain ⟨n, rfl⟩ : ∃ n : Nat, id = (n : Int) + 1 := ⟨(id - 1).toNat, by omega⟩;rcases h.at_ with ⟨_, h2⟩ | ⟨bl, ex, rfl, h2, h3⟩
   ·rw [h2] at c2; simp at c2
   ·have hn : n < k.l.length := (by omega);obtain ⟨x, hx⟩ : ∃ x, k.l[n]? = some x := ⟨_, List.getElem?_eq_getElem hn⟩;have hxe : (txE k.l)[n]? = some x.c := (by simp [txE, hx]);have f1 := flat_get (j := 1) txE_4 hxe (by omega);have hw : wr .i64 ((n : Int) + 1 - 1) = (n : Int) := (by rw [wr_of] <;> omega);have hfl : (txE k.l).flatten.length = k.l.length * 4 := (by rw [flatten_len txE_4, txE_len]);have hw2 : wr .i64 (n : Int) = (n : Int) := (by rw [wr_of] <;> omega);have c2' : ¬ (k.l.length : Int) < (n : Int) + 1 := (by omega);simp [c1, c2', h.b, hw2, hn, h3, f1, -List.length_flatten];refine sf (containsInts L hs (x := x.st)) ?_
    simp
    have hin : inF k.l ((n : Int) + 1) sts = sts.any fun z => decide (x.st = z) := by
     unfold inF;have e1 : ((n : Int) + 1 - 1).toNat = n := (by omega);rw [decide_eq_true (by omega), e1, hx]; rfl
    cases hb : sts.any fun z => decide (x.st = z) with
    | true =>
     simp [h.b, hw2, hn];refine sem_ret ?_;simp [M352, inD, hin, hb];refine .le sW (by simp [D.le]) (by simpa [D.under] using h2)
    | false =>
     simp;refine sem_ret ?_;simp [M352, inD, hin, hb];exact .le sW (D.le_refl _) (by simp)
theorem set_tx {n j : Nat} {l : List Tx} {x y : Tx} {d : D} (hx : l[n]? = some x) (hj : j < 4) (hd : x.c.set j d = y.c) : spliceD (txE l).flatten (n * 4 + j) [d] = (txE (l.set n y)).flatten := by
 have hxe : (txE l)[n]? = some x.c := (by simp [txE, hx]);rw [spliceD_flatten txE_4 hxe hj, hd];simp [txE, List.map_set]
structure BkX (H : HpD) (bb bl n : Nat) (ex : Bool) (x : Tx) (k : Bk) : Prop where
 at_ : BkAt H bb (.slice bl 0 4 k.l.length k.l.length ex) k
 len : k.l.length < 1000000
 get : k.l[n]? = some x
section
variable {bb bl n : Nat} {ex : Bool} {x : Tx} {k : Bk} {H : HpD}
theorem BkX.blk (h : BkX H bb bl n ex x k) : bl < H.next ∧ H.blk bl = .cells (txE k.l).flatten false := by
 rcases h.at_.at_ with ⟨e, _⟩ | ⟨bl', ex', e, h1, h2⟩
 ·cases e
 ·cases e; exact ⟨h1, h2⟩
theorem BkX.lt (h : BkX H bb bl n ex x k) : n < k.l.length := (List.getElem?_eq_some_iff.1 h.get).1
theorem BkX.fl (h : BkX H bb bl n ex x k) (j : Nat) (hj : j < 4) : n * 4 + j + 1 ≤ (txE k.l).flatten.length := by
 have := h.lt;rw [flatten_len txE_4, txE_len]; omega
theorem BkX.ne (h : BkX H bb bl n ex x k) : bb ≠ bl ∧ bl ≠ bb := by
 have : bb ≠ bl := fun e => by
  have h1 := h.at_.b;rw [e, h.blk.2] at h1
  have h2 : (txE k.l).flatten.length = 2 := by
   have := congrArg (fun x => match x with | BD.cells l _ => l.length | _ => 0) h1
   simpa using this
  rw [flatten_len txE_4, txE_len] at h2;omega
 exact ⟨this, this.symm⟩
theorem BkX.cell (h : BkX H bb bl n ex x k) {j : Nat} {d : D} (hj : j < 4) (hd : x.c[j]? = some d) : (txE k.l).flatten[n * 4 + j]? = some d := by
 have hxe : (txE k.l)[n]? = some x.c := (by simp [txE, h.get]);rw [flat_get txE_4 hxe hj, hd]
theorem BkX.set (h : BkX H bb bl n ex x k) (y : Tx) : BkX (H.put bl (.cells (txE (k.l.set n y)).flatten false)) bb bl n ex y ⟨k.ticks, k.l.set n y⟩ := by
 refine ⟨⟨?_, by simpa using h.at_.lt, ?_⟩, by simpa using h.len, ?_⟩
 ·rw [put_blk, if_neg h.ne.1]; simpa using h.at_.b
 ·exact .inr ⟨bl, ex, by simp, by simpa using h.blk.1, by simp⟩
 ·rw [List.getElem?_set, if_pos rfl, if_pos h.lt]
theorem BkX.tick (h : BkX H bb bl n ex x k) (c : Int) : BkX (H.put bb (.cells [.lit (.int .i64 c), .slice bl 0 4 k.l.length k.l.length ex] false)) bb bl n ex x ⟨c, k.l⟩ :=
 ⟨⟨by simp, by simpa using h.at_.lt, .inr ⟨bl, ex, rfl, by simpa using h.blk.1, by rw [put_blk, if_neg h.ne.2]; exact h.blk.2⟩⟩, h.len, h.get⟩
theorem txs_buu {l : List Tx} {m : Nat} {ro : Bool} : (BD.cells (txE l).flatten ro).under m := by
 simp only [BD.under]
 induction l with
 | nil => simp [txE, D.unders]
 | cons x l ih => simp only [txE, List.map_cons, List.flatten_cons, Tx.c, List.cons_append, List.nil_append, D.unders] at ih ⊢; simp [ih]
end
theorem txns_inY (L : HTxns p ext F) {bb bl n : Nat} {ex : Bool} {x : Tx} {k : Bk} {sts : List Int} {H : HpD} (h : BkX H bb bl n ex x k) (hs : sts.length < 1000000) (hb : (sts.any fun z => decide (x.st = z)) = true) : Td p ext (F 352) [.ptr bb 0, .lit (.int .i64 ((n : Int) + 1)), intsD .c sts] H (.ptr bl (n * 4)) H := by
 have hn := h.lt
 have hin : inF k.l ((n : Int) + 1) sts = true := by
  unfold inF;have e1 : ((n : Int) + 1 - 1).toNat = n := (by omega);rw [decide_eq_true (by omega), e1, h.get]; simpa using hb
 have := txns_in L h.at_ h.len (id := (n : Int) + 1) hs (by omega);unfold inD at this;rw [if_pos hin] at this;have e1 : ((n : Int) + 1 - 1).toNat = n := (by omega);simp only [e1] at this;exact this
theorem txns_commit (L : HTxns p ext F) {bb bl n : Nat} {ex : Bool} {x : Tx} {k : Bk} {H : HpD} (h : BkX H bb bl n ex x k) (hst : x.st = 2) : Td p ext (F 343) [.ptr bb 0, .lit (.int .i64 ((n : Int) + 1))] H (.lit (.bool true)) (H.put bl (.cells (txE (k.l.set n ⟨x.id, 3, x.b, x.e⟩)).flatten false)) := by
 refine td_of L.h343 (M := M343) rfl ok343 rfl ?_ ?_ (sem_run 9000 _ ?_)
 ·simp
 ·exact fun m => m.put h.blk.1 txs_buu
 simp;refine sem_td (txns_inY L h (sts := [2]) (by simp) (by simp [hst])) (by simp [D.les, D.le, intsD]) (sem_run 9000 _ ?_);have e1 := set_tx (j := 1) (y := ⟨x.id, 3, x.b, x.e⟩) (d := .lit (.int .i64 3)) h.get (by omega) rfl;have e2 := h.fl 1 (by omega);simp [h.blk.2, e1, e2, -List.length_flatten];refine sem_ret ?_;simp [M343];have := h.blk.1;exact .le sW (D.le_refl _) (by simp)
theorem txns_abort (L : HTxns p ext F) {bb bl n : Nat} {ex : Bool} {x : Tx} {k : Bk} {H : HpD} (h : BkX H bb bl n ex x k) (hst : x.st = 1 ∨ x.st = 2) : Td p ext (F 344) [.ptr bb 0, .lit (.int .i64 ((n : Int) + 1))] H (.lit (.bool true)) (H.put bl (.cells (txE (k.l.set n ⟨x.id, 4, x.b, x.e⟩)).flatten false)) := by
 refine td_of L.h344 (M := M344) rfl ok344 rfl ?_ ?_ (sem_run 9000 _ ?_)
 ·simp
 ·exact fun m => m.put h.blk.1 txs_buu
 simp;refine sem_td (txns_inY L h (sts := [1, 2]) (by simp) (by simpa using hst)) (by simp [D.les, D.le, intsD]) (sem_run 9000 _ ?_);have e1 := set_tx (j := 1) (y := ⟨x.id, 4, x.b, x.e⟩) (d := .lit (.int .i64 4)) h.get (by omega) rfl;have e2 := h.fl 1 (by omega);simp [h.blk.2, e1, e2, -List.length_flatten];refine sem_ret ?_;simp [M344];have := h.blk.1;exact .le sW (D.le_refl _) (by simp)
def prepF (k : Bk) (n : Nat) (x : Tx) : Bk := ⟨k.ticks + 1, k.l.set n ⟨x.id, 2, x.b, k.ticks + 2⟩⟩
theorem txns_prepare (L : HTxns p ext F) {bb bl n : Nat} {ex : Bool} {x : Tx} {k : Bk} {H : HpD} (h : BkX H bb bl n ex x k) (hst : x.st = 1) (hk : 0 ≤ k.ticks ∧ k.ticks < 100000000) : Td p ext (F 342) [.ptr bb 0, .lit (.int .i64 ((n : Int) + 1))] H (.tup [.lit (.int .i64 (k.ticks + 2)), .lit (.bool true)]) ((H.put bb (.cells [.lit (.int .i64 (k.ticks + 1)), .slice bl 0 4 k.l.length k.l.length ex] false)).put bl (.cells (txE (prepF k n x).l).flatten false)) := by
 refine td_of L.h342 (M := M342) rfl ok342 rfl ?_ ?_ (sem_run 9000 _ ?_)
 ·simp
 ·exact fun m => (m.put h.at_.lt (by simpa [BD.under, D.unders, D.under] using h.blk.1)).put (by simpa using h.blk.1) txs_buu
 simp;refine sem_td (txns_inY L h (sts := [1]) (by simp) (by simp [hst])) (by simp [D.les, D.le, intsD]) (sem_run 9000 _ ?_);have w1 : wr .i64 (k.ticks + 1) = k.ticks + 1 := (by rw [wr_of] <;> omega);have w2 : wr .i64 (k.ticks + 1 + 1) = k.ticks + 1 + 1 := (by rw [wr_of] <;> omega);have e1 := set_tx (j := 1) (y := ⟨x.id, 2, x.b, x.e⟩) (d := .lit (.int .i64 2)) h.get (by omega) rfl;have e2 := h.fl 1 (by omega);simp [h.at_.b, w1];have ht := h.tick (k.ticks + 1);refine sem_td (txns_now L ht.at_ (by constructor <;> simp <;> omega)) (by first | exact D.les_refl _ | simp) (sem_run 9000 _ ?_)
 simp;have e3 := set_tx (n := n) (l := k.l.set n ⟨x.id, 2, x.b, x.e⟩) (x := ⟨x.id, 2, x.b, x.e⟩) (j := 3) (y := ⟨x.id, 2, x.b, k.ticks + 2⟩) (d := .lit (.int .i64 (k.ticks + 2))) (by rw [List.getElem?_set, if_pos rfl, if_pos h.lt]) (by omega) rfl;have hs := h.set ⟨x.id, 2, x.b, x.e⟩;have e4 := hs.fl 3 (by omega);have e5 := (hs.set ⟨x.id, 2, x.b, k.ticks + 2⟩).cell (j := 3) (d := .lit (.int .i64 (k.ticks + 2))) (by omega) rfl;simp only [List.set_set] at e3 e5;have w3 : k.ticks + 1 + 1 = k.ticks + 2 := (by omega);simp [h.blk.2, h.ne, e1, e2, e3, e4, e5, w3, -List.length_flatten];refine sem_ret ?_
 simp [M342];have h1 := h.blk.1;have h2 := h.at_.lt;refine .le ⟨by simp, fun b hb => ?_⟩ (D.le_refl _) (by simp);simp only [put_blk, prepF]
theorem txns_begin (L : HTxns p ext F) {bb : Nat} {s : D} {k : Bk} {H : HpD} (h : BkAt H bb s k) (hl : k.l.length < 1000000) (hk : 0 ≤ k.ticks ∧ k.ticks < 100000000) : WcD p ext (F 341) [.ptr bb 0] H (fun d H' => d = .lit (.int .i64 ((k.l.length : Int) + 1)) ∧ ∃ bl, BkAt H' bb (.slice bl 0 4 (k.l.length + 1) (k.l.length + 1) false) ⟨k.ticks, k.l ++ [⟨(k.l.length : Int) + 1, 1, k.ticks + 1, 0⟩]⟩ ∧ H.next ≤ bl ∧ Wr H H' (fun b => b = bb ∨ s.hasB b)) := by
 refine wc_of L.h341 (M := M341) rfl ok341 rfl (sem_run 9000 _ ?_);simp [h.b];have e1 := h.lenb;have w1 : wr .i64 ((k.l.length : Int) + 1) = (k.l.length : Int) + 1 := (by rw [wr_of] <;> omega);simp [e1, w1];refine sem_dtd (txns_now L h (by omega)) (by first | exact D.les_refl _ | simp) (sem_run 9000 _ ?_);simp [h.b, ltn h.lt, h.rig];rw [appendD_slice1 (b := H.next) (cs := (⟨(k.l.length : Int) + 1, 1, k.ticks + 1, 0⟩ : Tx).c) (ro := false) (by simp; rfl) (by simp)];refine sem_push (h.gr.mono sR) rfl rfl (roomyD (by simp; omega) (by simp; omega)) fun s' H' g1 k1 n1 => ?_;obtain ⟨n1, rfl⟩ := n1
 have hb2 : H'.blk bb = .cells [.lit (.int .i64 k.ticks), s] false := by
  rw [k1 bb (by have := h.lt; simp; omega) h.nb, new_blk, if_neg (by have := h.lt; omega)]; exact h.b
 simp [hb2]
 have g2 : Gr H00 (H'.put bb (.cells [.lit (.int .i64 k.ticks), .slice (H.next + 1) 0 4 (k.l.length + 1) (k.l.length + 1) false] false)) 4 (.slice (H.next + 1) 0 4 (k.l.length + 1) (k.l.length + 1) false) (txE (k.l ++ [⟨(k.l.length : Int) + 1, 1, k.ticks + 1, 0⟩])) := by
  have := g1.keep (H1 := H'.put bb (.cells [.lit (.int .i64 k.ticks), .slice (H.next + 1) 0 4 (k.l.length + 1) (k.l.length + 1) false] false)) sub00 (by simp) fun x hx => by
   simp only [D.hasB, Dv.new_next] at hx;rw [put_blk, if_neg (by have := h.lt; omega)]
  simpa [txE] using this
 obtain ⟨H3, w3, x3, k3, n3⟩ := g2.exact;refine sem_weak_ret (w3 _ _) (sem_ret ?_);simp [M341];have hn1 : H.next + 1 ≤ H'.next := (by simpa using n1);rcases x3.at_ with ⟨e, _⟩ | ⟨bl, ex, e, h1, h2, h3⟩
 ·cases e
 ·simp only [D.slice.injEq] at e;obtain ⟨rfl, _, _, _, _, _⟩ := e;refine ⟨H.next + 1, ⟨?_, ?_, .inr ⟨H.next + 1, false, by simp, h2, h3⟩⟩, by omega, ⟨by rw [n3]; simp; omega, fun b hb hx => ?_⟩⟩
  ·rw [k3 bb (by simp only [D.hasB]; have := h.lt; omega), put_blk, if_pos rfl]
  ·rw [n3]; simp; have := h.lt; omega
  ·rw [not_or] at hx;rw [k3 b (by simp only [D.hasB]; omega), put_blk, if_neg hx.1, k1 b (by simp; omega) hx.2, new_blk, if_neg (by omega)]
end Go.Lib
end

section
namespace Go.Lib
open Go.Vm Go.Dv
set_option maxRecDepth 100000
abbrev K65 (F : Nat → Nat) : KC := .seq (.region [⟨some 2,.a (.box (.tmp 0)),none⟩,mi 4 0] [2] [1,2])
 (.seq (.seq (.region [fa 6 0 2,l1 7 6] [] [1,2,7])
 (.block 0 (.seq (.region [bi 9 .eql 7 1,mv 8 9] [] [1,2,7,8])
 (.cond (.tmp 8) (.seq (.region [mi 4 1] [] [4])
 (.ret))
 (.seq (.region [bi 11 .eql 7 2,mv 10 11] [] [1,2,7,10])
 (.cond (.tmp 10) (.seq (.region [mv 12 1,fa 13 1 2,l1 14 13,⟨some 15,.e (.call (F 3) [(.tmp 12),(.tmp 14)]),none⟩,⟨some 5,.a (.new [.bool false,.int .i64 (.ofNat 0),.int .i64 (.ofNat 0),.nilslice]),none⟩,⟨none,.e (.store 4 (.tmp 5) (.tmp 15)),none⟩] [] [2,5])
 (.seq (.seq (.region [fa 16 0 5,l1 17 16] [] [2,5,17])
 (.cond (.tmp 17) (.seq (.region [mi 4 3] [] [4])
 (.ret))
 (.skip)))
 (.seq (.dregion [⟨ln 20 4 5,0,3⟩,⟨fa 21 3 2,0,3⟩,⟨ln 22 4 21,0,3⟩,⟨⟨some 23,.e (.call (F 1) [(.tmp 20),(.tmp 22)]),none⟩,0,6⟩,⟨fa 18 2 2,0,6⟩,⟨l1 19 18,0,6⟩,⟨⟨some 24,.e (.call (F 66) [(.tmp 19),(.tmp 23)]),none⟩,4,7⟩,⟨⟨some 25,.e (.call (F 67) [(.tmp 24)]),none⟩,7,9⟩,⟨mv 4 25,8,9⟩] [4])
 (.ret))))
 (.seq (.region [bi 27 .eql 7 3,mv 26 27] [] [1,2,7,26])
 (.cond (.tmp 26) (.seq (.region [mv 28 1,fa 29 1 2,l1 30 29,⟨some 31,.e (.call (F 3) [(.tmp 28),(.tmp 30)]),none⟩,⟨some 32,.p (.field1 0 (.tmp 31)),none⟩,⟨some 33,.e (.call (F 67) [(.tmp 32)]),none⟩,mv 4 33] [] [4])
 (.ret))
 (.seq (.region [bi 35 .eql 7 4,mv 34 35] [] [1,2,7,34])
 (.cond (.tmp 34) (.seq (.region [ln 36 8 2,mv 37 1,⟨some 38,.e (.call (F 68) [(.tmp 36),(.tmp 37),(.val (.int .i64 (.ofNat 2))),(.val (.int .i64 (.ofNat 1)))]),none⟩,mv 4 38] [] [4])
 (.ret))
 (.seq (.region [bi 40 .eql 7 5,mv 39 40] [] [1,2,7,39])
 (.cond (.tmp 39) (.seq (.region [ln 41 8 2,mv 42 1,⟨some 43,.e (.call (F 68) [(.tmp 41),(.tmp 42),(.val (.int .i64 (.ofNat 1))),(.val (.int .i64 (.ofNat 2)))]),none⟩,mv 4 43] [] [4])
 (.ret))
 (.seq (.region [bi 45 .eql 7 6,mv 44 45] [] [1,2,44])
 (.cond (.tmp 44) (.seq (.region [fa 46 7 2,l1 47 46,lb 48 47,bi 49 .gtr 48 0] [] [1,2,49])
 (.cond (.tmp 49) (.seq (.region [fa 50 7 2,l1 51 50,⟨some 52,.p (.iaddr 8 (.tmp 51) (.val (.int .i64 (.ofNat 0)))),none⟩,ln 53 8 52,mv 54 1,⟨some 55,.e (.call (F 65) [(.tmp 53),(.tmp 54)]),none⟩,⟨some 56,.e (.call (F 69) [(.tmp 55)]),none⟩,mv 4 56] [] [4])
 (.ret))
 (.skip)))
 (.skip)))))))))))))))
 (.seq (.region [mi 4 3] [] [4])
 (.ret)))
def M65 (F : Nat → Nat) : Fun := ⟨57,2,(K65 F).erase,[.tmp 4]⟩
theorem ok65 {F : Nat → Nat} : (K65 F).ok = true := rfl
abbrev K66 (_F : Nat → Nat) : KC := .seq (.region [⟨some 4,.p (.mov (.val (.bool false))),none⟩] [] [0,1])
 (.seq (.seq (.region [mv 5 0] [] [1,5])
 (.block 0 (.seq (.region [bi 7 .eql 5 1,mv 6 7] [] [1,5,6])
 (.cond (.tmp 6) (.seq (.region [mv 8 1,bi 9 .eql 8 0,mv 4 9] [] [4])
 (.ret))
 (.seq (.region [bi 11 .eql 5 2,mv 10 11] [] [1,5,10])
 (.cond (.tmp 10) (.seq (.region [mv 12 1,bi 13 .neq 12 0,mv 4 13] [] [4])
 (.ret))
 (.seq (.region [bi 15 .eql 5 3,mv 14 15] [] [1,5,14])
 (.cond (.tmp 14) (.seq (.region [mv 16 1,bi 17 .lss 16 0,mv 4 17] [] [4])
 (.ret))
 (.seq (.region [bi 19 .eql 5 4,mv 18 19] [] [1,5,18])
 (.cond (.tmp 18) (.seq (.region [mv 20 1,bi 21 .leq 20 0,mv 4 21] [] [4])
 (.ret))
 (.seq (.region [bi 23 .eql 5 5,mv 22 23] [] [1,5,22])
 (.cond (.tmp 22) (.seq (.region [mv 24 1,bi 25 .gtr 24 0,mv 4 25] [] [4])
 (.ret))
 (.seq (.region [bi 27 .eql 5 6,mv 26 27] [] [1,26])
 (.cond (.tmp 26) (.seq (.region [mv 28 1,bi 29 .geq 28 0,mv 4 29] [] [4])
 (.ret))
 (.skip)))))))))))))))
 (.seq (.region [⟨some 4,.p (.mov (.val (.bool false))),none⟩] [] [4])
 (.ret)))
def M66 (F : Nat → Nat) : Fun := ⟨30,2,(K66 F).erase,[.tmp 4]⟩
theorem ok66 {F : Nat → Nat} : (K66 F).ok = true := rfl
abbrev K67 (_F : Nat → Nat) : KC := .seq (.region [mi 2 0] [] [0])
 (.seq (.seq (.region [mv 3 0] [] [3])
 (.cond (.tmp 3) (.seq (.region [mi 2 1] [] [2])
 (.ret))
 (.skip)))
 (.seq (.region [mi 2 2] [] [2])
 (.ret)))
def M67 (F : Nat → Nat) : Fun := ⟨4,1,(K67 F).erase,[.tmp 2]⟩
theorem ok67 {F : Nat → Nat} : (K67 F).ok = true := rfl
abbrev K68 (F : Nat → Nat) : KC := .seq (.region [⟨some 4,.a (.box (.tmp 0)),none⟩,mi 8 0] [4] [1,2,3,4])
 (.seq (.region [mv 13 3,mv 9 13] [] [1,2,4,9])
 (.seq (.seq (.region [fa 14 7 4,l1 15 14,lb 16 15,mi 17 0] [] [1,2,9,15,16,17])
 (.block 0 (.loop (.seq (.region [bt 18 .lss 17 16] [] [1,2,9,15,16,17,18])
 (.seq (.cond (.tmp 18) (.skip)
 (.exit 0))
 (.seq (.block 1 (.seq (.region [ix 19 8 15 17,ln 20 8 19,⟨some 11,.a (.new [.int .i64 (.ofNat 0),.int .i64 (.ofNat 0),.int .i64 (.ofNat 0),.bool false,.int .i64 (.ofNat 0),.int .i64 (.ofNat 0),.nilslice,.nilslice]),none⟩,⟨none,.e (.store 8 (.tmp 11) (.tmp 20)),none⟩] [] [1,2,9,11,15,16,17])
 (.seq (.region [ln 21 8 11,mv 22 1,⟨some 23,.e (.call (F 65) [(.tmp 21),(.tmp 22)]),none⟩,mv 12 23] [] [1,2,9,12,15,16,17])
 (.seq (.region [mv 24 12] [] [1,2,9,15,16,17,24])
 (.block 2 (.seq (.region [mv 26 2,bt 27 .eql 24 26,mv 25 27] [] [1,2,9,15,16,17,24,25])
 (.cond (.tmp 25) (.seq (.region [mv 28 2,mv 8 28] [] [8])
 (.ret))
 (.seq (.region [bi 30 .eql 24 3,mv 29 30] [] [1,2,9,15,16,17,29])
 (.cond (.tmp 29) (.region [mi 9 3] [] [1,2,9,15,16,17])
 (.skip))))))))))
 (.region [bi 31 .add 17 1,mv 17 31] [] [1,2,9,15,16,17])))))))
 (.seq (.region [mv 32 9,mv 8 32] [] [8])
 (.ret))))
def M68 (F : Nat → Nat) : Fun := ⟨33,4,(K68 F).erase,[.tmp 8]⟩
theorem ok68 {F : Nat → Nat} : (K68 F).ok = true := rfl
abbrev K69 (_F : Nat → Nat) : KC := .seq (.region [mi 2 0] [] [0])
 (.seq (.seq (.region [mv 3 0] [] [3])
 (.block 0 (.seq (.region [bi 5 .eql 3 1,mv 4 5] [] [3,4])
 (.cond (.tmp 4) (.seq (.region [mi 2 2] [] [2])
 (.ret))
 (.seq (.region [bi 7 .eql 3 2,mv 6 7] [] [6])
 (.cond (.tmp 6) (.seq (.region [mi 2 1] [] [2])
 (.ret))
 (.skip)))))))
 (.seq (.region [mi 2 3] [] [2])
 (.ret)))
def M69 (F : Nat → Nat) : Fun := ⟨8,1,(K69 F).erase,[.tmp 2]⟩
theorem ok69 {F : Nat → Nat} : (K69 F).ok = true := rfl
end Go.Lib
end

section
namespace Go.Lib
open Go.Vm Go.Dv
set_option maxRecDepth 100000
end Go.Lib
end

section
set_option maxRecDepth 10000
namespace Go.Lib
open Go.Vm Go.Dv Go.Srt
attribute [-simp] bin_and
end Go.Lib
end

section
set_option maxRecDepth 10000
namespace Go.Lib
open Go.Vm Go.Dv Go.Srt
variable {p : Prog} {ext : Ext} {F : Nat → Nat}
end Go.Lib
end
