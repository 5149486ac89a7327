/-
  Texts that the claim's last one rests on, joined.
-/
import Derived.Test.YtnbmmnjihipahaaBModlKeysf
import Derived.Test.YtnbmmnjihipahaaBModlKeysj
import Derived.Test.YtnbmmnjihipahaaBModlKeysg
import Derived.Test.YtnbmmnjihipahaaRows
import Derived.Test.YtnbmmnjihipahaaBModlKeysh
import Derived.Test.YtnbmmnjihipahaaBModlKeysi
import Derived.Test.YtnbmmnjihipahaaBModlKeysc

section
namespace Go.Lib
open Go.Vm Go.Dv
set_option maxRecDepth 100000
abbrev K97 (F : Nat → Nat) : KC := .seq (.region [⟨some 3,.a (.box (.tmp 0)),none⟩,⟨some 6,.a (.new [.int .i64 (.ofNat 0),.nilslice,.int .i64 (.ofNat 0),.int .i64 (.ofNat 0),.int .i64 (.ofNat 0),.bool false,.int .i64 (.ofNat 0),.int .i64 (.ofNat 0),.nilslice,.nilslice,.nilslice,.nilslice,.int .i64 (.ofNat 0),.nilslice]),none⟩] [3] [1,2,3,6])
 (.seq (.region [⟨some 7,.p (.mov (.val (.int .i64 (.ofNat 0)))),none⟩] [] [1,2,3,6,7])
 (.seq (.seq (.region [⟨some 12,.p (.mov (.tmp 1)),none⟩,⟨some 13,.p (.lenb (.tmp 12)),none⟩,⟨some 14,.p (.bin .gtr (.tmp 13) (.val (.int .i64 (.ofNat 0)))),none⟩] [] [1,2,3,6,7,14])
 (.cond (.tmp 14) (.region [⟨some 15,.p (.mov (.tmp 1)),none⟩,⟨some 16,.p (.mov (.tmp 2)),none⟩,⟨some 17,.p (.mov (.tmp 1)),none⟩,⟨some 18,.p (.lenb (.tmp 17)),none⟩,⟨some 19,.p (.bin .rem (.tmp 16) (.tmp 18)),none⟩,⟨some 20,.p (.iaddr 1 (.tmp 15) (.tmp 19)),none⟩,⟨some 21,.load1 (.tmp 20),none⟩,⟨some 22,.p (.mov (.tmp 2)),none⟩,⟨some 23,.p (.bin .mul (.tmp 22) (.val (.int .i64 (.ofNat 7919)))),none⟩,⟨some 24,.p (.bin .add (.tmp 21) (.tmp 23)),none⟩,⟨some 7,.p (.mov (.tmp 24)),none⟩] [] [1,2,3,6,7])
 (.skip)))
 (.seq (.region [⟨some 25,.loadn 1 (.tmp 3),none⟩,⟨some 26,.p (.mov (.tmp 1)),none⟩,⟨some 27,.p (.mov (.tmp 2)),none⟩,⟨some 28,.p (.bin .rem (.tmp 27) (.val (.int .i64 (.ofNat 7)))),none⟩,⟨some 29,.e (.call (F 99) [(.tmp 25),(.tmp 26),(.tmp 28),(.val (.int .i64 (.ofNat 3)))]),none⟩,⟨some 8,.a (.new [.int .i64 (.ofNat 0),.int .i64 (.ofNat 0),.int .i64 (.ofNat 0),.bool false,.int .i64 (.ofNat 0),.int .i64 (.ofNat 0),.nilslice,.nilslice]),none⟩,⟨none,.e (.store 8 (.tmp 8) (.tmp 29)),none⟩] [] [3,6,7,8])
 (.seq (.seq (.region [⟨some 30,.p (.mov (.tmp 7)),none⟩,⟨some 31,.p (.bin .shr (.tmp 30) (.val (.int .u64 (.ofNat 3)))),none⟩,⟨some 32,.p (.bin .and (.tmp 31) (.val (.int .i64 (.ofNat 3)))),none⟩,⟨some 33,.p (.bin .eql (.tmp 32) (.val (.int .i64 (.ofNat 0)))),none⟩] [] [3,6,7,8,33])
 (.cond (.tmp 33) (.region [⟨some 34,.p (.mov (.tmp 7)),none⟩,⟨some 35,.p (.bin .shr (.tmp 34) (.val (.int .u64 (.ofNat 5)))),none⟩,⟨some 36,.p (.bin .and (.tmp 35) (.val (.int .i64 (.ofNat 15)))),none⟩,⟨some 37,.p (.build [.bool false,.int .i64 (.ofNat 0),.int .i64 (.ofNat 0),.nilslice] [(1,1,(.val (.int .i64 (.ofNat 1)))),(2,1,(.tmp 36))]),none⟩,⟨some 38,.p (.build [.int .i64 (.ofNat 0),.int .i64 (.ofNat 0),.int .i64 (.ofNat 0),.bool false,.int .i64 (.ofNat 0),.int .i64 (.ofNat 0),.nilslice,.nilslice] [(0,1,(.val (.int .i64 (.ofNat 2)))),(2,1,(.val (.int .i64 (.ofNat 1)))),(3,4,(.tmp 37))]),none⟩,⟨none,.e (.store 8 (.tmp 8) (.tmp 38)),none⟩] [] [3,6,7,8])
 (.skip)))
 (.seq (.region [⟨some 39,.p (.mov (.tmp 7)),none⟩,⟨some 40,.p (.bin .shr (.tmp 39) (.val (.int .u64 (.ofNat 9)))),none⟩,⟨some 41,.p (.bin .and (.tmp 40) (.val (.int .i64 (.ofNat 255)))),none⟩,⟨some 42,.p (.faddr 0 (.tmp 3)),none⟩,⟨some 43,.load1 (.tmp 42),none⟩,⟨some 44,.p (.lenb (.tmp 43)),none⟩,⟨some 45,.p (.bin .rem (.tmp 41) (.tmp 44)),none⟩,⟨some 9,.p (.mov (.tmp 45)),none⟩] [] [3,6,7,8,9])
 (.seq (.seq (.region [⟨some 46,.p (.mov (.tmp 7)),none⟩,⟨some 47,.p (.bin .and (.tmp 46) (.val (.int .i64 (.ofNat 7)))),none⟩] [] [3,6,7,8,9,47])
 (.block 0 (.seq (.seq (.region [⟨some 49,.p (.bin .eql (.tmp 47) (.val (.int .i64 (.ofNat 0)))),none⟩,⟨some 48,.p (.mov (.tmp 49)),none⟩] [] [3,6,7,8,9,47,48])
 (.cond (.tmp 48) (.skip)
 (.seq (.region [⟨some 50,.p (.bin .eql (.tmp 47) (.val (.int .i64 (.ofNat 1)))),none⟩,⟨some 48,.p (.mov (.tmp 50)),none⟩] [] [3,6,7,8,9,47,48])
 (.cond (.tmp 48) (.skip)
 (.region [⟨some 51,.p (.bin .eql (.tmp 47) (.val (.int .i64 (.ofNat 2)))),none⟩,⟨some 48,.p (.mov (.tmp 51)),none⟩] [] [3,6,7,8,9,47,48])))))
 (.cond (.tmp 48) (.seq (.region [⟨some 52,.loadn 1 (.tmp 3),none⟩,⟨some 53,.p (.mov (.tmp 7)),none⟩,⟨some 54,.p (.bin .shr (.tmp 53) (.val (.int .u64 (.ofNat 5)))),none⟩,⟨some 55,.e (.call (F 24) [(.tmp 52),(.tmp 54)]),none⟩,⟨some 56,.p (.build [.int .i64 (.ofNat 0),.nilslice,.int .i64 (.ofNat 0),.int .i64 (.ofNat 0),.int .i64 (.ofNat 0),.bool false,.int .i64 (.ofNat 0),.int .i64 (.ofNat 0),.nilslice,.nilslice,.nilslice,.nilslice,.int .i64 (.ofNat 0),.nilslice] [(0,1,(.val (.int .i64 (.ofNat 1)))),(1,1,(.tmp 55))]),none⟩,⟨none,.e (.store 14 (.tmp 6) (.tmp 56)),none⟩] [] [6])
 (.ret))
 (.seq (.seq (.region [⟨some 58,.p (.bin .eql (.tmp 47) (.val (.int .i64 (.ofNat 3)))),none⟩,⟨some 57,.p (.mov (.tmp 58)),none⟩] [] [3,6,7,8,9,47,57])
 (.cond (.tmp 57) (.skip)
 (.region [⟨some 59,.p (.bin .eql (.tmp 47) (.val (.int .i64 (.ofNat 4)))),none⟩,⟨some 57,.p (.mov (.tmp 59)),none⟩] [] [3,6,7,8,9,47,57])))
 (.cond (.tmp 57) (.seq (.seq (.region [⟨some 60,.p (.mov (.tmp 9)),none⟩,⟨some 61,.p (.bin .gtr (.tmp 60) (.val (.int .i64 (.ofNat 0)))),none⟩] [] [3,6,7,8,9,61])
 (.cond (.tmp 61) (.seq (.region [⟨some 62,.p (.mov (.tmp 9)),none⟩,⟨some 63,.p (.faddr 0 (.tmp 3)),none⟩,⟨some 64,.load1 (.tmp 63),none⟩,⟨some 65,.p (.mov (.tmp 9)),none⟩,⟨some 66,.p (.iaddr 3 (.tmp 64) (.tmp 65)),none⟩,⟨some 67,.loadn 3 (.tmp 66),none⟩,⟨some 68,.p (.mov (.tmp 7)),none⟩,⟨some 69,.p (.bin .shr (.tmp 68) (.val (.int .u64 (.ofNat 17)))),none⟩,⟨some 70,.e (.call (F 25) [(.tmp 67),(.tmp 69)]),none⟩,⟨some 71,.p (.build [.int .i64 (.ofNat 0),.bool false,.bool false,.int .i64 (.ofNat 0),.int .i64 (.ofNat 0),.nilslice] [(0,1,(.tmp 62)),(2,4,(.tmp 70))]),none⟩,⟨some 10,.a (.new [.int .i64 (.ofNat 0),.bool false,.bool false,.int .i64 (.ofNat 0),.int .i64 (.ofNat 0),.nilslice]),none⟩,⟨none,.e (.store 6 (.tmp 10) (.tmp 71)),none⟩] [] [3,6,7,8,9,10])
 (.seq (.seq (.region [⟨some 72,.p (.faddr 0 (.tmp 3)),none⟩,⟨some 73,.load1 (.tmp 72),none⟩,⟨some 74,.p (.mov (.tmp 9)),none⟩,⟨some 75,.p (.iaddr 3 (.tmp 73) (.tmp 74)),none⟩,⟨some 76,.p (.faddr 1 (.tmp 75)),none⟩,⟨some 77,.load1 (.tmp 76),none⟩,⟨some 78,.p (.bin .eql (.tmp 77) (.val (.int .i64 (.ofNat 1)))),none⟩,⟨some 79,.p (.mov (.tmp 78)),none⟩,⟨some 80,.p (.faddr 2 (.tmp 10)),(some (79,true))⟩,⟨some 81,.p (.faddr 0 (.tmp 80)),(some (79,true))⟩,⟨some 82,.load1 (.tmp 81),(some (79,true))⟩,⟨some 83,.p (.not (.tmp 82)),(some (79,true))⟩,⟨some 84,.p (.pick (.tmp 79) (.tmp 83) (.val (.bool false))),none⟩,⟨some 85,.p (.mov (.tmp 84)),none⟩,⟨some 86,.p (.mov (.tmp 7)),(some (85,true))⟩,⟨some 87,.p (.bin .shr (.tmp 86) (.val (.int .u64 (.ofNat 13)))),(some (85,true))⟩,⟨some 88,.p (.bin .and (.tmp 87) (.val (.int .i64 (.ofNat 1)))),(some (85,true))⟩,⟨some 89,.p (.bin .eql (.tmp 88) (.val (.int .i64 (.ofNat 1)))),(some (85,true))⟩,⟨some 90,.p (.pick (.tmp 85) (.tmp 89) (.val (.bool false))),none⟩] [] [6,8,10,90])
 (.cond (.tmp 90) (.region [⟨some 91,.p (.faddr 1 (.tmp 10)),none⟩,⟨none,.e (.store 1 (.tmp 91) (.val (.bool true))),none⟩] [] [6,8,10])
 (.skip)))
 (.seq (.region [⟨some 92,.loadn 8 (.tmp 8),none⟩,⟨some 93,.loadn 6 (.tmp 10),none⟩,⟨some 94,.a (.bslice [.int .i64 (.ofNat 0),.bool false,.bool false,.int .i64 (.ofNat 0),.int .i64 (.ofNat 0),.nilslice] 6 1 [(0,6,(.tmp 93))]),none⟩,⟨some 95,.p (.build [.int .i64 (.ofNat 0),.nilslice,.int .i64 (.ofNat 0),.int .i64 (.ofNat 0),.int .i64 (.ofNat 0),.bool false,.int .i64 (.ofNat 0),.int .i64 (.ofNat 0),.nilslice,.nilslice,.nilslice,.nilslice,.int .i64 (.ofNat 0),.nilslice] [(0,1,(.val (.int .i64 (.ofNat 2)))),(2,8,(.tmp 92)),(10,1,(.tmp 94))]),none⟩,⟨none,.e (.store 14 (.tmp 6) (.tmp 95)),none⟩] [94] [6])
 (.ret))))
 (.skip)))
 (.seq (.region [⟨some 96,.loadn 8 (.tmp 8),none⟩,⟨some 97,.p (.build [.int .i64 (.ofNat 0),.nilslice,.int .i64 (.ofNat 0),.int .i64 (.ofNat 0),.int .i64 (.ofNat 0),.bool false,.int .i64 (.ofNat 0),.int .i64 (.ofNat 0),.nilslice,.nilslice,.nilslice,.nilslice,.int .i64 (.ofNat 0),.nilslice] [(0,1,(.val (.int .i64 (.ofNat 3)))),(2,8,(.tmp 96))]),none⟩,⟨none,.e (.store 14 (.tmp 6) (.tmp 97)),none⟩] [] [6])
 (.ret)))
 (.seq (.region [⟨some 99,.p (.bin .eql (.tmp 47) (.val (.int .i64 (.ofNat 5)))),none⟩,⟨some 98,.p (.mov (.tmp 99)),none⟩] [] [6,7,8,9,47,98])
 (.cond (.tmp 98) (.seq (.region [⟨some 100,.loadn 8 (.tmp 8),none⟩,⟨some 101,.p (.mov (.tmp 9)),none⟩,⟨some 102,.a (.bslice [.int .i64 (.ofNat 0),.int .i64 (.ofNat 0)] 1 2 [(0,1,(.tmp 101)),(1,1,(.val (.int .i64 (.ofNat 0))))]),none⟩,⟨some 103,.p (.build [.int .i64 (.ofNat 0),.nilslice,.int .i64 (.ofNat 0),.int .i64 (.ofNat 0),.int .i64 (.ofNat 0),.bool false,.int .i64 (.ofNat 0),.int .i64 (.ofNat 0),.nilslice,.nilslice,.nilslice,.nilslice,.int .i64 (.ofNat 0),.nilslice] [(0,1,(.val (.int .i64 (.ofNat 4)))),(2,8,(.tmp 100)),(11,1,(.tmp 102))]),none⟩,⟨none,.e (.store 14 (.tmp 6) (.tmp 103)),none⟩] [102] [6])
 (.ret))
 (.seq (.region [⟨some 105,.p (.bin .eql (.tmp 47) (.val (.int .i64 (.ofNat 6)))),none⟩,⟨some 104,.p (.mov (.tmp 105)),none⟩] [] [6,7,8,9,104])
 (.cond (.tmp 104) (.seq (.region [⟨some 106,.loadn 8 (.tmp 8),none⟩,⟨some 107,.p (.mov (.tmp 9)),none⟩,⟨some 108,.p (.mov (.tmp 7)),none⟩,⟨some 109,.p (.bin .shr (.tmp 108) (.val (.int .u64 (.ofNat 14)))),none⟩,⟨some 110,.p (.bin .and (.tmp 109) (.val (.int .i64 (.ofNat 1)))),none⟩,⟨some 111,.p (.mov (.tmp 9)),none⟩,⟨some 112,.p (.bin .add (.tmp 111) (.val (.int .i64 (.ofNat 1)))),none⟩,⟨some 113,.p (.bin .mul (.tmp 110) (.tmp 112)),none⟩,⟨some 114,.p (.bin .sub (.tmp 107) (.tmp 113)),none⟩,⟨some 115,.p (.build [.int .i64 (.ofNat 0),.int .i64 (.ofNat 0)] [(0,1,(.val (.int .i64 (.ofNat 1))))]),none⟩,⟨some 116,.p (.mov (.tmp 7)),none⟩,⟨some 117,.p (.bin .shr (.tmp 116) (.val (.int .u64 (.ofNat 15)))),none⟩,⟨some 118,.p (.bin .and (.tmp 117) (.val (.int .i64 (.ofNat 1)))),none⟩,⟨some 119,.p (.bin .add (.val (.int .i64 (.ofNat 3))) (.tmp 118)),none⟩,⟨some 120,.p (.mov (.tmp 9)),none⟩,⟨some 121,.p (.build [.int .i64 (.ofNat 0),.int .i64 (.ofNat 0)] [(0,1,(.tmp 119)),(1,1,(.tmp 120))]),none⟩,⟨some 122,.p (.build [.int .i64 (.ofNat 0),.int .i64 (.ofNat 0)] [(0,1,(.val (.int .i64 (.ofNat 2))))]),none⟩,⟨some 123,.a (.bslice [.int .i64 (.ofNat 0),.int .i64 (.ofNat 0),.int .i64 (.ofNat 0),.int .i64 (.ofNat 0),.int .i64 (.ofNat 0),.int .i64 (.ofNat 0)] 2 3 [(0,2,(.tmp 115)),(2,2,(.tmp 121)),(4,2,(.tmp 122))]),none⟩,⟨some 124,.p (.build [.int .i64 (.ofNat 0),.nilslice,.int .i64 (.ofNat 0),.int .i64 (.ofNat 0),.int .i64 (.ofNat 0),.bool false,.int .i64 (.ofNat 0),.int .i64 (.ofNat 0),.nilslice,.nilslice,.nilslice,.nilslice,.int .i64 (.ofNat 0),.nilslice] [(0,1,(.val (.int .i64 (.ofNat 5)))),(2,8,(.tmp 106)),(12,1,(.tmp 114)),(13,1,(.tmp 123))]),none⟩,⟨some 11,.a (.new [.int .i64 (.ofNat 0),.nilslice,.int .i64 (.ofNat 0),.int .i64 (.ofNat 0),.int .i64 (.ofNat 0),.bool false,.int .i64 (.ofNat 0),.int .i64 (.ofNat 0),.nilslice,.nilslice,.nilslice,.nilslice,.int .i64 (.ofNat 0),.nilslice]),none⟩,⟨none,.e (.store 14 (.tmp 11) (.tmp 124)),none⟩] [123] [6,11])
 (.seq (.region [⟨some 125,.loadn 14 (.tmp 11),none⟩,⟨none,.e (.store 14 (.tmp 6) (.tmp 125)),none⟩] [] [6])
 (.ret)))
 (.skip)))))))))))
 (.seq (.seq (.region [⟨some 126,.p (.mov (.tmp 7)),none⟩,⟨some 127,.p (.bin .shr (.tmp 126) (.val (.int .u64 (.ofNat 18)))),none⟩,⟨some 128,.p (.bin .and (.tmp 127) (.val (.int .i64 (.ofNat 7)))),none⟩,⟨some 129,.p (.bin .eql (.tmp 128) (.val (.int .i64 (.ofNat 0)))),none⟩] [] [6,8,129])
 (.cond (.tmp 129) (.seq (.region [⟨some 130,.p (.build [.int .i64 (.ofNat 0),.nilslice,.int .i64 (.ofNat 0),.int .i64 (.ofNat 0),.int .i64 (.ofNat 0),.bool false,.int .i64 (.ofNat 0),.int .i64 (.ofNat 0),.nilslice,.nilslice,.nilslice,.nilslice,.int .i64 (.ofNat 0),.nilslice] [(0,1,(.val (.int .i64 (.ofNat 6))))]),none⟩,⟨none,.e (.store 14 (.tmp 6) (.tmp 130)),none⟩] [] [6])
 (.ret))
 (.skip)))
 (.seq (.region [⟨some 131,.loadn 8 (.tmp 8),none⟩,⟨some 132,.p (.build [.int .i64 (.ofNat 0),.nilslice,.int .i64 (.ofNat 0),.int .i64 (.ofNat 0),.int .i64 (.ofNat 0),.bool false,.int .i64 (.ofNat 0),.int .i64 (.ofNat 0),.nilslice,.nilslice,.nilslice,.nilslice,.int .i64 (.ofNat 0),.nilslice] [(0,1,(.val (.int .i64 (.ofNat 3)))),(2,8,(.tmp 131))]),none⟩,⟨none,.e (.store 14 (.tmp 6) (.tmp 132)),none⟩] [] [6])
 (.ret)))))))))
def M97 (F : Nat → Nat) : Fun := ⟨133,3,(K97 F).erase,[.celln 14 6]⟩
theorem ok97 {F : Nat → Nat} : (K97 F).ok = true := rfl
abbrev K98 (F : Nat → Nat) : KC := .seq (.region [⟨some 3,.a (.box (.tmp 0)),none⟩,⟨some 6,.p (.mov (.val (.nilslice))),none⟩] [3] [1,2,3])
 (.seq (.region [⟨some 7,.p (.mov (.val (.nilslice))),none⟩] [] [1,2,3,7])
 (.seq (.seq (.region [⟨some 8,.p (.mov (.val (.int .i64 (.ofNat 0)))),none⟩] [] [1,2,3,7,8])
 (.block 0 (.loop (.seq (.seq (.region [⟨some 9,.p (.mov (.tmp 8)),none⟩,⟨some 10,.p (.mov (.tmp 2)),none⟩,⟨some 11,.p (.bin .and (.tmp 10) (.val (.int .i64 (.ofNat 7)))),none⟩,⟨some 12,.p (.bin .lss (.tmp 9) (.tmp 11)),none⟩,⟨some 13,.p (.mov (.tmp 12)),none⟩,⟨some 14,.p (.mov (.tmp 8)),(some (13,true))⟩,⟨some 15,.p (.bin .lss (.tmp 14) (.val (.int .i64 (.ofNat 6)))),(some (13,true))⟩,⟨some 16,.p (.pick (.tmp 13) (.tmp 15) (.val (.bool false))),none⟩] [] [1,2,3,7,8,16])
 (.cond (.tmp 16) (.skip)
 (.exit 0)))
 (.seq (.block 1 (.region [⟨some 19,.p (.mov (.tmp 7)),none⟩,⟨some 20,.loadn 1 (.tmp 3),none⟩,⟨some 21,.p (.mov (.tmp 1)),none⟩,⟨some 22,.p (.mov (.tmp 2)),none⟩,⟨some 23,.p (.bin .shr (.tmp 22) (.val (.int .u64 (.ofNat 3)))),none⟩,⟨some 24,.p (.bin .and (.tmp 23) (.val (.int .i64 (.ofNat 63)))),none⟩,⟨some 25,.p (.mov (.tmp 8)),none⟩,⟨some 26,.p (.bin .add (.tmp 24) (.tmp 25)),none⟩,⟨some 27,.e (.call (F 97) [(.tmp 20),(.tmp 21),(.tmp 26)]),none⟩,⟨some 28,.a (.bslice [.int .i64 (.ofNat 0),.nilslice,.int .i64 (.ofNat 0),.int .i64 (.ofNat 0),.int .i64 (.ofNat 0),.bool false,.int .i64 (.ofNat 0),.int .i64 (.ofNat 0),.nilslice,.nilslice,.nilslice,.nilslice,.int .i64 (.ofNat 0),.nilslice] 14 1 [(0,14,(.tmp 27))]),none⟩,⟨some 29,.e (.append 14 208 (.tmp 19) (.tmp 28)),none⟩,⟨some 7,.p (.mov (.tmp 29)),none⟩] [28] [1,2,3,7,8]))
 (.region [⟨some 17,.p (.mov (.tmp 8)),none⟩,⟨some 18,.p (.bin .add (.tmp 17) (.val (.int .i64 (.ofNat 1)))),none⟩,⟨some 8,.p (.mov (.tmp 18)),none⟩] [] [1,2,3,7,8]))))))
 (.seq (.region [⟨some 30,.p (.mov (.tmp 7)),none⟩,⟨some 6,.p (.mov (.tmp 30)),none⟩] [] [6])
 (.ret))))
def M98 (F : Nat → Nat) : Fun := ⟨31,3,(K98 F).erase,[.tmp 6]⟩
theorem ok98 {F : Nat → Nat} : (K98 F).ok = true := rfl
abbrev K99 (F : Nat → Nat) : KC := .seq (.region [⟨some 4,.a (.box (.tmp 0)),none⟩,⟨some 8,.a (.new [.int .i64 (.ofNat 0),.int .i64 (.ofNat 0),.int .i64 (.ofNat 0),.bool false,.int .i64 (.ofNat 0),.int .i64 (.ofNat 0),.nilslice,.nilslice]),none⟩] [4] [1,2,3,4,8])
 (.seq (.region [⟨some 16,.p (.mov (.tmp 2)),none⟩,⟨some 17,.p (.bin .mul (.tmp 16) (.val (.int .i64 (.ofNat 7919)))),none⟩,⟨some 9,.p (.mov (.tmp 17)),none⟩] [] [1,2,3,4,8,9])
 (.seq (.seq (.region [⟨some 18,.p (.mov (.tmp 2)),none⟩,⟨some 19,.p (.mov (.tmp 1)),none⟩,⟨some 20,.p (.lenb (.tmp 19)),none⟩,⟨some 21,.p (.bin .lss (.tmp 18) (.tmp 20)),none⟩] [] [1,2,3,4,8,9,21])
 (.cond (.tmp 21) (.region [⟨some 22,.p (.mov (.tmp 1)),none⟩,⟨some 23,.p (.mov (.tmp 2)),none⟩,⟨some 24,.p (.iaddr 1 (.tmp 22) (.tmp 23)),none⟩,⟨some 25,.load1 (.tmp 24),none⟩,⟨some 9,.p (.mov (.tmp 25)),none⟩] [] [1,2,3,4,8,9])
 (.skip)))
 (.seq (.region [⟨some 26,.p (.mov (.tmp 9)),none⟩,⟨some 27,.p (.bin .and (.tmp 26) (.val (.int .i64 (.ofNat 7)))),none⟩,⟨some 10,.p (.mov (.tmp 27)),none⟩] [] [1,2,3,4,8,9,10])
 (.seq (.seq (.region [⟨some 28,.p (.mov (.tmp 3)),none⟩,⟨some 29,.p (.bin .leq (.tmp 28) (.val (.int .i64 (.ofNat 1)))),none⟩,⟨some 30,.p (.mov (.tmp 29)),none⟩,⟨some 31,.p (.mov (.tmp 10)),(some (30,true))⟩,⟨some 32,.p (.bin .gtr (.tmp 31) (.val (.int .i64 (.ofNat 4)))),(some (30,true))⟩,⟨some 33,.p (.pick (.tmp 30) (.tmp 32) (.val (.bool false))),none⟩] [] [1,2,3,4,8,9,10,33])
 (.cond (.tmp 33) (.region [⟨some 34,.p (.mov (.tmp 10)),none⟩,⟨some 35,.p (.bin .sub (.tmp 34) (.val (.int .i64 (.ofNat 4)))),none⟩,⟨some 10,.p (.mov (.tmp 35)),none⟩] [] [1,2,3,4,8,9,10])
 (.skip)))
 (.seq (.region [⟨some 36,.p (.mov (.tmp 9)),none⟩,⟨some 37,.p (.bin .shr (.tmp 36) (.val (.int .u64 (.ofNat 3)))),none⟩,⟨some 38,.p (.bin .and (.tmp 37) (.val (.int .i64 (.ofNat 255)))),none⟩,⟨some 39,.p (.faddr 0 (.tmp 4)),none⟩,⟨some 40,.load1 (.tmp 39),none⟩,⟨some 41,.p (.lenb (.tmp 40)),none⟩,⟨some 42,.p (.bin .rem (.tmp 38) (.tmp 41)),none⟩,⟨some 11,.p (.mov (.tmp 42)),none⟩] [] [1,2,3,4,8,9,10,11])
 (.seq (.seq (.region [⟨some 43,.p (.mov (.tmp 10)),none⟩] [] [1,2,3,4,8,9,10,11,43])
 (.block 0 (.seq (.region [⟨some 45,.p (.bin .eql (.tmp 43) (.val (.int .i64 (.ofNat 0)))),none⟩,⟨some 44,.p (.mov (.tmp 45)),none⟩] [] [1,2,3,4,8,9,10,11,43,44])
 (.cond (.tmp 44) (.seq (.region [⟨some 46,.p (.build [.int .i64 (.ofNat 0),.int .i64 (.ofNat 0),.int .i64 (.ofNat 0),.bool false,.int .i64 (.ofNat 0),.int .i64 (.ofNat 0),.nilslice,.nilslice] [(0,1,(.val (.int .i64 (.ofNat 1))))]),none⟩,⟨none,.e (.store 8 (.tmp 8) (.tmp 46)),none⟩] [] [8])
 (.ret))
 (.seq (.region [⟨some 48,.p (.bin .eql (.tmp 43) (.val (.int .i64 (.ofNat 1)))),none⟩,⟨some 47,.p (.mov (.tmp 48)),none⟩] [] [1,2,3,4,8,9,10,11,43,47])
 (.cond (.tmp 47) (.seq (.region [⟨some 49,.p (.mov (.tmp 11)),none⟩,⟨some 50,.p (.build [.int .i64 (.ofNat 0),.int .i64 (.ofNat 0),.int .i64 (.ofNat 0),.bool false,.int .i64 (.ofNat 0),.int .i64 (.ofNat 0),.nilslice,.nilslice] [(0,1,(.val (.int .i64 (.ofNat 3)))),(1,1,(.tmp 49))]),none⟩,⟨none,.e (.store 8 (.tmp 8) (.tmp 50)),none⟩] [] [8])
 (.ret))
 (.seq (.seq (.region [⟨some 52,.p (.bin .eql (.tmp 43) (.val (.int .i64 (.ofNat 5)))),none⟩,⟨some 51,.p (.mov (.tmp 52)),none⟩] [] [1,2,3,4,8,9,10,11,43,51])
 (.cond (.tmp 51) (.skip)
 (.region [⟨some 53,.p (.bin .eql (.tmp 43) (.val (.int .i64 (.ofNat 6)))),none⟩,⟨some 51,.p (.mov (.tmp 53)),none⟩] [] [1,2,3,4,8,9,10,11,43,51])))
 (.cond (.tmp 51) (.seq (.region [⟨some 54,.p (.mov (.tmp 10)),none⟩,⟨some 55,.p (.bin .add (.val (.int .i64 (.ofNat 4))) (.tmp 54)),none⟩,⟨some 56,.p (.bin .sub (.tmp 55) (.val (.int .i64 (.ofNat 5)))),none⟩,⟨some 57,.p (.build [.int .i64 (.ofNat 0),.int .i64 (.ofNat 0),.int .i64 (.ofNat 0),.bool false,.int .i64 (.ofNat 0),.int .i64 (.ofNat 0),.nilslice,.nilslice] [(0,1,(.tmp 56))]),none⟩,⟨some 12,.a (.new [.int .i64 (.ofNat 0),.int .i64 (.ofNat 0),.int .i64 (.ofNat 0),.bool false,.int .i64 (.ofNat 0),.int .i64 (.ofNat 0),.nilslice,.nilslice]),none⟩,⟨none,.e (.store 8 (.tmp 12) (.tmp 57)),none⟩] [] [1,2,3,4,8,9,12])
 (.seq (.seq (.region [⟨some 13,.p (.mov (.val (.int .i64 (.ofNat 0)))),none⟩] [] [1,2,3,4,8,9,12,13])
 (.block 1 (.loop (.seq (.seq (.region [⟨some 58,.p (.mov (.tmp 13)),none⟩,⟨some 59,.p (.mov (.tmp 9)),none⟩,⟨some 60,.p (.bin .shr (.tmp 59) (.val (.int .u64 (.ofNat 11)))),none⟩,⟨some 61,.p (.bin .and (.tmp 60) (.val (.int .i64 (.ofNat 3)))),none⟩,⟨some 62,.p (.bin .lss (.tmp 58) (.tmp 61)),none⟩] [] [1,2,3,4,8,9,12,13,62])
 (.cond (.tmp 62) (.skip)
 (.exit 1)))
 (.seq (.block 2 (.dregion [⟨⟨some 67,.loadn 1 (.tmp 4),none⟩,0,9⟩,⟨⟨some 68,.p (.mov (.tmp 1)),none⟩,0,9⟩,⟨⟨some 69,.p (.mov (.tmp 2)),none⟩,0,9⟩,⟨⟨some 70,.p (.bin .mul (.val (.int .i64 (.ofNat 3))) (.tmp 69)),none⟩,0,9⟩,⟨⟨some 71,.p (.mov (.tmp 13)),none⟩,0,9⟩,⟨⟨some 72,.p (.bin .add (.tmp 70) (.tmp 71)),none⟩,0,9⟩,⟨⟨some 73,.p (.bin .add (.tmp 72) (.val (.int .i64 (.ofNat 1)))),none⟩,0,9⟩,⟨⟨some 74,.p (.mov (.tmp 3)),none⟩,0,9⟩,⟨⟨some 75,.p (.bin .sub (.tmp 74) (.val (.int .i64 (.ofNat 1)))),none⟩,0,9⟩,⟨⟨some 76,.e (.call (F 99) [(.tmp 67),(.tmp 68),(.tmp 73),(.tmp 75)]),none⟩,0,13⟩,⟨⟨some 65,.p (.faddr 7 (.tmp 12)),none⟩,0,13⟩,⟨⟨some 66,.load1 (.tmp 65),none⟩,0,13⟩,⟨⟨some 77,.a (.bslice [.int .i64 (.ofNat 0),.int .i64 (.ofNat 0),.int .i64 (.ofNat 0),.bool false,.int .i64 (.ofNat 0),.int .i64 (.ofNat 0),.nilslice,.nilslice] 8 1 [(0,8,(.tmp 76))]),none⟩,10,13⟩,⟨⟨some 78,.e (.append 8 96 (.tmp 66) (.tmp 77)),none⟩,10,15⟩,⟨⟨some 79,.p (.faddr 7 (.tmp 12)),none⟩,14,15⟩,⟨⟨none,.e (.store 1 (.tmp 79) (.tmp 78)),none⟩,14,16⟩] [1,2,3,4,8,9,12,13]))
 (.region [⟨some 63,.p (.mov (.tmp 13)),none⟩,⟨some 64,.p (.bin .add (.tmp 63) (.val (.int .i64 (.ofNat 1)))),none⟩,⟨some 13,.p (.mov (.tmp 64)),none⟩] [] [1,2,3,4,8,9,12,13]))))))
 (.seq (.region [⟨some 80,.loadn 8 (.tmp 12),none⟩,⟨none,.e (.store 8 (.tmp 8) (.tmp 80)),none⟩] [] [8])
 (.ret))))
 (.seq (.region [⟨some 82,.p (.bin .eql (.tmp 43) (.val (.int .i64 (.ofNat 7)))),none⟩,⟨some 81,.p (.mov (.tmp 82)),none⟩] [] [1,2,3,4,8,9,11,81])
 (.cond (.tmp 81) (.seq (.region [⟨some 83,.loadn 1 (.tmp 4),none⟩,⟨some 84,.p (.mov (.tmp 1)),none⟩,⟨some 85,.p (.mov (.tmp 2)),none⟩,⟨some 86,.p (.bin .mul (.val (.int .i64 (.ofNat 3))) (.tmp 85)),none⟩,⟨some 87,.p (.bin .add (.tmp 86) (.val (.int .i64 (.ofNat 1)))),none⟩,⟨some 88,.p (.mov (.tmp 3)),none⟩,⟨some 89,.p (.bin .sub (.tmp 88) (.val (.int .i64 (.ofNat 1)))),none⟩,⟨some 90,.e (.call (F 99) [(.tmp 83),(.tmp 84),(.tmp 87),(.tmp 89)]),none⟩,⟨some 91,.a (.bslice [.int .i64 (.ofNat 0),.int .i64 (.ofNat 0),.int .i64 (.ofNat 0),.bool false,.int .i64 (.ofNat 0),.int .i64 (.ofNat 0),.nilslice,.nilslice] 8 1 [(0,8,(.tmp 90))]),none⟩,⟨some 92,.p (.build [.int .i64 (.ofNat 0),.int .i64 (.ofNat 0),.int .i64 (.ofNat 0),.bool false,.int .i64 (.ofNat 0),.int .i64 (.ofNat 0),.nilslice,.nilslice] [(0,1,(.val (.int .i64 (.ofNat 6)))),(7,1,(.tmp 91))]),none⟩,⟨none,.e (.store 8 (.tmp 8) (.tmp 92)),none⟩] [] [8])
 (.ret))
 (.skip)))))))))))
 (.seq (.region [⟨some 93,.p (.faddr 0 (.tmp 4)),none⟩,⟨some 94,.load1 (.tmp 93),none⟩,⟨some 95,.p (.mov (.tmp 11)),none⟩,⟨some 96,.p (.iaddr 3 (.tmp 94) (.tmp 95)),none⟩,⟨some 97,.loadn 3 (.tmp 96),none⟩,⟨some 14,.a (.new [.str [],.int .i64 (.ofNat 0),.bool false]),none⟩,⟨none,.e (.store 3 (.tmp 14) (.tmp 97)),none⟩] [] [8,9,11,14])
 (.seq (.region [⟨some 98,.p (.faddr 2 (.tmp 14)),none⟩,⟨none,.e (.store 1 (.tmp 98) (.val (.bool false))),none⟩] [] [8,9,11,14])
 (.seq (.region [⟨some 99,.loadn 3 (.tmp 14),none⟩,⟨some 100,.p (.mov (.tmp 9)),none⟩,⟨some 101,.p (.bin .shr (.tmp 100) (.val (.int .u64 (.ofNat 11)))),none⟩,⟨some 102,.e (.call (F 25) [(.tmp 99),(.tmp 101)]),none⟩,⟨some 15,.a (.new [.bool false,.int .i64 (.ofNat 0),.int .i64 (.ofNat 0),.nilslice]),none⟩,⟨none,.e (.store 4 (.tmp 15) (.tmp 102)),none⟩] [] [8,9,11,15])
 (.seq (.seq (.region [⟨some 103,.p (.mov (.tmp 11)),none⟩,⟨some 104,.p (.bin .eql (.tmp 103) (.val (.int .i64 (.ofNat 0)))),none⟩] [] [8,9,11,15,104])
 (.cond (.tmp 104) (.region [⟨some 105,.p (.mov (.tmp 9)),none⟩,⟨some 106,.p (.bin .shr (.tmp 105) (.val (.int .u64 (.ofNat 11)))),none⟩,⟨some 107,.p (.bin .and (.tmp 106) (.val (.int .i64 (.ofNat 15)))),none⟩,⟨some 108,.p (.build [.bool false,.int .i64 (.ofNat 0),.int .i64 (.ofNat 0),.nilslice] [(1,1,(.val (.int .i64 (.ofNat 1)))),(2,1,(.tmp 107))]),none⟩,⟨none,.e (.store 4 (.tmp 15) (.tmp 108)),none⟩] [] [8,9,11,15])
 (.skip)))
 (.seq (.region [⟨some 109,.p (.mov (.tmp 11)),none⟩,⟨some 110,.p (.mov (.tmp 9)),none⟩,⟨some 111,.p (.bin .shr (.tmp 110) (.val (.int .u64 (.ofNat 17)))),none⟩,⟨some 112,.p (.bin .and (.tmp 111) (.val (.int .i64 (.ofNat 255)))),none⟩,⟨some 113,.p (.bin .rem (.tmp 112) (.val (.int .i64 (.ofNat 6)))),none⟩,⟨some 114,.p (.bin .add (.tmp 113) (.val (.int .i64 (.ofNat 1)))),none⟩,⟨some 115,.loadn 4 (.tmp 15),none⟩,⟨some 116,.p (.build [.int .i64 (.ofNat 0),.int .i64 (.ofNat 0),.int .i64 (.ofNat 0),.bool false,.int .i64 (.ofNat 0),.int .i64 (.ofNat 0),.nilslice,.nilslice] [(0,1,(.val (.int .i64 (.ofNat 2)))),(1,1,(.tmp 109)),(2,1,(.tmp 114)),(3,4,(.tmp 115))]),none⟩,⟨none,.e (.store 8 (.tmp 8) (.tmp 116)),none⟩] [] [8])
 (.ret))))))))))))
def M99 (F : Nat → Nat) : Fun := ⟨117,4,(K99 F).erase,[.celln 8 8]⟩
theorem ok99 {F : Nat → Nat} : (K99 F).ok = true := rfl
end Go.Lib
end

section
set_option maxRecDepth 10000
namespace Go.Lib
open Go.Vm Go.Dv Go.Srt
variable {p : Prog} {ext : Ext} {F : Nat → Nat}
attribute [-simp] bin_and bin_xor
structure HPredL (p : Prog) (ext : Ext) (F : Nat → Nat) : Prop where
  law6 : HLaw6 p ext F
  h99 : Has p ext F 99 M99
@[simp] def nilPr : List D := [.lit (.int .i64 0), .lit (.int .i64 0), .lit (.int .i64 0), .lit (.bool false), .lit (.int .i64 0), .lit (.int .i64 0), .lit .nilslice, .lit .nilslice]
def P7a (s : Sch) (m : Md) (l : List Int) (a d : Nat) (H : HpD) (n : Int) (fr : FrD) (H' : HpD) : Prop :=
  fr = [(1, intsD m l), (2, .lit (.int .i64 (a : Int))), (3, .lit (.int .i64 (d : Int))), (4, .rptr [schR s] 0), (8, .ptr H.next 0), (9, .lit (.int .i64 n))] ∧ H' = H.new (.cells nilPr false)
def P7b (s : Sch) (m : Md) (l : List Int) (a d : Nat) (H : HpD) (n k : Int) (fr : FrD) (H' : HpD) : Prop :=
  fr = [(1, intsD m l), (2, .lit (.int .i64 (a : Int))), (3, .lit (.int .i64 (d : Int))), (4, .rptr [schR s] 0), (8, .ptr H.next 0), (9, .lit (.int .i64 n)), (10, .lit (.int .i64 k))] ∧ H' = H.new (.cells nilPr false)
theorem VDl_last {h : Hp} {ψ : Nat → Option Nat} {S : Nat → Prop} {d : D} : ∀ {pre : List D} {l : List V}, VDl h ψ S (pre ++ [d]) l → ∃ l1 v, l = l1 ++ [v] ∧ VDl h ψ S pre l1 ∧ VD h ψ S d v
  | [], l, k => by
    simp only [List.nil_append, VDl] at k;obtain ⟨v, r, rfl, k, rfl⟩ := k;exact ⟨[], v, rfl, by simp only [VDl], k⟩
  | x :: pre, l, k => by
    simp only [List.cons_append, VDl] at k;obtain ⟨v, r, rfl, k1, k⟩ := k;obtain ⟨l1, w, rfl, k2, k3⟩ := VDl_last (pre := pre) k;exact ⟨v :: l1, w, rfl, by simp only [VDl]; exact ⟨v, l1, rfl, k1, k2⟩, k3⟩
theorem WeakV.aggLast {pre : List D} {d d2 : D} {H H2 : HpD} (k : WeakV d H d2 H2) : WeakV (.agg (pre ++ [d])) H (.agg (pre ++ [d2])) H2 := by
  intro ψ S hp v s kv;simp only [VD] at kv;obtain ⟨l, rfl, kl⟩ := kv;obtain ⟨l1, w, rfl, k1, k2⟩ := VDl_last kl;obtain ⟨ψ', S', x1, s1, k3⟩ := k ψ S hp w s k2;refine ⟨ψ', S', x1, s1, ?_⟩;simp only [VD];exact ⟨_, rfl, (VDl.mono x1 _ k1).append (by simp only [VDl]; exact ⟨w, [], rfl, k3, rfl⟩)⟩
theorem predF_eq {s : Sch} {l : List Int} {d a : Nat} : predF s l d a = predG s (numP l a) (kP d (numP l a)) (fun i => match d with | 0 => prT | d' + 1 => predF s l d' (3 * a + i + 1)) := by
  cases d <;> rfl
def head7 (k : Int) : List D := [.lit (.int .i64 k), .lit (.int .i64 0), .lit (.int .i64 0), .lit (.bool false), .lit (.int .i64 0), .lit (.int .i64 0), .lit .nilslice]
def P7I (H : HpD) (s : Sch) (m : Md) (l : List Int) (a d : Nat) (n k : Int) (sons : List Pr) (w : Nat) (fr : FrD) (H' : HpD) : Prop :=
  ∃ (i : Nat) (t : D), w = sons.length - i ∧ i ≤ sons.length ∧ fr = [(1, intsD m l), (2, .lit (.int .i64 (a : Int))), (3, .lit (.int .i64 (d : Int))), (4, .rptr [schR s] 0), (8, .ptr H.next 0), (9, .lit (.int .i64 n)), (12, .ptr (H.next + 1) 0), (13, .lit (.int .i64 (i : Int)))] ∧
    Gr ⟨H.next + 2, H'.blk⟩ H' 8 t ((sons.take i).map Pr.c) ∧ H'.blk (H.next + 1) = .cells (head7 k ++ [t]) false ∧ H'.blk H.next = .cells nilPr false ∧ Sub H H'
theorem fin_sons {H X : HpD} {t : D} {sons : List Pr} {kk : Int} {N : Nat} (hs : Dv.Sub H X) (g : Gr ⟨N, X.blk⟩ X 8 t (sons.map Pr.c)) (hN : H.next ≤ N) : Dv.Fin H (.agg (Pr.mk kk 0 0 zv sons).c) (.agg (head7 kk ++ [t])) X := by
  obtain ⟨H2, w, sub2, _⟩ := g.fin (underss_map (fun q => pr_unders q) _) (m := .p) (by simp);have hn2 := sub2.next;simp at hn2;exact ⟨H2, (WeakV.aggLast (pre := head7 _) w).trans (.le (by simp [head7, pr_c, Pr.kind, Pr.col, Pr.op, Pr.v, Pr.l, zv, D.le, byD, byE, prsD, D.less_refl])), ⟨by omega, fun x hx => by rw [sub2.blk x (by simp; omega), ← hs.blk x hx]⟩, by simp [D.under]⟩
theorem pred7_1 (L : HPredL p ext F) {s : Sch} {m : Md} {l : List Int} {a d : Nat} (hs0 : 0 < s.length) (hs : s.length < 1000) (ha : a < 1000000) (hd : d < 1000) (ih : ∀ d' a' : Nat, d = d' + 1 → 1 ≤ d' → a' ≤ 3 * a + 10 → FnD p ext (F 99) [schD s, intsD m l, .lit (.int .i64 (a' : Int)), .lit (.int .i64 (d' : Int))] (.agg (predF s l d' a').c)) : FnD p ext (F 99) [schD s, intsD m l, .lit (.int .i64 (a : Int)), .lit (.int .i64 (d : Int))] (.agg (predF s l d a).c) := by
  refine fn_of L.h99 (M := M99) rfl ok99 rfl fun H => sem_run 14 _ ?_;simp;refine sem_cut (P7a s m l a d H (numP l a)) (sem_run 9000 _ ?_) ?_
  · by_cases c : a < l.length
    · have hn : numP l a = l[a] := by simp [numP, c]
      rw [hn];simp [c];exact sem_ok ⟨rfl, rfl⟩
    · have hn : numP l a = wr .i64 ((a : Int) * 7919) := by simp [numP, c]
      rw [hn];simp [c];refine sem_as_ok [(1, intsD m l), (2, .lit (.int .i64 (a : Int))), (3, .lit (.int .i64 (d : Int))), (4, .rptr [schR s] 0), (8, .ptr H.next 0), (9, .lit (.int .i64 (wr .i64 ((a : Int) * 7919))))] (by simp [D.le_refl, intsD]) ?_;exact sem_ok ⟨rfl, rfl⟩
  rintro fr H1 ⟨rfl, rfl⟩;obtain ⟨n, hn⟩ : ∃ n, numP l a = n := ⟨_, rfl⟩;rw [hn];refine sem_run 9 _ ?_;simp;refine sem_cut (P7b s m l a d H n (kP d n)) (sem_run 9000 _ ?_) ?_
  · obtain ⟨q, hq, hq7⟩ := andI_small (a := n) (m := 7) (by simp)
    have hq' : andI n 7 = q := hq
    by_cases c : d ≤ 1
    · have c' : (d : Int) ≤ 1 := by omega
      by_cases c2 : 4 < q
      · have c2' : (4 : Int) < q := by omega
        have hk : kP d n = (q : Int) - 4 := by unfold kP; rw [hq', if_pos ⟨c, by omega⟩]
        have w : wr .i64 ((q : Int) - 4) = (q : Int) - 4 := by rw [wr_of] <;> omega
        rw [hk];simp [hq', c', c2', w];exact sem_ok ⟨rfl, rfl⟩
      · have c2' : ¬ (4 : Int) < q := by omega
        have hk : kP d n = (q : Int) := by unfold kP; rw [hq', if_neg (by omega)]
        rw [hk];simp [hq', c', c2'];refine sem_as_ok [(1, intsD m l), (2, .lit (.int .i64 (a : Int))), (3, .lit (.int .i64 (d : Int))), (4, .rptr [schR s] 0), (8, .ptr H.next 0), (9, .lit (.int .i64 n)), (10, .lit (.int .i64 (q : Int)))] (by simp [D.le_refl, intsD]) ?_;exact sem_ok ⟨rfl, rfl⟩
    · have c' : ¬ (d : Int) ≤ 1 := by omega
      have hk : kP d n = (q : Int) := by unfold kP; rw [hq', if_neg (by omega)]
      rw [hk];simp [hq', c'];refine sem_as_ok [(1, intsD m l), (2, .lit (.int .i64 (a : Int))), (3, .lit (.int .i64 (d : Int))), (4, .rptr [schR s] 0), (8, .ptr H.next 0), (9, .lit (.int .i64 n)), (10, .lit (.int .i64 (q : Int)))] (by simp [D.le_refl, intsD]) ?_;exact sem_ok ⟨rfl, rfl⟩
  rintro fr H1 ⟨rfl, rfl⟩;obtain ⟨k, hk, hk7, hk4⟩ := kP_at (d := d) (n := n);rw [hk]
  have hz : (s.length : Int) ≠ 0 := by omega
  have hsz : ¬ s.length = 0 := by omega
  have hc : Int.tmod (andI (shrI .i64 n 3) 255) (s.length : Int) = cP s n := rfl
  obtain ⟨c, hcn, hcl⟩ : ∃ c : Nat, cP s n = c ∧ c < s.length := by
    obtain ⟨q, hq, hq1⟩ := andI_small (a := shrI .i64 n 3) (m := 255) (by simp);have hq' : andI (shrI .i64 n 3) 255 = q := hq;refine ⟨q % s.length, ?_, Nat.mod_lt _ hs0⟩;unfold cP;rw [hq', Int.tmod_eq_emod_of_nonneg (by omega)]; omega
  refine sem_run 9000 _ ?_;simp [hsz, hc, hcn];have hF := predF_eq (s := s) (l := l) (d := d) (a := a);rw [hn, hk] at hF
  generalize hson : (fun i => match d with | 0 => prT | d' + 1 => predF s l d' (3 * a + i + 1)) = son at hF
  rw [hF]
  have hih : ∀ i : Nat, 1 < d → i ≤ 3 → FnD p ext (F 99) [schD s, intsD m l, .lit (.int .i64 (3 * (a : Int) + (i : Int) + 1)), .lit (.int .i64 ((d : Int) - 1))] (.agg (son i).c) := fun i hd hi => by
    obtain ⟨d', rfl⟩ : ∃ d', d = d' + 1 := ⟨d - 1, by omega⟩;have := ih d' (3 * a + i + 1) rfl (by omega) (by omega);rw [← hson];rw [show (((d' + 1 : Nat) : Int) - 1) = (d' : Int) by omega, show 3 * (a : Int) + (i : Int) + 1 = ((3 * a + i + 1 : Nat) : Int) by omega];exact this
  clear ih hson hF
  have hkk : k = 0 ∨ k = 1 ∨ k = 5 ∨ k = 6 ∨ k = 7 ∨ k = 2 ∨ k = 3 ∨ k = 4 := by omega
  rcases hkk with rfl | rfl | h
  · simp
    refine sem_ret ?_;simp [M99];exact .le (by repeat (first | exact Sub.refl | apply Sub.new | refine Sub.put ?_ (by first | omega | (simp only [put_next, new_next]; omega)))) (by simp [predG, prT, pr_c, Pr.kind, Pr.col, Pr.op, Pr.v, Pr.l, zv, D.le, byD, byE, prsD]) (by simp [D.under])
  · simp
    refine sem_ret ?_;simp [M99];exact .le (by repeat (first | exact Sub.refl | apply Sub.new | refine Sub.put ?_ (by first | omega | (simp only [put_next, new_next]; omega)))) (by simp [predG, hcn, pr_c, Pr.kind, Pr.col, Pr.op, Pr.v, Pr.l, zv, D.le, byD, byE, prsD]) (by simp [D.under])
  · have hh : ((k = 5 ∨ k = 6) ∧ 1 < d) ∨ (k = 7 ∧ 1 < d) ∨ (k = 2 ∨ k = 3 ∨ k = 4) := by omega
    rcases hh with ⟨h5, hd⟩ | ⟨rfl, hd⟩ | h2
    · have w1 : wr .i64 ((d : Int) - 1) = (d : Int) - 1 := by rw [wr_of] <;> omega
      have hw : ∃ kk : Int, predG s n (k : Int) son = .mk kk 0 0 zv (sonsP n son) ∧ kk = (k : Int) - 1 := ⟨(k : Int) - 1, by rcases h5 with rfl | rfl <;> simp [predG], rfl⟩
      obtain ⟨q, hq, hq3⟩ := andI_small (a := shrI .i64 n 11) (m := 3) (by simp);have hq' : andI (shrI .i64 n 11) 3 = q := hq
      have hsl : (sonsP n son).length = q := by simp [sonsP, hq']
      have hsg : ∀ i, i < q → (sonsP n son)[i]? = some (son i) := fun i hi => by simp [sonsP, hq', hi]
      have g0 : ∀ HB : HpD, HB.next = H.next + 2 → Gr ⟨H.next + 2, HB.blk⟩ HB 8 (.lit .nilslice) (((sonsP n son).take 0).map Pr.c) := fun HB e => ⟨⟨by simp [e], fun _ _ => rfl⟩, by simp, .inl ⟨rfl, by simp⟩⟩;obtain ⟨kk, hG, hkk⟩ := hw;rw [hG];clear hG;generalize sonsP n son = sons at hsl hsg g0;rcases h5 with rfl | rfl
      case' inl => simp [show wr .i64 9 = 9 from rfl, show wr .i64 4 = 4 from rfl]
      case' inl => obtain rfl : kk = 4 := by omega
      case' inl => refine sem_loop (P7I H s m l a d n 4 sons) ?_ (k := sons.length) ⟨0, .lit .nilslice, by simp, by simp, by simp, g0 _ (by simp), by simp [head7], by simp, (by repeat (first | exact Sub.refl | apply Sub.new | refine Sub.put ?_ (by first | omega | (simp only [put_next, new_next]; omega))))⟩
      case' inr => simp [show wr .i64 10 = 10 from rfl, show wr .i64 5 = 5 from rfl]
      case' inr => obtain rfl : kk = 5 := by omega
      case' inr => refine sem_loop (P7I H s m l a d n 5 sons) ?_ (k := sons.length) ⟨0, .lit .nilslice, by simp, by simp, by simp, g0 _ (by simp), by simp [head7], by simp, (by repeat (first | exact Sub.refl | apply Sub.new | refine Sub.put ?_ (by first | omega | (simp only [put_next, new_next]; omega))))⟩
      all_goals
        rintro w fr H' ⟨i, t, rfl, hi, rfl, g, hb, hb8, hsub⟩;have hnx := g.sub.next;simp at hnx;refine sem_run 9000 _ ?_;simp
        by_cases c : i < sons.length
        · have ci : (i : Int) < (q : Int) := by omega
          have w2 : wr .i64 (wr .i64 (3 * (a : Int)) + (i : Int)) = 3 * (a : Int) + (i : Int) := by rw [wr_of (n := 3 * (a : Int)) (by omega) (by omega), wr_of] <;> omega
          have w3 : wr .i64 (3 * (a : Int) + (i : Int) + 1) = 3 * (a : Int) + (i : Int) + 1 := by rw [wr_of] <;> omega
          have wi : wr .i64 ((i : Int) + 1) = ((i + 1 : Nat) : Int) := by rw [wr_of] <;> omega
          simp [hq', ci, w1, w2, w3];refine sem_dfn (hih i hd (by omega)) (by first | exact D.les_refl _ | simp) (sem_run 9000 _ ?_)
          have hl1 : H.next + 1 < H'.next := by omega
          have hrg : rigid t = true := by
            rcases g.at_ with ⟨rfl, _⟩ | ⟨b, ex, el0, rfl, _⟩ <;> rfl
          have hfar : ∀ x, t.hasB x → H.next + 2 ≤ x ∧ x < H'.next := fun x hx => g.far hx;simp [hb, hl1, head7, hrg];rw [appendD_slice1 (b := H'.next) (cs := (son i).c) (ro := false) (by simp) (by simp)];refine sem_push (g.rest (by simp) fun x hx => by rw [new_blk, if_neg (by have := (hfar x hx).2; omega)]) (by simp) (by simp) (roomyD (by simp; omega) (by simp; omega)) fun t' H2 g2 k2 n2 => ?_
          have b12 : H2.blk (H.next + 1) = H'.blk (H.next + 1) := by
            rw [k2 _ (by simp; omega) (fun h => by have := (hfar _ h).1; omega), new_blk, if_neg (by omega)]
          rw [hb] at b12
          have b8 : H2.blk H.next = .cells nilPr false := by
            rw [k2 _ (by simp; omega) (fun h => by have := (hfar _ h).1; omega), new_blk, if_neg (by omega), hb8]
          have hrg2 : cellsD t' = some [t'] ∧ flatD t' = true := by
            rcases g2.at_ with ⟨rfl, _⟩ | ⟨b, ex, el0, rfl, _⟩ <;> exact ⟨rfl, rfl⟩
          obtain ⟨n2, _⟩ := n2;simp at n2
          have l12 : H.next + 1 < H2.next := by omega
          simp [b12, head7, hrg2.1, hrg2.2];refine sem_ok ?_
          have hdrop : sons.take (i + 1) = sons.take i ++ [son i] := by rw [List.take_add_one, hsg i (by omega)]; rfl
          refine ⟨sons.length - (i + 1), by omega, i + 1, t', rfl, by omega, by rw [wi], ?_, by simp [head7], by simp [b8], ⟨by simp; omega, fun x hx => ?_⟩⟩
          · rw [hdrop]
            have g3 := fun B => g2.rest (H3 := H2.put (H.next + 1) B) (by simp) fun x hx => by rw [put_blk, if_neg (by have := (g2.far hx).1; simp at this; omega)]
            simpa using g3 _
          · rw [put_blk, if_neg (by omega), k2 x (by simp; have := hsub.next; omega) (fun h => by have := (hfar _ h).1; omega), new_blk, if_neg (by omega), hsub.blk x hx]
        · have : i = sons.length := by omega
          subst this
          have ci : ¬ ((sons.length : Nat) : Int) < (q : Int) := by omega
          have hft : flatD t = true := by
            rcases g.at_ with ⟨rfl, _⟩ | ⟨b, ex, el0, rfl, _⟩ <;> rfl
          simp [hq', ci];refine sem_exit (sem_run 9000 _ ?_)
          have hl1 : H.next + 1 < H'.next := by omega
          have hl0 : H.next < H'.next := by omega
          simp [hb, hb8, head7, hft];refine sem_ret ?_;simp [M99];rw [List.take_length] at g;exact fin_sons (N := H.next + 2) (hsub.put (Nat.le_refl _)) (g.rest (by simp) fun x hx => by rw [put_blk, if_neg (by have := (g.far hx).1; simp at this; omega)]) (by omega)
    · have w1 : wr .i64 ((d : Int) - 1) = (d : Int) - 1 := by rw [wr_of] <;> omega
      have w2 : wr .i64 (wr .i64 (3 * (a : Int)) + 1) = 3 * (a : Int) + 1 := by rw [wr_of (n := 3 * (a : Int)) (by omega) (by omega), wr_of] <;> omega
      have h7 := hih 0 hd (by omega);rw [show 3 * (a : Int) + ((0 : Nat) : Int) + 1 = 3 * (a : Int) + 1 by omega] at h7;simp [w1, w2];refine sem_fn h7 (by first | exact D.les_refl _ | simp) (sem_run 9000 _ ?_);simp;refine sem_ret ?_;simp [M99];rw [show predG s n 7 son = .mk 6 0 0 zv [son 0] by simp [predG]];refine fin_sons (N := H.next + 1) (by repeat (first | exact Sub.refl | apply Sub.new | refine Sub.put ?_ (by first | omega | (simp only [put_next, new_next]; omega)))) ⟨⟨by simp, fun _ _ => rfl⟩, by simp, .inr ⟨H.next + 1, true, [(son 0).c], by simp, by simp, by simp, by simp, D.less_refl _⟩⟩ (by omega)
    · obtain ⟨cl, hcl⟩ : ∃ cl, s[c]? = some cl := ⟨s[c], by simp⟩
      have hG : predG s n (k : Int) son = leafP s n := by rcases h2 with rfl | rfl | rfl <;> simp [predG]
      rw [hG]
      have hop : ∃ o : Int, Int.tmod (andI (shrI .i64 n 17) 255) 6 = o ∧ wr .i64 (o + 1) = o + 1 := by
        obtain ⟨q, hq, hq1⟩ := andI_small (a := shrI .i64 n 17) (m := 255) (by simp);have hq' : andI (shrI .i64 n 17) 255 = q := hq;refine ⟨_, rfl, ?_⟩
        rw [hq', Int.tmod_eq_emod_of_nonneg (by omega), wr_of] <;> omega
      obtain ⟨o, ho, wo⟩ := hop;have hfl : ∀ v : Vl, flatsD (v.c ++ [.lit .nilslice]) = true := fun v => rfl;have hsp : spliceD cl.c 2 [.lit (.bool false)] = Cl.c ⟨cl.name, cl.kind, false⟩ := rfl
      have hleaf : (leafP s n).c = [.lit (.int .i64 2), .lit (.int .i64 (c : Int)), .lit (.int .i64 (o + 1)), .lit (.bool (vP s n).null), .lit (.int .i64 (vP s n).kind), .lit (.int .i64 (vP s n).n), byD (vP s n).bytes, prsD []] := by
        rw [pr_c]; simp [leafP, Pr.kind, Pr.col, Pr.op, Pr.v, Pr.l, hcn, ho]
      rw [hleaf]
      by_cases hc0 : c = 0
      · have hv : vP s n = nV (andI (shrI .i64 n 11) 15) := by unfold vP; rw [if_pos (by omega)]
        rw [hv];rcases h2 with rfl | rfl | rfl
        all_goals
          simp [hcl, hsp, -getElem?_pos];refine sem_fn (law6_value L.law6 (c := ⟨cl.name, cl.kind, false⟩) (n := shrI .i64 n 11)) (by first | exact D.les_refl _ | simp) (sem_run 9000 _ ?_);simp [hc0, ho, wo];refine sem_ret ?_;simp [M99];exact .le (by repeat (first | exact Sub.refl | apply Sub.new | refine Sub.put ?_ (by first | omega | (simp only [put_next, new_next]; omega)))) (by simp [nV, D.le, byD, byE, prsD]) (by simp [D.under])
      · have hv : vP s n = valF ⟨cl.name, cl.kind, false⟩ (shrI .i64 n 11) := by
          unfold vP; rw [if_neg (by omega), hcn]; simp [hcl]
        rw [hv];rcases h2 with rfl | rfl | rfl
        all_goals
          simp [hcl, hsp, -getElem?_pos];refine sem_fn (law6_value L.law6 (c := ⟨cl.name, cl.kind, false⟩) (n := shrI .i64 n 11)) (by first | exact D.les_refl _ | simp) (sem_run 9000 _ ?_);simp [hc0, ho, wo, hfl];refine sem_ret ?_;simp [M99, Vl.c];exact .le (by repeat (first | exact Sub.refl | apply Sub.new | refine Sub.put ?_ (by first | omega | (simp only [put_next, new_next]; omega)))) (by simp [D.le, D.le_refl, prsD]) (by simp [D.under])
theorem pred7 (L : HPredL p ext F) {s : Sch} {m : Md} {l : List Int} (hs0 : 0 < s.length) (hs : s.length < 1000) : ∀ {d a : Nat}, d < 1000 → (a + 20) * 4 ^ d < 1000000 → FnD p ext (F 99) [schD s, intsD m l, .lit (.int .i64 (a : Int)), .lit (.int .i64 (d : Int))] (.agg (predF s l d a).c)
  | 0, a, hd, ha => pred7_1 L hs0 hs (by simp at ha; omega) (by omega) fun d' a' e => by omega
  | d + 1, a, hd, ha => pred7_1 L hs0 hs (by have := Nat.mul_le_mul_left (a + 20) (Nat.one_le_two_pow (n := 2 * (d + 1))); rw [Nat.pow_mul, show (2 : Nat) ^ 2 = 4 from rfl] at this; omega) (by omega) fun d' a' e h1 h2 => by
    obtain rfl : d' = d := by omega
    refine pred7 L hs0 hs (by omega) (Nat.lt_of_le_of_lt ?_ ha);rw [Nat.pow_succ, Nat.mul_comm (4 ^ d') 4, ← Nat.mul_assoc];exact Nat.mul_le_mul_right _ (by omega)
end Go.Lib
end

section
set_option maxRecDepth 10000
namespace Go.Lib
open Go.Vm Go.Dv Go.Srt
variable {p : Prog} {ext : Ext} {F : Nat → Nat}
attribute [-simp] bin_and bin_xor
structure HLaw15 (p : Prog) (ext : Ext) (F : Nat → Nat) : Prop where
  pr : HPredL p ext F
  h97 : Has p ext F 97 M97
@[simp] def nilOp : List D := [.lit (.int .i64 0), .lit .nilslice, .lit (.int .i64 0), .lit (.int .i64 0), .lit (.int .i64 0), .lit (.bool false), .lit (.int .i64 0), .lit (.int .i64 0), .lit .nilslice, .lit .nilslice, .lit .nilslice, .lit .nilslice, .lit (.int .i64 0), .lit .nilslice]
def O15a (s : Sch) (m : Md) (l : List Int) (a : Nat) (H : HpD) (n : Int) (fr : FrD) (H' : HpD) : Prop :=
  fr = [(1, intsD m l), (2, .lit (.int .i64 (a : Int))), (3, .rptr [schR s] 0), (6, .ptr H.next 0), (7, .lit (.int .i64 n))] ∧ H' = H.new (.cells nilOp false)
def O15b (s : Sch) (H : HpD) (n : Int) (q : Pr) (fr : FrD) (H' : HpD) : Prop :=
  fr = [(3, .rptr [schR s] 0), (6, .ptr H.next 0), (7, .lit (.int .i64 n)), (8, .ptr (H.next + 1) 0)] ∧ H'.next = H.next + 2 ∧ Sub H H' ∧ H'.blk H.next = .cells nilOp false ∧ H'.blk (H.next + 1) = .cells q.c false
theorem Weak.cell {a : List D} {fr : FrD} {H : HpD} {b : Nat} {cs cs' : List D} {ro : Bool} (hb : H.blk b = .cells cs ro) (hl : D.les cs cs') : Weak a fr H a fr (H.put b (.cells cs' ro)) := by
  intro ψ S h fv vs sr kf kv;exact ⟨ψ, S, .refl, sr.tellV hb fun l' k => VDl.le _ _ hl k, kf, kv⟩
theorem opF_of (L : HLaw15 p ext F) {s : Sch} {m : Md} {l : List Int} {a : Nat} (hs0 : 0 < s.length) (hs : s.length < 1000) (ha : a < 1000000) : FnD p ext (F 97) [schD s, intsD m l, .lit (.int .i64 (a : Int))] (.agg (opF s l a).c) := by
  refine fn_of L.h97 (M := M97) rfl ok97 rfl fun H => sem_run 12 _ ?_;simp;refine sem_cut (O15a s m l a H (numO l a)) (sem_run 9000 _ ?_) ?_
  · by_cases c : 0 < l.length
    · obtain ⟨x, hx⟩ : ∃ x, l[a % l.length]? = some x := ⟨_, List.getElem?_eq_getElem (Nat.mod_lt _ c)⟩
      have hn : numO l a = wr .i64 (x + wr .i64 ((a : Int) * 7919)) := by simp only [numO, hx]
      obtain ⟨r, hr⟩ : ∃ r, a % l.length = r := ⟨_, rfl⟩
      have ht : Int.tmod (a : Int) (l.length : Int) = (r : Int) := by rw [Int.tmod_eq_emod_of_nonneg (by omega)]; omega
      have hz : (l.length : Int) ≠ 0 := by omega
      have hsz : ¬ l.length = 0 := by omega
      rw [hr] at hx;rw [hn];simp [c, hsz, ht, hx, -getElem?_pos];exact sem_ok ⟨rfl, rfl⟩
    · have hl0 : l = [] := by
        cases l with
        | nil => rfl
        | cons x l => simp at c
      subst hl0
      have hn : numO [] a = 0 := by simp [numO]
      rw [hn];simp;refine sem_as_ok [(1, intsD m []), (2, .lit (.int .i64 (a : Int))), (3, .rptr [schR s] 0), (6, .ptr H.next 0), (7, .lit (.int .i64 0))] (by simp [D.le_refl, intsD]) ?_;exact sem_ok ⟨rfl, rfl⟩
  rintro fr H1 ⟨rfl, rfl⟩;obtain ⟨n, hn⟩ : ∃ n, numO l a = n := ⟨_, rfl⟩;rw [hn]
  have h7 : Int.tmod (a : Int) 7 = ((a % 7 : Nat) : Int) := by rw [Int.tmod_eq_emod_of_nonneg (by omega)]; omega
  refine sem_run 9000 _ ?_;simp [h7];refine sem_fn (pred7 L.pr hs0 hs (d := 3) (a := a % 7) (by omega) (by omega)) (by first | exact D.les_refl _ | simp) (sem_run 5 _ ?_);simp;refine sem_cut (O15b s H n (predO s l a)) (sem_run 9000 _ ?_) ?_
  · by_cases c : andI (shrI .i64 n 3) 3 = 0
    · have hp : predO s l a = prK (andI (shrI .i64 n 5) 15) := by unfold predO; rw [hn, if_pos c]
      rw [hp];simp [c];refine sem_weak_ok (Weak.cell (b := H.next + 1) (cs := [.lit (.int .i64 2), .lit (.int .i64 0), .lit (.int .i64 1), .lit (.bool false), .lit (.int .i64 1), .lit (.int .i64 (andI (shrI .i64 n 5) 15)), .lit .nilslice, .lit .nilslice]) (ro := false) (cs' := (prK (andI (shrI .i64 n 5) 15)).c) (by simp) (by simp [pr_c, prK, nV, Pr.kind, Pr.col, Pr.op, Pr.v, Pr.l, D.les, D.le, byD, byE, prsD])) ?_;exact sem_ok ⟨rfl, by simp, (by repeat (first | exact Sub.refl | apply Sub.new | refine Sub.put ?_ (by first | omega | (simp only [put_next, new_next]; omega)))), by simp, by simp⟩
    · have hp : predO s l a = predF s l 3 (a % 7) := by unfold predO; rw [hn, if_neg c]
      rw [hp];simp [c];refine sem_as_ok [(3, .rptr [schR s] 0), (6, .ptr H.next 0), (7, .lit (.int .i64 n)), (8, .ptr (H.next + 1) 0)] (by simp [D.le_refl]) ?_;exact sem_ok ⟨rfl, by simp, (by repeat (first | exact Sub.refl | apply Sub.new | refine Sub.put ?_ (by first | omega | (simp only [put_next, new_next]; omega)))), by simp, by simp⟩
  rintro fr H1 ⟨rfl, hnx, hsub, hb6, hb8⟩;obtain ⟨q, hq⟩ : ∃ q, predO s l a = q := ⟨_, rfl⟩;rw [hq, pr_c] at hb8;obtain ⟨k, hk, hk7⟩ := andI_small (a := n) (m := 7) (by simp);have hk' : andI n 7 = k := hk
  obtain ⟨c, hcn, hcl⟩ : ∃ c : Nat, colO s n = c ∧ c < s.length := by
    obtain ⟨q, hq, hq1⟩ := andI_small (a := shrI .i64 n 9) (m := 255) (by simp);have hq' : andI (shrI .i64 n 9) 255 = q := hq;refine ⟨q % s.length, ?_, Nat.mod_lt _ hs0⟩;unfold colO;rw [hq', Int.tmod_eq_emod_of_nonneg (by omega)]; omega
  have hc : Int.tmod (andI (shrI .i64 n 9) 255) (s.length : Int) = c := hcn
  have hop : opF s l a = opG s n k c q := by unfold opF; rw [hn, hk', hcn, hq]
  rw [hop]
  have hz : (s.length : Int) ≠ 0 := by omega
  have hsz : ¬ s.length = 0 := by omega
  have l6 : H.next < H1.next := by omega
  have l8 : H.next + 1 < H1.next := by omega
  have h61 : ¬ H.next = H1.next := by omega
  have h81 : ¬ H.next + 1 = H1.next := by omega
  refine sem_run 9000 _ ?_;simp [hsz, hc, hk'];obtain ⟨cl, hcl'⟩ : ∃ cl, s[c]? = some cl := ⟨s[c], by simp⟩
  have hkk : (k = 0 ∨ k = 1 ∨ k = 2) ∨ (k = 3 ∨ k = 4) ∨ k = 5 ∨ k = 6 ∨ k = 7 := by omega
  rcases hkk with h | h | rfl | rfl | rfl
  · have hG : opG s n (k : Int) c q = insO (rowF s (shrI .i64 n 5)) := by rcases h with rfl | rfl | rfl <;> rfl
    rw [hG];rcases h with rfl | rfl | rfl
    all_goals
      simp;refine sem_fn (law6_row L.pr.law6 (s := s) (n := shrI .i64 n 5) hs) (by first | exact D.les_refl _ | simp) (sem_run 9000 _ ?_);simp [hb6];refine sem_ret ?_;simp [M97];exact .le (by have := hsub.next; repeat (first | exact hsub | apply Sub.new | refine Sub.put ?_ (by first | omega | (simp only [put_next, new_next]; omega)))) (by simp [op_c, insO, pr0, zv, Pr.kind, Pr.col, Pr.op, Pr.v, Pr.l, D.le, byD, byE, prsD, rowD, rowE, sxsD, sxsE, intsD, agsD, agsE]) (by simp [D.under, op_unders])
  · by_cases c0 : 0 < c
    · have hG : opG s n (k : Int) c q = setO q (sxO c cl n) := by rcases h with rfl | rfl <;> simp [opG, c0, hcl']
      rw [hG];rcases h with rfl | rfl
      all_goals
        by_cases k1 : cl.kind = 1
        · cases hvn : (valF cl (shrI .i64 n 17)).null with
          | true =>
            have hadd : addO cl n = false := by simp [addO, hvn]
            simp [c0, hcl', -getElem?_pos];refine sem_fn (law6_value L.pr.law6) (by first | exact D.les_refl _ | simp) (sem_run 9000 _ ?_);simp;simp [hcl', k1, hvn, hb6, hb8, h61, h81, -getElem?_pos];refine sem_ret ?_;simp [M97];exact .le (by have := hsub.next; repeat (first | exact hsub | apply Sub.new | refine Sub.put ?_ (by first | omega | (simp only [put_next, new_next]; omega)))) (by simp [op_c, setO, sxO, hadd, Sx.c, Vl.c, D.le, D.les, D.less, D.le_refl, rowD, rowE, sxsD, sxsE, intsD, agsD, agsE]) (by simp [D.under, op_unders])
          | false =>
            by_cases kb : andI (shrI .i64 n 13) 1 = 1
            · have hadd : addO cl n = true := by simp [addO, hvn, k1, kb]
              simp [c0, hcl', -getElem?_pos];refine sem_fn (law6_value L.pr.law6) (by first | exact D.les_refl _ | simp) (sem_run 9000 _ ?_);simp;simp [hcl', k1, hvn, kb, hb6, hb8, h61, h81, -getElem?_pos];refine sem_ret ?_;simp [M97];exact .le (by have := hsub.next; repeat (first | exact hsub | apply Sub.new | refine Sub.put ?_ (by first | omega | (simp only [put_next, new_next]; omega)))) (by simp [op_c, setO, sxO, hadd, Sx.c, Vl.c, D.le, D.les, D.less, D.le_refl, rowD, rowE, sxsD, sxsE, intsD, agsD, agsE]) (by simp [D.under, op_unders])
            · have hadd : addO cl n = false := by simp [addO, kb]
              simp [c0, hcl', -getElem?_pos];refine sem_fn (law6_value L.pr.law6) (by first | exact D.les_refl _ | simp) (sem_run 9000 _ ?_);simp;simp [hcl', k1, hvn, kb, hb6, hb8, h61, h81, -getElem?_pos];refine sem_ret ?_;simp [M97];exact .le (by have := hsub.next; repeat (first | exact hsub | apply Sub.new | refine Sub.put ?_ (by first | omega | (simp only [put_next, new_next]; omega)))) (by simp [op_c, setO, sxO, hadd, Sx.c, Vl.c, D.le, D.les, D.less, D.le_refl, rowD, rowE, sxsD, sxsE, intsD, agsD, agsE]) (by simp [D.under, op_unders])
        · have hadd : addO cl n = false := by simp [addO, k1]
          simp [c0, hcl', -getElem?_pos];refine sem_fn (law6_value L.pr.law6) (by first | exact D.les_refl _ | simp) (sem_run 9000 _ ?_);simp;simp [hcl', k1, hb6, hb8, h61, h81, -getElem?_pos];refine sem_ret ?_;simp [M97];exact .le (by have := hsub.next; repeat (first | exact hsub | apply Sub.new | refine Sub.put ?_ (by first | omega | (simp only [put_next, new_next]; omega)))) (by simp [op_c, setO, sxO, hadd, Sx.c, Vl.c, D.le, D.les, D.less, D.le_refl, rowD, rowE, sxsD, sxsE, intsD, agsD, agsE]) (by simp [D.under, op_unders])
    · have hG : opG s n (k : Int) c q = delO q := by rcases h with rfl | rfl <;> simp [opG, c0]
      rw [hG];rcases h with rfl | rfl
      all_goals
        simp [c0, hb6, hb8];refine sem_ret ?_;simp [M97];exact .le (by have := hsub.next; repeat (first | exact hsub | apply Sub.new | refine Sub.put ?_ (by first | omega | (simp only [put_next, new_next]; omega)))) (by simp [op_c, delO, D.le, D.le_refl, rowD, rowE, sxsD, sxsE, intsD, agsD, agsE]) (by simp [D.under, op_unders])
  · rw [show opG s n ((5 : Nat) : Int) c q = scanO q [(c : Int), 0] by simp [opG]]
    simp [hb6, hb8];refine sem_ret ?_;simp [M97];exact .le (by have := hsub.next; repeat (first | exact hsub | apply Sub.new | refine Sub.put ?_ (by first | omega | (simp only [put_next, new_next]; omega)))) (by simp [op_c, scanO, D.le, D.le_refl, rowD, rowE, sxsD, sxsE, intsD, agsD, agsE]) (by simp [D.under, op_unders])
  · rw [show opG s n ((6 : Nat) : Int) c q = aggO q (wr .i64 (c - wr .i64 (andI (shrI .i64 n 14) 1 * wr .i64 (c + 1)))) [⟨1, 0⟩, ⟨wr .i64 (3 + andI (shrI .i64 n 15) 1), c⟩, ⟨2, 0⟩] by simp [opG]]
    simp [hb6, hb8, h61];refine sem_ret ?_;simp [M97];exact .le (by have := hsub.next; repeat (first | exact hsub | apply Sub.new | refine Sub.put ?_ (by first | omega | (simp only [put_next, new_next]; omega)))) (by simp [op_c, aggO, Ag.c, D.le, D.les, D.less, D.le_refl, rowD, rowE, sxsD, sxsE, intsD, agsD, agsE]) (by simp [D.under, op_unders])
  · by_cases e : andI (shrI .i64 n 18) 7 = 0
    · rw [show opG s n ((7 : Nat) : Int) c q = rollO by simp [opG, e]]
      simp [e, hb6];refine sem_ret ?_;simp [M97];exact .le (by have := hsub.next; repeat (first | exact hsub | apply Sub.new | refine Sub.put ?_ (by first | omega | (simp only [put_next, new_next]; omega)))) (by simp [op_c, rollO, pr0, zv, Pr.kind, Pr.col, Pr.op, Pr.v, Pr.l, D.le, byD, byE, prsD, rowD, rowE, sxsD, sxsE, intsD, agsD, agsE]) (by simp [D.under, op_unders])
    · rw [show opG s n ((7 : Nat) : Int) c q = delO q by simp [opG, e]]
      simp [e, hb6, hb8];refine sem_ret ?_;simp [M97];exact .le (by have := hsub.next; repeat (first | exact hsub | apply Sub.new | refine Sub.put ?_ (by first | omega | (simp only [put_next, new_next]; omega)))) (by simp [op_c, delO, D.le, D.le_refl, rowD, rowE, sxsD, sxsE, intsD, agsD, agsE]) (by simp [D.under, op_unders])
end Go.Lib
end

section
set_option maxRecDepth 10000
namespace Go.Lib
open Go.Vm Go.Dv Go.Srt
variable {p : Prog} {ext : Ext} {F : Nat → Nat}
attribute [-simp] bin_and bin_xor
structure HProg (p : Prog) (ext : Ext) (F : Nat → Nat) : Prop where
  op : HLaw15 p ext F
  h98 : Has p ext F 98 M98
def lenG (n : Int) : Nat := min (andI n 7).toNat 6
def atG (n : Int) : Nat := (andI (shrI .i64 n 3) 63).toNat
def progF (s : Sch) (l : List Int) (n : Int) : List Op := (List.range (lenG n)).map fun i => opF s l (atG n + i)
theorem progF_len {s : Sch} {l : List Int} {n : Int} : (progF s l n).length = lenG n := by simp [progF]
theorem progF_get {s : Sch} {l : List Int} {n : Int} {i : Nat} (h : i < lenG n) : (progF s l n)[i]? = some (opF s l (atG n + i)) := by simp [progF, h]
def ProgI (H0 : HpD) (s : Sch) (m : Md) (l : List Int) (n : Int) (P : List Op) (k : Nat) (fr : FrD) (H : HpD) : Prop :=
  ∃ (i : Nat) (t : D), k = P.length - i ∧ i ≤ P.length ∧ fr = [(1, intsD m l), (2, .lit (.int .i64 n)), (3, .rptr [schR s] 0), (7, t), (8, .lit (.int .i64 (i : Int)))] ∧ Gr H0 H 14 t ((P.take i).map Op.c)
theorem law15_program_own (L : HProg p ext F) {s : Sch} {m : Md} {l : List Int} {n : Int} {H : HpD} (hs0 : 0 < s.length) (hs : s.length < 1000) : WcD p ext (F 98) [schD s, intsD m l, .lit (.int .i64 n)] H (fun d H' => Gr H H' 14 d ((progF s l n).map Op.c)) := by
  refine wc_of L.h98 (M := M98) rfl ok98 rfl (sem_run 9000 _ ?_);simp;obtain ⟨q, hq, hq7⟩ := andI_small (a := n) (m := 7) (by simp);have hq' : andI n 7 = q := hq;obtain ⟨g, hg, hg7⟩ := andI_small (a := shrI .i64 n 3) (m := 63) (by simp);have hg' : andI (shrI .i64 n 3) 63 = g := hg
  have hL : lenG n = min q 6 := by unfold lenG; rw [hq']; rfl
  have hA : atG n = g := by unfold atG; rw [hg']; rfl
  have hlen := progF_len (s := s) (l := l) (n := n);have hget := fun (i : Nat) => progF_get (s := s) (l := l) (n := n) (i := i);rw [hL] at hlen;rw [hL, hA] at hget;generalize progF s l n = P at hlen hget;refine sem_loop (ProgI H s m l n P) ?_ (k := P.length) ⟨0, .lit .nilslice, by simp, by simp, by simp, by simpa using Gr.start⟩;rintro k fr H' ⟨i, t, rfl, hi, rfl, gr⟩;refine sem_run 9000 _ ?_;simp
  by_cases c : i < P.length
  · have c1 : (i : Int) < (q : Int) := by omega
    have c2 : (i : Int) < 6 := by omega
    have w1 : wr .i64 ((g : Int) + (i : Int)) = (g : Int) + (i : Int) := by rw [wr_of] <;> omega
    have wi : wr .i64 ((i : Int) + 1) = ((i + 1 : Nat) : Int) := by rw [wr_of] <;> omega
    have ho := opF_of L.op (s := s) (m := m) (l := l) (a := g + i) hs0 hs (by omega);rw [show (((g + i : Nat)) : Int) = (g : Int) + (i : Int) by omega] at ho;simp [hq', hg', c1, c2, w1];refine sem_fn ho (by first | exact D.les_refl _ | simp) (sem_run 9000 _ ?_);simp;refine sem_push (gr.mono (by repeat (first | exact Sub.refl | apply Sub.new | refine Sub.put ?_ (by first | omega | (simp only [put_next, new_next]; omega))))) (by simp) (by simp) (roomyD (by simp; omega) (by simp; omega)) fun t' H2 g2 _ _ => ?_;simp;refine sem_ok ?_
    have e : (P.take (i + 1)).map Op.c = (P.take i).map Op.c ++ [(opF s l (g + i)).c] := by rw [List.take_add_one, hget i (by omega)]; simp
    exact ⟨P.length - (i + 1), by omega, i + 1, t', rfl, by omega, by rw [wi], by rw [e]; exact g2⟩
  · have : i = P.length := by omega
    subst this;rw [List.take_length] at gr
    by_cases c1 : ((P.length : Nat) : Int) < (q : Int)
    case' pos => simp [hq', c1, show ¬ ((P.length : Nat) : Int) < 6 by omega]
    case' neg => simp [hq', c1]
    all_goals
      refine sem_exit (sem_run 9000 _ ?_);simp;refine sem_ret ?_;simp [M98];exact gr
theorem law15_program (L : HProg p ext F) {s : Sch} {m : Md} {l : List Int} {n : Int} (hs0 : 0 < s.length) (hs : s.length < 1000) : FnD p ext (F 98) [schD s, intsD m l, .lit (.int .i64 n)] (opsD (progF s l n)) :=
  own_fn (fun _ => law15_program_own L hs0 hs) fun _ => underss_map (fun _ => op_unders) _
end Go.Lib
end

section
set_option maxRecDepth 10000
namespace Go.Lib
open Go.Vm Go.Dv Go.Srt
variable {p : Prog} {ext : Ext} {F : Nat → Nat}
structure HRef6e (p : Prog) (ext : Ext) (F : Nat → Nat) : Prop where
  ref6 : HRef6 p ext F
  h87 : Has p ext F 87 M87
  h88 : Has p ext F 88 M88
  h89 : Has p ext F 89 M89
  h90 : Has p ext F 90 M90
  h91 : Has p ext F 91 M91
def PrW (ks : List Int) : Nat → Pr → Prop
  | 0, _ => False
  | n + 1, q => q.l.length < 1000 ∧ (∀ x, x ∈ q.l → PrW ks n x) ∧ (q.kind = 1 ∨ (q.kind = 2 ∧ InK ks q.col ∧ 1 ≤ q.op ∧ q.op ≤ 6) ∨ (q.kind = 3 ∧ InK ks q.col) ∨ q.kind = 4 ∨ q.kind = 5 ∨ (q.kind = 6 ∧ q.l ≠ []))
theorem PrW.short {ks : List Int} : ∀ {n : Nat} {q : Pr}, PrW ks n q → PrS n q
  | 0, _, h => h
  | _ + 1, _, h => ⟨h.1, fun x hx => (h.2.1 x hx).short⟩
end Go.Lib
end

section
set_option maxRecDepth 10000
namespace Go.Lib
open Go.Vm Go.Dv Go.Srt
variable {p : Prog} {ext : Ext} {F : Nat → Nat}
structure HFits (p : Prog) (ext : Ext) (F : Nat → Nat) : Prop where
  h88 : Has p ext F 88 M88
  h91 : Has p ext F 91 M91
structure FitV (c : Cl) (v : Vl) : Prop where
  good : v.Good
  kind : v.kind = c.kind
  short : v.bytes.length ≤ 64
  null : v.null = true → c.null = true
def FitR (s : Sch) (r : Row) : Prop := r.length = s.length ∧ ∀ (i : Nat) (c : Cl) (v : Vl), s[i]? = some c → r[i]? = some v → FitV c v
theorem ref6_value (L : HFits p ext F) {c : Cl} {v : Vl} (h : FitV c v) : FnD p ext (F 91) [.lit (.int .i64 c.kind), .agg v.c] (.lit (.bool true)) := by
  refine fn_of L.h91 (M := M91) rfl ok91 rfl fun H => sem_run 9000 _ ?_;simp;obtain ⟨⟨g1, g2, _⟩, hk, hb, _⟩ := h
  cases hn : v.null with
  | true =>
    obtain ⟨h1, h2⟩ := g1 hn;rcases g2 with ⟨k1, _⟩ | ⟨k1, _⟩
    all_goals
      simp [Vl.c, ← hk, k1, hn, h1, h2];refine sem_ret ?_;simp [M91];exact .same (by simp)
  | false =>
    rcases g2 with ⟨k1, h2⟩ | ⟨k1, h2⟩
    · simp [Vl.c, ← hk, k1, hn, h2]
      refine sem_ret ?_;simp [M91];exact .same (by simp)
    · have hb' : (v.bytes.length : Int) ≤ 64 := by omega
      simp [Vl.c, ← hk, k1, hn, h2, hb'];refine sem_ret ?_;simp [M91];exact .same (by simp)
def FitI (s : Sch) (r : Row) (H0 : HpD) (k : Nat) (fr : FrD) (H : HpD) : Prop :=
  ∃ i : Nat, k = r.length - i ∧ i ≤ r.length ∧ fr = [(1, rowD r), (2, .rptr [schR s] 0), (5, .lit (.int .i64 (i : Int)))] ∧ Sub H0 H
theorem ref6_fits (L : HFits p ext F) {s : Sch} {r : Row} (hs : s.length < 1000) (h : FitR s r) : FnD p ext (F 88) [schD s, rowD r] (.lit (.bool true)) := by
  refine fn_of L.h88 (M := M88) rfl ok88 rfl fun H => sem_run 9000 _ ?_;simp;have hl := h.1;simp [hl];refine sem_loop (FitI s r H) ?_ (k := r.length) ⟨0, by simp, by simp, by simp, (by repeat (first | exact Sub.refl | apply Sub.new | refine Sub.put ?_ (by first | omega | (simp only [put_next, new_next]; omega))))⟩;rintro k fr H' ⟨i, rfl, hi, rfl, hsub⟩;refine sem_run 9000 _ ?_;simp
  by_cases c : i < r.length
  · obtain ⟨v, hv⟩ : ∃ v, r[i]? = some v := ⟨r[i], by simp⟩
    obtain ⟨cl, hcl⟩ : ∃ cl, s[i]? = some cl := ⟨s[i]'(by omega), by simp⟩;have hf := h.2 i cl v hcl hv
    have wi : wr .i64 ((i : Int) + 1) = ((i + 1 : Nat) : Int) := by rw [wr_of] <;> omega
    simp [c, hv, hcl, -getElem?_pos];refine sem_dfn (ref6_value L hf) (by first | exact D.les_refl _ | simp) (sem_run 9000 _ ?_)
    cases hn : v.null with
    | true =>
      have hc := hf.null hn;simp [hv, hcl, hn, hc, -getElem?_pos];refine sem_ok ?_;exact ⟨r.length - (i + 1), by omega, i + 1, rfl, by omega, by rw [wi], hsub⟩
    | false =>
      simp [hv, hn, -getElem?_pos];refine sem_ok ?_;exact ⟨r.length - (i + 1), by omega, i + 1, rfl, by omega, by rw [wi], hsub⟩
  · simp [c]
    refine sem_exit (sem_run 9000 _ ?_);simp;refine sem_ret ?_;simp [M88];exact .le (by have := hsub.next; repeat (first | exact hsub | apply Sub.new | refine Sub.put ?_ (by first | omega | (simp only [put_next, new_next]; omega)))) (by simp) trivial
end Go.Lib
end

section
set_option maxRecDepth 10000
namespace Go.Lib
open Go.Vm Go.Dv Go.Srt
structure KeyOp (o : Op) (k : Int) : Prop where
  kind : o.kind = 2 ∨ o.kind = 3
  pred : o.pred = prK k
  sets : ∀ x, x ∈ o.sets → 1 ≤ x.col
def actF (o : Op) (r : Row) : Option (List Row) := if pickF o r = true then (if o.kind = 2 then (setF r o.sets).map (fun x => [x]) else some []) else some [r]
theorem setS_at {r r' : Row} {x : Sx} (hc : 1 ≤ x.col) (e : setS r x = some r') : atV r' 0 = atV r 0 := by
  unfold setS at e
  split at e
  · cases e; rfl
  · split at e
    · cases e; exact atV_set (by omega)
    · split at e
      · cases e; rfl
      · split at e
        · cases e; exact atV_set (by omega)
        · cases e
theorem setF_at : ∀ {l : List Sx} {r r' : Row}, (∀ x, x ∈ l → 1 ≤ x.col) → setF r l = some r' → atV r' 0 = atV r 0
  | [], r, r', _, e => by simp [setF] at e; subst e; rfl
  | x :: l, r, r', hx, e => by
    unfold setF at e
    split at e
    · rename_i r1 e1
      rw [setF_at (fun y hy => hx y (by simp [hy])) e, setS_at (hx x (by simp)) e1]
    · cases e
theorem KeyOp.pick {o : Op} {k : Int} (h : KeyOp o k) {r x : Row} (e : atV x 0 = atV r 0) : pickF o x = pickF o r := by
  unfold pickF; rw [h.pred, evalK, evalK, e]
theorem KeyOp.at_ {o : Op} {k : Int} (h : KeyOp o k) {r : Row} {l : List Row} (e : actF o r = some l) : ∀ x, x ∈ l → atV x 0 = atV r 0 := fun x hx => by
  unfold actF at e
  split at e
  · split at e
    · obtain ⟨r', e1, rfl⟩ := Option.map_eq_some_iff.1 e
      simp at hx; subst hx;exact setF_at h.sets e1
    · cases e; simp at hx
  · cases e; simp at hx; subst hx; rfl
theorem KeyOp.key {o : Op} {k : Int} (h : KeyOp o k) {r : Row} (h1 : (atV r 0).kind = 1) (hp : pickF o r = true) : keyF r = k := by
  by_cases e : keyF r = k
  · exact e
  · have := pickK_no h1 e
    unfold pickF at hp;rw [h.pred] at hp;exact absurd (by simpa using hp) this
theorem opG_sets {n : Int} {x k : Int} {c : Nat} {q : Pr} (hc : c < (schF n).length) : ∀ y, y ∈ (opG (schF n) x k c q).sets → SxOk (ksF (schF n)) y := fun y hy => by
  unfold opG at hy
  split at hy
  · simp [insO] at hy
  · split at hy
    · split at hy
      · rename_i c0
        have c0 : 0 < c := by omega
        have hcl : (schF n)[c]? = some (schF n)[c] := by simp
        rw [show ((c : Int).toNat) = c from rfl, hcl] at hy;simp [setO] at hy; subst hy
        have hkc : ((ksF (schF n))[c]?).getD 0 = (schF n)[c].kind := by unfold ksF; rw [List.getElem?_map, hcl]; rfl
        refine ⟨⟨by show (1 : Int) ≤ c; omega, by show (c : Int) < _; rw [ksF_len]; omega⟩, valF_good (schF_kinds (n := n) _ (by simp)), ?_, fun h => ?_⟩
        · show (valF _ _).kind = ((ksF (schF n))[((c : Int)).toNat]?).getD 0
          rw [show ((c : Int).toNat) = c from rfl, hkc, valF_kind]
        · show ((ksF (schF n))[((c : Int)).toNat]?).getD 0 = 1
          rw [show ((c : Int).toNat) = c from rfl, hkc];have h : addO (schF n)[c] x = true := h;simp [addO] at h;exact h.1.1
      · simp [delO] at hy
    · split at hy
      · simp [scanO] at hy
      · split at hy
        · simp [aggO] at hy
        · split at hy
          · simp [rollO] at hy
          · simp [delO] at hy
theorem opG_few {s : Sch} {n k c : Int} {q : Pr} : (opG s n k c q).sets.length ≤ 1 := by
  unfold opG
  repeat' split
  all_goals simp [insO, setO, delO, scanO, aggO, rollO]
theorem colO_at {s : Sch} {n : Int} (h : 0 < s.length) : ∃ c : Nat, colO s n = c ∧ c < s.length := by
  obtain ⟨q, hq, hq1⟩ := andI_small (a := shrI .i64 n 9) (m := 255) (by simp);have hq' : andI (shrI .i64 n 9) 255 = q := hq;refine ⟨q % s.length, ?_, Nat.mod_lt _ h⟩;unfold colO;rw [hq', Int.tmod_eq_emod_of_nonneg (by omega)]; omega
end Go.Lib
end

section
set_option maxRecDepth 10000
namespace Go.Lib
open Go.Vm Go.Dv Go.Srt
variable {p : Prog} {ext : Ext} {F : Nat → Nat}
end Go.Lib
end

section
set_option maxRecDepth 10000
namespace Go.Lib
open Go.Vm Go.Dv Go.Srt
variable {p : Prog} {ext : Ext} {F : Nat → Nat}
def AgK (ks : List Int) (a : Ag) : Prop := InK ks a.col ∧ (a.kind = 1 ∨ a.kind = 2 ∨ a.kind = 3 ∨ a.kind = 4)
end Go.Lib
end

section
set_option maxRecDepth 10000
namespace Go.Lib
open Go.Vm Go.Dv Go.Srt
theorem cP_in {n x : Int} : InK (ksF (schF n)) (cP (schF n) x) := by
  obtain ⟨q, hq, _⟩ := andI_small (a := shrI .i64 x 3) (m := 255) (by simp);have hq' : andI (shrI .i64 x 3) 255 = q := hq;have hl := (schF_small (n := n)).2;unfold InK cP;rw [hq', Int.tmod_eq_emod_of_nonneg (by omega), ksF_len];have := Int.emod_lt_of_pos (q : Int) (show (0 : Int) < ((schF n).length : Int) by omega);have := Int.emod_nonneg (q : Int) (show ((schF n).length : Int) ≠ 0 by omega);omega
theorem leafP_ok {n x : Int} {m : Nat} : PrW (ksF (schF n)) (m + 1) (leafP (schF n) x) := by
  obtain ⟨q, hq, _⟩ := andI_small (a := shrI .i64 x 17) (m := 255) (by simp);have hq' : andI (shrI .i64 x 17) 255 = q := hq;refine ⟨by simp [leafP, Pr.l], fun y hy => by simp [leafP, Pr.l] at hy, .inr (.inl ⟨rfl, cP_in, ?_, ?_⟩)⟩
  · show 1 ≤ Int.tmod (andI (shrI .i64 x 17) 255) 6 + 1
    rw [hq', Int.tmod_eq_emod_of_nonneg (by omega)]; omega
  · show Int.tmod (andI (shrI .i64 x 17) 255) 6 + 1 ≤ 6
    rw [hq', Int.tmod_eq_emod_of_nonneg (by omega)]; omega
theorem predF_ok {n : Int} {l : List Int} : ∀ {d a : Nat}, PrW (ksF (schF n)) (d + 1) (predF (schF n) l d a)
  | d, a => by
    obtain ⟨k, hk, hk7, hk4⟩ := kP_at (d := d) (n := numP l a)
    have key : ∀ son : Nat → Pr, (∀ i, 2 ≤ d → PrW (ksF (schF n)) d (son i)) → PrW (ksF (schF n)) (d + 1) (predG (schF n) (numP l a) k son) := fun son hson => by
      unfold predG
      split
      · exact ⟨by simp [prT, Pr.l], fun y hy => by simp [prT, Pr.l] at hy, .inl rfl⟩
      · split
        · exact ⟨by simp [Pr.l], fun y hy => by simp [Pr.l] at hy, .inr (.inr (.inl ⟨rfl, cP_in⟩))⟩
        · split
          · rename_i h5
            obtain ⟨q, hq, hq3⟩ := andI_small (a := shrI .i64 (numP l a) 11) (m := 3) (by simp);have hq' : andI (shrI .i64 (numP l a) 11) 3 = q := hq;refine ⟨by simp [Pr.l, sonsP, hq']; omega, fun y hy => ?_, ?_⟩
            · simp only [Pr.l, sonsP, List.mem_map] at hy
              obtain ⟨i, _, rfl⟩ := hy;exact hson i (by omega)
            · rcases h5 with h5 | h5
              · exact .inr (.inr (.inr (.inl (by show (k : Int) - 1 = 4; omega))))
              · exact .inr (.inr (.inr (.inr (.inl (by show (k : Int) - 1 = 5; omega)))))
          · split
            · refine ⟨by simp [Pr.l], fun y hy => ?_, .inr (.inr (.inr (.inr (.inr ⟨rfl, by simp [Pr.l]⟩))))⟩
              simp [Pr.l] at hy; subst hy;exact hson 0 (by omega)
            · exact leafP_ok
    cases d with
    | zero =>
      show PrW _ _ (predG (schF n) (numP l a) (kP 0 (numP l a)) fun _ => prT);rw [hk]
      exact key _ fun i h => by omega
    | succ d =>
      show PrW _ _ (predG (schF n) (numP l a) (kP (d + 1) (numP l a)) fun i => predF (schF n) l d (3 * a + i + 1));rw [hk];exact key _ fun i h => predF_ok
theorem predO_ok {n : Int} {l : List Int} {a : Nat} : PrW (ksF (schF n)) 4 (predO (schF n) l a) := by
  unfold predO
  split
  · exact ⟨by simp [prK, Pr.l], fun y hy => by simp [prK, Pr.l] at hy, .inr (.inl ⟨rfl, inK_0, by show (1 : Int) ≤ 1; omega, by show (1 : Int) ≤ 6; omega⟩)⟩
  · exact predF_ok
structure OpW (n : Int) (o : Op) : Prop where
  ok : OpOk (ksF (schF n)) 4 o
  kind : 1 ≤ o.kind ∧ o.kind ≤ 6
  pred : 2 ≤ o.kind → o.kind ≤ 5 → PrW (ksF (schF n)) 4 o.pred
  aggs : ∀ a, a ∈ o.aggs → AgK (ksF (schF n)) a
theorem opG_ok {n x : Int} {k c : Nat} {q : Pr} (_hk : k ≤ 7) (hc : c < (schF n).length) (hq : PrW (ksF (schF n)) 4 q) : OpW n (opG (schF n) x k c q) := by
  have hs := fun y => opG_sets (n := n) (x := x) (k := k) (q := q) hc y;have hf := opG_few (s := schF n) (n := x) (k := k) (c := c) (q := q);have hsm := schF_small (n := n)
  have hr : (opG (schF n) x k c q).row.length < 1000 := by
    have : (opG (schF n) x k c q).row.length ≤ (schF n).length := by
      unfold opG
      repeat' split
      all_goals simp [insO, setO, delO, scanO, aggO, rollO, rowF_len]
    omega
  have p0 : PrS 4 pr0 := ⟨by simp [pr0, Pr.l], fun y hy => by simp [pr0, Pr.l] at hy⟩;have hin : InK (ksF (schF n)) (c : Int) := ⟨by omega, by rw [ksF_len]; omega⟩
  have hp : PrS 4 (opG (schF n) x k c q).pred := by
    unfold opG
    repeat' split
    all_goals first | exact p0 | exact hq.short
  have hOS : OpS 4 (opG (schF n) x k c q) := ⟨hp, by omega, fun y hy => (hs y hy).good.int⟩;have h0 : InK (ksF (schF n)) 0 := inK_0;refine ⟨⟨hOS, hr, fun h => ?_, fun _ => hs, fun h => ?_, fun h => ?_⟩, ?_, fun _ _ => ?_, ?_⟩
  · revert h; unfold opG
    repeat' split
    all_goals first | (intro; exact row6_good) | (intro h; simp [setO, delO, scanO, aggO, rollO] at h)
  · revert h; unfold opG
    repeat' split
    all_goals first | (intro h; simp [insO, setO, delO, aggO, rollO] at h; done) | skip
    intro _;refine ⟨by simp [scanO], fun y hy => ?_⟩;simp [scanO] at hy;rcases hy with rfl | rfl
    · exact hin
    · exact h0
  · revert h; unfold opG
    repeat' split
    all_goals first | (intro h; simp [insO, setO, delO, scanO, rollO] at h; done) | skip
    intro _;obtain ⟨b, hb, hb1⟩ := andI_small (a := shrI .i64 x 14) (m := 1) (by simp);have hb' : andI (shrI .i64 x 14) 1 = b := hb;refine ⟨?_, by simp [aggO], fun y hy => ?_⟩
    · show wr .i64 ((c : Int) - wr .i64 (andI (shrI .i64 x 14) 1 * wr .i64 ((c : Int) + 1))) < ((ksF (schF n)).length : Int)
      rw [hb', ksF_len]
      have w1 : wr .i64 ((c : Int) + 1) = (c : Int) + 1 := by rw [wr_of] <;> omega
      rw [w1];rcases (show b = 0 ∨ b = 1 by omega) with rfl | rfl
      · rw [show ((0 : Nat) : Int) * ((c : Int) + 1) = 0 by simp, show wr .i64 0 = 0 from rfl, wr_of (by omega) (by omega)]; omega
      · rw [show ((1 : Nat) : Int) * ((c : Int) + 1) = (c : Int) + 1 by simp, w1, wr_of (by omega) (by omega)]; omega
    · simp [aggO] at hy
      rcases hy with rfl | rfl | rfl
      · exact h0
      · exact hin
      · exact h0
  · unfold opG
    repeat' split
    all_goals simp [insO, setO, delO, scanO, aggO, rollO]
  · rename_i h2 h5
    revert h2 h5; unfold opG
    repeat' split
    all_goals first | (intro h2 h5; simp [insO, rollO] at h2 h5; done) | (intro _ _; exact hq)
  · unfold opG
    repeat' split
    all_goals first | (intro y hy; simp [insO, setO, delO, scanO, rollO] at hy; done) | skip
    intro y hy;obtain ⟨b, hb, hb1⟩ := andI_small (a := shrI .i64 x 15) (m := 1) (by simp);have hb' : andI (shrI .i64 x 15) 1 = b := hb;simp [aggO] at hy;rcases hy with rfl | rfl | rfl
    · exact ⟨h0, .inl rfl⟩
    · refine ⟨hin, ?_⟩
      show wr .i64 (3 + andI (shrI .i64 x 15) 1) = 1 ∨ _ ∨ _ ∨ _;rw [hb', wr_of (by omega) (by omega)];rcases (show b = 0 ∨ b = 1 by omega) with rfl | rfl
      · exact .inr (.inr (.inl rfl))
      · exact .inr (.inr (.inr rfl))
    · exact ⟨h0, .inr (.inl rfl)⟩
theorem opF_ok {n : Int} {l : List Int} {a : Nat} : OpW n (opF (schF n) l a) := by
  obtain ⟨c, hc, hcl⟩ := colO_at (s := schF n) (n := numO l a) (schF_small (n := n)).2;obtain ⟨k, hk, hk7⟩ := andI_small (a := numO l a) (m := 7) (by simp);have hk' : andI (numO l a) 7 = k := hk;unfold opF;rw [hc, hk'];exact opG_ok hk7 hcl predO_ok
theorem progF_ok {n : Int} {l : List Int} {x : Int} : ∀ o, o ∈ progF (schF n) l x → OpW n o := fun o ho => by
  unfold progF at ho;obtain ⟨i, _, rfl⟩ := List.mem_map.1 ho;exact opF_ok
theorem lenG_le {x : Int} : lenG x ≤ 6 := Nat.min_le_right _ _
end Go.Lib
end

section
set_option maxRecDepth 10000
namespace Go.Lib
open Go.Vm Go.Dv Go.Srt
def FitRs (s : Sch) (R : List Row) : Prop := ∀ r, r ∈ R → FitR s r
theorem valF_fit {c : Cl} (hc : c.kind = 1 ∨ c.kind = 2) {x : Int} : FitV c (valF c x) := by
  refine ⟨valF_good hc, valF_kind, ?_, ?_⟩
  · unfold valF
    split
    · simp
    · split
      · simp
      · show ((abc.drop _).take _).length ≤ 64
        rw [List.length_take, List.length_drop]; simp [abc]; omega
  · unfold valF
    split
    · rename_i h; exact fun _ => h.1
    · split <;> (intro h; simp at h)
theorem rowF_fit {n x : Int} : FitR (schF n) (rowF (schF n) x) := by
  refine ⟨rowF_len, fun i c v hc hv => ?_⟩;rw [rowF_get, hc] at hv;simp at hv; subst hv;have hk := schF_kinds (n := n) c (List.mem_of_getElem? hc);unfold cellF
  split
  · rename_i h0
    subst h0;rw [schF_cons] at hc;simp at hc; subst hc;exact ⟨⟨fun h => by simp at h, .inl ⟨rfl, rfl⟩, in64_and (m := 15) (by simp)⟩, rfl, by simp, fun h => by simp at h⟩
  · exact valF_fit hk
theorem FitR.set {s : Sch} {r : Row} {v : Vl} {i : Nat} {c : Cl} (h : FitR s r) (hc : s[i]? = some c) (hv : FitV c v) : FitR s (r.set i v) := by
  refine ⟨by rw [List.length_set]; exact h.1, fun j d w hd hw => ?_⟩
  by_cases e : i = j
  · subst e
    have hi : i < r.length := by rw [h.1]; exact (List.getElem?_eq_some_iff.1 hc).1
    rw [List.getElem?_set_self hi] at hw;cases hw;rw [hc] at hd; cases hd;exact hv
  · rw [List.getElem?_set_ne e] at hw
    exact h.2 j d w hd hw
def SxFit (s : Sch) (x : Sx) : Prop := 0 ≤ x.col ∧ ∃ c, s[x.col.toNat]? = some c ∧ FitV c x.v ∧ (x.add = true → c.kind = 1)
theorem setS_fit {s : Sch} {r r' : Row} {x : Sx} (h : FitR s r) (hx : SxFit s x) (e : setS r x = some r') : FitR s r' := by
  obtain ⟨h0, c, hc, hv, ha⟩ := hx;have hlt := (List.getElem?_eq_some_iff.1 hc).1;have hl := h.1;have hat := (atV_mem (r := r) (c := x.col) h0 (by omega)).2
  have hf := h.2 _ c _ hc hat
  unfold setS at e
  split at e
  · cases e; exact h
  · split at e
    · cases e; exact h.set hc hv
    · rename_i had
      have had : x.add = true := by simpa using had
      split at e
      · cases e; exact h
      · rename_i hn
        split at e
        · rename_i hi
          cases e;refine h.set hc ⟨⟨fun h2 => absurd h2 hn, .inl ⟨by show (atV r x.col).kind = 1; rw [hf.kind, ha had], ?_⟩, hi⟩, hf.kind, hf.short, fun h2 => absurd h2 hn⟩;rcases hf.good.kd with ⟨_, hb⟩ | ⟨hb, _⟩
          · exact hb
          · rw [hf.kind, ha had] at hb; simp at hb
        · cases e
theorem setF_fit {s : Sch} : ∀ {l : List Sx} {r r' : Row}, FitR s r → (∀ x, x ∈ l → SxFit s x) → setF r l = some r' → FitR s r'
  | [], r, r', h, _, e => by simp [setF] at e; subst e; exact h
  | x :: l, r, r', h, hx, e => by
    unfold setF at e
    split at e
    · rename_i r1 e1
      exact setF_fit (setS_fit h (hx x (by simp)) e1) (fun y hy => hx y (by simp [hy])) e
    · cases e
theorem updF_fit {s : Sch} {o : Op} (hs : ∀ x, x ∈ o.sets → SxFit s x) : ∀ {R M : List Row}, FitRs s R → updF o R = some M → FitRs s M
  | [], M, _, e => by simp [updF] at e; subst e; exact fun r hr => by simp at hr
  | r :: R, M, hg, e => by
    have hr := hg r (by simp);have hR : FitRs s R := fun x hx => hg x (by simp [hx]);unfold updF at e
    split at e
    · split at e
      · rename_i r' e1
        obtain ⟨M', e2, rfl⟩ := Option.map_eq_some_iff.1 e
        exact fun x hx => by
          rcases List.mem_cons.1 hx with rfl | hx
          · exact setF_fit hr hs e1
          · exact updF_fit hs hR e2 x hx
      · cases e
    · obtain ⟨M', e2, rfl⟩ := Option.map_eq_some_iff.1 e
      exact fun x hx => by
        rcases List.mem_cons.1 hx with rfl | hx
        · exact hr
        · exact updF_fit hs hR e2 x hx
structure OpFit (s : Sch) (o : Op) : Prop where
  row : o.kind = 1 → FitR s o.row
  sets : ∀ x, x ∈ o.sets → SxFit s x
theorem doF_fit {s : Sch} {R : List Row} {o : Op} (h : FitRs s R) (ho : OpFit s o) : FitRs s (doF R o).1 := by
  unfold doF
  split
  · rename_i o1
    split
    · exact h
    · intro x hx
      rcases insK_mem hx with rfl | hx
      · exact ho.row o1
      · exact h x hx
  · split
    · cases hu : updF o R with
      | none => exact h
      | some M => exact updF_fit ho.sets h hu
    · split
      · exact fun x hx => h x (List.mem_filter.1 hx).1
      · split
        · exact h
        · split
          · split <;> exact h
          · split <;> exact h
theorem opG_fit {n x k : Int} {c : Nat} {q : Pr} (hc : c < (schF n).length) : OpFit (schF n) (opG (schF n) x k c q) := by
  constructor
  · unfold opG
    repeat' split
    all_goals first | (intro; exact rowF_fit) | (intro h; simp [setO, delO, scanO, aggO, rollO] at h)
  · unfold opG
    repeat' split
    all_goals first | (intro y hy; simp [insO, delO, scanO, aggO, rollO] at hy; done) | skip
    · rename_i cl hcl
      intro y hy;simp [setO] at hy; subst hy;have hm := List.mem_of_getElem? hcl;refine ⟨by show (0 : Int) ≤ c; omega, cl, hcl, valF_fit (schF_kinds (n := n) cl hm), fun h => ?_⟩;have h : addO cl x = true := h;simp [addO] at h;exact h.1.1
    · rename_i hcl
      rw [show ((c : Int).toNat) = c from rfl] at hcl;simp [hc] at hcl
theorem opF_fit {n : Int} {l : List Int} {a : Nat} : OpFit (schF n) (opF (schF n) l a) := by
  obtain ⟨c, hc, hcl⟩ := colO_at (s := schF n) (n := numO l a) (schF_small (n := n)).2;unfold opF;rw [hc];exact opG_fit hcl
theorem progF_fit {n : Int} {l : List Int} {x : Int} : ∀ o, o ∈ progF (schF n) l x → OpFit (schF n) o := fun o ho => by
  unfold progF at ho;obtain ⟨i, _, rfl⟩ := List.mem_map.1 ho;exact opF_fit
theorem RowsK.more {ks : List Int} {B C : Nat} {R : List Row} (h : RowsK ks B R) (hc : B ≤ C) : RowsK ks C R := ⟨h.good, h.rise, by have := h.len; omega⟩
theorem runF_ok {s : Sch} {ks : List Int} {n B : Nat} {R0 : List Row} (h0 : RowsK ks B R0) (f0 : FitRs s R0) : ∀ {l : List Op} {now : List Row} {out : List Rs} {C : Nat}, B ≤ C → RowsK ks C now → FitRs s now → (∀ o, o ∈ l → OpOk ks n o ∧ OpFit s o) →
    RowsK ks (C + l.length) (runF R0 now out l).1 ∧ FitRs s (runF R0 now out l).1 ∧
    ∃ e, (runF R0 now out l).2 = out ++ e ∧ e.length ≤ l.length ∧ ((e.length = l.length ∧ ∀ x, x ∈ e → x.err = 0) ∨ (∃ e0 x, e = e0 ++ [x] ∧ x.err ≠ 0 ∧ (runF R0 now out l).1 = R0))
  | [], now, out, C, hC, hn, fn, _ => ⟨hn, fn, [], by simp [runF], by simp, .inl ⟨rfl, fun x hx => by simp at hx⟩⟩
  | o :: l, now, out, C, hC, hn, fn, ho => by
    obtain ⟨a, b⟩ := ho o (by simp);have hd := doF_ok hn a;have fd := doF_fit fn b
    have hstep : runF R0 now out (o :: l) = if (doF now o).2.err ≠ 0 then (R0, out ++ [(doF now o).2]) else runF R0 (doF now o).1 (out ++ [(doF now o).2]) l := rfl
    rw [hstep]
    by_cases e : (doF now o).2.err = 0
    · rw [if_neg (by simp [e])]
      obtain ⟨x1, x2, e1, x3, x4, x5⟩ := runF_ok h0 f0 (l := l) (out := out ++ [(doF now o).2]) (show B ≤ C + 1 by omega) hd fd (fun y hy => ho y (by simp [hy]));refine ⟨x1.more (by simp; omega), x2, (doF now o).2 :: e1, by rw [x3]; simp, by simp; omega, ?_⟩;rcases x5 with ⟨x6, x7⟩ | ⟨e0, x, rfl, x6, x7⟩
      · exact .inl ⟨by simp [x6], fun y hy => by rcases List.mem_cons.1 hy with rfl | hy; exact e; exact x7 y hy⟩
      · exact .inr ⟨(doF now o).2 :: e0, x, by simp, x6, x7⟩
    · rw [if_pos e]
      exact ⟨h0.more (by omega), f0, [(doF now o).2], rfl, by simp, .inr ⟨[], _, rfl, e, rfl⟩⟩
end Go.Lib
end

section
set_option maxRecDepth 10000
namespace Go.Lib
open Go.Vm Go.Dv Go.Srt
variable {p : Prog} {ext : Ext} {F : Nat → Nat}
attribute [-simp] bin_and bin_xor
structure HKeys (p : Prog) (ext : Ext) (F : Nat → Nat) : Prop where
  modl : HModl p ext F
  prog : HProg p ext F
  ref6 : HRef6 p ext F
  fits : HFits p ext F
  awake : FnD p ext (F 107) [] (.lit (.bool true))
  h101 : Has p ext F 101 M101
def KeysI (n : Int) (m m2 : Md) (l l2 : List Int) (k : Nat) (fr : FrD) (_ : HpD) : Prop :=
  ∃ (i : Nat) (R : List Row), k = 26 - i ∧ i ≤ 25 ∧ i ≤ l2.length ∧ RowsK (ksF (schF n)) (6 * i) R ∧ FitRs (schF n) R ∧ fr = [(1, intsD m l), (2, intsD m2 l2), (7, .rptr [schR (schF n)] 0), (8, rowsD R), (9, .lit (.int .i64 (i : Int)))]
def KeysJ (n : Int) (m m2 : Md) (l l2 : List Int) (i : Nat) (R : List Row) (k : Nat) (fr : FrD) (_ : HpD) : Prop :=
  ∃ j : Nat, k = R.length - j ∧ j ≤ R.length ∧ fr = [(1, intsD m l), (2, intsD m2 l2), (7, .rptr [schR (schF n)] 0), (9, .lit (.int .i64 (i : Int))), (11, rowsD R), (89, .lit (.int .i64 (R.length : Int))), (90, .lit (.int .i64 (j : Int)))]
theorem modlKeys (L : HKeys p ext F) {n : Int} {m m2 : Md} {l l2 : List Int} {H : HpD} : WcD p ext (F 101) [.lit (.int .i64 n), intsD m l, intsD m2 l2] H (fun d _H' => d = .lit (.bool true)) := by
  refine wc_of L.h101 (M := M101) rfl ok101 rfl (sem_run 9000 _ ?_);simp;refine sem_fn (schema L.prog.op.pr.law6) (by first | exact D.les_refl _ | simp) (sem_run 4 _ ?_);simp;refine sem_box (b := H.next) (cs := [schR (schF n)]) (ro := false) 7 (by simp) (by simp) ?_;refine sem_run 9000 _ ?_;simp;have hsm := schF_small (n := n)
  have hkl : (ksF (schF n)).length < 1000 := by rw [ksF_len]; exact hsm.1
  refine sem_as [(1, intsD m l), (2, intsD m2 l2), (7, .rptr [schR (schF n)] 0), (8, rowsD []), (9, .lit (.int .i64 0))] (by simp [D.le, D.le_refl, intsD, rowsD, rowsE]) ?_;refine sem_loop (KeysI n m m2 l l2) ?_ (k := 26) ⟨0, [], by simp, by simp, by simp, ⟨fun r hr => by simp at hr, by simp [KeyRise], by simp⟩, fun r hr => by simp at hr, by simp⟩;rintro k fr H1 ⟨i, R, rfl, hi, hil, hR, hF, rfl⟩;refine sem_run 9000 _ ?_;simp
  by_cases c : i < l2.length ∧ i < 25
  · obtain ⟨c1, c2⟩ := c
    have c2' : (i : Int) < 25 := by omega
    have wi : wr .i64 ((i : Int) + 1) = ((i + 1 : Nat) : Int) := by rw [wr_of] <;> omega
    obtain ⟨x, hx⟩ : ∃ x, l2[i]? = some x := ⟨l2[i], by simp⟩;simp [c1, c2', hx, -getElem?_pos];refine sem_dfn (law15_program L.prog (s := schF n) (m := m) (l := l) (n := x) hsm.2 hsm.1) (by first | exact D.les_refl _ | simp) (sem_run 9000 _ ?_);have hP := progF_ok (n := n) (l := l) (x := x);have hPf := progF_fit (n := n) (l := l) (x := x)
    have hPl : (progF (schF n) l x).length ≤ 6 := by rw [progF_len]; exact lenG_le
    generalize progF (schF n) l x = P at hP hPf hPl;simp;refine sem_fn (modl_run L.modl (ks := ksF (schF n)) (n := 4) (B := 6 * i) (sc := schF n) (R := R) (l := P) hkl hR (by omega) (fun o ho => (hP o ho).ok)) (by first | exact D.les_refl _ | simp) (sem_run 8 _ ?_);obtain ⟨r1, r2, e, r3, r4, r5⟩ := runF_ok (s := schF n) (ks := ksF (schF n)) (n := 4) (R0 := R) hR hF (l := P) (now := R) (out := []) (C := 6 * i) (Nat.le_refl _) hR hF (fun o ho => ⟨(hP o ho).ok, hPf o ho⟩);obtain ⟨R', E, hrun⟩ : ∃ R' E, runF R R [] P = (R', E) := ⟨_, _, rfl⟩;rw [hrun] at r1 r2 r3 r5
    have r3 : E = e := by simpa using r3
    subst r3;have r1 : RowsK (ksF (schF n)) (6 * (i + 1)) R' := r1.more (by omega);have r2 : FitRs (schF n) R' := r2;have r5 : (E.length = P.length ∧ ∀ y, y ∈ E → y.err = 0) ∨ ∃ e0 y, E = e0 ++ [y] ∧ y.err ≠ 0 ∧ R' = R := r5;rw [hrun];have hR'f : Fine R' := (r1.rows hkl (by omega)).fine
    have hE : (E.length = P.length ∧ (E = [] ∨ ∃ t y, E.length = t + 1 ∧ E[t]? = some y ∧ y.err = 0)) ∨ (∃ t y, E.length = t + 1 ∧ E[t]? = some y ∧ y.err ≠ 0 ∧ R' = R ∧ E.length ≤ P.length) := by
      rcases r5 with ⟨h1, h2⟩ | ⟨e0, y, h1, h2, h3⟩
      · refine .inl ⟨h1, ?_⟩
        cases hz : E with
        | nil => exact .inl rfl
        | cons a E' =>
          exact .inr ⟨E'.length, (a :: E')[E'.length]'(by simp), by simp, by simp, h2 _ (by rw [hz]; exact List.getElem_mem _)⟩
      · exact .inr ⟨e0.length, y, by simp [h1], by simp [h1], h2, h3, r4⟩
    clear r4 r5 hrun;simp;refine sem_cut (fun fr _ => fr = [(1, intsD m l), (2, intsD m2 l2), (7, .rptr [schR (schF n)] 0), (8, rowsD R), (9, .lit (.int .i64 (i : Int))), (11, rowsD R'), (12, rssD E)]) ?_ ?_
    · refine sem_run 9000 _ ?_
      rcases hE with ⟨h1, rfl | ⟨t, y, h2, h3, h4⟩⟩ | ⟨t, y, h2, h3, h4, h5, h6⟩
      · have hP0 : P = [] := by
          cases P with
          | nil => rfl
          | cons a P => simp at h1
        subst hP0;simp;refine sem_as_ok [(1, intsD m l), (2, intsD m2 l2), (7, .rptr [schR (schF n)] 0), (8, rowsD R), (9, .lit (.int .i64 (i : Int))), (11, rowsD R'), (12, rssD [])] (by simp [D.le_refl, intsD, rowsD, rssD]) ?_;exact sem_ok rfl
      · have hle : ¬ (P.length : Int) < (t : Int) + 1 := by omega
        have hge : ¬ (t : Int) + 1 < (P.length : Int) := by omega
        simp [h2, hle, hge];refine sem_as_ok [(1, intsD m l), (2, intsD m2 l2), (7, .rptr [schR (schF n)] 0), (8, rowsD R), (9, .lit (.int .i64 (i : Int))), (11, rowsD R'), (12, rssD E)] (by simp [D.le_refl, intsD, rowsD, rssD]) ?_;exact sem_ok rfl
      · have hle : ¬ (P.length : Int) < (t : Int) + 1 := by omega
        have hne : ¬ (t : Int) + 1 = 0 := by omega
        have wt : wr .i64 (t : Int) = (t : Int) := by rw [wr_of] <;> omega
        by_cases hge : t + 1 < P.length
        · have hge : (t : Int) + 1 < (P.length : Int) := by omega
          simp [h2, hle, hge, hne, wt, h3, h4, -getElem?_pos];refine sem_as_ok [(1, intsD m l), (2, intsD m2 l2), (7, .rptr [schR (schF n)] 0), (8, rowsD R), (9, .lit (.int .i64 (i : Int))), (11, rowsD R'), (12, rssD E)] (by simp [D.le_refl, intsD, rowsD, rssD]) ?_;exact sem_ok rfl
        · have hge : ¬ (t : Int) + 1 < (P.length : Int) := by omega
          simp [h2, hle, hge];refine sem_as_ok [(1, intsD m l), (2, intsD m2 l2), (7, .rptr [schR (schF n)] 0), (8, rowsD R), (9, .lit (.int .i64 (i : Int))), (11, rowsD R'), (12, rssD E)] (by simp [D.le_refl, intsD, rowsD, rssD]) ?_;exact sem_ok rfl
    rintro fr H2 rfl;refine sem_run 2 _ ?_;simp;refine sem_cut (fun fr _ => fr = [(1, intsD m l), (2, intsD m2 l2), (7, .rptr [schR (schF n)] 0), (9, .lit (.int .i64 (i : Int))), (11, rowsD R')]) ?_ ?_
    · refine sem_run 9000 _ ?_
      rcases hE with ⟨h1, rfl | ⟨t, y, h2, h3, h4⟩⟩ | ⟨t, y, h2, h3, h4, h5, h6⟩
      · simp
        refine sem_as_ok [(1, intsD m l), (2, intsD m2 l2), (7, .rptr [schR (schF n)] 0), (9, .lit (.int .i64 (i : Int))), (11, rowsD R')] (by simp [D.le_refl, intsD, rowsD]) ?_;exact sem_ok rfl
      · have wt : wr .i64 (t : Int) = (t : Int) := by rw [wr_of] <;> omega
        have hne : (0 : Int) < (t : Int) + 1 := by omega
        simp [h2, hne, wt, h3, h4, -getElem?_pos];refine sem_as_ok [(1, intsD m l), (2, intsD m2 l2), (7, .rptr [schR (schF n)] 0), (9, .lit (.int .i64 (i : Int))), (11, rowsD R')] (by simp [D.le_refl, intsD, rowsD]) ?_;exact sem_ok rfl
      · have wt : wr .i64 (t : Int) = (t : Int) := by rw [wr_of] <;> omega
        have hne : (0 : Int) < (t : Int) + 1 := by omega
        simp [h2, hne, wt, h3, h4, -getElem?_pos]
        have h5' : decide (R' = R) = true := by simp [h5]
        refine sem_fn (ref6_same L.ref6 (y := R) hR'f) (by first | exact D.les_refl _ | simp) (sem_run 9000 _ ?_);rw [h5'];simp;refine sem_as_ok [(1, intsD m l), (2, intsD m2 l2), (7, .rptr [schR (schF n)] 0), (9, .lit (.int .i64 (i : Int))), (11, rowsD R')] (by simp [D.le_refl, intsD, rowsD]) ?_;exact sem_ok rfl
    rintro fr H3 rfl;refine sem_run 9000 _ ?_;simp
    have hv : ∀ r, r ∈ R' → ∃ v, r[0]? = some v ∧ keyF r = v.n := fun r hr => by
      have hl := (r2 r hr).1;exact ⟨atV r 0, (atV_mem (r := r) (c := 0) (by omega) (by omega)).2, rfl⟩
    have hR'l := r1.len;refine sem_loop (KeysJ n m m2 l l2 i R') ?_ (k := R'.length) ⟨0, by simp, by simp, by simp⟩;rintro k fr H4 ⟨j, rfl, hj, rfl⟩;refine sem_run 9000 _ ?_;simp
    by_cases cj : j < R'.length
    · have wj : wr .i64 ((j : Int) + 1) = ((j + 1 : Nat) : Int) := by rw [wr_of] <;> omega
      obtain ⟨r, hr⟩ : ∃ r, R'[j]? = some r := ⟨R'[j], by simp⟩;have hrm := List.mem_of_getElem? hr;obtain ⟨v, hv1, hv2⟩ := hv r hrm;simp [cj, hr, -getElem?_pos];refine sem_dfn (ref6_fits L.fits (s := schF n) hsm.1 (r2 r hrm)) (by first | exact D.les_refl _ | simp) (sem_run 9000 _ ?_)
      by_cases c0 : 0 < j
      · obtain ⟨r', hr'⟩ : ∃ r', R'[j - 1]? = some r' := ⟨R'[j - 1]'(by omega), by simp⟩
        obtain ⟨v', hv1', hv2'⟩ := hv r' (List.mem_of_getElem? hr')
        have hlt : v'.n < v.n := by
          rw [← hv2, ← hv2'];obtain ⟨h1, rfl⟩ := List.getElem?_eq_some_iff.1 hr;obtain ⟨h2, rfl⟩ := List.getElem?_eq_some_iff.1 hr';exact List.pairwise_iff_getElem.1 r1.rise (j - 1) j h2 h1 (by omega)
        obtain ⟨j', hj'⟩ : ∃ j', j - 1 = j' := ⟨_, rfl⟩;rw [hj'] at hr'
        have w1 : wr .i64 ((j : Int) - 1) = (j' : Int) := by rw [wr_of] <;> omega
        have hge : ¬ v.n ≤ v'.n := by omega
        simp [c0, hr, hr', hv1, hv1', w1, hge, -getElem?_pos];refine sem_ok ?_;exact ⟨R'.length - (j + 1), by omega, j + 1, rfl, by omega, by rw [wj]⟩
      · simp [c0]
        refine sem_ok ?_;exact ⟨R'.length - (j + 1), by omega, j + 1, rfl, by omega, by rw [wj]⟩
    · have : j = R'.length := by omega
      subst this;simp;refine sem_exit (sem_run 9000 _ ?_);simp;refine sem_ok ?_;exact ⟨26 - (i + 1), by omega, i + 1, R', rfl, by omega, by omega, r1, r2, by rw [wi]⟩
  · have hRf : Fine R := (hR.rows hkl (by omega)).fine
    by_cases c1 : i < l2.length
    case' pos => simp [c1, show ¬ (i : Int) < 25 by omega]
    case' neg => simp [c1]
    all_goals
      refine sem_exit (sem_run 9000 _ ?_);simp;refine sem_fn (modl_run L.modl (ks := ksF (schF n)) (n := 4) (B := 6 * i) (sc := schF n) (R := R) (l := []) hkl hR (by simp; omega) (fun o ho => by simp at ho)) (by simp [D.les, D.le, D.le_refl, schD, rowsD, opsD]) (sem_run 9000 _ ?_);simp [runF];refine sem_fn (ref6_same L.ref6 hRf) (by first | exact D.les_refl _ | simp) (sem_run 9000 _ ?_);simp;refine sem_fn (L.awake) (by first | exact D.les_refl _ | simp) (sem_run 9000 _ ?_);simp;refine sem_ret ?_;simp [M101]
end Go.Lib
end

section
namespace Go.Proofs.Ytnbmmnjihipahaa.sa
def F0 (i : Nat) : Nat := ([0, 56, 60, 57, 61, 62, 138, 131, 88, 87, 89, 90, 91, 85, 92, 140, 135, 136, 116, 117, 118, 137, 18, 17, 25, 27, 54, 86, 114, 115, 127, 132, 15, 21, 22, 23, 52, 53, 55, 58, 63, 84, 93, 112, 113, 119, 19, 64, 24, 31, 67, 4, 16, 26, 28, 29, 30, 65, 66, 68, 94, 6, 7, 5, 20, 71, 96, 95, 97, 98, 33, 38, 69, 70, 72, 73, 74, 77, 100, 99, 101, 102, 103, 120, 121, 128, 133, 104, 43, 123, 122, 80, 42, 41, 37, 78, 79, 36, 40, 76, 12, 13, 11, 9, 10, 39, 35, 34] : List Nat).getD i 0
end Go.Proofs.Ytnbmmnjihipahaa.sa
end

section
set_option maxRecDepth 100000
namespace Go.Proofs.Ytnbmmnjihipahaa
open Go.Vm
def m13 : Fun := Go.Lib.M101 Go.Proofs.Ytnbmmnjihipahaa.sa.F0
theorem v13 : IsFun Try.prog 13 m13 := ⟨_, Try.func13, by kernel_rfl, by kernel_rfl⟩
def m15 : Fun := Go.Lib.M32 Go.Proofs.Ytnbmmnjihipahaa.sa.F0
theorem v15 : IsFun Try.prog 15 m15 := ⟨_, Try.func15, by kernel_rfl, by kernel_rfl⟩
def m17 : Fun := Go.Lib.M23 Go.Proofs.Ytnbmmnjihipahaa.sa.F0
theorem v17 : IsFun Try.prog 17 m17 := ⟨_, Try.func17, by kernel_rfl, by kernel_rfl⟩
def m18 : Fun := Go.Lib.M22 Go.Proofs.Ytnbmmnjihipahaa.sa.F0
theorem v18 : IsFun Try.prog 18 m18 := ⟨_, Try.func18, by kernel_rfl, by kernel_rfl⟩
def m19 : Fun := Go.Lib.M46 Go.Proofs.Ytnbmmnjihipahaa.sa.F0
theorem v19 : IsFun Try.prog 19 m19 := ⟨_, Try.func19, by kernel_rfl, by kernel_rfl⟩
def m21 : Fun := Go.Lib.M33 Go.Proofs.Ytnbmmnjihipahaa.sa.F0
theorem v21 : IsFun Try.prog 21 m21 := ⟨_, Try.func21, by kernel_rfl, by kernel_rfl⟩
def m22 : Fun := Go.Lib.M34 Go.Proofs.Ytnbmmnjihipahaa.sa.F0
theorem v22 : IsFun Try.prog 22 m22 := ⟨_, Try.func22, by kernel_rfl, by kernel_rfl⟩
def m23 : Fun := Go.Lib.M35 Go.Proofs.Ytnbmmnjihipahaa.sa.F0
theorem v23 : IsFun Try.prog 23 m23 := ⟨_, Try.func23, by kernel_rfl, by kernel_rfl⟩
def m24 : Fun := Go.Lib.M48 Go.Proofs.Ytnbmmnjihipahaa.sa.F0
theorem v24 : IsFun Try.prog 24 m24 := ⟨_, Try.func24, by kernel_rfl, by kernel_rfl⟩
def m25 : Fun := Go.Lib.M24 Go.Proofs.Ytnbmmnjihipahaa.sa.F0
theorem v25 : IsFun Try.prog 25 m25 := ⟨_, Try.func25, by kernel_rfl, by kernel_rfl⟩
def m27 : Fun := Go.Lib.M25 Go.Proofs.Ytnbmmnjihipahaa.sa.F0
theorem v27 : IsFun Try.prog 27 m27 := ⟨_, Try.func27, by kernel_rfl, by kernel_rfl⟩
def m31 : Fun := Go.Lib.M49 Go.Proofs.Ytnbmmnjihipahaa.sa.F0
theorem v31 : IsFun Try.prog 31 m31 := ⟨_, Try.func31, by kernel_rfl, by kernel_rfl⟩
def m33 : Fun := Go.Lib.M70 Go.Proofs.Ytnbmmnjihipahaa.sa.F0
theorem v33 : IsFun Try.prog 33 m33 := ⟨_, Try.func33, by kernel_rfl, by kernel_rfl⟩
def m34 : Fun := ⟨122,0,.seq (.region [⟨some 0,.p (.mov (.val (.bool false))),none⟩])
 (.seq (.region [⟨some 10,.p (.build [.str [],.int .i64 (.ofNat 0),.bool false] [(0,1,(.val (.str [107,101,121]))),(1,1,(.val (.int .i64 (.ofNat 1))))]),none⟩,⟨some 11,.p (.build [.str [],.int .i64 (.ofNat 0),.bool false] [(0,1,(.val (.str [97]))),(1,1,(.val (.int .i64 (.ofNat 1))))]),none⟩,⟨some 12,.a (.bslice [.str [],.int .i64 (.ofNat 0),.bool false,.str [],.int .i64 (.ofNat 0),.bool false] 3 2 [(0,3,(.tmp 10)),(3,3,(.tmp 11))]),none⟩,⟨some 13,.p (.build [.nilslice] [(0,1,(.tmp 12))]),none⟩,⟨some 1,.a (.new [.nilslice]),none⟩,⟨none,.e (.store 1 (.tmp 1) (.tmp 13)),none⟩])
 (.seq (.region [⟨some 2,.p (.mov (.val (.func 75 [] []))),none⟩])
 (.seq (.region [⟨some 14,.p (.build [.int .i64 (.ofNat 0),.int .i64 (.ofNat 0),.int .i64 (.ofNat 0),.bool false,.int .i64 (.ofNat 0),.int .i64 (.ofNat 0),.nilslice,.nilslice] [(0,1,(.val (.int .i64 (.ofNat 1))))]),none⟩,⟨some 3,.a (.new [.int .i64 (.ofNat 0),.int .i64 (.ofNat 0),.int .i64 (.ofNat 0),.bool false,.int .i64 (.ofNat 0),.int .i64 (.ofNat 0),.nilslice,.nilslice]),none⟩,⟨none,.e (.store 8 (.tmp 3) (.tmp 14)),none⟩])
 (.seq (.dregion [⟨⟨some 17,.p (.mov (.tmp 2)),none⟩,0,1⟩,⟨⟨some 18,.e (.callv (.tmp 17) [(.val (.int .i64 (.ofNat 2)))]),none⟩,0,3⟩,⟨⟨some 19,.p (.mov (.tmp 2)),none⟩,0,3⟩,⟨⟨some 20,.e (.callv (.tmp 19) [(.val (.int .i64 (.ofNat 5)))]),none⟩,2,5⟩,⟨⟨some 24,.p (.mov (.tmp 2)),none⟩,0,5⟩,⟨⟨some 25,.e (.callv (.tmp 24) [(.val (.int .i64 (.ofNat 4)))]),none⟩,4,17⟩,⟨⟨some 16,.loadn 1 (.tmp 1),none⟩,0,17⟩,⟨⟨some 21,.a (.bslice [.bool false,.int .i64 (.ofNat 0),.int .i64 (.ofNat 0),.nilslice,.bool false,.int .i64 (.ofNat 0),.int .i64 (.ofNat 0),.nilslice] 4 2 [(0,4,(.tmp 18)),(4,4,(.tmp 20))]),none⟩,4,17⟩,⟨⟨some 22,.p (.build [.int .i64 (.ofNat 0),.nilslice,.int .i64 (.ofNat 0),.int .i64 (.ofNat 0),.int .i64 (.ofNat 0),.bool false,.int .i64 (.ofNat 0),.int .i64 (.ofNat 0),.nilslice,.nilslice,.nilslice,.nilslice,.int .i64 (.ofNat 0),.nilslice] [(0,1,(.val (.int .i64 (.ofNat 1)))),(1,1,(.tmp 21))]),none⟩,4,17⟩,⟨⟨some 23,.loadn 8 (.tmp 3),none⟩,0,17⟩,⟨⟨some 26,.p (.build [.int .i64 (.ofNat 0),.bool false,.bool false,.int .i64 (.ofNat 0),.int .i64 (.ofNat 0),.nilslice] [(0,1,(.val (.int .i64 (.ofNat 1)))),(1,1,(.val (.bool true))),(2,4,(.tmp 25))]),none⟩,6,17⟩,⟨⟨some 27,.a (.bslice [.int .i64 (.ofNat 0),.bool false,.bool false,.int .i64 (.ofNat 0),.int .i64 (.ofNat 0),.nilslice] 6 1 [(0,6,(.tmp 26))]),none⟩,6,17⟩,⟨⟨some 28,.p (.build [.int .i64 (.ofNat 0),.nilslice,.int .i64 (.ofNat 0),.int .i64 (.ofNat 0),.int .i64 (.ofNat 0),.bool false,.int .i64 (.ofNat 0),.int .i64 (.ofNat 0),.nilslice,.nilslice,.nilslice,.nilslice,.int .i64 (.ofNat 0),.nilslice] [(0,1,(.val (.int .i64 (.ofNat 2)))),(2,8,(.tmp 23)),(10,1,(.tmp 27))]),none⟩,6,17⟩,⟨⟨some 29,.loadn 8 (.tmp 3),none⟩,0,17⟩,⟨⟨some 30,.a (.bslice [.int .i64 (.ofNat 0)] 1 1 [(0,1,(.val (.int .i64 (.ofNat 1))))]),none⟩,0,17⟩,⟨⟨some 31,.p (.build [.int .i64 (.ofNat 0),.nilslice,.int .i64 (.ofNat 0),.int .i64 (.ofNat 0),.int .i64 (.ofNat 0),.bool false,.int .i64 (.ofNat 0),.int .i64 (.ofNat 0),.nilslice,.nilslice,.nilslice,.nilslice,.int .i64 (.ofNat 0),.nilslice] [(0,1,(.val (.int .i64 (.ofNat 4)))),(2,8,(.tmp 29)),(11,1,(.tmp 30))]),none⟩,0,17⟩,⟨⟨some 32,.a (.bslice [.int .i64 (.ofNat 0),.nilslice,.int .i64 (.ofNat 0),.int .i64 (.ofNat 0),.int .i64 (.ofNat 0),.bool false,.int .i64 (.ofNat 0),.int .i64 (.ofNat 0),.nilslice,.nilslice,.nilslice,.nilslice,.int .i64 (.ofNat 0),.nilslice,.int .i64 (.ofNat 0),.nilslice,.int .i64 (.ofNat 0),.int .i64 (.ofNat 0),.int .i64 (.ofNat 0),.bool false,.int .i64 (.ofNat 0),.int .i64 (.ofNat 0),.nilslice,.nilslice,.nilslice,.nilslice,.int .i64 (.ofNat 0),.nilslice,.int .i64 (.ofNat 0),.nilslice,.int .i64 (.ofNat 0),.int .i64 (.ofNat 0),.int .i64 (.ofNat 0),.bool false,.int .i64 (.ofNat 0),.int .i64 (.ofNat 0),.nilslice,.nilslice,.nilslice,.nilslice,.int .i64 (.ofNat 0),.nilslice] 14 3 [(0,14,(.tmp 22)),(14,14,(.tmp 28)),(28,14,(.tmp 31))]),none⟩,6,17⟩,⟨⟨some 33,.e (.call 38 [(.tmp 16),(.val (.nilslice)),(.tmp 32)]),none⟩,6,23⟩,⟨⟨some 15,.p (.mov (.tmp 33)),none⟩,18,23⟩,⟨⟨some 34,.p (.ext (.tmp 15) 0),none⟩,18,23⟩,⟨⟨some 35,.p (.ext (.tmp 15) 1),none⟩,18,23⟩,⟨⟨some 4,.p (.mov (.tmp 34)),none⟩,18,23⟩,⟨⟨some 5,.p (.mov (.tmp 35)),none⟩,18,23⟩])
 (.seq (.region [⟨some 37,.loadn 1 (.tmp 1),none⟩,⟨some 38,.p (.mov (.tmp 4)),none⟩,⟨some 39,.loadn 8 (.tmp 3),none⟩,⟨some 40,.p (.build [.int .i64 (.ofNat 0),.nilslice,.int .i64 (.ofNat 0),.int .i64 (.ofNat 0),.int .i64 (.ofNat 0),.bool false,.int .i64 (.ofNat 0),.int .i64 (.ofNat 0),.nilslice,.nilslice,.nilslice,.nilslice,.int .i64 (.ofNat 0),.nilslice] [(0,1,(.val (.int .i64 (.ofNat 3)))),(2,8,(.tmp 39))]),none⟩,⟨some 41,.p (.build [.int .i64 (.ofNat 0),.nilslice,.int .i64 (.ofNat 0),.int .i64 (.ofNat 0),.int .i64 (.ofNat 0),.bool false,.int .i64 (.ofNat 0),.int .i64 (.ofNat 0),.nilslice,.nilslice,.nilslice,.nilslice,.int .i64 (.ofNat 0),.nilslice] [(0,1,(.val (.int .i64 (.ofNat 6))))]),none⟩,⟨some 42,.loadn 8 (.tmp 3),none⟩,⟨some 43,.p (.build [.int .i64 (.ofNat 0),.nilslice,.int .i64 (.ofNat 0),.int .i64 (.ofNat 0),.int .i64 (.ofNat 0),.bool false,.int .i64 (.ofNat 0),.int .i64 (.ofNat 0),.nilslice,.nilslice,.nilslice,.nilslice,.int .i64 (.ofNat 0),.nilslice] [(0,1,(.val (.int .i64 (.ofNat 3)))),(2,8,(.tmp 42))]),none⟩,⟨some 44,.a (.bslice [.int .i64 (.ofNat 0),.nilslice,.int .i64 (.ofNat 0),.int .i64 (.ofNat 0),.int .i64 (.ofNat 0),.bool false,.int .i64 (.ofNat 0),.int .i64 (.ofNat 0),.nilslice,.nilslice,.nilslice,.nilslice,.int .i64 (.ofNat 0),.nilslice,.int .i64 (.ofNat 0),.nilslice,.int .i64 (.ofNat 0),.int .i64 (.ofNat 0),.int .i64 (.ofNat 0),.bool false,.int .i64 (.ofNat 0),.int .i64 (.ofNat 0),.nilslice,.nilslice,.nilslice,.nilslice,.int .i64 (.ofNat 0),.nilslice,.int .i64 (.ofNat 0),.nilslice,.int .i64 (.ofNat 0),.int .i64 (.ofNat 0),.int .i64 (.ofNat 0),.bool false,.int .i64 (.ofNat 0),.int .i64 (.ofNat 0),.nilslice,.nilslice,.nilslice,.nilslice,.int .i64 (.ofNat 0),.nilslice] 14 3 [(0,14,(.tmp 40)),(14,14,(.tmp 41)),(28,14,(.tmp 43))]),none⟩,⟨some 45,.e (.call 38 [(.tmp 37),(.tmp 38),(.tmp 44)]),none⟩,⟨some 36,.p (.mov (.tmp 45)),none⟩,⟨some 46,.p (.ext (.tmp 36) 0),none⟩,⟨some 47,.p (.ext (.tmp 36) 1),none⟩,⟨some 6,.p (.mov (.tmp 46)),none⟩,⟨some 7,.p (.mov (.tmp 47)),none⟩])
 (.seq (.dregion [⟨⟨some 51,.p (.mov (.tmp 2)),none⟩,0,1⟩,⟨⟨some 52,.e (.callv (.tmp 51) [(.val (.int .i64 (.ofNat 2)))]),none⟩,0,3⟩,⟨⟨some 53,.p (.mov (.tmp 2)),none⟩,0,3⟩,⟨⟨some 54,.e (.callv (.tmp 53) [(.val (.int .i64 (.ofNat 1)))]),none⟩,2,8⟩,⟨⟨some 49,.loadn 1 (.tmp 1),none⟩,0,8⟩,⟨⟨some 50,.p (.mov (.tmp 4)),none⟩,0,8⟩,⟨⟨some 55,.a (.bslice [.bool false,.int .i64 (.ofNat 0),.int .i64 (.ofNat 0),.nilslice,.bool false,.int .i64 (.ofNat 0),.int .i64 (.ofNat 0),.nilslice] 4 2 [(0,4,(.tmp 52)),(4,4,(.tmp 54))]),none⟩,4,8⟩,⟨⟨some 56,.p (.build [.int .i64 (.ofNat 0),.nilslice,.int .i64 (.ofNat 0),.int .i64 (.ofNat 0),.int .i64 (.ofNat 0),.bool false,.int .i64 (.ofNat 0),.int .i64 (.ofNat 0),.nilslice,.nilslice,.nilslice,.nilslice,.int .i64 (.ofNat 0),.nilslice] [(0,1,(.val (.int .i64 (.ofNat 1)))),(1,1,(.tmp 55))]),none⟩,4,8⟩,⟨⟨some 57,.e (.call 33 [(.tmp 49),(.tmp 50),(.tmp 56)]),none⟩,4,14⟩,⟨⟨some 48,.p (.mov (.tmp 57)),none⟩,9,14⟩,⟨⟨some 58,.p (.ext (.tmp 48) 0),none⟩,9,14⟩,⟨⟨some 59,.p (.ext (.tmp 48) 1),none⟩,9,14⟩,⟨⟨some 9,.a (.new [.int .i64 (.ofNat 0),.int .i64 (.ofNat 0),.nilslice]),none⟩,0,14⟩,⟨⟨some 8,.p (.mov (.tmp 58)),none⟩,9,14⟩,⟨⟨none,.e (.store 3 (.tmp 9) (.tmp 59)),none⟩,9,15⟩])
 (.seq (.region [⟨some 60,.p (.mov (.tmp 5)),none⟩,⟨some 61,.p (.lenb (.tmp 60)),none⟩,⟨some 62,.p (.bin .eql (.tmp 61) (.val (.int .i64 (.ofNat 3)))),none⟩,⟨some 63,.p (.mov (.tmp 62)),none⟩,⟨some 64,.p (.mov (.tmp 5)),(some (63,true))⟩,⟨some 65,.p (.iaddr 3 (.tmp 64) (.val (.int .i64 (.ofNat 2)))),(some (63,true))⟩,⟨some 66,.p (.faddr 2 (.tmp 65)),(some (63,true))⟩,⟨some 67,.load1 (.tmp 66),(some (63,true))⟩,⟨some 68,.p (.lenb (.tmp 67)),(some (63,true))⟩,⟨some 69,.p (.bin .eql (.tmp 68) (.val (.int .i64 (.ofNat 1)))),(some (63,true))⟩,⟨some 70,.p (.pick (.tmp 63) (.tmp 69) (.val (.bool false))),none⟩,⟨some 71,.p (.mov (.tmp 70)),none⟩,⟨some 72,.p (.mov (.tmp 5)),(some (71,true))⟩,⟨some 73,.p (.iaddr 3 (.tmp 72) (.val (.int .i64 (.ofNat 2)))),(some (71,true))⟩,⟨some 74,.p (.faddr 2 (.tmp 73)),(some (71,true))⟩,⟨some 75,.load1 (.tmp 74),(some (71,true))⟩,⟨some 76,.p (.iaddr 1 (.tmp 75) (.val (.int .i64 (.ofNat 0)))),(some (71,true))⟩,⟨some 77,.load1 (.tmp 76),(some (71,true))⟩,⟨some 78,.p (.lenb (.tmp 77)),(some (71,true))⟩,⟨some 79,.p (.bin .eql (.tmp 78) (.val (.int .i64 (.ofNat 1)))),(some (71,true))⟩,⟨some 80,.p (.pick (.tmp 71) (.tmp 79) (.val (.bool false))),none⟩,⟨some 81,.p (.mov (.tmp 80)),none⟩,⟨some 82,.p (.mov (.tmp 5)),(some (81,true))⟩,⟨some 83,.p (.iaddr 3 (.tmp 82) (.val (.int .i64 (.ofNat 2)))),(some (81,true))⟩,⟨some 84,.p (.faddr 2 (.tmp 83)),(some (81,true))⟩,⟨some 85,.load1 (.tmp 84),(some (81,true))⟩,⟨some 86,.p (.iaddr 1 (.tmp 85) (.val (.int .i64 (.ofNat 0)))),(some (81,true))⟩,⟨some 87,.load1 (.tmp 86),(some (81,true))⟩,⟨some 88,.p (.iaddr 4 (.tmp 87) (.val (.int .i64 (.ofNat 0)))),(some (81,true))⟩,⟨some 89,.p (.faddr 2 (.tmp 88)),(some (81,true))⟩,⟨some 90,.load1 (.tmp 89),(some (81,true))⟩,⟨some 91,.p (.bin .eql (.tmp 90) (.val (.int .i64 (.ofNat 9)))),(some (81,true))⟩,⟨some 92,.p (.pick (.tmp 81) (.tmp 91) (.val (.bool false))),none⟩,⟨some 93,.p (.mov (.tmp 92)),none⟩,⟨some 94,.p (.mov (.tmp 5)),(some (93,true))⟩,⟨some 95,.p (.iaddr 3 (.tmp 94) (.val (.int .i64 (.ofNat 1)))),(some (93,true))⟩,⟨some 96,.p (.faddr 1 (.tmp 95)),(some (93,true))⟩,⟨some 97,.load1 (.tmp 96),(some (93,true))⟩,⟨some 98,.p (.bin .eql (.tmp 97) (.val (.int .i64 (.ofNat 1)))),(some (93,true))⟩,⟨some 99,.p (.pick (.tmp 93) (.tmp 98) (.val (.bool false))),none⟩,⟨some 100,.p (.mov (.tmp 99)),none⟩,⟨some 101,.p (.mov (.tmp 7)),(some (100,true))⟩,⟨some 102,.p (.lenb (.tmp 101)),(some (100,true))⟩,⟨some 103,.p (.bin .eql (.tmp 102) (.val (.int .i64 (.ofNat 2)))),(some (100,true))⟩,⟨some 104,.p (.pick (.tmp 100) (.tmp 103) (.val (.bool false))),none⟩,⟨some 105,.p (.mov (.tmp 104)),none⟩,⟨some 106,.p (.mov (.tmp 7)),(some (105,true))⟩,⟨some 107,.p (.iaddr 3 (.tmp 106) (.val (.int .i64 (.ofNat 1)))),(some (105,true))⟩,⟨some 108,.p (.faddr 0 (.tmp 107)),(some (105,true))⟩,⟨some 109,.load1 (.tmp 108),(some (105,true))⟩,⟨some 110,.p (.bin .eql (.tmp 109) (.val (.int .i64 (.ofNat 3)))),(some (105,true))⟩,⟨some 111,.p (.pick (.tmp 105) (.tmp 110) (.val (.bool false))),none⟩,⟨some 112,.p (.mov (.tmp 111)),none⟩,⟨some 113,.p (.mov (.tmp 6)),(some (112,true))⟩,⟨some 114,.p (.mov (.tmp 4)),(some (112,true))⟩,⟨some 115,.e (.call 24 [(.tmp 113),(.tmp 114)]),(some (112,true))⟩,⟨some 116,.p (.pick (.tmp 112) (.tmp 115) (.val (.bool false))),none⟩,⟨some 117,.p (.mov (.tmp 116)),none⟩,⟨some 118,.p (.faddr 0 (.tmp 9)),(some (117,true))⟩,⟨some 119,.load1 (.tmp 118),(some (117,true))⟩,⟨some 120,.p (.bin .eql (.tmp 119) (.val (.int .i64 (.ofNat 1)))),(some (117,true))⟩,⟨some 121,.p (.pick (.tmp 117) (.tmp 120) (.val (.bool false))),none⟩,⟨some 0,.p (.mov (.tmp 121)),none⟩])
 (.ret)))))))),[.tmp 0]⟩
theorem v34 : IsFun Try.prog 34 m34 := ⟨_, Try.func34, by kernel_rfl, by kernel_rfl⟩
def m36 : Fun := Go.Lib.M97 Go.Proofs.Ytnbmmnjihipahaa.sa.F0
theorem v36 : IsFun Try.prog 36 m36 := ⟨_, Try.func36, by kernel_rfl, by kernel_rfl⟩
def m38 : Fun := Go.Lib.M71 Go.Proofs.Ytnbmmnjihipahaa.sa.F0
theorem v38 : IsFun Try.prog 38 m38 := ⟨_, Try.func38, by kernel_rfl, by kernel_rfl⟩
def m40 : Fun := Go.Lib.M98 Go.Proofs.Ytnbmmnjihipahaa.sa.F0
theorem v40 : IsFun Try.prog 40 m40 := ⟨_, Try.func40, by kernel_rfl, by kernel_rfl⟩
def m43 : Fun := Go.Lib.M88 Go.Proofs.Ytnbmmnjihipahaa.sa.F0
theorem v43 : IsFun Try.prog 43 m43 := ⟨_, Try.func43, by kernel_rfl, by kernel_rfl⟩
def m52 : Fun := Go.Lib.M36 Go.Proofs.Ytnbmmnjihipahaa.sa.F0
theorem v52 : IsFun Try.prog 52 m52 := ⟨_, Try.func52, by kernel_rfl, by kernel_rfl⟩
def m53 : Fun := Go.Lib.M37 Go.Proofs.Ytnbmmnjihipahaa.sa.F0
theorem v53 : IsFun Try.prog 53 m53 := ⟨_, Try.func53, by kernel_rfl, by kernel_rfl⟩
def m54 : Fun := Go.Lib.M26 Go.Proofs.Ytnbmmnjihipahaa.sa.F0
theorem v54 : IsFun Try.prog 54 m54 := ⟨_, Try.func54, by kernel_rfl, by kernel_rfl⟩
def m55 : Fun := Go.Lib.M38 Go.Proofs.Ytnbmmnjihipahaa.sa.F0
theorem v55 : IsFun Try.prog 55 m55 := ⟨_, Try.func55, by kernel_rfl, by kernel_rfl⟩
def m56 : Fun := Go.Lib.M1 Go.Proofs.Ytnbmmnjihipahaa.sa.F0
theorem v56 : IsFun Try.prog 56 m56 := ⟨_, Try.func56, by kernel_rfl, by kernel_rfl⟩
def m57 : Fun := Go.Lib.M3 Go.Proofs.Ytnbmmnjihipahaa.sa.F0
theorem v57 : IsFun Try.prog 57 m57 := ⟨_, Try.func57, by kernel_rfl, by kernel_rfl⟩
def m58 : Fun := Go.Lib.M39 Go.Proofs.Ytnbmmnjihipahaa.sa.F0
theorem v58 : IsFun Try.prog 58 m58 := ⟨_, Try.func58, by kernel_rfl, by kernel_rfl⟩
def m60 : Fun := Go.Lib.M2 Go.Proofs.Ytnbmmnjihipahaa.sa.F0
theorem v60 : IsFun Try.prog 60 m60 := ⟨_, Try.func60, by kernel_rfl, by kernel_rfl⟩
def m61 : Fun := Go.Lib.M4 Go.Proofs.Ytnbmmnjihipahaa.sa.F0
theorem v61 : IsFun Try.prog 61 m61 := ⟨_, Try.func61, by kernel_rfl, by kernel_rfl⟩
def m62 : Fun := Go.Lib.M5 Go.Proofs.Ytnbmmnjihipahaa.sa.F0
theorem v62 : IsFun Try.prog 62 m62 := ⟨_, Try.func62, by kernel_rfl, by kernel_rfl⟩
def m63 : Fun := Go.Lib.M40 Go.Proofs.Ytnbmmnjihipahaa.sa.F0
theorem v63 : IsFun Try.prog 63 m63 := ⟨_, Try.func63, by kernel_rfl, by kernel_rfl⟩
def m64 : Fun := Go.Lib.M47 Go.Proofs.Ytnbmmnjihipahaa.sa.F0
theorem v64 : IsFun Try.prog 64 m64 := ⟨_, Try.func64, by kernel_rfl, by kernel_rfl⟩
def m67 : Fun := Go.Lib.M50 Go.Proofs.Ytnbmmnjihipahaa.sa.F0
theorem v67 : IsFun Try.prog 67 m67 := ⟨_, Try.func67, by kernel_rfl, by kernel_rfl⟩
def m69 : Fun := Go.Lib.M72 Go.Proofs.Ytnbmmnjihipahaa.sa.F0
theorem v69 : IsFun Try.prog 69 m69 := ⟨_, Try.func69, by kernel_rfl, by kernel_rfl⟩
def m70 : Fun := Go.Lib.M73 Go.Proofs.Ytnbmmnjihipahaa.sa.F0
theorem v70 : IsFun Try.prog 70 m70 := ⟨_, Try.func70, by kernel_rfl, by kernel_rfl⟩
def m71 : Fun := Go.Lib.M65 Go.Proofs.Ytnbmmnjihipahaa.sa.F0
theorem v71 : IsFun Try.prog 71 m71 := ⟨_, Try.func71, by kernel_rfl, by kernel_rfl⟩
def m72 : Fun := Go.Lib.M74 Go.Proofs.Ytnbmmnjihipahaa.sa.F0
theorem v72 : IsFun Try.prog 72 m72 := ⟨_, Try.func72, by kernel_rfl, by kernel_rfl⟩
def m73 : Fun := Go.Lib.M75 Go.Proofs.Ytnbmmnjihipahaa.sa.F0
theorem v73 : IsFun Try.prog 73 m73 := ⟨_, Try.func73, by kernel_rfl, by kernel_rfl⟩
def m74 : Fun := Go.Lib.M76 Go.Proofs.Ytnbmmnjihipahaa.sa.F0
theorem v74 : IsFun Try.prog 74 m74 := ⟨_, Try.func74, by kernel_rfl, by kernel_rfl⟩
def m75 : Fun := ⟨5,1,.seq (.region [⟨some 2,.a (.new [.bool false,.int .i64 (.ofNat 0),.int .i64 (.ofNat 0),.nilslice]),none⟩])
 (.seq (.region [⟨some 3,.p (.mov (.tmp 0)),none⟩,⟨some 4,.p (.build [.bool false,.int .i64 (.ofNat 0),.int .i64 (.ofNat 0),.nilslice] [(1,1,(.val (.int .i64 (.ofNat 1)))),(2,1,(.tmp 3))]),none⟩,⟨none,.e (.store 4 (.tmp 2) (.tmp 4)),none⟩])
 (.ret)),[.celln 4 2]⟩
theorem v75 : IsFun Try.prog 75 m75 := ⟨_, Try.func75, by kernel_rfl, by kernel_rfl⟩
def m76 : Fun := Go.Lib.M99 Go.Proofs.Ytnbmmnjihipahaa.sa.F0
theorem v76 : IsFun Try.prog 76 m76 := ⟨_, Try.func76, by kernel_rfl, by kernel_rfl⟩
end Go.Proofs.Ytnbmmnjihipahaa
end

section
set_option maxRecDepth 100000
namespace Go.Proofs.Ytnbmmnjihipahaa
open Go.Vm
def m77 : Fun := Go.Lib.M77 Go.Proofs.Ytnbmmnjihipahaa.sa.F0
theorem v77 : IsFun Try.prog 77 m77 := ⟨_, Try.func77, by kernel_rfl, by kernel_rfl⟩
def m80 : Fun := Go.Lib.M91 Go.Proofs.Ytnbmmnjihipahaa.sa.F0
theorem v80 : IsFun Try.prog 80 m80 := ⟨_, Try.func80, by kernel_rfl, by kernel_rfl⟩
def m84 : Fun := Go.Lib.M41 Go.Proofs.Ytnbmmnjihipahaa.sa.F0
theorem v84 : IsFun Try.prog 84 m84 := ⟨_, Try.func84, by kernel_rfl, by kernel_rfl⟩
def m85 : Fun := Go.Lib.M13 Go.Proofs.Ytnbmmnjihipahaa.sa.F0
theorem v85 : IsFun Try.prog 85 m85 := ⟨_, Try.func85, by kernel_rfl, by kernel_rfl⟩
def m86 : Fun := Go.Lib.M27 Go.Proofs.Ytnbmmnjihipahaa.sa.F0
theorem v86 : IsFun Try.prog 86 m86 := ⟨_, Try.func86, by kernel_rfl, by kernel_rfl⟩
def m87 : Fun := Go.Lib.M9 Go.Proofs.Ytnbmmnjihipahaa.sa.F0
theorem v87 : IsFun Try.prog 87 m87 := ⟨_, Try.func87, by kernel_rfl, by kernel_rfl⟩
def m88 : Fun := Go.Lib.M8 Go.Proofs.Ytnbmmnjihipahaa.sa.F0
theorem v88 : IsFun Try.prog 88 m88 := ⟨_, Try.func88, by kernel_rfl, by kernel_rfl⟩
def m89 : Fun := Go.Lib.M10 Go.Proofs.Ytnbmmnjihipahaa.sa.F0
theorem v89 : IsFun Try.prog 89 m89 := ⟨_, Try.func89, by kernel_rfl, by kernel_rfl⟩
def m90 : Fun := Go.Lib.M11 Go.Proofs.Ytnbmmnjihipahaa.sa.F0
theorem v90 : IsFun Try.prog 90 m90 := ⟨_, Try.func90, by kernel_rfl, by kernel_rfl⟩
def m91 : Fun := Go.Lib.M12 Go.Proofs.Ytnbmmnjihipahaa.sa.F0
theorem v91 : IsFun Try.prog 91 m91 := ⟨_, Try.func91, by kernel_rfl, by kernel_rfl⟩
def m92 : Fun := Go.Lib.M14 Go.Proofs.Ytnbmmnjihipahaa.sa.F0
theorem v92 : IsFun Try.prog 92 m92 := ⟨_, Try.func92, by kernel_rfl, by kernel_rfl⟩
def m93 : Fun := Go.Lib.M42 Go.Proofs.Ytnbmmnjihipahaa.sa.F0
theorem v93 : IsFun Try.prog 93 m93 := ⟨_, Try.func93, by kernel_rfl, by kernel_rfl⟩
def m95 : Fun := Go.Lib.M67 Go.Proofs.Ytnbmmnjihipahaa.sa.F0
theorem v95 : IsFun Try.prog 95 m95 := ⟨_, Try.func95, by kernel_rfl, by kernel_rfl⟩
def m96 : Fun := Go.Lib.M66 Go.Proofs.Ytnbmmnjihipahaa.sa.F0
theorem v96 : IsFun Try.prog 96 m96 := ⟨_, Try.func96, by kernel_rfl, by kernel_rfl⟩
def m97 : Fun := Go.Lib.M68 Go.Proofs.Ytnbmmnjihipahaa.sa.F0
theorem v97 : IsFun Try.prog 97 m97 := ⟨_, Try.func97, by kernel_rfl, by kernel_rfl⟩
def m98 : Fun := Go.Lib.M69 Go.Proofs.Ytnbmmnjihipahaa.sa.F0
theorem v98 : IsFun Try.prog 98 m98 := ⟨_, Try.func98, by kernel_rfl, by kernel_rfl⟩
def m99 : Fun := Go.Lib.M79 Go.Proofs.Ytnbmmnjihipahaa.sa.F0
theorem v99 : IsFun Try.prog 99 m99 := ⟨_, Try.func99, by kernel_rfl, by kernel_rfl⟩
def m100 : Fun := Go.Lib.M78 Go.Proofs.Ytnbmmnjihipahaa.sa.F0
theorem v100 : IsFun Try.prog 100 m100 := ⟨_, Try.func100, by kernel_rfl, by kernel_rfl⟩
def m101 : Fun := Go.Lib.M80 Go.Proofs.Ytnbmmnjihipahaa.sa.F0
theorem v101 : IsFun Try.prog 101 m101 := ⟨_, Try.func101, by kernel_rfl, by kernel_rfl⟩
def m102 : Fun := Go.Lib.M81 Go.Proofs.Ytnbmmnjihipahaa.sa.F0
theorem v102 : IsFun Try.prog 102 m102 := ⟨_, Try.func102, by kernel_rfl, by kernel_rfl⟩
def m103 : Fun := Go.Lib.M82 Go.Proofs.Ytnbmmnjihipahaa.sa.F0
theorem v103 : IsFun Try.prog 103 m103 := ⟨_, Try.func103, by kernel_rfl, by kernel_rfl⟩
def m112 : Fun := Go.Lib.M43 Go.Proofs.Ytnbmmnjihipahaa.sa.F0
theorem v112 : IsFun Try.prog 112 m112 := ⟨_, Try.func112, by kernel_rfl, by kernel_rfl⟩
def m113 : Fun := Go.Lib.M44 Go.Proofs.Ytnbmmnjihipahaa.sa.F0
theorem v113 : IsFun Try.prog 113 m113 := ⟨_, Try.func113, by kernel_rfl, by kernel_rfl⟩
def m114 : Fun := Go.Lib.M28 Go.Proofs.Ytnbmmnjihipahaa.sa.F0
theorem v114 : IsFun Try.prog 114 m114 := ⟨_, Try.func114, by kernel_rfl, by kernel_rfl⟩
def m115 : Fun := Go.Lib.M29 Go.Proofs.Ytnbmmnjihipahaa.sa.F0
theorem v115 : IsFun Try.prog 115 m115 := ⟨_, Try.func115, by kernel_rfl, by kernel_rfl⟩
def m116 : Fun := Go.Lib.M18 Go.Proofs.Ytnbmmnjihipahaa.sa.F0
theorem v116 : IsFun Try.prog 116 m116 := ⟨_, Try.func116, by kernel_rfl, by kernel_rfl⟩
def m117 : Fun := Go.Lib.M19 Go.Proofs.Ytnbmmnjihipahaa.sa.F0
theorem v117 : IsFun Try.prog 117 m117 := ⟨_, Try.func117, by kernel_rfl, by kernel_rfl⟩
def m121 : Fun := Go.Lib.M84 Go.Proofs.Ytnbmmnjihipahaa.sa.F0
theorem v121 : IsFun Try.prog 121 m121 := ⟨_, Try.func121, by kernel_rfl, by kernel_rfl⟩
def m127 : Fun := Go.Lib.M30 Go.Proofs.Ytnbmmnjihipahaa.sa.F0
theorem v127 : IsFun Try.prog 127 m127 := ⟨_, Try.func127, by kernel_rfl, by kernel_rfl⟩
def m128 : Fun := Go.Lib.M85 Go.Proofs.Ytnbmmnjihipahaa.sa.F0
theorem v128 : IsFun Try.prog 128 m128 := ⟨_, Try.func128, by kernel_rfl, by kernel_rfl⟩
def m131 : Fun := Go.Lib.M7 Go.Proofs.Ytnbmmnjihipahaa.sa.F0
theorem v131 : IsFun Try.prog 131 m131 := ⟨_, Try.func131, by kernel_rfl, by kernel_rfl⟩
def m132 : Fun := Go.Lib.M31 Go.Proofs.Ytnbmmnjihipahaa.sa.F0
theorem v132 : IsFun Try.prog 132 m132 := ⟨_, Try.func132, by kernel_rfl, by kernel_rfl⟩
def m133 : Fun := Go.Lib.M86 Go.Proofs.Ytnbmmnjihipahaa.sa.F0
theorem v133 : IsFun Try.prog 133 m133 := ⟨_, Try.func133, by kernel_rfl, by kernel_rfl⟩
def m135 : Fun := Go.Lib.M16 Go.Proofs.Ytnbmmnjihipahaa.sa.F0
theorem v135 : IsFun Try.prog 135 m135 := ⟨_, Try.func135, by kernel_rfl, by kernel_rfl⟩
def m136 : Fun := Go.Lib.M17 Go.Proofs.Ytnbmmnjihipahaa.sa.F0
theorem v136 : IsFun Try.prog 136 m136 := ⟨_, Try.func136, by kernel_rfl, by kernel_rfl⟩
def m137 : Fun := Go.Lib.M21 Go.Proofs.Ytnbmmnjihipahaa.sa.F0
theorem v137 : IsFun Try.prog 137 m137 := ⟨_, Try.func137, by kernel_rfl, by kernel_rfl⟩
def m138 : Fun := Go.Lib.M6 Go.Proofs.Ytnbmmnjihipahaa.sa.F0
theorem v138 : IsFun Try.prog 138 m138 := ⟨_, Try.func138, by kernel_rfl, by kernel_rfl⟩
def m140 : Fun := Go.Lib.M15 Go.Proofs.Ytnbmmnjihipahaa.sa.F0
theorem v140 : IsFun Try.prog 140 m140 := ⟨_, Try.func140, by kernel_rfl, by kernel_rfl⟩
end Go.Proofs.Ytnbmmnjihipahaa
end

section
set_option maxRecDepth 100000
namespace Go.Proofs.Ytnbmmnjihipahaa
open Go.Vm
def funs : T Fun := (.node (.node (.node (.node (.node (.node (.node (.node .leaf (some m127) .leaf) (some m63) .leaf) (some m31) (.node .leaf (some m95) .leaf)) (some m15) .leaf) none (.node (.node (.node (.node .leaf (some m135) .leaf) (some m71) .leaf) none (.node .leaf (some m103) .leaf)) (some m23) (.node (.node .leaf (some m87) .leaf) (some m55) .leaf))) none (.node (.node (.node (.node (.node .leaf (some m131) .leaf) (some m67) .leaf) none (.node .leaf (some m99) .leaf)) (some m19) (.node .leaf none (.node .leaf (some m115) .leaf))) none (.node (.node (.node .leaf (some m75) .leaf) (some m43) .leaf) (some m27) (.node (.node .leaf (some m91) .leaf) none .leaf)))) none (.node (.node (.node (.node .leaf (some m33) (.node .leaf (some m97) .leaf)) (some m17) (.node .leaf none (.node .leaf (some m113) .leaf))) none (.node (.node (.node (.node .leaf (some m137) .leaf) (some m73) .leaf) none .leaf) (some m25) (.node (.node .leaf (some m89) .leaf) (some m57) (.node .leaf (some m121) .leaf)))) none (.node (.node (.node (.node (.node .leaf (some m133) .leaf) (some m69) .leaf) none (.node .leaf (some m101) .leaf)) (some m21) (.node (.node .leaf (some m85) .leaf) (some m53) (.node .leaf (some m117) .leaf))) (some m13) (.node (.node (.node .leaf (some m77) .leaf) none .leaf) none (.node (.node .leaf (some m93) .leaf) (some m61) .leaf))))) none (.node (.node (.node (.node (.node (.node (.node .leaf (some m128) .leaf) (some m64) .leaf) none (.node .leaf (some m96) .leaf)) none (.node (.node .leaf (some m80) .leaf) none (.node .leaf (some m112) .leaf))) none (.node (.node (.node (.node .leaf (some m136) .leaf) (some m72) .leaf) (some m40) .leaf) (some m24) (.node (.node .leaf (some m88) .leaf) (some m56) .leaf))) none (.node (.node (.node (.node (.node .leaf (some m132) .leaf) none .leaf) (some m36) (.node .leaf (some m100) .leaf)) none (.node (.node .leaf (some m84) .leaf) (some m52) (.node .leaf (some m116) .leaf))) none (.node (.node (.node (.node .leaf (some m140) .leaf) (some m76) .leaf) none .leaf) none (.node (.node .leaf (some m92) .leaf) (some m60) .leaf)))) none (.node (.node (.node (.node .leaf (some m34) (.node .leaf (some m98) .leaf)) (some m18) (.node .leaf none (.node .leaf (some m114) .leaf))) none (.node (.node (.node (.node .leaf (some m138) .leaf) (some m74) .leaf) none .leaf) none (.node (.node .leaf (some m90) .leaf) (some m58) .leaf))) none (.node (.node (.node (.node .leaf (some m70) .leaf) (some m38) (.node .leaf (some m102) .leaf)) (some m22) (.node (.node .leaf (some m86) .leaf) (some m54) .leaf)) none (.node .leaf none (.node .leaf (some m62) .leaf))))))
def ints : List Nat := [2,3,5,6,12,21,56,72,147,191,192,193,196,197]
theorem intsOk : IntsOk Try.prog ints := ints_of (by kernel_rfl)
def mach (tab : Tab) : Vm.Prog := ⟨funs, ⟨tab, ints⟩⟩
theorem valid (tab : Tab) : Valid Try.prog (mach tab) := valid_of (show AllT (IsFun Try.prog) 1 0 funs from ⟨trivial, ⟨trivial, ⟨trivial, ⟨trivial, ⟨v15, ⟨v31, ⟨v63, ⟨v127, trivial, trivial⟩, trivial⟩, ⟨v95, trivial, trivial⟩⟩, trivial⟩, ⟨v23, ⟨trivial, ⟨v71, ⟨v135, trivial, trivial⟩, trivial⟩, ⟨v103, trivial, trivial⟩⟩, ⟨v55, ⟨v87, trivial, trivial⟩, trivial⟩⟩⟩, ⟨trivial, ⟨v19, ⟨trivial, ⟨v67, ⟨v131, trivial, trivial⟩, trivial⟩, ⟨v99, trivial, trivial⟩⟩, ⟨trivial, trivial, ⟨v115, trivial, trivial⟩⟩⟩, ⟨v27, ⟨v43, ⟨v75, trivial, trivial⟩, trivial⟩, ⟨trivial, ⟨v91, trivial, trivial⟩, trivial⟩⟩⟩⟩, ⟨trivial, ⟨trivial, ⟨v17, ⟨v33, trivial, ⟨v97, trivial, trivial⟩⟩, ⟨trivial, trivial, ⟨v113, trivial, trivial⟩⟩⟩, ⟨v25, ⟨trivial, ⟨v73, ⟨v137, trivial, trivial⟩, trivial⟩, trivial⟩, ⟨v57, ⟨v89, trivial, trivial⟩, ⟨v121, trivial, trivial⟩⟩⟩⟩, ⟨v13, ⟨v21, ⟨trivial, ⟨v69, ⟨v133, trivial, trivial⟩, trivial⟩, ⟨v101, trivial, trivial⟩⟩, ⟨v53, ⟨v85, trivial, trivial⟩, ⟨v117, trivial, trivial⟩⟩⟩, ⟨trivial, ⟨trivial, ⟨v77, trivial, trivial⟩, trivial⟩, ⟨v61, ⟨v93, trivial, trivial⟩, trivial⟩⟩⟩⟩⟩, ⟨trivial, ⟨trivial, ⟨trivial, ⟨trivial, ⟨trivial, ⟨v64, ⟨v128, trivial, trivial⟩, trivial⟩, ⟨v96, trivial, trivial⟩⟩, ⟨trivial, ⟨v80, trivial, trivial⟩, ⟨v112, trivial, trivial⟩⟩⟩, ⟨v24, ⟨v40, ⟨v72, ⟨v136, trivial, trivial⟩, trivial⟩, trivial⟩, ⟨v56, ⟨v88, trivial, trivial⟩, trivial⟩⟩⟩, ⟨trivial, ⟨trivial, ⟨v36, ⟨trivial, ⟨v132, trivial, trivial⟩, trivial⟩, ⟨v100, trivial, trivial⟩⟩, ⟨v52, ⟨v84, trivial, trivial⟩, ⟨v116, trivial, trivial⟩⟩⟩, ⟨trivial, ⟨trivial, ⟨v76, ⟨v140, trivial, trivial⟩, trivial⟩, trivial⟩, ⟨v60, ⟨v92, trivial, trivial⟩, trivial⟩⟩⟩⟩, ⟨trivial, ⟨trivial, ⟨v18, ⟨v34, trivial, ⟨v98, trivial, trivial⟩⟩, ⟨trivial, trivial, ⟨v114, trivial, trivial⟩⟩⟩, ⟨trivial, ⟨trivial, ⟨v74, ⟨v138, trivial, trivial⟩, trivial⟩, trivial⟩, ⟨v58, ⟨v90, trivial, trivial⟩, trivial⟩⟩⟩, ⟨trivial, ⟨v22, ⟨v38, ⟨v70, trivial, trivial⟩, ⟨v102, trivial, trivial⟩⟩, ⟨v54, ⟨v86, trivial, trivial⟩, trivial⟩⟩, ⟨trivial, trivial, ⟨v62, trivial, trivial⟩⟩⟩⟩⟩⟩)
end Go.Proofs.Ytnbmmnjihipahaa
end

section
set_option maxRecDepth 100000
namespace Go.Proofs.Ytnbmmnjihipahaa
open Go.Vm
theorem x118 : IsExt Try.prog (118, .cmp) := ⟨_, Try.func118, by kernel_rfl, by kernel_rfl, by kernel_rfl, by kernel_rfl⟩
theorem x119 : IsExt Try.prog (119, .add64) := ⟨_, Try.func119, by kernel_rfl, by kernel_rfl, by kernel_rfl, by kernel_rfl⟩
def exts : List (Nat × Ek) := [(118, .cmp), (119, .add64)]
theorem extsOk : ∀ x, x ∈ exts → IsExt Try.prog x := by
  intro x hx;unfold exts at hx;rcases List.mem_cons.1 hx with rfl | hx
  · exact x118
  rcases List.mem_cons.1 hx with rfl | hx
  · exact x119
  cases hx
end Go.Proofs.Ytnbmmnjihipahaa
end

section
set_option maxRecDepth 100000
namespace Go.Proofs.Ytnbmmnjihipahaa.sa
open Go.Vm Go.Dv Go.Lib
def pr : Vm.Prog := mach []
def xt : Ext := orX (constX [34]) (extBy exts)
theorem has1 : Go.Dv.Has pr xt F0 1 Go.Lib.M1 := ⟨by kernel_rfl, fun _ _ => rfl⟩
theorem has2 : Go.Dv.Has pr xt F0 2 Go.Lib.M2 := ⟨by kernel_rfl, fun _ _ => rfl⟩
theorem has3 : Go.Dv.Has pr xt F0 3 Go.Lib.M3 := ⟨by kernel_rfl, fun _ _ => rfl⟩
theorem has4 : Go.Dv.Has pr xt F0 4 Go.Lib.M4 := ⟨by kernel_rfl, fun _ _ => rfl⟩
theorem has5 : Go.Dv.Has pr xt F0 5 Go.Lib.M5 := ⟨by kernel_rfl, fun _ _ => rfl⟩
theorem has6 : Go.Dv.Has pr xt F0 6 Go.Lib.M6 := ⟨by kernel_rfl, fun _ _ => rfl⟩
theorem has7 : Go.Dv.Has pr xt F0 7 Go.Lib.M7 := ⟨by kernel_rfl, fun _ _ => rfl⟩
theorem has8 : Go.Dv.Has pr xt F0 8 Go.Lib.M8 := ⟨by kernel_rfl, fun _ _ => rfl⟩
theorem has9 : Go.Dv.Has pr xt F0 9 Go.Lib.M9 := ⟨by kernel_rfl, fun _ _ => rfl⟩
theorem has10 : Go.Dv.Has pr xt F0 10 Go.Lib.M10 := ⟨by kernel_rfl, fun _ _ => rfl⟩
theorem has11 : Go.Dv.Has pr xt F0 11 Go.Lib.M11 := ⟨by kernel_rfl, fun _ _ => rfl⟩
theorem has12 : Go.Dv.Has pr xt F0 12 Go.Lib.M12 := ⟨by kernel_rfl, fun _ _ => rfl⟩
theorem has13 : Go.Dv.Has pr xt F0 13 Go.Lib.M13 := ⟨by kernel_rfl, fun _ _ => rfl⟩
theorem has14 : Go.Dv.Has pr xt F0 14 Go.Lib.M14 := ⟨by kernel_rfl, fun _ _ => rfl⟩
theorem has15 : Go.Dv.Has pr xt F0 15 Go.Lib.M15 := ⟨by kernel_rfl, fun _ _ => rfl⟩
theorem has16 : Go.Dv.Has pr xt F0 16 Go.Lib.M16 := ⟨by kernel_rfl, fun _ _ => rfl⟩
theorem has17 : Go.Dv.Has pr xt F0 17 Go.Lib.M17 := ⟨by kernel_rfl, fun _ _ => rfl⟩
theorem has18 : Go.Dv.Has pr xt F0 18 Go.Lib.M18 := ⟨by kernel_rfl, fun _ _ => rfl⟩
theorem has19 : Go.Dv.Has pr xt F0 19 Go.Lib.M19 := ⟨by kernel_rfl, fun _ _ => rfl⟩
theorem has21 : Go.Dv.Has pr xt F0 21 Go.Lib.M21 := ⟨by kernel_rfl, fun _ _ => rfl⟩
theorem has22 : Go.Dv.Has pr xt F0 22 Go.Lib.M22 := ⟨by kernel_rfl, fun _ _ => rfl⟩
theorem has23 : Go.Dv.Has pr xt F0 23 Go.Lib.M23 := ⟨by kernel_rfl, fun _ _ => rfl⟩
theorem has24 : Go.Dv.Has pr xt F0 24 Go.Lib.M24 := ⟨by kernel_rfl, fun _ _ => rfl⟩
theorem has25 : Go.Dv.Has pr xt F0 25 Go.Lib.M25 := ⟨by kernel_rfl, fun _ _ => rfl⟩
theorem has26 : Go.Dv.Has pr xt F0 26 Go.Lib.M26 := ⟨by kernel_rfl, fun _ _ => rfl⟩
theorem has27 : Go.Dv.Has pr xt F0 27 Go.Lib.M27 := ⟨by kernel_rfl, fun _ _ => rfl⟩
theorem has28 : Go.Dv.Has pr xt F0 28 Go.Lib.M28 := ⟨by kernel_rfl, fun _ _ => rfl⟩
theorem has29 : Go.Dv.Has pr xt F0 29 Go.Lib.M29 := ⟨by kernel_rfl, fun _ _ => rfl⟩
theorem has30 : Go.Dv.Has pr xt F0 30 Go.Lib.M30 := ⟨by kernel_rfl, fun _ _ => rfl⟩
theorem has31 : Go.Dv.Has pr xt F0 31 Go.Lib.M31 := ⟨by kernel_rfl, fun _ _ => rfl⟩
theorem has32 : Go.Dv.Has pr xt F0 32 Go.Lib.M32 := ⟨by kernel_rfl, fun _ _ => rfl⟩
theorem has33 : Go.Dv.Has pr xt F0 33 Go.Lib.M33 := ⟨by kernel_rfl, fun _ _ => rfl⟩
theorem has34 : Go.Dv.Has pr xt F0 34 Go.Lib.M34 := ⟨by kernel_rfl, fun _ _ => rfl⟩
theorem has35 : Go.Dv.Has pr xt F0 35 Go.Lib.M35 := ⟨by kernel_rfl, fun _ _ => rfl⟩
theorem has36 : Go.Dv.Has pr xt F0 36 Go.Lib.M36 := ⟨by kernel_rfl, fun _ _ => rfl⟩
theorem has37 : Go.Dv.Has pr xt F0 37 Go.Lib.M37 := ⟨by kernel_rfl, fun _ _ => rfl⟩
theorem has38 : Go.Dv.Has pr xt F0 38 Go.Lib.M38 := ⟨by kernel_rfl, fun _ _ => rfl⟩
theorem has39 : Go.Dv.Has pr xt F0 39 Go.Lib.M39 := ⟨by kernel_rfl, fun _ _ => rfl⟩
theorem has40 : Go.Dv.Has pr xt F0 40 Go.Lib.M40 := ⟨by kernel_rfl, fun _ _ => rfl⟩
theorem has41 : Go.Dv.Has pr xt F0 41 Go.Lib.M41 := ⟨by kernel_rfl, fun _ _ => rfl⟩
theorem has42 : Go.Dv.Has pr xt F0 42 Go.Lib.M42 := ⟨by kernel_rfl, fun _ _ => rfl⟩
theorem has43 : Go.Dv.Has pr xt F0 43 Go.Lib.M43 := ⟨by kernel_rfl, fun _ _ => rfl⟩
theorem has44 : Go.Dv.Has pr xt F0 44 Go.Lib.M44 := ⟨by kernel_rfl, fun _ _ => rfl⟩
theorem has46 : Go.Dv.Has pr xt F0 46 Go.Lib.M46 := ⟨by kernel_rfl, fun _ _ => rfl⟩
theorem has47 : Go.Dv.Has pr xt F0 47 Go.Lib.M47 := ⟨by kernel_rfl, fun _ _ => rfl⟩
theorem has48 : Go.Dv.Has pr xt F0 48 Go.Lib.M48 := ⟨by kernel_rfl, fun _ _ => rfl⟩
theorem has49 : Go.Dv.Has pr xt F0 49 Go.Lib.M49 := ⟨by kernel_rfl, fun _ _ => rfl⟩
theorem has50 : Go.Dv.Has pr xt F0 50 Go.Lib.M50 := ⟨by kernel_rfl, fun _ _ => rfl⟩
theorem has65 : Go.Dv.Has pr xt F0 65 Go.Lib.M65 := ⟨by kernel_rfl, fun _ _ => rfl⟩
theorem has66 : Go.Dv.Has pr xt F0 66 Go.Lib.M66 := ⟨by kernel_rfl, fun _ _ => rfl⟩
theorem has67 : Go.Dv.Has pr xt F0 67 Go.Lib.M67 := ⟨by kernel_rfl, fun _ _ => rfl⟩
theorem has68 : Go.Dv.Has pr xt F0 68 Go.Lib.M68 := ⟨by kernel_rfl, fun _ _ => rfl⟩
theorem has69 : Go.Dv.Has pr xt F0 69 Go.Lib.M69 := ⟨by kernel_rfl, fun _ _ => rfl⟩
theorem has70 : Go.Dv.Has pr xt F0 70 Go.Lib.M70 := ⟨by kernel_rfl, fun _ _ => rfl⟩
theorem has71 : Go.Dv.Has pr xt F0 71 Go.Lib.M71 := ⟨by kernel_rfl, fun _ _ => rfl⟩
theorem has72 : Go.Dv.Has pr xt F0 72 Go.Lib.M72 := ⟨by kernel_rfl, fun _ _ => rfl⟩
theorem has73 : Go.Dv.Has pr xt F0 73 Go.Lib.M73 := ⟨by kernel_rfl, fun _ _ => rfl⟩
theorem has74 : Go.Dv.Has pr xt F0 74 Go.Lib.M74 := ⟨by kernel_rfl, fun _ _ => rfl⟩
theorem has75 : Go.Dv.Has pr xt F0 75 Go.Lib.M75 := ⟨by kernel_rfl, fun _ _ => rfl⟩
theorem has76 : Go.Dv.Has pr xt F0 76 Go.Lib.M76 := ⟨by kernel_rfl, fun _ _ => rfl⟩
theorem has77 : Go.Dv.Has pr xt F0 77 Go.Lib.M77 := ⟨by kernel_rfl, fun _ _ => rfl⟩
theorem has78 : Go.Dv.Has pr xt F0 78 Go.Lib.M78 := ⟨by kernel_rfl, fun _ _ => rfl⟩
theorem has79 : Go.Dv.Has pr xt F0 79 Go.Lib.M79 := ⟨by kernel_rfl, fun _ _ => rfl⟩
theorem has80 : Go.Dv.Has pr xt F0 80 Go.Lib.M80 := ⟨by kernel_rfl, fun _ _ => rfl⟩
theorem has81 : Go.Dv.Has pr xt F0 81 Go.Lib.M81 := ⟨by kernel_rfl, fun _ _ => rfl⟩
theorem has82 : Go.Dv.Has pr xt F0 82 Go.Lib.M82 := ⟨by kernel_rfl, fun _ _ => rfl⟩
theorem has84 : Go.Dv.Has pr xt F0 84 Go.Lib.M84 := ⟨by kernel_rfl, fun _ _ => rfl⟩
theorem has85 : Go.Dv.Has pr xt F0 85 Go.Lib.M85 := ⟨by kernel_rfl, fun _ _ => rfl⟩
theorem has86 : Go.Dv.Has pr xt F0 86 Go.Lib.M86 := ⟨by kernel_rfl, fun _ _ => rfl⟩
theorem has88 : Go.Dv.Has pr xt F0 88 Go.Lib.M88 := ⟨by kernel_rfl, fun _ _ => rfl⟩
theorem has91 : Go.Dv.Has pr xt F0 91 Go.Lib.M91 := ⟨by kernel_rfl, fun _ _ => rfl⟩
theorem has97 : Go.Dv.Has pr xt F0 97 Go.Lib.M97 := ⟨by kernel_rfl, fun _ _ => rfl⟩
theorem has98 : Go.Dv.Has pr xt F0 98 Go.Lib.M98 := ⟨by kernel_rfl, fun _ _ => rfl⟩
theorem has99 : Go.Dv.Has pr xt F0 99 Go.Lib.M99 := ⟨by kernel_rfl, fun _ _ => rfl⟩
theorem has101 : Go.Dv.Has pr xt F0 101 Go.Lib.M101 := ⟨by kernel_rfl, fun _ _ => rfl⟩
end Go.Proofs.Ytnbmmnjihipahaa.sa
end

section
set_option maxRecDepth 100000
namespace Go.Proofs.Ytnbmmnjihipahaa.sa
open Go.Vm
theorem awakeR : runs (mach []) (extBy exts) 1000000 34 [] Try.prog.globals.size = true := by decide +kernel
end Go.Proofs.Ytnbmmnjihipahaa.sa
end

section
set_option maxRecDepth 100000
namespace Go.Proofs.Ytnbmmnjihipahaa.sa
open Go.Vm Go.Dv Go.Lib
theorem hawake : FnD pr xt (F0 107) [] (.lit (.bool true)) := by
  intro H ψ S h vs s k;simp only [VDl] at k;subst k;refine wpc_ext (v := .bool true) (h' := h) rfl ⟨ψ, S, _, H, .refl, s, ?_, rfl, rfl⟩;simp [VD, atomV]
theorem x20 : ∀ args h, xt (F0 20) args h = extV .cmp args h := fun _ _ => rfl
theorem x45 : ∀ args h, xt (F0 45) args h = extV .add64 args h := fun _ _ => rfl
theorem hschm : HSchm pr xt F0 := ⟨has1, has2, has3, has4, has5, has6, has7, has8, has9, has10, has11, has12, has13, has14, has15, has16, has17, has18, has19, has21, x20⟩
theorem hlaw6 : HLaw6 pr xt F0 := ⟨has22, has23, has24, has25⟩
theorem hsrt : HSrt pr xt F0 := ⟨has26, has27, has28, has29, has30, has31⟩
theorem haggr : HAggr pr xt F0 := ⟨hsrt, hschm, has32, has33, has34, has35, has36, has37, has38, has39, has40, has41, has42, has43, has44⟩
theorem href6 : HRef6 pr xt F0 := ⟨has46, has47, has48, has49, has50⟩
theorem hpred : HPred pr xt F0 := ⟨hschm, has65, has66, has67, has68, has69⟩
theorem hmodl : HModl pr xt F0 := ⟨haggr, hpred, x45, has70, has71, has72, has73, has74, has75, has76, has77, has78, has79, has80, has81, has82⟩
theorem hpredl : HPredL pr xt F0 := ⟨hlaw6, has99⟩
theorem hlaw15 : HLaw15 pr xt F0 := ⟨hpredl, has97⟩
theorem hprog : HProg pr xt F0 := ⟨hlaw15, has98⟩
theorem hfits : HFits pr xt F0 := ⟨has88, has91⟩
theorem hlaw : HKeys pr xt F0 := ⟨hmodl, hprog, href6, hfits, hawake, has101⟩
theorem mixed : Try.prog.follows .mixedOrders = true := by kernel_rfl
theorem xt_ok {env : Env} : CallOk Try.prog env xt := orX_ok (constX_ok mixed (valid []) (extBy_rises _) (extBy_ok extsOk) rfl intsOk (n := 1000000) fun f hf => by
  rcases List.mem_cons.1 hf with rfl | hf
  · exact ⟨by kernel_rfl, awakeR⟩
  · cases hf) (extBy_ok extsOk)
theorem xt_rises : Rises xt := orX_rises (constX_rises _) (extBy_rises _)
end Go.Proofs.Ytnbmmnjihipahaa.sa
end
