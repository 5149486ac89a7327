/-
  Texts that the claim's last one rests on, joined.
-/
import Derived.Test.YtnbmmnjihipahaaBModlKeysf

section
namespace Go.Lib
open Go.Vm Go.Dv
set_option maxRecDepth 100000
abbrev K32 (F : Nat → Nat) : KC := .seq (.region [⟨some 4,.a (.box (.tmp 1)),none⟩,⟨some 6,.p (.mov (.val (.nilslice))),none⟩,⟨some 7,.p (.mov (.val (.bool false))),none⟩] [4] [0,2,4])
 (.seq (.seq (.region [⟨some 16,.load1 (.tmp 4),none⟩,⟨some 17,.p (.bin .lss (.tmp 16) (.val (.int .i64 (.ofNat 0)))),none⟩] [] [0,2,4,17])
 (.cond (.tmp 17) (.seq (.region [⟨some 19,.p (.mov (.tmp 0)),none⟩,⟨some 20,.p (.mov (.tmp 2)),none⟩,⟨some 21,.e (.call (F 36) [(.val (.nilslice)),(.tmp 19),(.tmp 20)]),none⟩,⟨some 18,.p (.mov (.tmp 21)),none⟩,⟨some 22,.p (.ext (.tmp 18) 0),none⟩,⟨some 23,.p (.ext (.tmp 18) 1),none⟩,⟨some 8,.p (.mov (.tmp 22)),none⟩,⟨some 9,.p (.mov (.tmp 23)),none⟩] [] [8,9])
 (.seq (.seq (.region [⟨some 24,.p (.mov (.tmp 9)),none⟩,⟨some 25,.p (.not (.tmp 24)),none⟩] [] [8,25])
 (.cond (.tmp 25) (.seq (.region [⟨some 6,.p (.mov (.val (.nilslice))),none⟩,⟨some 7,.p (.mov (.val (.bool false))),none⟩] [] [6,7])
 (.ret))
 (.skip)))
 (.seq (.region [⟨some 26,.p (.mov (.tmp 8)),none⟩,⟨some 27,.a (.bslice [.nilslice] 1 1 [(0,1,(.tmp 26))]),none⟩,⟨some 6,.p (.mov (.tmp 27)),none⟩,⟨some 7,.p (.mov (.val (.bool true))),none⟩] [27] [6,7])
 (.ret))))
 (.skip)))
 (.seq (.region [⟨some 28,.p (.mov (.tmp 0)),none⟩,⟨some 29,.e (.call (F 37) [(.tmp 28)]),none⟩,⟨some 10,.p (.mov (.tmp 29)),none⟩] [] [2,4,10])
 (.seq (.region [⟨some 30,.p (.mov (.tmp 10)),none⟩,⟨some 31,.p (.mkfunc (F 38) [] [(.tmp 4)]),none⟩,⟨some 32,.e (.call (F 26) [(.tmp 30),(.tmp 31)]),none⟩] [] [2,4,10])
 (.seq (.region [⟨some 11,.p (.mov (.val (.nilslice))),none⟩] [] [2,4,10,11])
 (.seq (.block 0 (.loop (.seq (.seq (.region [⟨some 33,.p (.mov (.tmp 10)),none⟩,⟨some 34,.p (.lenb (.tmp 33)),none⟩,⟨some 35,.p (.bin .gtr (.tmp 34) (.val (.int .i64 (.ofNat 0)))),none⟩] [] [2,4,10,11,35])
 (.cond (.tmp 35) (.skip)
 (.exit 0)))
 (.block 1 (.seq (.dregion [⟨⟨some 36,.p (.mov (.tmp 10)),none⟩,0,4⟩,⟨⟨some 37,.p (.iaddr 1 (.tmp 36) (.val (.int .i64 (.ofNat 0)))),none⟩,0,4⟩,⟨⟨some 38,.load1 (.tmp 37),none⟩,0,4⟩,⟨⟨some 39,.load1 (.tmp 4),none⟩,0,4⟩,⟨⟨some 40,.e (.call (F 3) [(.tmp 38),(.tmp 39)]),none⟩,0,6⟩,⟨⟨some 12,.a (.new [.bool false,.int .i64 (.ofNat 0),.int .i64 (.ofNat 0),.nilslice]),none⟩,0,6⟩,⟨⟨none,.e (.store 4 (.tmp 12) (.tmp 40)),none⟩,5,7⟩] [2,4,10,11,12])
 (.seq (.region [⟨some 13,.p (.mov (.val (.int .i64 (.ofNat 1)))),none⟩] [] [2,4,10,11,12,13])
 (.seq (.block 2 (.loop (.seq (.seq (.dregion [⟨⟨some 41,.p (.mov (.tmp 13)),none⟩,0,10⟩,⟨⟨some 42,.p (.mov (.tmp 10)),none⟩,0,10⟩,⟨⟨some 43,.p (.lenb (.tmp 42)),none⟩,0,10⟩,⟨⟨some 44,.p (.bin .lss (.tmp 41) (.tmp 43)),none⟩,0,10⟩,⟨⟨some 45,.p (.mov (.tmp 44)),none⟩,0,10⟩,⟨⟨some 46,.p (.mov (.tmp 10)),(some (45,true))⟩,0,10⟩,⟨⟨some 47,.p (.mov (.tmp 13)),(some (45,true))⟩,0,10⟩,⟨⟨some 48,.p (.iaddr 1 (.tmp 46) (.tmp 47)),(some (45,true))⟩,0,10⟩,⟨⟨some 49,.load1 (.tmp 48),(some (45,true))⟩,0,10⟩,⟨⟨some 50,.load1 (.tmp 4),(some (45,true))⟩,0,10⟩,⟨⟨some 51,.e (.call (F 3) [(.tmp 49),(.tmp 50)]),(some (45,true))⟩,0,12⟩,⟨⟨some 52,.loadn 4 (.tmp 12),(some (45,true))⟩,0,12⟩,⟨⟨some 53,.e (.call (F 1) [(.tmp 51),(.tmp 52)]),(some (45,true))⟩,11,15⟩,⟨⟨some 54,.p (.bin .eql (.tmp 53) (.val (.int .i64 (.ofNat 0)))),(some (45,true))⟩,13,15⟩,⟨⟨some 55,.p (.pick (.tmp 45) (.tmp 54) (.val (.bool false))),none⟩,13,15⟩] [2,4,10,11,12,13,55])
 (.cond (.tmp 55) (.skip)
 (.exit 2)))
 (.block 3 (.region [⟨some 56,.p (.mov (.tmp 13)),none⟩,⟨some 57,.p (.bin .add (.tmp 56) (.val (.int .i64 (.ofNat 1)))),none⟩,⟨some 13,.p (.mov (.tmp 57)),none⟩] [] [2,4,10,11,12,13])))))
 (.seq (.dregion [⟨⟨some 59,.loadn 4 (.tmp 12),none⟩,0,6⟩,⟨⟨some 60,.a (.bslice [.bool false,.int .i64 (.ofNat 0),.int .i64 (.ofNat 0),.nilslice] 4 1 [(0,4,(.tmp 59))]),none⟩,0,6⟩,⟨⟨some 61,.p (.mov (.tmp 10)),none⟩,0,6⟩,⟨⟨some 62,.p (.mov (.tmp 13)),none⟩,0,6⟩,⟨⟨some 63,.p (.slc 1 (.tmp 61) none (some (.tmp 62)) none),none⟩,0,6⟩,⟨⟨some 64,.p (.mov (.tmp 2)),none⟩,0,6⟩,⟨⟨some 65,.e (.call (F 36) [(.tmp 60),(.tmp 63),(.tmp 64)]),none⟩,0,12⟩,⟨⟨some 58,.p (.mov (.tmp 65)),none⟩,7,12⟩,⟨⟨some 66,.p (.ext (.tmp 58) 0),none⟩,7,12⟩,⟨⟨some 67,.p (.ext (.tmp 58) 1),none⟩,7,12⟩,⟨⟨some 14,.p (.mov (.tmp 66)),none⟩,7,12⟩,⟨⟨some 15,.p (.mov (.tmp 67)),none⟩,7,12⟩] [2,4,10,11,13,14,15])
 (.seq (.seq (.region [⟨some 68,.p (.mov (.tmp 15)),none⟩,⟨some 69,.p (.not (.tmp 68)),none⟩] [] [2,4,10,11,13,14,69])
 (.cond (.tmp 69) (.seq (.region [⟨some 6,.p (.mov (.val (.nilslice))),none⟩,⟨some 7,.p (.mov (.val (.bool false))),none⟩] [] [6,7])
 (.ret))
 (.skip)))
 (.seq (.region [⟨some 70,.p (.mov (.tmp 11)),none⟩,⟨some 71,.p (.mov (.tmp 14)),none⟩,⟨some 72,.a (.bslice [.nilslice] 1 1 [(0,1,(.tmp 71))]),none⟩,⟨some 73,.e (.append 1 24 (.tmp 70) (.tmp 72)),none⟩,⟨some 11,.p (.mov (.tmp 73)),none⟩] [72] [2,4,10,11,13])
 (.region [⟨some 74,.p (.mov (.tmp 10)),none⟩,⟨some 75,.p (.mov (.tmp 13)),none⟩,⟨some 76,.p (.slc 1 (.tmp 74) (some (.tmp 75)) none none),none⟩,⟨some 10,.p (.mov (.tmp 76)),none⟩] [] [2,4,10,11])))))))))))
 (.seq (.region [⟨some 77,.p (.mov (.tmp 11)),none⟩,⟨some 78,.e (.call (F 39) [(.tmp 77)]),none⟩,⟨some 6,.p (.mov (.tmp 78)),none⟩,⟨some 7,.p (.mov (.val (.bool true))),none⟩] [] [6,7])
 (.ret)))))))
def M32 (F : Nat → Nat) : Fun := ⟨79,3,(K32 F).erase,[.tmp 6,.tmp 7]⟩
theorem ok32 {F : Nat → Nat} : (K32 F).ok = true := rfl
abbrev K33 (F : Nat → Nat) : KC := .seq (.region [⟨some 2,.p (.mov (.val (.nilslice))),none⟩] [] [0])
 (.seq (.region [⟨some 4,.p (.mov (.tmp 0)),none⟩,⟨some 5,.e (.call (F 37) [(.tmp 4)]),none⟩,⟨some 3,.p (.mov (.tmp 5)),none⟩] [] [3])
 (.seq (.region [⟨some 6,.p (.mov (.tmp 3)),none⟩,⟨some 7,.e (.call (F 26) [(.tmp 6),(.val (.func (F 2) [] []))]),none⟩] [] [3])
 (.seq (.region [⟨some 8,.p (.mov (.tmp 3)),none⟩,⟨some 2,.p (.mov (.tmp 8)),none⟩] [] [2])
 (.ret))))
def M33 (F : Nat → Nat) : Fun := ⟨9,1,(K33 F).erase,[.tmp 2]⟩
theorem ok33 {F : Nat → Nat} : (K33 F).ok = true := rfl
abbrev K34 (F : Nat → Nat) : KC := .seq (.region [⟨some 4,.p (.mov (.val (.nilslice))),none⟩] [] [0,1])
 (.seq (.region [⟨some 5,.p (.mov (.val (.nilslice))),none⟩] [] [0,1,5])
 (.seq (.seq (.region [⟨some 11,.p (.mov (.tmp 0)),none⟩,⟨some 12,.p (.lenb (.tmp 11)),none⟩,⟨some 13,.p (.mov (.val (.int .i64 (.ofNat 0)))),none⟩] [] [1,5,11,12,13])
 (.block 0 (.loop (.seq (.region [⟨some 14,.p (.bin .lss (.tmp 13) (.tmp 12)),none⟩] [] [1,5,11,12,13,14])
 (.seq (.cond (.tmp 14) (.skip)
 (.exit 0))
 (.seq (.block 1 (.seq (.region [⟨some 15,.p (.iaddr 1 (.tmp 11) (.tmp 13)),none⟩,⟨some 16,.load1 (.tmp 15),none⟩,⟨some 7,.p (.mov (.tmp 16)),none⟩] [] [1,5,7,11,12,13])
 (.seq (.region [⟨some 8,.p (.mov (.val (.nilslice))),none⟩] [] [1,5,7,8,11,12,13])
 (.seq (.seq (.region [⟨some 17,.p (.mov (.tmp 1)),none⟩,⟨some 18,.p (.lenb (.tmp 17)),none⟩,⟨some 19,.p (.mov (.val (.int .i64 (.ofNat 0)))),none⟩] [] [1,5,7,8,11,12,13,17,18,19])
 (.block 2 (.loop (.seq (.region [⟨some 20,.p (.bin .lss (.tmp 19) (.tmp 18)),none⟩] [] [1,5,7,8,11,12,13,17,18,19,20])
 (.seq (.cond (.tmp 20) (.skip)
 (.exit 2))
 (.seq (.block 3 (.seq (.region [⟨some 21,.p (.iaddr 1 (.tmp 17) (.tmp 19)),none⟩,⟨some 22,.load1 (.tmp 21),none⟩,⟨some 10,.p (.mov (.tmp 22)),none⟩] [] [1,5,7,8,10,11,12,13,17,18,19])
 (.region [⟨some 23,.p (.mov (.tmp 8)),none⟩,⟨some 24,.p (.mov (.tmp 7)),none⟩,⟨some 25,.p (.mov (.tmp 10)),none⟩,⟨some 26,.e (.call (F 3) [(.tmp 24),(.tmp 25)]),none⟩,⟨some 27,.a (.bslice [.bool false,.int .i64 (.ofNat 0),.int .i64 (.ofNat 0),.nilslice] 4 1 [(0,4,(.tmp 26))]),none⟩,⟨some 28,.e (.append 4 48 (.tmp 23) (.tmp 27)),none⟩,⟨some 8,.p (.mov (.tmp 28)),none⟩] [27] [1,5,7,8,11,12,13,17,18,19])))
 (.region [⟨some 29,.p (.bin .add (.tmp 19) (.val (.int .i64 (.ofNat 1)))),none⟩,⟨some 19,.p (.mov (.tmp 29)),none⟩] [] [1,5,7,8,11,12,13,17,18,19])))))))
 (.region [⟨some 30,.p (.mov (.tmp 5)),none⟩,⟨some 31,.p (.mov (.tmp 8)),none⟩,⟨some 32,.a (.bslice [.nilslice] 1 1 [(0,1,(.tmp 31))]),none⟩,⟨some 33,.e (.append 1 24 (.tmp 30) (.tmp 32)),none⟩,⟨some 5,.p (.mov (.tmp 33)),none⟩] [32] [1,5,11,12,13])))))
 (.region [⟨some 34,.p (.bin .add (.tmp 13) (.val (.int .i64 (.ofNat 1)))),none⟩,⟨some 13,.p (.mov (.tmp 34)),none⟩] [] [1,5,11,12,13])))))))
 (.seq (.region [⟨some 35,.p (.mov (.tmp 5)),none⟩,⟨some 36,.e (.call (F 33) [(.tmp 35)]),none⟩,⟨some 4,.p (.mov (.tmp 36)),none⟩] [] [4])
 (.ret))))
def M34 (F : Nat → Nat) : Fun := ⟨37,2,(K34 F).erase,[.tmp 4]⟩
theorem ok34 {F : Nat → Nat} : (K34 F).ok = true := rfl
abbrev K35 (F : Nat → Nat) : KC := .seq (.region [⟨some 4,.p (.mov (.val (.nilslice))),none⟩,⟨some 5,.p (.mov (.val (.bool false))),none⟩] [] [0,1])
 (.seq (.region [⟨some 12,.p (.mov (.tmp 0)),none⟩,⟨some 13,.e (.call (F 4) [(.tmp 12)]),none⟩,⟨some 6,.p (.mov (.tmp 13)),none⟩] [] [1,6])
 (.seq (.seq (.region [⟨some 14,.p (.mov (.tmp 1)),none⟩,⟨some 15,.p (.lenb (.tmp 14)),none⟩,⟨some 16,.p (.mov (.val (.int .i64 (.ofNat 0)))),none⟩] [] [6,14,15,16])
 (.block 0 (.loop (.seq (.region [⟨some 17,.p (.bin .lss (.tmp 16) (.tmp 15)),none⟩] [] [6,14,15,16,17])
 (.seq (.cond (.tmp 17) (.skip)
 (.exit 0))
 (.seq (.block 1 (.seq (.region [⟨some 18,.p (.iaddr 6 (.tmp 14) (.tmp 16)),none⟩,⟨some 19,.loadn 6 (.tmp 18),none⟩,⟨some 8,.a (.new [.int .i64 (.ofNat 0),.bool false,.bool false,.int .i64 (.ofNat 0),.int .i64 (.ofNat 0),.nilslice]),none⟩,⟨none,.e (.store 6 (.tmp 8) (.tmp 19)),none⟩] [] [6,8,14,15,16])
 (.seq (.seq (.region [⟨some 20,.p (.faddr 0 (.tmp 8)),none⟩,⟨some 21,.load1 (.tmp 20),none⟩,⟨some 22,.p (.bin .lss (.tmp 21) (.val (.int .i64 (.ofNat 0)))),none⟩,⟨some 23,.p (.mov (.tmp 22)),none⟩,⟨some 24,.p (.faddr 0 (.tmp 8)),(some (23,false))⟩,⟨some 25,.load1 (.tmp 24),(some (23,false))⟩,⟨some 26,.p (.mov (.tmp 6)),(some (23,false))⟩,⟨some 27,.p (.lenb (.tmp 26)),(some (23,false))⟩,⟨some 28,.p (.bin .geq (.tmp 25) (.tmp 27)),(some (23,false))⟩,⟨some 29,.p (.pick (.tmp 23) (.val (.bool true)) (.tmp 28)),none⟩] [] [6,8,14,15,16,29])
 (.cond (.tmp 29) (.exit 1)
 (.skip)))
 (.seq (.region [⟨some 30,.p (.mov (.tmp 6)),none⟩,⟨some 31,.p (.faddr 0 (.tmp 8)),none⟩,⟨some 32,.load1 (.tmp 31),none⟩,⟨some 33,.p (.iaddr 4 (.tmp 30) (.tmp 32)),none⟩,⟨some 9,.p (.mov (.tmp 33)),none⟩] [] [6,8,9,14,15,16])
 (.block 2 (.seq (.region [⟨some 35,.p (.faddr 1 (.tmp 8)),none⟩,⟨some 36,.load1 (.tmp 35),none⟩,⟨some 37,.p (.not (.tmp 36)),none⟩,⟨some 34,.p (.mov (.tmp 37)),none⟩] [] [6,8,9,14,15,16,34])
 (.cond (.tmp 34) (.region [⟨some 38,.p (.mov (.tmp 9)),none⟩,⟨some 39,.p (.faddr 2 (.tmp 8)),none⟩,⟨some 40,.loadn 4 (.tmp 39),none⟩,⟨some 41,.e (.call (F 5) [(.tmp 40)]),none⟩,⟨some 42,.p (.nilchk (.tmp 38)),none⟩,⟨none,.e (.store 4 (.tmp 42) (.tmp 41)),none⟩] [] [6,14,15,16])
 (.seq (.region [⟨some 44,.p (.mov (.tmp 9)),none⟩,⟨some 45,.p (.nilchk (.tmp 44)),none⟩,⟨some 46,.p (.faddr 0 (.tmp 45)),none⟩,⟨some 47,.load1 (.tmp 46),none⟩,⟨some 48,.p (.not (.tmp 47)),none⟩,⟨some 43,.p (.mov (.tmp 48)),none⟩] [] [6,8,9,14,15,16,43])
 (.cond (.tmp 43) (.seq (.dregion [⟨⟨some 50,.p (.mov (.tmp 9)),none⟩,0,7⟩,⟨⟨some 51,.p (.nilchk (.tmp 50)),none⟩,0,7⟩,⟨⟨some 52,.p (.faddr 2 (.tmp 51)),none⟩,0,7⟩,⟨⟨some 53,.load1 (.tmp 52),none⟩,0,7⟩,⟨⟨some 54,.p (.faddr 2 (.tmp 8)),none⟩,0,7⟩,⟨⟨some 55,.p (.faddr 2 (.tmp 54)),none⟩,0,7⟩,⟨⟨some 56,.load1 (.tmp 55),none⟩,0,7⟩,⟨⟨some 57,.e (.call (F 40) [(.tmp 53),(.tmp 56)]),none⟩,0,13⟩,⟨⟨some 49,.p (.mov (.tmp 57)),none⟩,8,13⟩,⟨⟨some 58,.p (.ext (.tmp 49) 0),none⟩,8,13⟩,⟨⟨some 59,.p (.ext (.tmp 49) 1),none⟩,8,13⟩,⟨⟨some 10,.p (.mov (.tmp 58)),none⟩,8,13⟩,⟨⟨some 11,.p (.mov (.tmp 59)),none⟩,8,13⟩] [6,9,10,11,14,15,16])
 (.seq (.seq (.region [⟨some 60,.p (.mov (.tmp 11)),none⟩,⟨some 61,.p (.not (.tmp 60)),none⟩] [] [6,9,10,14,15,16,61])
 (.cond (.tmp 61) (.seq (.region [⟨some 4,.p (.mov (.val (.nilslice))),none⟩,⟨some 5,.p (.mov (.val (.bool false))),none⟩] [] [4,5])
 (.ret))
 (.skip)))
 (.region [⟨some 62,.p (.mov (.tmp 9)),none⟩,⟨some 63,.p (.mov (.tmp 10)),none⟩,⟨some 64,.p (.nilchk (.tmp 62)),none⟩,⟨some 65,.p (.faddr 2 (.tmp 64)),none⟩,⟨none,.e (.store 1 (.tmp 65) (.tmp 63)),none⟩] [] [6,14,15,16])))
 (.skip))))))))))
 (.region [⟨some 66,.p (.bin .add (.tmp 16) (.val (.int .i64 (.ofNat 1)))),none⟩,⟨some 16,.p (.mov (.tmp 66)),none⟩] [] [6,14,15,16])))))))
 (.seq (.region [⟨some 67,.p (.mov (.tmp 6)),none⟩,⟨some 4,.p (.mov (.tmp 67)),none⟩,⟨some 5,.p (.mov (.val (.bool true))),none⟩] [] [4,5])
 (.ret))))
def M35 (F : Nat → Nat) : Fun := ⟨68,2,(K35 F).erase,[.tmp 4,.tmp 5]⟩
theorem ok35 {F : Nat → Nat} : (K35 F).ok = true := rfl
abbrev K36 (F : Nat → Nat) : KC := .seq (.region [⟨some 6,.p (.mov (.val (.nilslice))),none⟩,⟨some 7,.p (.mov (.val (.bool false))),none⟩] [] [0,1,2])
 (.seq (.region [⟨some 13,.p (.mov (.tmp 0)),none⟩,⟨some 8,.p (.mov (.tmp 13)),none⟩] [] [1,2,8])
 (.seq (.seq (.region [⟨some 14,.p (.mov (.tmp 2)),none⟩,⟨some 15,.p (.lenb (.tmp 14)),none⟩,⟨some 16,.p (.mov (.val (.int .i64 (.ofNat 0)))),none⟩] [] [1,8,14,15,16])
 (.block 0 (.loop (.seq (.region [⟨some 17,.p (.bin .lss (.tmp 16) (.tmp 15)),none⟩] [] [1,8,14,15,16,17])
 (.seq (.cond (.tmp 17) (.skip)
 (.exit 0))
 (.seq (.block 1 (.seq (.region [⟨some 18,.p (.iaddr 2 (.tmp 14) (.tmp 16)),none⟩,⟨some 19,.loadn 2 (.tmp 18),none⟩,⟨some 10,.a (.new [.int .i64 (.ofNat 0),.int .i64 (.ofNat 0)]),none⟩,⟨none,.e (.store 2 (.tmp 10) (.tmp 19)),none⟩] [] [1,8,10,14,15,16])
 (.seq (.region [⟨some 21,.p (.mov (.tmp 1)),none⟩,⟨some 22,.loadn 2 (.tmp 10),none⟩,⟨some 23,.e (.call (F 41) [(.tmp 21),(.tmp 22)]),none⟩,⟨some 20,.p (.mov (.tmp 23)),none⟩,⟨some 24,.p (.ext (.tmp 20) 0),none⟩,⟨some 25,.p (.ext (.tmp 20) 1),none⟩,⟨some 11,.a (.new [.bool false,.int .i64 (.ofNat 0),.int .i64 (.ofNat 0),.nilslice]),none⟩,⟨none,.e (.store 4 (.tmp 11) (.tmp 24)),none⟩,⟨some 12,.p (.mov (.tmp 25)),none⟩] [] [1,8,11,12,14,15,16])
 (.seq (.seq (.region [⟨some 26,.p (.mov (.tmp 12)),none⟩,⟨some 27,.p (.not (.tmp 26)),none⟩] [] [1,8,11,14,15,16,27])
 (.cond (.tmp 27) (.seq (.region [⟨some 6,.p (.mov (.val (.nilslice))),none⟩,⟨some 7,.p (.mov (.val (.bool false))),none⟩] [] [6,7])
 (.ret))
 (.skip)))
 (.region [⟨some 28,.p (.mov (.tmp 8)),none⟩,⟨some 29,.loadn 4 (.tmp 11),none⟩,⟨some 30,.a (.bslice [.bool false,.int .i64 (.ofNat 0),.int .i64 (.ofNat 0),.nilslice] 4 1 [(0,4,(.tmp 29))]),none⟩,⟨some 31,.e (.append 4 48 (.tmp 28) (.tmp 30)),none⟩,⟨some 8,.p (.mov (.tmp 31)),none⟩] [30] [1,8,14,15,16])))))
 (.region [⟨some 32,.p (.bin .add (.tmp 16) (.val (.int .i64 (.ofNat 1)))),none⟩,⟨some 16,.p (.mov (.tmp 32)),none⟩] [] [1,8,14,15,16])))))))
 (.seq (.region [⟨some 33,.p (.mov (.tmp 8)),none⟩,⟨some 34,.e (.call (F 13) [(.tmp 33)]),none⟩,⟨some 6,.p (.mov (.tmp 34)),none⟩,⟨some 7,.p (.mov (.val (.bool true))),none⟩] [] [6,7])
 (.ret))))
def M36 (F : Nat → Nat) : Fun := ⟨35,3,(K36 F).erase,[.tmp 6,.tmp 7]⟩
theorem ok36 {F : Nat → Nat} : (K36 F).ok = true := rfl
abbrev K37 (F : Nat → Nat) : KC := .seq (.region [⟨some 2,.p (.mov (.val (.nilslice))),none⟩] [] [0])
 (.seq (.region [⟨some 3,.p (.mov (.val (.nilslice))),none⟩] [] [0,3])
 (.seq (.seq (.region [⟨some 6,.p (.mov (.tmp 0)),none⟩,⟨some 7,.p (.lenb (.tmp 6)),none⟩,⟨some 8,.p (.mov (.val (.int .i64 (.ofNat 0)))),none⟩] [] [3,6,7,8])
 (.block 0 (.loop (.seq (.region [⟨some 9,.p (.bin .lss (.tmp 8) (.tmp 7)),none⟩] [] [3,6,7,8,9])
 (.seq (.cond (.tmp 9) (.skip)
 (.exit 0))
 (.seq (.block 1 (.seq (.region [⟨some 10,.p (.iaddr 1 (.tmp 6) (.tmp 8)),none⟩,⟨some 11,.load1 (.tmp 10),none⟩,⟨some 5,.p (.mov (.tmp 11)),none⟩] [] [3,5,6,7,8])
 (.region [⟨some 12,.p (.mov (.tmp 3)),none⟩,⟨some 13,.p (.mov (.tmp 5)),none⟩,⟨some 14,.e (.call (F 4) [(.tmp 13)]),none⟩,⟨some 15,.a (.bslice [.nilslice] 1 1 [(0,1,(.tmp 14))]),none⟩,⟨some 16,.e (.append 1 24 (.tmp 12) (.tmp 15)),none⟩,⟨some 3,.p (.mov (.tmp 16)),none⟩] [15] [3,6,7,8])))
 (.region [⟨some 17,.p (.bin .add (.tmp 8) (.val (.int .i64 (.ofNat 1)))),none⟩,⟨some 8,.p (.mov (.tmp 17)),none⟩] [] [3,6,7,8])))))))
 (.seq (.region [⟨some 18,.p (.mov (.tmp 3)),none⟩,⟨some 19,.e (.call (F 39) [(.tmp 18)]),none⟩,⟨some 2,.p (.mov (.tmp 19)),none⟩] [] [2])
 (.ret))))
def M37 (F : Nat → Nat) : Fun := ⟨20,1,(K37 F).erase,[.tmp 2]⟩
theorem ok37 {F : Nat → Nat} : (K37 F).ok = true := rfl
abbrev K38 (F : Nat → Nat) : KC := .seq (.region [⟨some 5,.p (.mov (.val (.int .i64 (.ofNat 0)))),none⟩] [] [0,1,2])
 (.seq (.dregion [⟨⟨some 6,.p (.mov (.tmp 0)),none⟩,0,2⟩,⟨⟨some 7,.load1 (.tmp 2),none⟩,0,2⟩,⟨⟨some 8,.e (.call (F 3) [(.tmp 6),(.tmp 7)]),none⟩,0,5⟩,⟨⟨some 9,.p (.mov (.tmp 1)),none⟩,0,5⟩,⟨⟨some 10,.load1 (.tmp 2),none⟩,0,5⟩,⟨⟨some 11,.e (.call (F 3) [(.tmp 9),(.tmp 10)]),none⟩,3,6⟩,⟨⟨some 12,.e (.call (F 1) [(.tmp 8),(.tmp 11)]),none⟩,6,8⟩,⟨⟨some 5,.p (.mov (.tmp 12)),none⟩,7,8⟩] [5])
 (.ret))
def M38 (F : Nat → Nat) : Fun := ⟨13,3,(K38 F).erase,[.tmp 5]⟩
theorem ok38 {F : Nat → Nat} : (K38 F).ok = true := rfl
abbrev K39 (_F : Nat → Nat) : KC := .seq (.region [⟨some 2,.p (.mov (.val (.nilslice))),none⟩] [] [0])
 (.seq (.region [⟨some 3,.p (.mov (.tmp 0)),none⟩,⟨some 4,.p (.mov (.tmp 0)),none⟩,⟨some 5,.p (.lenb (.tmp 4)),none⟩,⟨some 6,.p (.mov (.tmp 0)),none⟩,⟨some 7,.p (.lenb (.tmp 6)),none⟩,⟨some 8,.p (.slc 1 (.tmp 3) none (some (.tmp 5)) (some (.tmp 7))),none⟩,⟨some 2,.p (.mov (.tmp 8)),none⟩] [] [2])
 (.ret))
def M39 (F : Nat → Nat) : Fun := ⟨9,1,(K39 F).erase,[.tmp 2]⟩
theorem ok39 {F : Nat → Nat} : (K39 F).ok = true := rfl
abbrev K40 (F : Nat → Nat) : KC := .seq (.region [⟨some 4,.p (.mov (.val (.int .i64 (.ofNat 0)))),none⟩,⟨some 5,.p (.mov (.val (.bool false))),none⟩] [] [0,1])
 (.seq (.region [⟨some 6,.a (.new [.int .i64 (.ofNat 0),.int .u64 (.ofNat 0)]),none⟩] [] [0,1,6])
 (.seq (.region [⟨some 7,.p (.mov (.tmp 0)),none⟩,⟨some 8,.e (.call (F 42) [(.tmp 6),(.tmp 7)]),none⟩] [] [1,6])
 (.seq (.region [⟨some 9,.p (.mov (.tmp 1)),none⟩,⟨some 10,.e (.call (F 42) [(.tmp 6),(.tmp 9)]),none⟩] [] [6])
 (.seq (.dregion [⟨⟨some 11,.p (.faddr 1 (.tmp 6)),none⟩,0,12⟩,⟨⟨some 12,.load1 (.tmp 11),none⟩,0,12⟩,⟨⟨some 13,.p (.conv (.int .i64) (.tmp 12)),none⟩,0,12⟩,⟨⟨some 14,.p (.faddr 0 (.tmp 6)),none⟩,0,12⟩,⟨⟨some 15,.load1 (.tmp 14),none⟩,0,12⟩,⟨⟨some 16,.p (.faddr 1 (.tmp 6)),none⟩,0,12⟩,⟨⟨some 17,.load1 (.tmp 16),none⟩,0,12⟩,⟨⟨some 18,.p (.conv (.int .i64) (.tmp 17)),none⟩,0,12⟩,⟨⟨some 19,.p (.bin .shr (.tmp 18) (.val (.int .u64 (.ofNat 63)))),none⟩,0,12⟩,⟨⟨some 20,.p (.bin .eql (.tmp 15) (.tmp 19)),none⟩,0,12⟩,⟨⟨some 4,.p (.mov (.tmp 13)),none⟩,0,12⟩,⟨⟨some 5,.p (.mov (.tmp 20)),none⟩,0,12⟩] [4,5])
 (.ret)))))
def M40 (F : Nat → Nat) : Fun := ⟨21,2,(K40 F).erase,[.tmp 4,.tmp 5]⟩
theorem ok40 {F : Nat → Nat} : (K40 F).ok = true := rfl
abbrev K41 (F : Nat → Nat) : KC := .seq (.region [⟨some 3,.a (.box (.tmp 1)),none⟩,⟨some 4,.a (.new [.bool false,.int .i64 (.ofNat 0),.int .i64 (.ofNat 0),.nilslice]),none⟩,⟨some 5,.p (.mov (.val (.bool false))),none⟩] [3] [0,3,4])
 (.seq (.seq (.region [⟨some 6,.p (.faddr 0 (.tmp 3)),none⟩,⟨some 7,.load1 (.tmp 6),none⟩] [] [0,3,4,7])
 (.block 0 (.seq (.region [⟨some 9,.p (.bin .eql (.tmp 7) (.val (.int .i64 (.ofNat 1)))),none⟩,⟨some 8,.p (.mov (.tmp 9)),none⟩] [] [0,3,4,7,8])
 (.cond (.tmp 8) (.seq (.region [⟨some 10,.p (.mov (.tmp 0)),none⟩,⟨some 11,.p (.lenb (.tmp 10)),none⟩,⟨some 12,.p (.build [.bool false,.int .i64 (.ofNat 0),.int .i64 (.ofNat 0),.nilslice] [(1,1,(.val (.int .i64 (.ofNat 1)))),(2,1,(.tmp 11))]),none⟩,⟨none,.e (.store 4 (.tmp 4) (.tmp 12)),none⟩,⟨some 5,.p (.mov (.val (.bool true))),none⟩] [] [4,5])
 (.ret))
 (.seq (.region [⟨some 14,.p (.bin .eql (.tmp 7) (.val (.int .i64 (.ofNat 2)))),none⟩,⟨some 13,.p (.mov (.tmp 14)),none⟩] [] [0,3,4,7,13])
 (.cond (.tmp 13) (.seq (.region [⟨some 15,.p (.mov (.tmp 0)),none⟩,⟨some 16,.p (.faddr 1 (.tmp 3)),none⟩,⟨some 17,.load1 (.tmp 16),none⟩,⟨some 18,.e (.call (F 43) [(.tmp 15),(.tmp 17)]),none⟩,⟨some 19,.p (.ext (.tmp 18) 0),none⟩,⟨some 20,.p (.ext (.tmp 18) 1),none⟩,⟨none,.e (.store 4 (.tmp 4) (.tmp 19)),none⟩,⟨some 5,.p (.mov (.tmp 20)),none⟩] [] [4,5])
 (.ret))
 (.seq (.region [⟨some 22,.p (.bin .eql (.tmp 7) (.val (.int .i64 (.ofNat 3)))),none⟩,⟨some 21,.p (.mov (.tmp 22)),none⟩] [] [0,3,4,21])
 (.cond (.tmp 21) (.seq (.region [⟨some 23,.p (.mov (.tmp 0)),none⟩,⟨some 24,.p (.faddr 1 (.tmp 3)),none⟩,⟨some 25,.load1 (.tmp 24),none⟩,⟨some 26,.e (.call (F 44) [(.tmp 23),(.tmp 25),(.val (.int .i64 (.negSucc 0)))]),none⟩,⟨none,.e (.store 4 (.tmp 4) (.tmp 26)),none⟩,⟨some 5,.p (.mov (.val (.bool true))),none⟩] [] [4,5])
 (.ret))
 (.skip)))))))))
 (.seq (.region [⟨some 27,.p (.mov (.tmp 0)),none⟩,⟨some 28,.p (.faddr 1 (.tmp 3)),none⟩,⟨some 29,.load1 (.tmp 28),none⟩,⟨some 30,.e (.call (F 44) [(.tmp 27),(.tmp 29),(.val (.int .i64 (.ofNat 1)))]),none⟩,⟨none,.e (.store 4 (.tmp 4) (.tmp 30)),none⟩,⟨some 5,.p (.mov (.val (.bool true))),none⟩] [] [4,5])
 (.ret)))
def M41 (F : Nat → Nat) : Fun := ⟨31,2,(K41 F).erase,[.celln 4 4,.tmp 5]⟩
theorem ok41 {F : Nat → Nat} : (K41 F).ok = true := rfl
abbrev K42 (F : Nat → Nat) : KC := .seq (.region [⟨some 7,.p (.mov (.tmp 0)),none⟩,⟨some 8,.p (.nilchk (.tmp 7)),none⟩,⟨some 9,.p (.faddr 1 (.tmp 8)),none⟩,⟨some 10,.load1 (.tmp 9),none⟩,⟨some 11,.p (.mov (.tmp 1)),none⟩,⟨some 12,.p (.conv (.int .u64) (.tmp 11)),none⟩,⟨some 13,.e (.extern (F 45) [(.tmp 10),(.tmp 12),(.val (.int .u64 (.ofNat 0)))]),none⟩,⟨some 6,.p (.mov (.tmp 13)),none⟩,⟨some 14,.p (.ext (.tmp 6) 0),none⟩,⟨some 15,.p (.ext (.tmp 6) 1),none⟩,⟨some 4,.p (.mov (.tmp 14)),none⟩,⟨some 5,.p (.mov (.tmp 15)),none⟩] [] [0,1,4,5])
 (.seq (.region [⟨some 16,.p (.mov (.tmp 0)),none⟩,⟨some 17,.p (.mov (.tmp 4)),none⟩,⟨some 18,.p (.nilchk (.tmp 16)),none⟩,⟨some 19,.p (.faddr 1 (.tmp 18)),none⟩,⟨none,.e (.store 1 (.tmp 19) (.tmp 17)),none⟩] [] [0,1,5])
 (.region [⟨some 20,.p (.mov (.tmp 0)),none⟩,⟨some 21,.p (.nilchk (.tmp 20)),none⟩,⟨some 22,.p (.faddr 0 (.tmp 21)),none⟩,⟨some 23,.load1 (.tmp 22),none⟩,⟨some 24,.p (.mov (.tmp 1)),none⟩,⟨some 25,.p (.bin .shr (.tmp 24) (.val (.int .u64 (.ofNat 63)))),none⟩,⟨some 26,.p (.mov (.tmp 5)),none⟩,⟨some 27,.p (.conv (.int .i64) (.tmp 26)),none⟩,⟨some 28,.p (.bin .add (.tmp 25) (.tmp 27)),none⟩,⟨some 29,.p (.bin .add (.tmp 23) (.tmp 28)),none⟩,⟨some 30,.p (.nilchk (.tmp 20)),none⟩,⟨some 31,.p (.faddr 0 (.tmp 30)),none⟩,⟨none,.e (.store 1 (.tmp 31) (.tmp 29)),none⟩] [] []))
def M42 (F : Nat → Nat) : Fun := ⟨32,2,(K42 F).erase,[]⟩
theorem ok42 {F : Nat → Nat} : (K42 F).ok = true := rfl
abbrev K43 (F : Nat → Nat) : KC := .seq (.region [⟨some 4,.a (.new [.bool false,.int .i64 (.ofNat 0),.int .i64 (.ofNat 0),.nilslice]),none⟩,⟨some 5,.p (.mov (.val (.bool false))),none⟩] [] [0,1,4])
 (.seq (.region [⟨some 6,.a (.new [.int .i64 (.ofNat 0),.int .u64 (.ofNat 0)]),none⟩] [] [0,1,4,6])
 (.seq (.seq (.region [⟨some 10,.p (.mov (.tmp 0)),none⟩,⟨some 11,.p (.lenb (.tmp 10)),none⟩,⟨some 12,.p (.mov (.val (.int .i64 (.ofNat 0)))),none⟩] [] [1,4,6,10,11,12])
 (.block 0 (.loop (.seq (.region [⟨some 13,.p (.bin .lss (.tmp 12) (.tmp 11)),none⟩] [] [1,4,6,10,11,12,13])
 (.seq (.cond (.tmp 13) (.skip)
 (.exit 0))
 (.seq (.block 1 (.seq (.region [⟨some 14,.p (.iaddr 1 (.tmp 10) (.tmp 12)),none⟩,⟨some 15,.load1 (.tmp 14),none⟩,⟨some 8,.p (.mov (.tmp 15)),none⟩] [] [1,4,6,8,10,11,12])
 (.seq (.region [⟨some 16,.p (.mov (.tmp 8)),none⟩,⟨some 17,.p (.mov (.tmp 1)),none⟩,⟨some 18,.e (.call (F 3) [(.tmp 16),(.tmp 17)]),none⟩,⟨some 9,.a (.new [.bool false,.int .i64 (.ofNat 0),.int .i64 (.ofNat 0),.nilslice]),none⟩,⟨none,.e (.store 4 (.tmp 9) (.tmp 18)),none⟩] [] [1,4,6,9,10,11,12])
 (.seq (.region [⟨some 19,.p (.faddr 0 (.tmp 9)),none⟩,⟨some 20,.load1 (.tmp 19),none⟩,⟨some 21,.p (.not (.tmp 20)),none⟩] [] [1,4,6,9,10,11,12,21])
 (.cond (.tmp 21) (.region [⟨some 22,.p (.faddr 2 (.tmp 9)),none⟩,⟨some 23,.load1 (.tmp 22),none⟩,⟨some 24,.e (.call (F 42) [(.tmp 6),(.tmp 23)]),none⟩] [] [1,4,6,10,11,12])
 (.skip))))))
 (.region [⟨some 25,.p (.bin .add (.tmp 12) (.val (.int .i64 (.ofNat 1)))),none⟩,⟨some 12,.p (.mov (.tmp 25)),none⟩] [] [1,4,6,10,11,12])))))))
 (.seq (.seq (.region [⟨some 26,.p (.faddr 0 (.tmp 6)),none⟩,⟨some 27,.load1 (.tmp 26),none⟩,⟨some 28,.p (.faddr 1 (.tmp 6)),none⟩,⟨some 29,.load1 (.tmp 28),none⟩,⟨some 30,.p (.conv (.int .i64) (.tmp 29)),none⟩,⟨some 31,.p (.bin .shr (.tmp 30) (.val (.int .u64 (.ofNat 63)))),none⟩,⟨some 32,.p (.bin .neq (.tmp 27) (.tmp 31)),none⟩] [] [4,6,32])
 (.cond (.tmp 32) (.seq (.region [⟨some 33,.p (.build [.bool false,.int .i64 (.ofNat 0),.int .i64 (.ofNat 0),.nilslice] []),none⟩,⟨none,.e (.store 4 (.tmp 4) (.tmp 33)),none⟩,⟨some 5,.p (.mov (.val (.bool false))),none⟩] [] [4,5])
 (.ret))
 (.skip)))
 (.seq (.region [⟨some 34,.p (.faddr 1 (.tmp 6)),none⟩,⟨some 35,.load1 (.tmp 34),none⟩,⟨some 36,.p (.conv (.int .i64) (.tmp 35)),none⟩,⟨some 37,.p (.build [.bool false,.int .i64 (.ofNat 0),.int .i64 (.ofNat 0),.nilslice] [(1,1,(.val (.int .i64 (.ofNat 1)))),(2,1,(.tmp 36))]),none⟩,⟨none,.e (.store 4 (.tmp 4) (.tmp 37)),none⟩,⟨some 5,.p (.mov (.val (.bool true))),none⟩] [] [4,5])
 (.ret)))))
def M43 (F : Nat → Nat) : Fun := ⟨38,2,(K43 F).erase,[.celln 4 4,.tmp 5]⟩
theorem ok43 {F : Nat → Nat} : (K43 F).ok = true := rfl
abbrev K44 (F : Nat → Nat) : KC := .seq (.region [⟨some 6,.a (.new [.bool false,.int .i64 (.ofNat 0),.int .i64 (.ofNat 0),.nilslice]),none⟩] [] [0,1,2,6])
 (.seq (.region [⟨some 11,.p (.build [.bool false,.int .i64 (.ofNat 0),.int .i64 (.ofNat 0),.nilslice] [(0,1,(.val (.bool true)))]),none⟩,⟨some 7,.a (.new [.bool false,.int .i64 (.ofNat 0),.int .i64 (.ofNat 0),.nilslice]),none⟩,⟨none,.e (.store 4 (.tmp 7) (.tmp 11)),none⟩] [] [0,1,2,6,7])
 (.seq (.seq (.region [⟨some 12,.p (.mov (.tmp 0)),none⟩,⟨some 13,.p (.lenb (.tmp 12)),none⟩,⟨some 14,.p (.mov (.val (.int .i64 (.ofNat 0)))),none⟩] [] [1,2,6,7,12,13,14])
 (.block 0 (.loop (.seq (.region [⟨some 15,.p (.bin .lss (.tmp 14) (.tmp 13)),none⟩] [] [1,2,6,7,12,13,14,15])
 (.seq (.cond (.tmp 15) (.skip)
 (.exit 0))
 (.seq (.block 1 (.seq (.region [⟨some 16,.p (.iaddr 1 (.tmp 12) (.tmp 14)),none⟩,⟨some 17,.load1 (.tmp 16),none⟩,⟨some 9,.p (.mov (.tmp 17)),none⟩] [] [1,2,6,7,9,12,13,14])
 (.seq (.region [⟨some 18,.p (.mov (.tmp 9)),none⟩,⟨some 19,.p (.mov (.tmp 1)),none⟩,⟨some 20,.e (.call (F 3) [(.tmp 18),(.tmp 19)]),none⟩,⟨some 10,.a (.new [.bool false,.int .i64 (.ofNat 0),.int .i64 (.ofNat 0),.nilslice]),none⟩,⟨none,.e (.store 4 (.tmp 10) (.tmp 20)),none⟩] [] [1,2,6,7,10,12,13,14])
 (.block 2 (.seq (.region [⟨some 22,.p (.faddr 0 (.tmp 10)),none⟩,⟨some 23,.load1 (.tmp 22),none⟩,⟨some 21,.p (.mov (.tmp 23)),none⟩] [] [1,2,6,7,10,12,13,14,21])
 (.cond (.tmp 21) (.region [⟨some 24,.p (.faddr 1 (.tmp 10)),none⟩,⟨some 25,.load1 (.tmp 24),none⟩,⟨some 26,.p (.faddr 1 (.tmp 7)),none⟩,⟨none,.e (.store 1 (.tmp 26) (.tmp 25)),none⟩] [] [1,2,6,7,12,13,14])
 (.seq (.region [⟨some 28,.p (.faddr 0 (.tmp 7)),none⟩,⟨some 29,.load1 (.tmp 28),none⟩,⟨some 30,.p (.mov (.tmp 29)),none⟩,⟨some 31,.loadn 4 (.tmp 10),(some (30,false))⟩,⟨some 32,.loadn 4 (.tmp 7),(some (30,false))⟩,⟨some 33,.e (.call (F 1) [(.tmp 31),(.tmp 32)]),(some (30,false))⟩,⟨some 34,.p (.mov (.tmp 2)),(some (30,false))⟩,⟨some 35,.p (.bin .mul (.tmp 33) (.tmp 34)),(some (30,false))⟩,⟨some 36,.p (.bin .gtr (.tmp 35) (.val (.int .i64 (.ofNat 0)))),(some (30,false))⟩,⟨some 37,.p (.pick (.tmp 30) (.val (.bool true)) (.tmp 36)),none⟩,⟨some 27,.p (.mov (.tmp 37)),none⟩] [] [1,2,6,7,10,12,13,14,27])
 (.cond (.tmp 27) (.region [⟨some 38,.loadn 4 (.tmp 10),none⟩,⟨none,.e (.store 4 (.tmp 7) (.tmp 38)),none⟩] [] [1,2,6,7,12,13,14])
 (.skip)))))))))
 (.region [⟨some 39,.p (.bin .add (.tmp 14) (.val (.int .i64 (.ofNat 1)))),none⟩,⟨some 14,.p (.mov (.tmp 39)),none⟩] [] [1,2,6,7,12,13,14])))))))
 (.seq (.region [⟨some 40,.loadn 4 (.tmp 7),none⟩,⟨none,.e (.store 4 (.tmp 6) (.tmp 40)),none⟩] [] [6])
 (.ret))))
def M44 (F : Nat → Nat) : Fun := ⟨41,3,(K44 F).erase,[.celln 4 6]⟩
theorem ok44 {F : Nat → Nat} : (K44 F).ok = true := rfl
end Go.Lib
end

section
namespace Go.Dv
open Go.Vm
variable {p : Prog} {ext : Ext} {F : Nat → Nat}
structure Has (p : Prog) (ext : Ext) (F : Nat → Nat) (i : Nat) (M : (Nat → Nat) → Fun) : Prop where
  get : p.funs.get (F i) = some (M F)
  ext : ∀ args h, ext (F i) args h = none
def Fin (H : HpD) (d : D) (d' : D) (H' : HpD) : Prop := ∃ H2, WeakV d' H' d H2 ∧ Sub H H2 ∧ d.under H.next
theorem Fin.same {H : HpD} {d : D} (hu : d.under H.next) : Fin H d d H := ⟨H, .refl, .refl, hu⟩
theorem Fin.le {H H' : HpD} {d d' : D} (hs : Sub H H') (hl : D.le d' d) (hu : d.under H.next) : Fin H d d' H' := ⟨H', .le hl, hs, hu⟩
theorem fn_of {i : Nat} {M : (Nat → Nat) → Fun} (hh : Has p ext F i M) {kc : KC} (hb : (M F).body = kc.erase) (hk : kc.ok = true) {args : List D} {d : D} (hn : args.length = (M F).nargs)
    (hs : ∀ H, Sem p ext (endD (M F).results (Fin H d)) (.code kc [] .mk (argsD 0 args) H)) : FnD p ext (F i) args d := by
  intro H;refine WcD.drop (WcD.mono (enterD hh.ext hh.get hb hk hn (hs H)) ?_);rintro d' H' ⟨H2, w, s, u⟩;exact ⟨d, H2, w, s, u, rfl, rfl⟩
theorem wc_of {i : Nat} {M : (Nat → Nat) → Fun} (hh : Has p ext F i M) {kc : KC} (hb : (M F).body = kc.erase) (hk : kc.ok = true) {args : List D} {H : HpD} {R : D → HpD → Prop} (hn : args.length = (M F).nargs)
    (hs : Sem p ext (endD (M F).results R) (.code kc [] .mk (argsD 0 args) H)) : WcD p ext (F i) args H R := enterD hh.ext hh.get hb hk hn hs
theorem underss_map {α : Type} {n : Nat} {f : α → List D} (h : ∀ x, D.unders n (f x)) : ∀ l : List α, D.underss n (l.map f)
  | [] => trivial
  | x :: l => ⟨h x, underss_map h l⟩
end Go.Dv
end

section
namespace Go.Dv
open Go.Vm
variable {p : Prog} {ext : Ext} {Q : ResD → Prop}
def D.hasB (x : Nat) : D → Prop
  | .slice b _ _ _ _ _ => x = b
  | _ => False
structure Gr (H0 H : HpD) (sz : Nat) (s : D) (el : List (List D)) : Prop where
  sub : Sub H0 H
  len : ∀ e, e ∈ el → e.length = sz
  at_ : (s = .lit .nilslice ∧ el = []) ∨ ∃ b ex el0, s = .slice b 0 sz el.length el.length ex ∧ H0.next ≤ b ∧ b < H.next ∧ H.blk b = .cells el0.flatten false ∧ D.less el0 el
section
variable {H0 H H1 : HpD} {sz : Nat} {s : D} {el : List (List D)}
theorem Gr.nil (hs : Sub H0 H) : Gr H0 H sz (.lit .nilslice) [] := ⟨hs, fun _ h => (by cases h), .inl ⟨rfl, rfl⟩⟩
theorem Gr.lit (hs : Sub H0 H) {ex : Bool} (he : ∀ e, e ∈ el → e.length = sz) {c : List D} (hc : c = el.flatten) {n : Nat} (hn : n = el.length) : Gr H0 (H.new (.cells c false)) sz (.slice H.next 0 sz n n ex) el :=
  ⟨hs.new, he, .inr ⟨H.next, ex, el, by rw [hn], hs.next, by simp [new_next], by simp [new_blk, hc], D.less_refl _⟩⟩
theorem Gr.start : Gr H H sz (.lit .nilslice) [] := .nil .refl
theorem Gr.mono (g : Gr H0 H sz s el) (h : Sub H H1) : Gr H0 H1 sz s el := by
  refine ⟨g.sub.trans h, g.len, ?_⟩;rcases g.at_ with k | ⟨b, ex, el0, rfl, h1, h2, h3, h4⟩
  · exact .inl k
  · exact .inr ⟨b, ex, el0, rfl, h1, Nat.lt_of_lt_of_le h2 h.next, (h.blk b h2).trans h3, h4⟩
theorem Gr.keep (g : Gr H0 H sz s el) (hs : Sub H0 H1) (hn : H.next ≤ H1.next) (hk : ∀ x, s.hasB x → H1.blk x = H.blk x) : Gr H0 H1 sz s el := by
  refine ⟨hs, g.len, ?_⟩;rcases g.at_ with k | ⟨b, ex, el0, rfl, h1, h2, h3, h4⟩
  · exact .inl k
  · exact .inr ⟨b, ex, el0, rfl, h1, Nat.lt_of_lt_of_le h2 hn, (hk b rfl).trans h3, h4⟩
theorem Gr.lenb (g : Gr H0 H sz s el) : lenbD s = some (.lit (.int .i64 (el.length : Int))) := by
  rcases g.at_ with ⟨rfl, rfl⟩ | ⟨b, ex, el0, rfl, _⟩ <;> rfl
theorem flatten_len {sz : Nat} : ∀ {el : List (List D)}, (∀ e, e ∈ el → e.length = sz) → el.flatten.length = el.length * sz
  | [], _ => by simp
  | e :: l, h => by
    rw [List.flatten_cons, List.length_append, flatten_len fun x hx => h x (List.mem_cons_of_mem _ hx), h e (List.mem_cons_self ..), List.length_cons, Nat.succ_mul, Nat.add_comm]
theorem flatsD_flatten : ∀ {l : List (List D)}, (∀ e, e ∈ l → flatsD e = true) → flatsD l.flatten = true
  | [], _ => rfl
  | e :: l, h => by
    have key : ∀ (a b : List D), flatsD (a ++ b) = (flatsD a && flatsD b) := by
      intro a b
      induction a with
      | nil => simp [flatsD]
      | cons d a ih => simp [flatsD, ih, Bool.and_assoc]
    rw [List.flatten_cons, key, h e (List.mem_cons_self ..), flatsD_flatten fun x hx => h x (List.mem_cons_of_mem _ hx)]
    rfl
theorem roomyD {by_ n : Nat} (h : by_ * n ≤ 1099511627776) (h2 : n ≤ 1099511627776) : roomy by_ n = true := roomy_of h h2
theorem less_append : ∀ {a a' b b' : List (List D)}, D.less a a' → D.less b b' → D.less (a ++ b) (a' ++ b')
  | [], [], _, _, _, k => k
  | x :: a, y :: a', b, b', k, k2 => by
    simp only [D.less, List.cons_append] at k ⊢;exact ⟨k.1, less_append k.2 k2⟩
  | [], _ :: _, _, _, k, _ => by simp [D.less] at k
  | _ :: _, [], _, _, k, _ => by simp [D.less] at k
theorem less_sz : ∀ {a a' : List (List D)} {sz : Nat}, D.less a a' → (∀ e, e ∈ a' → e.length = sz) → ∀ e, e ∈ a → e.length = sz
  | [], _, _, _, _, e, he => by cases he
  | x :: a, y :: a', sz, k, h, e, he => by
    simp only [D.less] at k;rcases List.mem_cons.1 he with rfl | he
    · rw [les_length k.1]; exact h y (List.mem_cons_self ..)
    · exact less_sz k.2 (fun z hz => h z (List.mem_cons_of_mem _ hz)) e he
  | _ :: _, [], _, k, _, _, _ => by simp [D.less] at k
theorem Gr.grow (g : Gr H0 H sz s el) {by_ n : Nat} {new0 new : List (List D)} (hle : D.less new0 new) (hn : new.length = n) (h0 : 0 < n) (he : ∀ e, e ∈ new → e.length = sz) (hr : roomy by_ (el.length + n) = true) :
    ∃ s' H', appendCD sz by_ H s n new0.flatten = some (s', H') ∧ Gr H0 H' sz s' (el ++ new) ∧ (∀ x, x < H.next → ¬ s.hasB x → H'.blk x = H.blk x) ∧ H.next < H'.next ∧ s' = .slice H.next 0 sz (el ++ new).length (el ++ new).length false := by
  have hlen : ∀ e, e ∈ el ++ new → e.length = sz := fun e h => by
    rcases List.mem_append.1 h with h | h
    · exact g.len e h
    · exact he e h
  rcases g.at_ with ⟨rfl, rfl⟩ | ⟨b, ex, el0, rfl, h1, h2, h3, h4⟩
  · simp only [List.length_nil, Nat.zero_add] at hr
    refine ⟨_, _, by simp only [appendCD, hr, cond_true]; rfl, ⟨g.sub.new, hlen, .inr ⟨H.next, false, new0, by simp [hn], g.sub.next, by simp [new_next], by simp [new_blk], by simpa using hle⟩⟩, fun x hx _ => by rw [new_blk, if_neg (by omega)], Nat.lt_succ_self _, by simp [hn]⟩
  · have hel := less_length h4
    have hf := flatten_len (less_sz h4 g.len)
    have hrd : readD H b 0 (el.length * sz) = some el0.flatten := by
      rw [readD_eq, h3, ← hel, ← hf];simp only [Nat.zero_add, Nat.le_refl, if_true, List.drop_zero, List.take_length]
    have hnew : D.less (el0 ++ new0) (el ++ new) := less_append h4 hle
    cases ex with
    | false =>
      refine ⟨.slice H.next 0 sz (el.length + n) (el.length + n) false, (H.put b .gone).new (.cells (el0.flatten ++ new0.flatten) false), ?_, ⟨(g.sub.put h1).new, hlen, .inr ⟨H.next, false, el0 ++ new0, by simp [hn], g.sub.next, by simp [new_next, put_next], by simp [new_blk, put_next], hnew⟩⟩, fun x hx hx2 => ?_, by simp [new_next, put_next], by simp [hn]⟩
      · simp only [appendCD, hr, hrd, h3, growD]
        rw [show Nat.beq sz sz = true from nbeq.2 rfl, show Nat.ble (el.length + n) el.length = false from by rw [nble_d]; exact decide_eq_false (by omega)]
        rfl
      · rw [new_blk, put_next, if_neg (by omega), put_blk, if_neg]
        exact hx2
    | true =>
      refine ⟨.slice H.next 0 sz (el.length + n) (el.length + n) false, H.new (.cells (el0.flatten ++ new0.flatten) false), ?_, ⟨g.sub.new, hlen, .inr ⟨H.next, false, el0 ++ new0, by simp [hn], g.sub.next, by simp [new_next], by simp [new_blk], hnew⟩⟩, fun x hx hx2 => ?_, by simp [new_next], by simp [hn]⟩
      · simp only [appendCD, hr, hrd, growD]
        rw [show Nat.beq sz sz = true from nbeq.2 rfl, show Nat.ble (el.length + n) el.length = false from by rw [nble_d]; exact decide_eq_false (by omega)]
        rfl
      · rw [new_blk, if_neg (by omega)]
theorem Gr.app' (g : Gr H0 H sz s el) {by_ : Nat} {m : Md} {new0 new : List (List D)} (hle : D.less new0 new) (he : ∀ e, e ∈ new → e.length = sz) (hf : ∀ e, e ∈ new0 → flatsD e = true) (hr : roomy by_ (el.length + new.length) = true) :
    ∃ s' H', appendD sz by_ H s (.row sz m new0) = some (s', H') ∧ Gr H0 H' sz s' (el ++ new) ∧ (∀ x, x < H.next → ¬ s.hasB x → H'.blk x = H.blk x) ∧ H.next ≤ H'.next := by
  have hln := less_length hle
  cases hn : new0 with
  | nil =>
    have : new = [] := by rw [hn] at hln; exact List.eq_nil_of_length_eq_zero hln.symm
    subst this;refine ⟨s, H, ?_, by rw [List.append_nil]; exact g, fun _ _ _ => rfl, Nat.le_refl _⟩;simp only [appendD, lenD, List.length_nil];rcases g.at_ with ⟨rfl, rfl⟩ | ⟨b, ex, el0, rfl, _⟩
    · rfl
    · simp only [sameD]
      rw [show Nat.beq sz sz = true from nbeq.2 rfl]
      rfl
  | cons e l =>
    rw [← hn]
    have h0 : 0 < new.length := by rw [← hln, hn]; simp
    obtain ⟨s', H', e1, g', k, n, _⟩ := g.grow (by_ := by_) hle rfl h0 he hr;refine ⟨s', H', ?_, g', k, Nat.le_of_lt n⟩;simp only [appendD, lenD];obtain ⟨k, hk⟩ : ∃ k, new.length = k + 1 := ⟨new.length - 1, by omega⟩;rw [hln, hk];simp only
    have hm : srcD H sz (k + 1) (.row sz m new0) = some new0.flatten := by
      simp only [srcD];rw [show Nat.beq sz sz = true from nbeq.2 rfl, show Nat.ble (k + 1) new0.length = true from nble.2 (by omega)];rw [show new0.take (k + 1) = new0 from List.take_of_length_le (by omega)]
      cases m <;> rfl
    rw [hm];simp only [appendN, flatsD_flatten hf, cond_true];rw [← hk]; exact e1
theorem Gr.app (g : Gr H0 H sz s el) {by_ : Nat} {m : Md} {new : List (List D)} (he : ∀ e, e ∈ new → e.length = sz) (hf : ∀ e, e ∈ new → flatsD e = true) (hr : roomy by_ (el.length + new.length) = true) :
    ∃ s' H', appendD sz by_ H s (.row sz m new) = some (s', H') ∧ Gr H0 H' sz s' (el ++ new) ∧ (∀ x, x < H.next → ¬ s.hasB x → H'.blk x = H.blk x) ∧ H.next ≤ H'.next := g.app' (D.less_refl _) he hf hr
theorem Gr.push (g : Gr H0 H sz s el) {by_ : Nat} {m : Md} {e : List D} (e' : List D) (hle : D.les e e') (he : e'.length = sz) (hf : flatsD e = true) (hr : roomy by_ (el.length + 1) = true) :
    ∃ s' H', appendD sz by_ H s (.row sz m [e]) = some (s', H') ∧ Gr H0 H' sz s' (el ++ [e']) ∧ (∀ x, x < H.next → ¬ s.hasB x → H'.blk x = H.blk x) ∧ H.next ≤ H'.next ∧ s' = .slice H.next 0 sz (el.length + 1) (el.length + 1) false := by
  obtain ⟨s', H', e1, g', k, n, e2⟩ := g.grow (by_ := by_) (n := 1) (new0 := [e]) (new := [e']) (by simp only [D.less]; exact ⟨hle, trivial⟩) rfl (by omega) (by simp [he]) hr;refine ⟨s', H', ?_, g', k, Nat.le_of_lt n, by simpa using e2⟩;simp only [appendD, lenD, List.length_singleton]
  have hm : srcD H sz (0 + 1) (.row sz m [e]) = some [e].flatten := by
    simp only [srcD];rw [show Nat.beq sz sz = true from nbeq.2 rfl]
    cases m <;> rfl
  rw [hm];simp only [appendN];rw [show flatsD [e].flatten = true from by simpa using hf];exact e1
theorem appendD_slice1 {by_ b o cap : Nat} {ex ro : Bool} {cs : List D} (hb : H.blk b = .cells cs ro) (ho : o + sz ≤ cs.length) : appendD sz by_ H s (.slice b o sz 1 cap ex) = appendD sz by_ H s (.row sz .p [(cs.drop o).take sz]) := by
  simp only [appendD, lenD, List.length_singleton]
  have h1 : srcD H sz (0 + 1) (.slice b o sz 1 cap ex) = some ((cs.drop o).take sz) := by
    simp only [srcD];rw [show Nat.beq sz sz = true from nbeq.2 rfl, readD_eq, hb];simp [ho]
  have h2 : srcD H sz (0 + 1) (.row sz .p [(cs.drop o).take sz]) = some ((cs.drop o).take sz) := by
    simp only [srcD];rw [show Nat.beq sz sz = true from nbeq.2 rfl];simp
  rw [h1, h2]
theorem Gr.fin (g : Gr H0 H sz s el) (hu : D.underss H0.next el) {m : Md} (hm : m ≠ .c) : Fin H0 (.row sz m el) s H := by
  have hm' : m = .p ∨ m = .w := by cases m <;> simp at hm ⊢
  rcases g.at_ with ⟨rfl, rfl⟩ | ⟨b, ex, el0, rfl, h1, h2, h3, h4⟩
  · exact ⟨H, .le (by simp [D.le]), g.sub, by simp [D.under]⟩
  · have hel := less_length h4
    refine ⟨H.put b .gone, (WeakV.freeze h3 (less_sz h4 g.len)).trans (.le ?_), g.sub.put h1, by simpa [D.under] using hu⟩;simp only [frz];rw [if_pos ⟨trivial, trivial, trivial, hel.symm, by omega⟩];simp only [D.le, h4, and_true, true_and]
    by_cases hx : el.length = el0.length ∧ ex = true
    · rcases hm' with rfl | rfl <;> simp [hx]
    · rcases hm' with rfl | rfl <;> simp [hx]
theorem Gr.slot (g : Gr H0 H sz s el) {t : Nat} {fr : FrD} {args : List D} (ht : lk fr t = s) {m : Md} (hm : m ≠ .c) :
    ∃ H', Weak args fr H args ((t, .row sz m el) :: fr) H' ∧ Sub H0 H' ∧ (∀ x, ¬ s.hasB x → H'.blk x = H.blk x) ∧ H'.next = H.next := by
  have hm' : m = .p ∨ m = .w := by cases m <;> simp at hm ⊢
  have put : ∀ {ψ : Nat → Option Nat} {S : Nat → Prop} {h : Hp} {fv : Fr} {d : D}, FrR h ψ S fr fv → VD h ψ S d (ev fv (.tmp t)) → FrR h ψ S ((t, d) :: fr) fv := by
    intro ψ S h fv d k kd u;rw [lk_cons]
    split
    · rename_i e; subst e; exact kd
    · exact k u
  rcases g.at_ with ⟨rfl, rfl⟩ | ⟨b, ex, el0, rfl, h1, h2, h3, h4⟩
  · refine ⟨H, ?_, g.sub, fun _ _ => rfl, rfl⟩
    intro ψ S h fv vs sr kf kv;refine ⟨ψ, S, .refl, sr, put kf (VD.le (.lit .nilslice) _ (by simp [D.le]) ?_), kv⟩;have := kf t
    rwa [ht] at this
  · refine ⟨H.put b .gone, ?_, g.sub.put h1, fun x hx => by rw [put_blk, if_neg]; exact hx, put_next⟩
    intro ψ S h fv vs sr kf kv;have hel := less_length h4;obtain ⟨c, hc, hr⟩ := frz_row sr h3 (less_sz h4 g.len);obtain ⟨x0, s0⟩ := sr.freeze hc;refine ⟨ψ, _, x0, s0, put (kf.mono x0) ?_, VDl.mono x0 _ kv⟩;have := kf t;rw [ht] at this;simp only [VD] at this;obtain ⟨c', e, e2⟩ := this;rw [hc] at e; cases e;rw [e2];rw [← hel];refine VD.le _ _ ?_ (hr _ _ (Nat.le_refl _));simp only [D.le, h4, and_true, true_and]
    rcases hm' with rfl | rfl <;> simp
theorem VDl.setD {h : Hp} {ψ : Nat → Option Nat} {S : Nat → Prop} {args : List D} {vs : List V} {j : Nat} {d d' : D} (k : VDl h ψ S args vs) (hj : args[j]? = some d) (hd : ∀ v, VD h ψ S d v → VD h ψ S d' v) : VDl h ψ S (args.set j d') vs := by
  obtain ⟨v, e, kv⟩ := VDl.get k hj;have := VDl.set j k (hd v kv)
  have he : vs.set j v = vs := by
    obtain ⟨hl, rfl⟩ := List.getElem?_eq_some_iff.1 e;exact List.set_getElem_self hl
  rwa [he] at this
theorem Gr.arg (g : Gr H0 H sz s el) (j : Nat) {fr : FrD} {args : List D} (ht : args[j]? = some s) {m : Md} (hm : m ≠ .c) :
    ∃ H', Weak args fr H (args.set j (.row sz m el)) fr H' ∧ Sub H0 H' ∧ (∀ x, ¬ s.hasB x → H'.blk x = H.blk x) ∧ H'.next = H.next := by
  have hm' : m = .p ∨ m = .w := by cases m <;> simp at hm ⊢
  rcases g.at_ with ⟨rfl, rfl⟩ | ⟨b, ex, el0, rfl, h1, h2, h3, h4⟩
  · refine ⟨H, ?_, g.sub, fun _ _ => rfl, rfl⟩
    intro ψ S h fv vs sr kf kv;exact ⟨ψ, S, .refl, sr, kf, kv.setD ht fun v hv => VD.le (.lit .nilslice) _ (by simp [D.le]) hv⟩
  · refine ⟨H.put b .gone, ?_, g.sub.put h1, fun x hx => by rw [put_blk, if_neg]; exact hx, put_next⟩
    intro ψ S h fv vs sr kf kv;have hel := less_length h4;obtain ⟨c, hc, hr⟩ := frz_row sr h3 (less_sz h4 g.len);obtain ⟨x0, s0⟩ := sr.freeze hc;refine ⟨ψ, _, x0, s0, kf.mono x0, (VDl.mono x0 _ kv).setD ht fun v hv => ?_⟩;simp only [VD] at hv;obtain ⟨c', e, e2⟩ := hv;rw [hc] at e; cases e;rw [e2];rw [← hel];refine VD.le _ _ ?_ (hr _ _ (Nat.le_refl _));simp only [D.le, h4, and_true, true_and]
    rcases hm' with rfl | rfl <;> simp
theorem sem_push_le {by_ : Nat} {m : Md} {e : List D} (e' : List D) {k : D → HpD → Cfg} (g : Gr H0 H sz s el) (hle : D.les e e') (he : e'.length = sz) (hf : flatsD e = true) (hr : roomy by_ (el.length + 1) = true)
    (hk : ∀ s' H', Gr H0 H' sz s' (el ++ [e']) → (∀ x, x < H.next → ¬ s.hasB x → H'.blk x = H.blk x) → (H.next ≤ H'.next ∧ s' = .slice H.next 0 sz (el.length + 1) (el.length + 1) false) → Sem p ext Q (k s' H')) : Sem p ext Q (optH (appendD sz by_ H s (.row sz m [e])) k) := by
  obtain ⟨s', H', e1, g', k1, n1⟩ := g.push (m := m) e' hle he hf hr;rw [e1];exact hk s' H' g' k1 n1
theorem sem_push {by_ : Nat} {m : Md} {e : List D} {k : D → HpD → Cfg} (g : Gr H0 H sz s el) (he : e.length = sz) (hf : flatsD e = true) (hr : roomy by_ (el.length + 1) = true)
    (hk : ∀ s' H', Gr H0 H' sz s' (el ++ [e]) → (∀ x, x < H.next → ¬ s.hasB x → H'.blk x = H.blk x) → (H.next ≤ H'.next ∧ s' = .slice H.next 0 sz (el.length + 1) (el.length + 1) false) → Sem p ext Q (k s' H')) : Sem p ext Q (optH (appendD sz by_ H s (.row sz m [e])) k) :=
  sem_push_le e g (D.les_refl _) he hf hr hk
theorem sem_row (g : Gr H0 H sz s el) (j : Nat) {f : Nat} {args : List D} {dst : Option Nat} {l : List MO} {fz lv : List Nat} {K : List KD} {fr : FrD} (ht : args[j]? = some s)
    (hs : ∀ H', Sub H0 H' → (∀ x, ¬ s.hasB x → H'.blk x = H.blk x) → H'.next = H.next → Sem p ext Q (.call f (args.set j (.row sz .p el)) dst l fz lv K .mk fr H')) : Sem p ext Q (.call f args dst l fz lv K .mk fr H) := by
  obtain ⟨H', w, s', k, n⟩ := g.arg j (fr := fr) ht (m := .p) (by simp);exact sem_weak_call w (hs H' s' k n)
theorem sem_turn_exit (g : Gr H0 H sz s el) (t : Nat) {id : Nat} {K : List KD} {fr : FrD} (ht : lk fr t = s)
    (hs : ∀ H', Sub H0 H' → (∀ x, ¬ s.hasB x → H'.blk x = H.blk x) → H'.next = H.next → Sem p ext Q (.res (.exit id ((t, .row sz .p el) :: fr) H') K .mk)) : Sem p ext Q (.res (.exit id fr H) K .mk) := by
  obtain ⟨H', w, s', k, n⟩ := g.slot (args := []) ht (m := .p) (by simp);exact sem_weak_exit w (hs H' s' k n)
theorem sem_turn_ops (g : Gr H0 H sz s el) (t : Nat) {l : List MO} {fz lv : List Nat} {K : List KD} {fr : FrD} (ht : lk fr t = s)
    (hs : ∀ H', Sub H0 H' → (∀ x, ¬ s.hasB x → H'.blk x = H.blk x) → H'.next = H.next → Sem p ext Q (.ops l fz lv K .mk ((t, .row sz .p el) :: fr) H')) : Sem p ext Q (.ops l fz lv K .mk fr H) := by
  obtain ⟨H', w, s', k, n⟩ := g.slot (args := []) ht (m := .p) (by simp);exact sem_weak_ops w (hs H' s' k n)
theorem Gr.finA (g : Gr H0 H sz s el) (hu : D.underss H0.next el) {m : Md} (hm : m ≠ .c) : Fin H0 (.agg [.row sz m el]) (.agg [s]) H := by
  obtain ⟨H2, w, sub, u⟩ := g.fin hu hm;refine ⟨H2, ?_, sub, by simpa [D.under] using u⟩;intro ψ S h v sr kv;simp only [VD, VDl] at kv;obtain ⟨l', rfl, x, r, rfl, kx, rfl⟩ := kv;obtain ⟨ψ', S', x0, s', k'⟩ := w ψ S h x sr kx;exact ⟨ψ', S', x0, s', by simp only [VD, VDl]; exact ⟨_, rfl, _, _, rfl, k', rfl⟩⟩
theorem WeakV.part {pre : List D} {b o n cap : Nat} {ex ro : Bool} {cs : List D} {el : List (List D)} (hb : H.blk b = .cells cs ro) (he : ∀ e, e ∈ el → e.length = sz) (hl : el.length = n) (hc : (cs.drop o).take (n * sz) = el.flatten) (hn : n ≤ cap) :
    WeakV (.agg (pre ++ [.slice b o sz n cap ex])) H (.agg (pre ++ [.row sz .p el])) (H.put b .gone) := by
  intro ψ S h v sr kv
  obtain ⟨c, h1, h2, l', h3, h4⟩ : ∃ c, ψ b = some c ∧ ¬ S c ∧ ∃ l', h.blk c = .cells l' ro ∧ VDl h ψ S cs l' := by
    obtain ⟨c, h1, h2, h3⟩ := sr.live b (by rw [hb]; rfl);rw [hb] at h3;exact ⟨c, h1, h2, h3⟩
  obtain ⟨x0, s0⟩ := sr.freeze h1;refine ⟨ψ, _, x0, s0, ?_⟩;simp only [VD] at kv ⊢;obtain ⟨l2, rfl, kl⟩ := kv;refine ⟨l2, rfl, ?_⟩
  have key : ∀ (pre : List D) (l2 : List V), VDl h ψ S (pre ++ [.slice b o sz n cap ex]) l2 → VDl h ψ (fun x => S x ∨ x = c) (pre ++ [.row sz .p el]) l2 := by
    intro pre
    induction pre with
    | nil =>
      intro l2 kl;simp only [List.nil_append, VDl, VD] at kl ⊢;obtain ⟨x, r, rfl, ⟨c', e, rfl⟩, rfl⟩ := kl;rw [h1] at e; cases e;refine ⟨_, _, rfl, .inr ⟨c, o, cap, ex, by rw [hl], by rw [hl]; exact hn, fun e => (by cases e), .inr ⟨l', ro, .inr rfl, h3, ?_⟩⟩, rfl⟩;have k1 := VDl.take (n * sz) (VDl.drop o h4);rw [hc] at k1;have := VDss.of (us := (l'.drop o).drop (n * sz)) he (VDl.mono x0 _ k1)
      rwa [List.take_append_drop] at this
    | cons d pre ih =>
      intro l2 kl;simp only [List.cons_append, VDl] at kl ⊢;obtain ⟨x, r, rfl, k1, k2⟩ := kl;exact ⟨x, r, rfl, VD.mono x0 _ k1, ih _ k2⟩
  exact key pre l2 kl
theorem own_fn {f : Nat} {args : List D} {sz : Nat} {el : List (List D)} (hw : ∀ H, WcD p ext f args H fun d H' => Gr H H' sz d el) (hu : ∀ n, D.underss n el) : FnD p ext f args (.row sz .p el) := by
  intro H;refine WcD.drop ((hw H).mono ?_);intro d H' g;obtain ⟨H2, w, s, u⟩ := g.fin (hu H.next) (m := .p) (by simp);exact ⟨_, H2, w, s, u, rfl, rfl⟩
theorem spliceD_flatten {sz j : Nat} {x : D} : ∀ {el : List (List D)} {i : Nat} {e : List D}, (∀ e, e ∈ el → e.length = sz) → el[i]? = some e → j < sz → spliceD el.flatten (i * sz + j) [x] = (el.set i (e.set j x)).flatten
  | [], _, _, _, he, _ => by simp at he
  | a :: l, 0, e, hs, he, hj => by
    simp at he;subst he;have ha := hs a (List.mem_cons_self ..);simp only [Nat.zero_mul, Nat.zero_add, List.flatten_cons, List.set_cons_zero]
    have key : ∀ (a m : List D) (j : Nat), j < a.length → spliceD (a ++ m) j [x] = a.set j x ++ m := by
      intro a
      induction a with
      | nil => intro m j h; simp at h
      | cons d a ih =>
        intro m j h
        cases j with
        | zero => simp [spliceD_zero]
        | succ j => simp only [List.cons_append, spliceD_succ, List.set_cons_succ]; rw [ih m j (by simpa using h)]
    exact key a _ j (by omega)
  | a :: l, i + 1, e, hs, he, hj => by
    have ha := hs a (List.mem_cons_self ..);have ih := spliceD_flatten (j := j) (x := x) (el := l) (i := i) (e := e) (fun y hy => hs y (List.mem_cons_of_mem _ hy)) (by simpa using he) hj;simp only [List.flatten_cons, List.set_cons_succ]
    have key : ∀ (a m : List D) (k : Nat), spliceD (a ++ m) (a.length + k) [x] = a ++ spliceD m k [x] := by
      intro a
      induction a with
      | nil => intro m k; simp
      | cons d a ih2 =>
        intro m k;rw [List.cons_append, List.length_cons, show a.length + 1 + k = (a.length + k) + 1 from by omega, spliceD_succ, ih2]; rfl
    rw [show (i + 1) * sz + j = a.length + (i * sz + j) from by rw [ha, Nat.succ_mul]; omega, key, ih]
theorem les_set : ∀ {l l' : List D} {j : Nat} {x : D}, D.les l l' → D.les (l.set j x) (l'.set j x)
  | [], [], _, _, k => k
  | a :: l, b :: l', 0, x, k => by simp only [D.les, List.set_cons_zero] at k ⊢; exact ⟨D.le_refl x, k.2⟩
  | a :: l, b :: l', j + 1, x, k => by simp only [D.les, List.set_cons_succ] at k ⊢; exact ⟨k.1, les_set k.2⟩
  | [], _ :: _, _, _, k => by simp [D.les] at k
  | _ :: _, [], _, _, k => by simp [D.les] at k
theorem less_get : ∀ {l l' : List (List D)} {i : Nat} {e : List D}, D.less l l' → l'[i]? = some e → ∃ e0, l[i]? = some e0 ∧ D.les e0 e
  | [], [], _, _, _, he => by simp at he
  | a :: l, b :: l', 0, e, k, he => by simp at he; subst he; simp only [D.less] at k; exact ⟨a, rfl, k.1⟩
  | a :: l, b :: l', i + 1, e, k, he => by simp only [D.less] at k; exact less_get (l := l) (l' := l') k.2 (by simpa using he)
  | [], _ :: _, _, _, k, _ => by simp [D.less] at k
  | _ :: _, [], _, _, k, _ => by simp [D.less] at k
theorem less_set : ∀ {l l' : List (List D)} {i : Nat} {a b : List D}, D.less l l' → D.les a b → D.less (l.set i a) (l'.set i b)
  | [], [], _, _, _, k, _ => k
  | x :: l, y :: l', 0, a, b, k, k2 => by simp only [D.less, List.set_cons_zero] at k ⊢; exact ⟨k2, k.2⟩
  | x :: l, y :: l', i + 1, a, b, k, k2 => by simp only [D.less, List.set_cons_succ] at k ⊢; exact ⟨k.1, less_set k.2 k2⟩
  | [], _ :: _, _, _, _, k, _ => by simp [D.less] at k
  | _ :: _, [], _, _, _, k, _ => by simp [D.less] at k
theorem Gr.place (g : Gr H0 H sz s el) (hn : 0 < el.length) : ∃ b ex el0, s = .slice b 0 sz el.length el.length ex ∧ H0.next ≤ b ∧ b < H.next ∧ H.blk b = .cells el0.flatten false ∧ D.less el0 el ∧ el0.flatten.length = el.length * sz := by
  rcases g.at_ with ⟨rfl, rfl⟩ | ⟨b, ex, el0, rfl, h1, h2, h3, h4⟩
  · simp at hn
  · exact ⟨b, ex, el0, rfl, h1, h2, h3, h4, by rw [flatten_len (less_sz h4 g.len), less_length h4]⟩
theorem Gr.set (g : Gr H0 H sz s el) {b : Nat} {ex : Bool} {el0 : List (List D)} (hs : s = .slice b 0 sz el.length el.length ex) (h1 : H0.next ≤ b) (h2 : b < H.next) (h4 : D.less el0 el) {i j o : Nat} {e : List D} {x : D} (he : el[i]? = some e) (hj : j < sz) (ho : o = i * sz + j) :
    Gr H0 (H.put b (.cells (spliceD el0.flatten o [x]) false)) sz s (el.set i (e.set j x)) := by
  subst ho;obtain ⟨e0, h5, h6⟩ := less_get h4 he;have hl : e.length = sz := g.len e (List.mem_of_getElem? he);refine ⟨g.sub.put h1, fun y hy => ?_, .inr ⟨b, ex, el0.set i (e0.set j x), by rw [List.length_set]; exact hs, h1, h2, ?_, less_set h4 (les_set h6)⟩⟩
  · rcases List.mem_or_eq_of_mem_set hy with hy | rfl
    · exact g.len y hy
    · rw [List.length_set]; exact hl
  · rw [put_blk, if_pos rfl, spliceD_flatten (less_sz h4 g.len) h5 hj]
end
end Go.Dv
end

section
set_option maxRecDepth 10000
namespace Go.Dv
open Go.Vm
variable {p : Prog} {ext : Ext} {Q : ResD → Prop} {H0 H : HpD} {sz : Nat} {s : D} {el : List (List D)}
theorem les_append : ∀ {a a' b b' : List D}, D.les a a' → D.les b b' → D.les (a ++ b) (a' ++ b')
  | [], [], _, _, _, h => h
  | d :: a, d' :: a', _, _, k, h => by
    simp only [D.les, List.cons_append] at k ⊢;exact ⟨k.1, les_append k.2 h⟩
  | [], _ :: _, _, _, k, _ => by simp [D.les] at k
  | _ :: _, [], _, _, k, _ => by simp [D.les] at k
theorem les_flat : ∀ {l l' : List (List D)}, D.less l l' → D.les l.flatten l'.flatten
  | [], [], _ => by simp
  | e :: l, e' :: l', k => by
    simp only [D.less] at k;simp only [List.flatten_cons];exact les_append k.1 (les_flat k.2)
  | [], _ :: _, k => by simp [D.less] at k
  | _ :: _, [], k => by simp [D.less] at k
theorem SR.tell {ψ : Nat → Option Nat} {S : Nat → Prop} {h : Hp} {b : Nat} {cs cs' : List D} {ro : Bool} (s : SR ψ S H h) (hb : H.blk b = .cells cs ro) (hl : D.les cs cs') : SR ψ S (H.put b (.cells cs' ro)) h :=
  ⟨s.inj, s.dom, s.frz, fun b' hg => by
    rw [put_blk] at hg ⊢
    by_cases e : b' = b
    · subst e
      obtain ⟨c, h1, h2, h3⟩ := s.live b' (by rw [hb]; rfl);rw [hb] at h3;obtain ⟨l', e1, k⟩ := h3;refine ⟨c, h1, h2, ?_⟩;rw [if_pos rfl];exact ⟨l', e1, VDl.le _ _ hl k⟩
    · rw [if_neg e] at hg ⊢
      exact s.live b' hg⟩
theorem Weak.tell {a : List D} {fr : FrD} {b : Nat} {cs cs' : List D} {ro : Bool} (hb : H.blk b = .cells cs ro) (hl : D.les cs cs') : Weak a fr H a fr (H.put b (.cells cs' ro)) :=
  fun ψ S _ _ _ s k kv => ⟨ψ, S, .refl, s.tell hb hl, k, kv⟩
structure GrX (H0 H : HpD) (sz : Nat) (s : D) (el : List (List D)) : Prop where
  gr : Gr H0 H sz s el
  at_ : (s = .lit .nilslice ∧ el = []) ∨ ∃ b ex, s = .slice b 0 sz el.length el.length ex ∧ H0.next ≤ b ∧ b < H.next ∧ H.blk b = .cells el.flatten false
theorem Gr.exact (g : Gr H0 H sz s el) : ∃ H', (∀ a fr, Weak a fr H a fr H') ∧ GrX H0 H' sz s el ∧ (∀ x, ¬ s.hasB x → H'.blk x = H.blk x) ∧ H'.next = H.next := by
  rcases g.at_ with ⟨rfl, rfl⟩ | ⟨b, ex, el0, rfl, h1, h2, h3, h4⟩
  · exact ⟨H, fun _ _ => .refl, ⟨g, .inl ⟨rfl, rfl⟩⟩, fun _ _ => rfl, rfl⟩
  · refine ⟨H.put b (.cells el.flatten false), fun _ _ => Weak.tell h3 (les_flat h4), ⟨⟨g.sub.put h1, g.len, .inr ⟨b, ex, el, rfl, h1, h2, by simp, D.less_refl _⟩⟩, .inr ⟨b, ex, rfl, h1, h2, by simp⟩⟩, fun x hx => ?_, rfl⟩
    rw [put_blk, if_neg];rintro rfl;exact hx rfl
theorem sem_exact_call {f : Nat} {args : List D} {dst : Option Nat} {l : List MO} {fz lv : List Nat} {K : List KD} {fr : FrD} (g : Gr H0 H sz s el)
    (hs : ∀ H', GrX H0 H' sz s el → (∀ x, ¬ s.hasB x → H'.blk x = H.blk x) → H'.next = H.next → Sem p ext Q (.call f args dst l fz lv K .mk fr H')) : Sem p ext Q (.call f args dst l fz lv K .mk fr H) := by
  obtain ⟨H', w, g', k, n⟩ := g.exact;exact sem_weak_call (w _ _) (hs H' g' k n)
theorem Weak.box {a : List D} {fr : FrD} {b t : Nat} {cs : List D} {ro : Bool} (hb : H.blk b = .cells cs ro) (ht : lk fr t = .ptr b 0) : Weak a fr H a ((t, .rptr cs 0) :: fr) (H.put b .gone) := by
  intro ψ S h fv vs sr kf kv;obtain ⟨c, hc, h2, h3⟩ := sr.live b (by rw [hb]; rfl);rw [hb] at h3;obtain ⟨l', e1, k⟩ := h3;obtain ⟨x0, s0⟩ := sr.freeze hc;refine ⟨ψ, _, x0, s0, ?_, VDl.mono x0 _ kv⟩;intro u;rw [lk_cons]
  split
  · rename_i e; subst e
    have := kf t;rw [ht] at this;simp only [VD] at this ⊢;obtain ⟨c', e, e2⟩ := this;rw [hc] at e; cases e;exact ⟨c, 0, l', ro, .inr rfl, by rw [e2], e1, by have := VDp.of (us := []) (VDl.mono x0 _ k); simpa using this⟩
  · exact kf.mono x0 u
theorem sem_box {b : Nat} {cs : List D} {ro : Bool} (t : Nat) {c : KC} {K : List KD} {fr : FrD} (hb : H.blk b = .cells cs ro) (ht : lk fr t = .ptr b 0)
    (hs : Sem p ext Q (.code c K .mk ((t, .rptr cs 0) :: fr) (H.put b .gone))) : Sem p ext Q (.code c K .mk fr H) := sem_weak (Weak.box hb ht) hs
end Go.Dv
end

section
namespace Go.Lib
open Go.Vm Go.Dv
set_option maxRecDepth 100000
abbrev K26 (F : Nat → Nat) : KC := .region [⟨some 4,.p (.mov (.tmp 0)),none⟩,⟨some 5,.p (.mov (.tmp 0)),none⟩,⟨some 6,.p (.lenb (.tmp 5)),none⟩,⟨some 7,.p (.mov (.tmp 1)),none⟩,⟨some 8,.e (.call (F 27) [(.tmp 4),(.tmp 6),(.tmp 7)]),none⟩] [] []
def M26 (F : Nat → Nat) : Fun := ⟨9,2,(K26 F).erase,[]⟩
theorem ok26 {F : Nat → Nat} : (K26 F).ok = true := rfl
abbrev K27 (F : Nat → Nat) : KC := .seq (.region [⟨some 6,.p (.mov (.val (.int .i64 (.ofNat 20)))),none⟩] [] [0,1,2,6])
 (.seq (.region [⟨some 10,.p (.mov (.tmp 6)),none⟩,⟨some 7,.p (.mov (.val (.int .i64 (.ofNat 0)))),none⟩,⟨some 8,.p (.mov (.tmp 10)),none⟩] [] [0,1,2,6,7,8])
 (.seq (.block 0 (.loop (.seq (.seq (.region [⟨some 11,.p (.mov (.tmp 8)),none⟩,⟨some 12,.p (.mov (.tmp 1)),none⟩,⟨some 13,.p (.bin .leq (.tmp 11) (.tmp 12)),none⟩] [] [0,1,2,6,7,8,13])
 (.cond (.tmp 13) (.skip)
 (.exit 0)))
 (.block 1 (.seq (.region [⟨some 14,.p (.mov (.tmp 0)),none⟩,⟨some 15,.p (.mov (.tmp 7)),none⟩,⟨some 16,.p (.mov (.tmp 8)),none⟩,⟨some 17,.p (.mov (.tmp 2)),none⟩,⟨some 18,.e (.call (F 28) [(.tmp 14),(.tmp 15),(.tmp 16),(.tmp 17)]),none⟩] [] [0,1,2,6,8])
 (.seq (.region [⟨some 19,.p (.mov (.tmp 8)),none⟩,⟨some 7,.p (.mov (.tmp 19)),none⟩] [] [0,1,2,6,7,8])
 (.region [⟨some 20,.p (.mov (.tmp 8)),none⟩,⟨some 21,.p (.mov (.tmp 6)),none⟩,⟨some 22,.p (.bin .add (.tmp 20) (.tmp 21)),none⟩,⟨some 8,.p (.mov (.tmp 22)),none⟩] [] [0,1,2,6,7,8])))))))
 (.seq (.region [⟨some 23,.p (.mov (.tmp 0)),none⟩,⟨some 24,.p (.mov (.tmp 7)),none⟩,⟨some 25,.p (.mov (.tmp 1)),none⟩,⟨some 26,.p (.mov (.tmp 2)),none⟩,⟨some 27,.e (.call (F 28) [(.tmp 23),(.tmp 24),(.tmp 25),(.tmp 26)]),none⟩] [] [0,1,2,6])
 (.block 2 (.loop (.seq (.seq (.region [⟨some 28,.p (.mov (.tmp 6)),none⟩,⟨some 29,.p (.mov (.tmp 1)),none⟩,⟨some 30,.p (.bin .lss (.tmp 28) (.tmp 29)),none⟩] [] [0,1,2,6,30])
 (.cond (.tmp 30) (.skip)
 (.exit 2)))
 (.block 3 (.seq (.region [⟨some 31,.p (.mov (.tmp 6)),none⟩,⟨some 32,.p (.bin .mul (.val (.int .i64 (.ofNat 2))) (.tmp 31)),none⟩,⟨some 7,.p (.mov (.val (.int .i64 (.ofNat 0)))),none⟩,⟨some 8,.p (.mov (.tmp 32)),none⟩] [] [0,1,2,6,7,8])
 (.seq (.block 4 (.loop (.seq (.seq (.region [⟨some 33,.p (.mov (.tmp 8)),none⟩,⟨some 34,.p (.mov (.tmp 1)),none⟩,⟨some 35,.p (.bin .leq (.tmp 33) (.tmp 34)),none⟩] [] [0,1,2,6,7,8,35])
 (.cond (.tmp 35) (.skip)
 (.exit 4)))
 (.block 5 (.seq (.region [⟨some 36,.p (.mov (.tmp 0)),none⟩,⟨some 37,.p (.mov (.tmp 7)),none⟩,⟨some 38,.p (.mov (.tmp 7)),none⟩,⟨some 39,.p (.mov (.tmp 6)),none⟩,⟨some 40,.p (.bin .add (.tmp 38) (.tmp 39)),none⟩,⟨some 41,.p (.mov (.tmp 8)),none⟩,⟨some 42,.p (.mov (.tmp 2)),none⟩,⟨some 43,.e (.call (F 29) [(.tmp 36),(.tmp 37),(.tmp 40),(.tmp 41),(.tmp 42)]),none⟩] [] [0,1,2,6,8])
 (.seq (.region [⟨some 44,.p (.mov (.tmp 8)),none⟩,⟨some 7,.p (.mov (.tmp 44)),none⟩] [] [0,1,2,6,7,8])
 (.region [⟨some 45,.p (.mov (.tmp 8)),none⟩,⟨some 46,.p (.mov (.tmp 6)),none⟩,⟨some 47,.p (.bin .mul (.val (.int .i64 (.ofNat 2))) (.tmp 46)),none⟩,⟨some 48,.p (.bin .add (.tmp 45) (.tmp 47)),none⟩,⟨some 8,.p (.mov (.tmp 48)),none⟩] [] [0,1,2,6,7,8])))))))
 (.seq (.seq (.region [⟨some 49,.p (.mov (.tmp 7)),none⟩,⟨some 50,.p (.mov (.tmp 6)),none⟩,⟨some 51,.p (.bin .add (.tmp 49) (.tmp 50)),none⟩,⟨some 9,.p (.mov (.tmp 51)),none⟩] [] [0,1,2,6,7,9])
 (.seq (.region [⟨some 52,.p (.mov (.tmp 9)),none⟩,⟨some 53,.p (.mov (.tmp 1)),none⟩,⟨some 54,.p (.bin .lss (.tmp 52) (.tmp 53)),none⟩] [] [0,1,2,6,7,9,54])
 (.cond (.tmp 54) (.region [⟨some 55,.p (.mov (.tmp 0)),none⟩,⟨some 56,.p (.mov (.tmp 7)),none⟩,⟨some 57,.p (.mov (.tmp 9)),none⟩,⟨some 58,.p (.mov (.tmp 1)),none⟩,⟨some 59,.p (.mov (.tmp 2)),none⟩,⟨some 60,.e (.call (F 29) [(.tmp 55),(.tmp 56),(.tmp 57),(.tmp 58),(.tmp 59)]),none⟩] [] [0,1,2,6])
 (.skip))))
 (.region [⟨some 61,.p (.mov (.tmp 6)),none⟩,⟨some 62,.p (.bin .mul (.tmp 61) (.val (.int .i64 (.ofNat 2)))),none⟩,⟨some 6,.p (.mov (.tmp 62)),none⟩] [] [0,1,2,6])))))))))))
def M27 (F : Nat → Nat) : Fun := ⟨63,3,(K27 F).erase,[]⟩
theorem ok27 {F : Nat → Nat} : (K27 F).ok = true := rfl
abbrev K28 (_F : Nat → Nat) : KC := .seq (.region [⟨some 10,.p (.mov (.tmp 1)),none⟩,⟨some 11,.p (.bin .add (.tmp 10) (.val (.int .i64 (.ofNat 1)))),none⟩,⟨some 8,.p (.mov (.tmp 11)),none⟩] [] [0,1,2,3,8])
 (.block 0 (.loop (.seq (.seq (.region [⟨some 12,.p (.mov (.tmp 8)),none⟩,⟨some 13,.p (.mov (.tmp 2)),none⟩,⟨some 14,.p (.bin .lss (.tmp 12) (.tmp 13)),none⟩] [] [0,1,2,3,8,14])
 (.cond (.tmp 14) (.skip)
 (.exit 0)))
 (.seq (.block 1 (.seq (.region [⟨some 17,.p (.mov (.tmp 8)),none⟩,⟨some 9,.p (.mov (.tmp 17)),none⟩] [] [0,1,2,3,8,9])
 (.block 2 (.loop (.seq (.seq (.dregion [⟨⟨some 18,.p (.mov (.tmp 9)),none⟩,0,14⟩,⟨⟨some 19,.p (.mov (.tmp 1)),none⟩,0,14⟩,⟨⟨some 20,.p (.bin .gtr (.tmp 18) (.tmp 19)),none⟩,0,14⟩,⟨⟨some 21,.p (.mov (.tmp 20)),none⟩,0,14⟩,⟨⟨some 22,.p (.mov (.tmp 3)),(some (21,true))⟩,0,14⟩,⟨⟨some 23,.p (.mov (.tmp 0)),(some (21,true))⟩,0,14⟩,⟨⟨some 24,.p (.mov (.tmp 9)),(some (21,true))⟩,0,14⟩,⟨⟨some 25,.p (.iaddr 1 (.tmp 23) (.tmp 24)),(some (21,true))⟩,0,14⟩,⟨⟨some 26,.load1 (.tmp 25),(some (21,true))⟩,0,14⟩,⟨⟨some 27,.p (.mov (.tmp 0)),(some (21,true))⟩,0,14⟩,⟨⟨some 28,.p (.mov (.tmp 9)),(some (21,true))⟩,0,14⟩,⟨⟨some 29,.p (.bin .sub (.tmp 28) (.val (.int .i64 (.ofNat 1)))),(some (21,true))⟩,0,14⟩,⟨⟨some 30,.p (.iaddr 1 (.tmp 27) (.tmp 29)),(some (21,true))⟩,0,14⟩,⟨⟨some 31,.load1 (.tmp 30),(some (21,true))⟩,0,14⟩,⟨⟨some 32,.e (.callv (.tmp 22) [(.tmp 26),(.tmp 31)]),(some (21,true))⟩,0,17⟩,⟨⟨some 33,.p (.bin .lss (.tmp 32) (.val (.int .i64 (.ofNat 0)))),(some (21,true))⟩,15,17⟩,⟨⟨some 34,.p (.pick (.tmp 21) (.tmp 33) (.val (.bool false))),none⟩,15,17⟩] [0,1,2,3,8,9,34])
 (.cond (.tmp 34) (.skip)
 (.exit 2)))
 (.seq (.block 3 (.dregion [⟨⟨some 37,.p (.mov (.tmp 0)),none⟩,0,12⟩,⟨⟨some 38,.p (.mov (.tmp 9)),none⟩,0,12⟩,⟨⟨some 42,.p (.mov (.tmp 0)),none⟩,0,12⟩,⟨⟨some 43,.p (.mov (.tmp 9)),none⟩,0,12⟩,⟨⟨some 44,.p (.bin .sub (.tmp 43) (.val (.int .i64 (.ofNat 1)))),none⟩,0,12⟩,⟨⟨some 45,.p (.iaddr 1 (.tmp 42) (.tmp 44)),none⟩,0,12⟩,⟨⟨some 46,.load1 (.tmp 45),none⟩,0,12⟩,⟨⟨some 47,.p (.mov (.tmp 0)),none⟩,0,12⟩,⟨⟨some 48,.p (.mov (.tmp 9)),none⟩,0,12⟩,⟨⟨some 49,.p (.iaddr 1 (.tmp 47) (.tmp 48)),none⟩,0,12⟩,⟨⟨some 50,.load1 (.tmp 49),none⟩,0,12⟩,⟨⟨some 51,.p (.iaddr 1 (.tmp 37) (.tmp 38)),none⟩,0,12⟩,⟨⟨none,.e (.store 1 (.tmp 51) (.tmp 46)),none⟩,0,17⟩,⟨⟨some 39,.p (.mov (.tmp 0)),none⟩,0,17⟩,⟨⟨some 40,.p (.mov (.tmp 9)),none⟩,0,17⟩,⟨⟨some 41,.p (.bin .sub (.tmp 40) (.val (.int .i64 (.ofNat 1)))),none⟩,0,17⟩,⟨⟨some 52,.p (.iaddr 1 (.tmp 39) (.tmp 41)),none⟩,13,17⟩,⟨⟨none,.e (.store 1 (.tmp 52) (.tmp 50)),none⟩,13,18⟩] [0,1,2,3,8,9]))
 (.region [⟨some 35,.p (.mov (.tmp 9)),none⟩,⟨some 36,.p (.bin .sub (.tmp 35) (.val (.int .i64 (.ofNat 1)))),none⟩,⟨some 9,.p (.mov (.tmp 36)),none⟩] [] [0,1,2,3,8,9])))))))
 (.region [⟨some 15,.p (.mov (.tmp 8)),none⟩,⟨some 16,.p (.bin .add (.tmp 15) (.val (.int .i64 (.ofNat 1)))),none⟩,⟨some 8,.p (.mov (.tmp 16)),none⟩] [] [0,1,2,3,8])))))
def M28 (F : Nat → Nat) : Fun := ⟨53,4,(K28 F).erase,[]⟩
theorem ok28 {F : Nat → Nat} : (K28 F).ok = true := rfl
abbrev K29 (F : Nat → Nat) : KC := .seq (.seq (.region [⟨some 25,.p (.mov (.tmp 2)),none⟩,⟨some 26,.p (.mov (.tmp 1)),none⟩,⟨some 27,.p (.bin .sub (.tmp 25) (.tmp 26)),none⟩,⟨some 28,.p (.bin .eql (.tmp 27) (.val (.int .i64 (.ofNat 1)))),none⟩] [] [0,1,2,3,4,28])
 (.cond (.tmp 28) (.seq (.region [⟨some 29,.p (.mov (.tmp 2)),none⟩,⟨some 10,.p (.mov (.tmp 29)),none⟩] [] [0,1,3,4,10])
 (.seq (.region [⟨some 30,.p (.mov (.tmp 3)),none⟩,⟨some 11,.p (.mov (.tmp 30)),none⟩] [] [0,1,4,10,11])
 (.seq (.block 0 (.loop (.seq (.seq (.region [⟨some 31,.p (.mov (.tmp 10)),none⟩,⟨some 32,.p (.mov (.tmp 11)),none⟩,⟨some 33,.p (.bin .lss (.tmp 31) (.tmp 32)),none⟩] [] [0,1,4,10,11,33])
 (.cond (.tmp 33) (.skip)
 (.exit 0)))
 (.block 1 (.seq (.region [⟨some 34,.p (.mov (.tmp 10)),none⟩,⟨some 35,.p (.mov (.tmp 11)),none⟩,⟨some 36,.p (.bin .add (.tmp 34) (.tmp 35)),none⟩,⟨some 37,.p (.conv (.int .u64) (.tmp 36)),none⟩,⟨some 38,.p (.bin .shr (.tmp 37) (.val (.int .u64 (.ofNat 1)))),none⟩,⟨some 39,.p (.conv (.int .i64) (.tmp 38)),none⟩,⟨some 12,.p (.mov (.tmp 39)),none⟩] [] [0,1,4,10,11,12])
 (.seq (.dregion [⟨⟨some 40,.p (.mov (.tmp 4)),none⟩,0,9⟩,⟨⟨some 41,.p (.mov (.tmp 0)),none⟩,0,9⟩,⟨⟨some 42,.p (.mov (.tmp 12)),none⟩,0,9⟩,⟨⟨some 43,.p (.iaddr 1 (.tmp 41) (.tmp 42)),none⟩,0,9⟩,⟨⟨some 44,.load1 (.tmp 43),none⟩,0,9⟩,⟨⟨some 45,.p (.mov (.tmp 0)),none⟩,0,9⟩,⟨⟨some 46,.p (.mov (.tmp 1)),none⟩,0,9⟩,⟨⟨some 47,.p (.iaddr 1 (.tmp 45) (.tmp 46)),none⟩,0,9⟩,⟨⟨some 48,.load1 (.tmp 47),none⟩,0,9⟩,⟨⟨some 49,.e (.callv (.tmp 40) [(.tmp 44),(.tmp 48)]),none⟩,0,11⟩,⟨⟨some 50,.p (.bin .lss (.tmp 49) (.val (.int .i64 (.ofNat 0)))),none⟩,10,11⟩] [0,1,4,10,11,12,50])
 (.cond (.tmp 50) (.region [⟨some 51,.p (.mov (.tmp 12)),none⟩,⟨some 52,.p (.bin .add (.tmp 51) (.val (.int .i64 (.ofNat 1)))),none⟩,⟨some 10,.p (.mov (.tmp 52)),none⟩] [] [0,1,4,10,11])
 (.region [⟨some 53,.p (.mov (.tmp 12)),none⟩,⟨some 11,.p (.mov (.tmp 53)),none⟩] [] [0,1,4,10,11]))))))))
 (.seq (.seq (.region [⟨some 54,.p (.mov (.tmp 1)),none⟩,⟨some 13,.p (.mov (.tmp 54)),none⟩] [] [0,10,13])
 (.block 2 (.loop (.seq (.seq (.region [⟨some 55,.p (.mov (.tmp 13)),none⟩,⟨some 56,.p (.mov (.tmp 10)),none⟩,⟨some 57,.p (.bin .sub (.tmp 56) (.val (.int .i64 (.ofNat 1)))),none⟩,⟨some 58,.p (.bin .lss (.tmp 55) (.tmp 57)),none⟩] [] [0,10,13,58])
 (.cond (.tmp 58) (.skip)
 (.exit 2)))
 (.seq (.block 3 (.dregion [⟨⟨some 61,.p (.mov (.tmp 0)),none⟩,0,12⟩,⟨⟨some 62,.p (.mov (.tmp 13)),none⟩,0,12⟩,⟨⟨some 66,.p (.mov (.tmp 0)),none⟩,0,12⟩,⟨⟨some 67,.p (.mov (.tmp 13)),none⟩,0,12⟩,⟨⟨some 68,.p (.bin .add (.tmp 67) (.val (.int .i64 (.ofNat 1)))),none⟩,0,12⟩,⟨⟨some 69,.p (.iaddr 1 (.tmp 66) (.tmp 68)),none⟩,0,12⟩,⟨⟨some 70,.load1 (.tmp 69),none⟩,0,12⟩,⟨⟨some 71,.p (.mov (.tmp 0)),none⟩,0,12⟩,⟨⟨some 72,.p (.mov (.tmp 13)),none⟩,0,12⟩,⟨⟨some 73,.p (.iaddr 1 (.tmp 71) (.tmp 72)),none⟩,0,12⟩,⟨⟨some 74,.load1 (.tmp 73),none⟩,0,12⟩,⟨⟨some 75,.p (.iaddr 1 (.tmp 61) (.tmp 62)),none⟩,0,12⟩,⟨⟨none,.e (.store 1 (.tmp 75) (.tmp 70)),none⟩,0,17⟩,⟨⟨some 63,.p (.mov (.tmp 0)),none⟩,0,17⟩,⟨⟨some 64,.p (.mov (.tmp 13)),none⟩,0,17⟩,⟨⟨some 65,.p (.bin .add (.tmp 64) (.val (.int .i64 (.ofNat 1)))),none⟩,0,17⟩,⟨⟨some 76,.p (.iaddr 1 (.tmp 63) (.tmp 65)),none⟩,13,17⟩,⟨⟨none,.e (.store 1 (.tmp 76) (.tmp 74)),none⟩,13,18⟩] [0,10,13]))
 (.region [⟨some 59,.p (.mov (.tmp 13)),none⟩,⟨some 60,.p (.bin .add (.tmp 59) (.val (.int .i64 (.ofNat 1)))),none⟩,⟨some 13,.p (.mov (.tmp 60)),none⟩] [] [0,10,13]))))))
 (.ret)))))
 (.skip)))
 (.seq (.seq (.region [⟨some 77,.p (.mov (.tmp 3)),none⟩,⟨some 78,.p (.mov (.tmp 2)),none⟩,⟨some 79,.p (.bin .sub (.tmp 77) (.tmp 78)),none⟩,⟨some 80,.p (.bin .eql (.tmp 79) (.val (.int .i64 (.ofNat 1)))),none⟩] [] [0,1,2,3,4,80])
 (.cond (.tmp 80) (.seq (.region [⟨some 81,.p (.mov (.tmp 1)),none⟩,⟨some 14,.p (.mov (.tmp 81)),none⟩] [] [0,2,4,14])
 (.seq (.region [⟨some 82,.p (.mov (.tmp 2)),none⟩,⟨some 15,.p (.mov (.tmp 82)),none⟩] [] [0,2,4,14,15])
 (.seq (.block 4 (.loop (.seq (.seq (.region [⟨some 83,.p (.mov (.tmp 14)),none⟩,⟨some 84,.p (.mov (.tmp 15)),none⟩,⟨some 85,.p (.bin .lss (.tmp 83) (.tmp 84)),none⟩] [] [0,2,4,14,15,85])
 (.cond (.tmp 85) (.skip)
 (.exit 4)))
 (.block 5 (.seq (.region [⟨some 86,.p (.mov (.tmp 14)),none⟩,⟨some 87,.p (.mov (.tmp 15)),none⟩,⟨some 88,.p (.bin .add (.tmp 86) (.tmp 87)),none⟩,⟨some 89,.p (.conv (.int .u64) (.tmp 88)),none⟩,⟨some 90,.p (.bin .shr (.tmp 89) (.val (.int .u64 (.ofNat 1)))),none⟩,⟨some 91,.p (.conv (.int .i64) (.tmp 90)),none⟩,⟨some 16,.p (.mov (.tmp 91)),none⟩] [] [0,2,4,14,15,16])
 (.seq (.dregion [⟨⟨some 92,.p (.mov (.tmp 4)),none⟩,0,9⟩,⟨⟨some 93,.p (.mov (.tmp 0)),none⟩,0,9⟩,⟨⟨some 94,.p (.mov (.tmp 2)),none⟩,0,9⟩,⟨⟨some 95,.p (.iaddr 1 (.tmp 93) (.tmp 94)),none⟩,0,9⟩,⟨⟨some 96,.load1 (.tmp 95),none⟩,0,9⟩,⟨⟨some 97,.p (.mov (.tmp 0)),none⟩,0,9⟩,⟨⟨some 98,.p (.mov (.tmp 16)),none⟩,0,9⟩,⟨⟨some 99,.p (.iaddr 1 (.tmp 97) (.tmp 98)),none⟩,0,9⟩,⟨⟨some 100,.load1 (.tmp 99),none⟩,0,9⟩,⟨⟨some 101,.e (.callv (.tmp 92) [(.tmp 96),(.tmp 100)]),none⟩,0,12⟩,⟨⟨some 102,.p (.bin .lss (.tmp 101) (.val (.int .i64 (.ofNat 0)))),none⟩,10,12⟩,⟨⟨some 103,.p (.not (.tmp 102)),none⟩,10,12⟩] [0,2,4,14,15,16,103])
 (.cond (.tmp 103) (.region [⟨some 104,.p (.mov (.tmp 16)),none⟩,⟨some 105,.p (.bin .add (.tmp 104) (.val (.int .i64 (.ofNat 1)))),none⟩,⟨some 14,.p (.mov (.tmp 105)),none⟩] [] [0,2,4,14,15])
 (.region [⟨some 106,.p (.mov (.tmp 16)),none⟩,⟨some 15,.p (.mov (.tmp 106)),none⟩] [] [0,2,4,14,15]))))))))
 (.seq (.seq (.region [⟨some 107,.p (.mov (.tmp 2)),none⟩,⟨some 17,.p (.mov (.tmp 107)),none⟩] [] [0,14,17])
 (.block 6 (.loop (.seq (.seq (.region [⟨some 108,.p (.mov (.tmp 17)),none⟩,⟨some 109,.p (.mov (.tmp 14)),none⟩,⟨some 110,.p (.bin .gtr (.tmp 108) (.tmp 109)),none⟩] [] [0,14,17,110])
 (.cond (.tmp 110) (.skip)
 (.exit 6)))
 (.seq (.block 7 (.dregion [⟨⟨some 113,.p (.mov (.tmp 0)),none⟩,0,12⟩,⟨⟨some 114,.p (.mov (.tmp 17)),none⟩,0,12⟩,⟨⟨some 118,.p (.mov (.tmp 0)),none⟩,0,12⟩,⟨⟨some 119,.p (.mov (.tmp 17)),none⟩,0,12⟩,⟨⟨some 120,.p (.bin .sub (.tmp 119) (.val (.int .i64 (.ofNat 1)))),none⟩,0,12⟩,⟨⟨some 121,.p (.iaddr 1 (.tmp 118) (.tmp 120)),none⟩,0,12⟩,⟨⟨some 122,.load1 (.tmp 121),none⟩,0,12⟩,⟨⟨some 123,.p (.mov (.tmp 0)),none⟩,0,12⟩,⟨⟨some 124,.p (.mov (.tmp 17)),none⟩,0,12⟩,⟨⟨some 125,.p (.iaddr 1 (.tmp 123) (.tmp 124)),none⟩,0,12⟩,⟨⟨some 126,.load1 (.tmp 125),none⟩,0,12⟩,⟨⟨some 127,.p (.iaddr 1 (.tmp 113) (.tmp 114)),none⟩,0,12⟩,⟨⟨none,.e (.store 1 (.tmp 127) (.tmp 122)),none⟩,0,17⟩,⟨⟨some 115,.p (.mov (.tmp 0)),none⟩,0,17⟩,⟨⟨some 116,.p (.mov (.tmp 17)),none⟩,0,17⟩,⟨⟨some 117,.p (.bin .sub (.tmp 116) (.val (.int .i64 (.ofNat 1)))),none⟩,0,17⟩,⟨⟨some 128,.p (.iaddr 1 (.tmp 115) (.tmp 117)),none⟩,13,17⟩,⟨⟨none,.e (.store 1 (.tmp 128) (.tmp 126)),none⟩,13,18⟩] [0,14,17]))
 (.region [⟨some 111,.p (.mov (.tmp 17)),none⟩,⟨some 112,.p (.bin .sub (.tmp 111) (.val (.int .i64 (.ofNat 1)))),none⟩,⟨some 17,.p (.mov (.tmp 112)),none⟩] [] [0,14,17]))))))
 (.ret)))))
 (.skip)))
 (.seq (.region [⟨some 129,.p (.mov (.tmp 1)),none⟩,⟨some 130,.p (.mov (.tmp 3)),none⟩,⟨some 131,.p (.bin .add (.tmp 129) (.tmp 130)),none⟩,⟨some 132,.p (.conv (.int .u64) (.tmp 131)),none⟩,⟨some 133,.p (.bin .shr (.tmp 132) (.val (.int .u64 (.ofNat 1)))),none⟩,⟨some 134,.p (.conv (.int .i64) (.tmp 133)),none⟩,⟨some 18,.p (.mov (.tmp 134)),none⟩] [] [0,1,2,3,4,18])
 (.seq (.region [⟨some 135,.p (.mov (.tmp 18)),none⟩,⟨some 136,.p (.mov (.tmp 2)),none⟩,⟨some 137,.p (.bin .add (.tmp 135) (.tmp 136)),none⟩,⟨some 19,.p (.mov (.tmp 137)),none⟩] [] [0,1,2,3,4,18,19])
 (.seq (.region [⟨some 20,.p (.mov (.val (.int .i64 (.ofNat 0)))),none⟩,⟨some 21,.p (.mov (.val (.int .i64 (.ofNat 0)))),none⟩] [] [0,1,2,3,4,18,19])
 (.seq (.seq (.region [⟨some 138,.p (.mov (.tmp 2)),none⟩,⟨some 139,.p (.mov (.tmp 18)),none⟩,⟨some 140,.p (.bin .gtr (.tmp 138) (.tmp 139)),none⟩] [] [0,1,2,3,4,18,19,140])
 (.cond (.tmp 140) (.seq (.region [⟨some 141,.p (.mov (.tmp 19)),none⟩,⟨some 142,.p (.mov (.tmp 3)),none⟩,⟨some 143,.p (.bin .sub (.tmp 141) (.tmp 142)),none⟩,⟨some 20,.p (.mov (.tmp 143)),none⟩] [] [0,1,2,3,4,18,19,20])
 (.region [⟨some 144,.p (.mov (.tmp 18)),none⟩,⟨some 21,.p (.mov (.tmp 144)),none⟩] [] [0,1,2,3,4,18,19,20,21]))
 (.seq (.region [⟨some 145,.p (.mov (.tmp 1)),none⟩,⟨some 20,.p (.mov (.tmp 145)),none⟩] [] [0,1,2,3,4,18,19,20])
 (.region [⟨some 146,.p (.mov (.tmp 2)),none⟩,⟨some 21,.p (.mov (.tmp 146)),none⟩] [] [0,1,2,3,4,18,19,20,21]))))
 (.seq (.region [⟨some 147,.p (.mov (.tmp 19)),none⟩,⟨some 148,.p (.bin .sub (.tmp 147) (.val (.int .i64 (.ofNat 1)))),none⟩,⟨some 22,.p (.mov (.tmp 148)),none⟩] [] [0,1,2,3,4,18,19,20,21,22])
 (.seq (.block 8 (.loop (.seq (.seq (.region [⟨some 149,.p (.mov (.tmp 20)),none⟩,⟨some 150,.p (.mov (.tmp 21)),none⟩,⟨some 151,.p (.bin .lss (.tmp 149) (.tmp 150)),none⟩] [] [0,1,2,3,4,18,19,20,21,22,151])
 (.cond (.tmp 151) (.skip)
 (.exit 8)))
 (.block 9 (.seq (.region [⟨some 152,.p (.mov (.tmp 20)),none⟩,⟨some 153,.p (.mov (.tmp 21)),none⟩,⟨some 154,.p (.bin .add (.tmp 152) (.tmp 153)),none⟩,⟨some 155,.p (.conv (.int .u64) (.tmp 154)),none⟩,⟨some 156,.p (.bin .shr (.tmp 155) (.val (.int .u64 (.ofNat 1)))),none⟩,⟨some 157,.p (.conv (.int .i64) (.tmp 156)),none⟩,⟨some 23,.p (.mov (.tmp 157)),none⟩] [] [0,1,2,3,4,18,19,20,21,22,23])
 (.seq (.dregion [⟨⟨some 158,.p (.mov (.tmp 4)),none⟩,0,11⟩,⟨⟨some 159,.p (.mov (.tmp 0)),none⟩,0,11⟩,⟨⟨some 160,.p (.mov (.tmp 22)),none⟩,0,11⟩,⟨⟨some 161,.p (.mov (.tmp 23)),none⟩,0,11⟩,⟨⟨some 162,.p (.bin .sub (.tmp 160) (.tmp 161)),none⟩,0,11⟩,⟨⟨some 163,.p (.iaddr 1 (.tmp 159) (.tmp 162)),none⟩,0,11⟩,⟨⟨some 164,.load1 (.tmp 163),none⟩,0,11⟩,⟨⟨some 165,.p (.mov (.tmp 0)),none⟩,0,11⟩,⟨⟨some 166,.p (.mov (.tmp 23)),none⟩,0,11⟩,⟨⟨some 167,.p (.iaddr 1 (.tmp 165) (.tmp 166)),none⟩,0,11⟩,⟨⟨some 168,.load1 (.tmp 167),none⟩,0,11⟩,⟨⟨some 169,.e (.callv (.tmp 158) [(.tmp 164),(.tmp 168)]),none⟩,0,14⟩,⟨⟨some 170,.p (.bin .lss (.tmp 169) (.val (.int .i64 (.ofNat 0)))),none⟩,12,14⟩,⟨⟨some 171,.p (.not (.tmp 170)),none⟩,12,14⟩] [0,1,2,3,4,18,19,20,21,22,23,171])
 (.cond (.tmp 171) (.region [⟨some 172,.p (.mov (.tmp 23)),none⟩,⟨some 173,.p (.bin .add (.tmp 172) (.val (.int .i64 (.ofNat 1)))),none⟩,⟨some 20,.p (.mov (.tmp 173)),none⟩] [] [0,1,2,3,4,18,19,20,21,22])
 (.region [⟨some 174,.p (.mov (.tmp 23)),none⟩,⟨some 21,.p (.mov (.tmp 174)),none⟩] [] [0,1,2,3,4,18,19,20,21,22]))))))))
 (.seq (.region [⟨some 175,.p (.mov (.tmp 19)),none⟩,⟨some 176,.p (.mov (.tmp 20)),none⟩,⟨some 177,.p (.bin .sub (.tmp 175) (.tmp 176)),none⟩,⟨some 24,.p (.mov (.tmp 177)),none⟩] [] [0,1,2,3,4,18,20,24])
 (.seq (.seq (.region [⟨some 178,.p (.mov (.tmp 20)),none⟩,⟨some 179,.p (.mov (.tmp 2)),none⟩,⟨some 180,.p (.bin .lss (.tmp 178) (.tmp 179)),none⟩,⟨some 181,.p (.mov (.tmp 180)),none⟩,⟨some 182,.p (.mov (.tmp 2)),(some (181,true))⟩,⟨some 183,.p (.mov (.tmp 24)),(some (181,true))⟩,⟨some 184,.p (.bin .lss (.tmp 182) (.tmp 183)),(some (181,true))⟩,⟨some 185,.p (.pick (.tmp 181) (.tmp 184) (.val (.bool false))),none⟩] [] [0,1,2,3,4,18,20,24,185])
 (.cond (.tmp 185) (.region [⟨some 186,.p (.mov (.tmp 0)),none⟩,⟨some 187,.p (.mov (.tmp 20)),none⟩,⟨some 188,.p (.mov (.tmp 2)),none⟩,⟨some 189,.p (.mov (.tmp 24)),none⟩,⟨some 190,.p (.mov (.tmp 4)),none⟩,⟨some 191,.e (.call (F 30) [(.tmp 186),(.tmp 187),(.tmp 188),(.tmp 189),(.tmp 190)]),none⟩] [] [0,1,3,4,18,20,24])
 (.skip)))
 (.seq (.seq (.region [⟨some 192,.p (.mov (.tmp 1)),none⟩,⟨some 193,.p (.mov (.tmp 20)),none⟩,⟨some 194,.p (.bin .lss (.tmp 192) (.tmp 193)),none⟩,⟨some 195,.p (.mov (.tmp 194)),none⟩,⟨some 196,.p (.mov (.tmp 20)),(some (195,true))⟩,⟨some 197,.p (.mov (.tmp 18)),(some (195,true))⟩,⟨some 198,.p (.bin .lss (.tmp 196) (.tmp 197)),(some (195,true))⟩,⟨some 199,.p (.pick (.tmp 195) (.tmp 198) (.val (.bool false))),none⟩] [] [0,1,3,4,18,20,24,199])
 (.cond (.tmp 199) (.region [⟨some 200,.p (.mov (.tmp 0)),none⟩,⟨some 201,.p (.mov (.tmp 1)),none⟩,⟨some 202,.p (.mov (.tmp 20)),none⟩,⟨some 203,.p (.mov (.tmp 18)),none⟩,⟨some 204,.p (.mov (.tmp 4)),none⟩,⟨some 205,.e (.call (F 29) [(.tmp 200),(.tmp 201),(.tmp 202),(.tmp 203),(.tmp 204)]),none⟩] [] [0,3,4,18,24])
 (.skip)))
 (.seq (.region [⟨some 206,.p (.mov (.tmp 18)),none⟩,⟨some 207,.p (.mov (.tmp 24)),none⟩,⟨some 208,.p (.bin .lss (.tmp 206) (.tmp 207)),none⟩,⟨some 209,.p (.mov (.tmp 208)),none⟩,⟨some 210,.p (.mov (.tmp 24)),(some (209,true))⟩,⟨some 211,.p (.mov (.tmp 3)),(some (209,true))⟩,⟨some 212,.p (.bin .lss (.tmp 210) (.tmp 211)),(some (209,true))⟩,⟨some 213,.p (.pick (.tmp 209) (.tmp 212) (.val (.bool false))),none⟩] [] [0,3,4,18,24,213])
 (.cond (.tmp 213) (.region [⟨some 214,.p (.mov (.tmp 0)),none⟩,⟨some 215,.p (.mov (.tmp 18)),none⟩,⟨some 216,.p (.mov (.tmp 24)),none⟩,⟨some 217,.p (.mov (.tmp 3)),none⟩,⟨some 218,.p (.mov (.tmp 4)),none⟩,⟨some 219,.e (.call (F 29) [(.tmp 214),(.tmp 215),(.tmp 216),(.tmp 217),(.tmp 218)]),none⟩] [] [])
 (.skip)))))))))))))
def M29 (F : Nat → Nat) : Fun := ⟨220,5,(K29 F).erase,[]⟩
theorem ok29 {F : Nat → Nat} : (K29 F).ok = true := rfl
abbrev K30 (F : Nat → Nat) : KC := .seq (.region [⟨some 12,.p (.mov (.tmp 2)),none⟩,⟨some 13,.p (.mov (.tmp 1)),none⟩,⟨some 14,.p (.bin .sub (.tmp 12) (.tmp 13)),none⟩,⟨some 10,.p (.mov (.tmp 14)),none⟩] [] [0,2,3,4,10])
 (.seq (.region [⟨some 15,.p (.mov (.tmp 3)),none⟩,⟨some 16,.p (.mov (.tmp 2)),none⟩,⟨some 17,.p (.bin .sub (.tmp 15) (.tmp 16)),none⟩,⟨some 11,.p (.mov (.tmp 17)),none⟩] [] [0,2,4,10,11])
 (.seq (.block 0 (.loop (.seq (.seq (.region [⟨some 18,.p (.mov (.tmp 10)),none⟩,⟨some 19,.p (.mov (.tmp 11)),none⟩,⟨some 20,.p (.bin .neq (.tmp 18) (.tmp 19)),none⟩] [] [0,2,4,10,11,20])
 (.cond (.tmp 20) (.skip)
 (.exit 0)))
 (.block 1 (.seq (.region [⟨some 21,.p (.mov (.tmp 10)),none⟩,⟨some 22,.p (.mov (.tmp 11)),none⟩,⟨some 23,.p (.bin .gtr (.tmp 21) (.tmp 22)),none⟩] [] [0,2,4,10,11,23])
 (.cond (.tmp 23) (.seq (.region [⟨some 24,.p (.mov (.tmp 0)),none⟩,⟨some 25,.p (.mov (.tmp 2)),none⟩,⟨some 26,.p (.mov (.tmp 10)),none⟩,⟨some 27,.p (.bin .sub (.tmp 25) (.tmp 26)),none⟩,⟨some 28,.p (.mov (.tmp 2)),none⟩,⟨some 29,.p (.mov (.tmp 11)),none⟩,⟨some 30,.p (.mov (.tmp 4)),none⟩,⟨some 31,.e (.call (F 31) [(.tmp 24),(.tmp 27),(.tmp 28),(.tmp 29),(.tmp 30)]),none⟩] [] [0,2,4,10,11])
 (.region [⟨some 32,.p (.mov (.tmp 10)),none⟩,⟨some 33,.p (.mov (.tmp 11)),none⟩,⟨some 34,.p (.bin .sub (.tmp 32) (.tmp 33)),none⟩,⟨some 10,.p (.mov (.tmp 34)),none⟩] [] [0,2,4,10,11]))
 (.seq (.region [⟨some 35,.p (.mov (.tmp 0)),none⟩,⟨some 36,.p (.mov (.tmp 2)),none⟩,⟨some 37,.p (.mov (.tmp 10)),none⟩,⟨some 38,.p (.bin .sub (.tmp 36) (.tmp 37)),none⟩,⟨some 39,.p (.mov (.tmp 2)),none⟩,⟨some 40,.p (.mov (.tmp 11)),none⟩,⟨some 41,.p (.bin .add (.tmp 39) (.tmp 40)),none⟩,⟨some 42,.p (.mov (.tmp 10)),none⟩,⟨some 43,.p (.bin .sub (.tmp 41) (.tmp 42)),none⟩,⟨some 44,.p (.mov (.tmp 10)),none⟩,⟨some 45,.p (.mov (.tmp 4)),none⟩,⟨some 46,.e (.call (F 31) [(.tmp 35),(.tmp 38),(.tmp 43),(.tmp 44),(.tmp 45)]),none⟩] [] [0,2,4,10,11])
 (.region [⟨some 47,.p (.mov (.tmp 11)),none⟩,⟨some 48,.p (.mov (.tmp 10)),none⟩,⟨some 49,.p (.bin .sub (.tmp 47) (.tmp 48)),none⟩,⟨some 11,.p (.mov (.tmp 49)),none⟩] [] [0,2,4,10,11]))))))))
 (.region [⟨some 50,.p (.mov (.tmp 0)),none⟩,⟨some 51,.p (.mov (.tmp 2)),none⟩,⟨some 52,.p (.mov (.tmp 10)),none⟩,⟨some 53,.p (.bin .sub (.tmp 51) (.tmp 52)),none⟩,⟨some 54,.p (.mov (.tmp 2)),none⟩,⟨some 55,.p (.mov (.tmp 10)),none⟩,⟨some 56,.p (.mov (.tmp 4)),none⟩,⟨some 57,.e (.call (F 31) [(.tmp 50),(.tmp 53),(.tmp 54),(.tmp 55),(.tmp 56)]),none⟩] [] [])))
def M30 (F : Nat → Nat) : Fun := ⟨58,5,(K30 F).erase,[]⟩
theorem ok30 {F : Nat → Nat} : (K30 F).ok = true := rfl
abbrev K31 (_F : Nat → Nat) : KC := .seq (.region [⟨some 10,.p (.mov (.val (.int .i64 (.ofNat 0)))),none⟩] [] [0,1,2,3,10])
 (.block 0 (.loop (.seq (.seq (.region [⟨some 11,.p (.mov (.tmp 10)),none⟩,⟨some 12,.p (.mov (.tmp 3)),none⟩,⟨some 13,.p (.bin .lss (.tmp 11) (.tmp 12)),none⟩] [] [0,1,2,3,10,13])
 (.cond (.tmp 13) (.skip)
 (.exit 0)))
 (.seq (.block 1 (.dregion [⟨⟨some 16,.p (.mov (.tmp 0)),none⟩,0,17⟩,⟨⟨some 17,.p (.mov (.tmp 1)),none⟩,0,17⟩,⟨⟨some 18,.p (.mov (.tmp 10)),none⟩,0,17⟩,⟨⟨some 19,.p (.bin .add (.tmp 17) (.tmp 18)),none⟩,0,17⟩,⟨⟨some 24,.p (.mov (.tmp 0)),none⟩,0,17⟩,⟨⟨some 25,.p (.mov (.tmp 2)),none⟩,0,17⟩,⟨⟨some 26,.p (.mov (.tmp 10)),none⟩,0,17⟩,⟨⟨some 27,.p (.bin .add (.tmp 25) (.tmp 26)),none⟩,0,17⟩,⟨⟨some 28,.p (.iaddr 1 (.tmp 24) (.tmp 27)),none⟩,0,17⟩,⟨⟨some 29,.load1 (.tmp 28),none⟩,0,17⟩,⟨⟨some 30,.p (.mov (.tmp 0)),none⟩,0,17⟩,⟨⟨some 31,.p (.mov (.tmp 1)),none⟩,0,17⟩,⟨⟨some 32,.p (.mov (.tmp 10)),none⟩,0,17⟩,⟨⟨some 33,.p (.bin .add (.tmp 31) (.tmp 32)),none⟩,0,17⟩,⟨⟨some 34,.p (.iaddr 1 (.tmp 30) (.tmp 33)),none⟩,0,17⟩,⟨⟨some 35,.load1 (.tmp 34),none⟩,0,17⟩,⟨⟨some 36,.p (.iaddr 1 (.tmp 16) (.tmp 19)),none⟩,0,17⟩,⟨⟨none,.e (.store 1 (.tmp 36) (.tmp 29)),none⟩,0,23⟩,⟨⟨some 20,.p (.mov (.tmp 0)),none⟩,0,23⟩,⟨⟨some 21,.p (.mov (.tmp 2)),none⟩,0,23⟩,⟨⟨some 22,.p (.mov (.tmp 10)),none⟩,0,23⟩,⟨⟨some 23,.p (.bin .add (.tmp 21) (.tmp 22)),none⟩,0,23⟩,⟨⟨some 37,.p (.iaddr 1 (.tmp 20) (.tmp 23)),none⟩,18,23⟩,⟨⟨none,.e (.store 1 (.tmp 37) (.tmp 35)),none⟩,18,24⟩] [0,1,2,3,10]))
 (.region [⟨some 14,.p (.mov (.tmp 10)),none⟩,⟨some 15,.p (.bin .add (.tmp 14) (.val (.int .i64 (.ofNat 1)))),none⟩,⟨some 10,.p (.mov (.tmp 15)),none⟩] [] [0,1,2,3,10])))))
def M31 (F : Nat → Nat) : Fun := ⟨38,5,(K31 F).erase,[]⟩
theorem ok31 {F : Nat → Nat} : (K31 F).ok = true := rfl
end Go.Lib
end

section
namespace Go.Srt
variable {α : Type}
def swp (L : List α) (i j : Nat) : List α := match L[i]?, L[j]? with
  | some x, some y => (L.set i y).set j x
  | _, _ => L
theorem swp_length {L : List α} {i j : Nat} : (swp L i j).length = L.length := by
  unfold swp; split <;> simp
theorem swp_perm {L : List α} {i j : Nat} : (swp L i j).Perm L := by
  unfold swp
  split
  · rename_i x y hx hy
    obtain ⟨h1, rfl⟩ := List.getElem?_eq_some_iff.1 hx;obtain ⟨h2, rfl⟩ := List.getElem?_eq_some_iff.1 hy;exact List.set_set_perm h1 h2
  · exact .refl _
theorem swp_get {L : List α} {i j : Nat} (hi : i < L.length) (hj : j < L.length) (k : Nat) : (swp L i j)[k]? = if k = j then L[i]? else if k = i then L[j]? else L[k]? := by
  unfold swp;rw [List.getElem?_eq_getElem hi, List.getElem?_eq_getElem hj];simp only;rw [List.getElem?_set, List.getElem?_set]
  by_cases h1 : k = j
  · subst h1; simp [hj]
  · rw [if_neg (Ne.symm h1), if_neg h1]
    by_cases h2 : k = i
    · subst h2; simp [hi]
    · rw [if_neg (Ne.symm h2), if_neg h2]
def swpR (L : List α) (a b : Nat) : Nat → List α
  | 0 => L
  | m + 1 => swp (swpR L a b m) (a + m) (b + m)
theorem swpR_length {L : List α} {a b : Nat} : ∀ {m : Nat}, (swpR L a b m).length = L.length
  | 0 => rfl
  | m + 1 => by rw [swpR, swp_length, swpR_length]
theorem swpR_perm {L : List α} {a b : Nat} : ∀ {m : Nat}, (swpR L a b m).Perm L
  | 0 => .refl _
  | m + 1 => by rw [swpR]; exact swp_perm.trans swpR_perm
theorem swpR_get {L : List α} {a b : Nat} : ∀ {m : Nat}, a + m ≤ b → b + m ≤ L.length → ∀ k, (swpR L a b m)[k]? = if a ≤ k ∧ k < a + m then L[b + (k - a)]? else if b ≤ k ∧ k < b + m then L[a + (k - b)]? else L[k]?
  | 0, _, _, k => by rw [swpR, if_neg (by omega), if_neg (by omega)]
  | m + 1, h1, h2, k => by
    have ih := fun k => swpR_get (L := L) (a := a) (b := b) (m := m) (by omega) (by omega) k;rw [swpR, swp_get (by rw [swpR_length]; omega) (by rw [swpR_length]; omega)];simp only [ih]
    repeat' split
    all_goals first | rfl | omega | (congr 1; omega)
theorem swp_eq {L : List α} {i j : Nat} {x y : α} (hx : L[i]? = some x) (hy : L[j]? = some y) : (L.set i y).set j x = swp L i j := by
  unfold swp; rw [hx, hy]
def RotR (L L' : List α) (a m b : Nat) : Prop := ∀ k, L'[k]? = if a ≤ k ∧ k < a + (b - m) then L[m + (k - a)]? else if a + (b - m) ≤ k ∧ k < b then L[k - (b - m)]? else L[k]?
theorem rot_more {L L2 : List α} {i j m : Nat} (hi : i ≤ m) (hj : j < i) (hl : m + j ≤ L.length) (h : RotR (swpR L (m - i) m j) L2 (m - i + j) m (m + j)) : RotR L L2 (m - i) m (m + j) := by
  intro k;have hk := h k;simp only [swpR_get (L := L) (a := m - i) (b := m) (m := j) (by omega) (by omega)] at hk;rw [hk]
  repeat' split
  all_goals first | rfl | omega | (congr 1; omega)
theorem rot_less {L L2 : List α} {i j m : Nat} (hi : i ≤ m) (hj : i < j) (hl : m + j ≤ L.length) (h : RotR (swpR L (m - i) (m + j - i) i) L2 (m - i) m (m + (j - i))) : RotR L L2 (m - i) m (m + j) := by
  intro k;have hk := h k;simp only [swpR_get (L := L) (a := m - i) (b := m + j - i) (m := i) (by omega) (by omega)] at hk;rw [hk]
  repeat' split
  all_goals first | rfl | omega | (congr 1; omega)
theorem rot_same {L : List α} {i m : Nat} (hi : i ≤ m) (hl : m + i ≤ L.length) : RotR L (swpR L (m - i) m i) (m - i) m (m + i) := by
  intro k;rw [swpR_get (by omega) (by omega)]
  repeat' split
  all_goals first | rfl | omega | (congr 1; omega)
def Srt (cmp : α → α → Int) (L : List α) (a b : Nat) : Prop := ∀ p q x y, a ≤ p → p < q → q < b → L[p]? = some x → L[q]? = some y → ¬ cmp y x < 0
structure Mix (L L' : List α) (a b : Nat) : Prop where
  perm : L'.Perm L
  out : ∀ k, k < a ∨ b ≤ k → L'[k]? = L[k]?
theorem Mix.refl {L : List α} {a b : Nat} : Mix L L a b := ⟨.refl _, fun _ _ => rfl⟩
theorem Mix.trans {L L1 L2 : List α} {a b : Nat} (x : Mix L L1 a b) (y : Mix L1 L2 a b) : Mix L L2 a b := ⟨y.perm.trans x.perm, fun k hk => (y.out k hk).trans (x.out k hk)⟩
theorem Mix.swp {L : List α} {a b i j : Nat} (hi : a ≤ i ∧ i < b) (hj : a ≤ j ∧ j < b) (hb : b ≤ L.length) : Mix L (swp L i j) a b :=
  ⟨swp_perm, fun k hk => by rw [swp_get (by omega) (by omega), if_neg (by omega), if_neg (by omega)]⟩
theorem Srt.mono {cmp : α → α → Int} {L : List α} {a b a' b' : Nat} (h : Srt cmp L a b) (ha : a ≤ a') (hb : b' ≤ b) : Srt cmp L a' b' :=
  fun p q x y h1 h2 h3 => h p q x y (by omega) h2 (by omega)
def Parted (cmp : α → α → Int) (L : List α) (a m b : Nat) : Prop := ∀ p q x y, a ≤ p → p < m → m ≤ q → q < b → L[p]? = some x → L[q]? = some y → ¬ cmp y x < 0
theorem Srt.join {cmp : α → α → Int} {L : List α} {a m b : Nat} (h1 : Srt cmp L a m) (h2 : Srt cmp L m b) (h3 : Parted cmp L a m b) : Srt cmp L a b := fun p q x y k1 k2 k3 k4 k5 => by
  rcases Nat.lt_or_ge q m with c | c
  · exact h1 p q x y k1 k2 c k4 k5
  · rcases Nat.lt_or_ge p m with d | d
    · exact h3 p q x y k1 d c k3 k4 k5
    · exact h2 p q x y d k2 k3 k4 k5
theorem parts (M : List α) {a b : Nat} (h : a ≤ b) : M = M.take a ++ ((M.take b).drop a ++ M.drop b) := by
  rw [← List.append_assoc]
  have : M.take a ++ (M.take b).drop a = M.take b := by
    have := List.take_append_drop a (M.take b)
    rwa [List.take_take, Nat.min_eq_left h] at this
  rw [this, List.take_append_drop]
theorem Mix.src {L L' : List α} {a b k : Nat} {v : α} (hm : Mix L L' a b) (h1 : a ≤ k) (h2 : k < b) (hv : L'[k]? = some v) : ∃ k', a ≤ k' ∧ k' < b ∧ L[k']? = some v := by
  have ht : L'.take a = L.take a := List.ext_getElem? fun i => by
    rw [List.getElem?_take, List.getElem?_take]
    split
    · exact hm.out i (by omega)
    · rfl
  have hd : L'.drop b = L.drop b := List.ext_getElem? fun i => by
    rw [List.getElem?_drop, List.getElem?_drop];exact hm.out _ (by omega)
  have hp := hm.perm;rw [parts L' (show a ≤ b by omega), parts L (show a ≤ b by omega), ht, hd] at hp;have hp := (List.perm_append_right_iff _).1 ((List.perm_append_left_iff _).1 hp)
  have hmem : v ∈ (L'.take b).drop a := by
    refine List.mem_of_getElem? (i := k - a) ?_;rw [List.getElem?_drop, List.getElem?_take, if_pos (by omega), show a + (k - a) = k by omega];exact hv
  obtain ⟨i, hi⟩ := List.getElem?_of_mem (hp.mem_iff.1 hmem);rw [List.getElem?_drop, List.getElem?_take] at hi
  split at hi
  · exact ⟨a + i, by omega, by omega, hi⟩
  · cases hi
theorem Parted.mix {cmp : α → α → Int} {L L' : List α} {a m b a' b' : Nat} (h : Parted cmp L a m b) (hm : Mix L L' a' b') (hw : (a ≤ a' ∧ b' ≤ m) ∨ (m ≤ a' ∧ b' ≤ b)) : Parted cmp L' a m b := by
  have src : ∀ k v, L'[k]? = some v → a' ≤ k → k < b' → ∃ k', a' ≤ k' ∧ k' < b' ∧ L[k']? = some v := fun k v hv h1 h2 => hm.src h1 h2 hv;intro p q x y k1 k2 k3 k4 k5 k6
  have hp : ∃ p', a ≤ p' ∧ p' < m ∧ L[p']? = some x := by
    by_cases c : a' ≤ p ∧ p < b'
    · obtain ⟨p', e1, e2, e3⟩ := src p x k5 c.1 c.2
      rcases hw with hw | hw
      · exact ⟨p', by omega, by omega, e3⟩
      · omega
    · exact ⟨p, k1, k2, by rw [← hm.out p (by omega)]; exact k5⟩
  have hq : ∃ q', m ≤ q' ∧ q' < b ∧ L[q']? = some y := by
    by_cases c : a' ≤ q ∧ q < b'
    · obtain ⟨q', e1, e2, e3⟩ := src q y k6 c.1 c.2
      rcases hw with hw | hw
      · omega
      · exact ⟨q', by omega, by omega, e3⟩
    · exact ⟨q, k3, k4, by rw [← hm.out q (by omega)]; exact k6⟩
  obtain ⟨p', a1, a2, a3⟩ := hp;obtain ⟨q', b1, b2, b3⟩ := hq;exact h p' q' x y a1 a2 b1 b2 a3 b3
end Go.Srt
end

section
set_option maxRecDepth 10000
namespace Go.Lib
open Go.Vm Go.Dv Go.Srt
variable {p : Prog} {ext : Ext} {F : Nat → Nat} {α : Type}
structure HSrt (p : Prog) (ext : Ext) (F : Nat → Nat) : Prop where
  h26 : Has p ext F 26 M26
  h27 : Has p ext F 27 M27
  h28 : Has p ext F 28 M28
  h29 : Has p ext F 29 M29
  h30 : Has p ext F 30 M30
  h31 : Has p ext F 31 M31
structure Enc (α : Type) where
  d : α → D
  flat : ∀ x, flatD (d x) = true
  cells : ∀ x, cellsD (d x) = some [d x]
attribute [simp] Enc.flat Enc.cells
def hp (E : Enc α) (H : HpD) (bs : Nat) (L : List α) : HpD := H.put bs (.cells (L.map E.d) false)
theorem hp_blk {E : Enc α} {H : HpD} {bs : Nat} {L : List α} : (hp E H bs L).blk bs = .cells (L.map E.d) false := by simp [hp]
theorem put_put {H : HpD} {bs : Nat} {x y : BD} : (H.put bs x).put bs y = H.put bs y := by
  simp only [HpD.put]
  congr 1
  funext c
  by_cases h : c = bs <;> simp [h]
theorem hp_put {E : Enc α} {H : HpD} {bs : Nat} {L : List α} {l : List D} : (hp E H bs L).put bs (.cells l false) = H.put bs (.cells l false) := by
  simp only [hp, HpD.put]
  congr 1
  funext c
  by_cases h : c = bs <;> simp [h]
theorem hp_self {E : Enc α} {H : HpD} {bs : Nat} {L : List α} (h : H.blk bs = .cells (L.map E.d) false) : hp E H bs L = H := by
  simp only [hp, HpD.put];rw [← h];cases H;simp only [HpD.mk.injEq, true_and]
  funext c
  by_cases h : c = bs <;> simp [h]
theorem hp_next {E : Enc α} {H : HpD} {bs : Nat} {L : List α} : (hp E H bs L).next = H.next := rfl
attribute [simp] hp_blk hp_next hp_put put_put
abbrev sl (bs n c : Nat) (ex : Bool) : D := .slice bs 0 1 n c ex
abbrev iD (n : Nat) : D := .lit (.int .i64 (n : Int))
def SwpI (E : Enc α) (H : HpD) (bs c : Nat) (ex : Bool) (X : List α) (a b m k : Nat) (fr : FrD) (H' : HpD) : Prop :=
  ∃ i : Nat, k = m - i ∧ i ≤ m ∧ fr = [(0, sl bs X.length c ex), (1, iD a), (2, iD b), (3, iD m), (10, iD i)] ∧ H' = hp E H bs (swpR X a b i)
theorem set_map {E : Enc α} {X : List α} {i : Nat} {x : α} : (X.map E.d).set i (E.d x) = (X.set i x).map E.d := by rw [List.map_set]
theorem hp_swp {E : Enc α} {H : HpD} {bs : Nat} {X : List α} {i j : Nat} {x y : α} (hx : X[i]? = some x) (hy : X[j]? = some y) : H.put bs (.cells (((X.map E.d).set i (E.d y)).set j (E.d x)) false) = hp E H bs (swp X i j) := by
  rw [set_map, set_map, swp_eq hx hy, hp]
theorem get_of {X : List α} {n : Nat} (h : n < X.length) : ∃ x, X[n]? = some x := ⟨X[n], by simp [h]⟩
theorem spliceD_one : ∀ {X : List D} {i : Nat} {x : D}, i < X.length → spliceD X i [x] = X.set i x
  | d :: l, 0, x, _ => rfl
  | d :: l, i + 1, x, h => by
    simp only [spliceD, List.set_cons_succ];rw [spliceD_one (by simpa using h)]
  | [], _, _, h => by simp at h
theorem swapRange (L : HSrt p ext F) {E : Enc α} {H : HpD} {bs c : Nat} {ex : Bool} {X : List α} {cv : D} (hbs : bs < H.next) (hX : X.length < 1000000) {a b m : Nat} (h1 : a + m ≤ b) (h2 : b + m ≤ X.length) : WcD p ext (F 31) [sl bs X.length c ex, iD a, iD b, iD m, cv] (hp E H bs X) (fun d H' => d = .tup [] ∧ H' = hp E H bs (swpR X a b m)) := by
  refine wc_of L.h31 (M := M31) rfl ok31 rfl (sem_run 9000 _ ?_);simp;refine sem_loop (SwpI E H bs c ex X a b m) ?_ (k := m) ⟨0, by simp, by simp, by simp, rfl⟩;rintro k fr H' ⟨i, rfl, hi, rfl, rfl⟩;refine sem_run 9000 _ ?_;simp
  by_cases c1 : i < m
  · have w1 : wr .i64 ((a : Int) + i) = ((a + i : Nat) : Int) := by rw [wr_of] <;> omega
    have w2 : wr .i64 ((b : Int) + i) = ((b + i : Nat) : Int) := by rw [wr_of] <;> omega
    have w3 : wr .i64 ((i : Int) + 1) = ((i + 1 : Nat) : Int) := by rw [wr_of] <;> omega
    have ha : a + i < X.length := by omega
    have hb : b + i < X.length := by omega
    obtain ⟨x, gx⟩ := get_of (X := swpR X a b i) (n := a + i) (by rw [swpR_length]; omega);obtain ⟨y, gy⟩ := get_of (X := swpR X a b i) (n := b + i) (by rw [swpR_length]; omega);have s1 := spliceD_one (X := (swpR X a b i).map E.d) (i := a + i) (x := E.d y) (by simp [swpR_length]; omega);have s2 := spliceD_one (X := ((swpR X a b i).map E.d).set (a + i) (E.d y)) (i := b + i) (x := E.d x) (by simp [swpR_length]; omega)
    have l1 : a + i + 1 ≤ X.length := by omega
    have l2 : b + i + 1 ≤ X.length := by omega
    simp [c1, w1, w2, w3, ha, hb, gx, gy, s1, s2, hbs, swpR_length, l1, l2, hp_swp gx gy, -Int.natCast_add, -List.map_set, -getElem?_pos];refine sem_ok ?_;exact ⟨_, by omega, i + 1, rfl, by omega, rfl, by simp [hp, swpR]⟩
  · have : i = m := by omega
    subst this;simp [c1];refine sem_exit (sem_run 9000 _ ?_);simp;refine sem_ok ?_;simp [M31]
def RotI (E : Enc α) (H : HpD) (bs c : Nat) (ex : Bool) (X : List α) (cv : D) (a m b k : Nat) (fr : FrD) (H' : HpD) : Prop :=
  ∃ (i j : Nat) (Y : List α), k = i + j ∧ 0 < i ∧ 0 < j ∧ i ≤ m ∧ m + j ≤ X.length ∧ fr = [(0, sl bs X.length c ex), (2, iD m), (4, cv), (10, iD i), (11, iD j)] ∧
    H' = hp E H bs Y ∧ Y.Perm X ∧ ∀ Z, RotR Y Z (m - i) m (m + j) → RotR X Z a m b
theorem rotate (L : HSrt p ext F) {E : Enc α} {H : HpD} {bs c : Nat} {ex : Bool} {X : List α} {cv : D} (hbs : bs < H.next) (hX : X.length < 1000000) {a m b : Nat} (h1 : a < m) (h2 : m < b) (h3 : b ≤ X.length) : WcD p ext (F 30) [sl bs X.length c ex, iD a, iD m, iD b, cv] (hp E H bs X) (fun d H' => d = .tup [] ∧ ∃ X', H' = hp E H bs X' ∧ X'.Perm X ∧ RotR X X' a m b) := by
  refine wc_of L.h30 (M := M30) rfl ok30 rfl (sem_run 9000 _ ?_)
  have w1 : wr .i64 ((m : Int) - a) = ((m - a : Nat) : Int) := by rw [wr_of] <;> omega
  have w2 : wr .i64 ((b : Int) - m) = ((b - m : Nat) : Int) := by rw [wr_of] <;> omega
  simp [w1, w2]
  refine sem_loop (RotI E H bs c ex X cv a m b) ?_ (k := (m - a) + (b - m)) ⟨m - a, b - m, X, rfl, by omega, by omega, by omega, by omega, by simp, rfl, .refl _, fun Z hr => by
      rwa [show m - (m - a) = a by omega, show m + (b - m) = b by omega] at hr⟩
  rintro k fr H' ⟨i, j, Y, rfl, hi0, hj0, hi, hj, rfl, rfl, hp, hr⟩;refine sem_run 9000 _ ?_;simp;have hl : Y.length = X.length := hp.length_eq
  have w3 : wr .i64 ((m : Int) - i) = ((m - i : Nat) : Int) := by rw [wr_of] <;> omega
  rcases Nat.lt_trichotomy i j with c1 | c1 | c1
  · have d1 : ¬ ((i : Int) = j) := by omega
    have d2 : ¬ j < i := by omega
    have w4 : wr .i64 ((m : Int) + j) = ((m + j : Nat) : Int) := by rw [wr_of] <;> omega
    have w5 : wr .i64 (((m + j : Nat) : Int) - i) = ((m + j - i : Nat) : Int) := by rw [wr_of] <;> omega
    have w6 : wr .i64 ((j : Int) - i) = ((j - i : Nat) : Int) := by rw [wr_of] <;> omega
    simp [d1, d2, w3, w4, w5, -Int.natCast_add];have sp := swapRange L (E := E) (H := H) (c := c) (ex := ex) (X := Y) (cv := cv) hbs (by omega) (a := m - i) (b := m + j - i) (m := i) (by omega) (by omega);rw [hl] at sp;refine sem_call sp ?_;rintro _ _ ⟨rfl, rfl⟩;refine sem_run 9000 _ ?_;simp [w6];refine sem_ok ?_;exact ⟨i + (j - i), by omega, i, j - i, swpR Y (m - i) (m + j - i) i, rfl, hi0, by omega, hi, by omega, rfl, rfl, swpR_perm.trans hp, fun Z h => hr Z (rot_less hi c1 (by omega) h)⟩
  · subst c1
    simp;refine sem_exit (sem_run 9000 _ ?_);simp [w3];have sp := swapRange L (E := E) (H := H) (c := c) (ex := ex) (X := Y) (cv := cv) hbs (by omega) (a := m - i) (b := m) (m := i) (by omega) (by omega);rw [hl] at sp;refine sem_call sp ?_;rintro _ _ ⟨rfl, rfl⟩;refine sem_run 9000 _ ?_;simp;refine sem_ok ?_;simp [M30];exact ⟨_, rfl, swpR_perm.trans hp, hr _ (rot_same hi (by omega))⟩
  · have d1 : ¬ ((i : Int) = j) := by omega
    have w6 : wr .i64 ((i : Int) - j) = ((i - j : Nat) : Int) := by rw [wr_of] <;> omega
    simp [d1, c1, w3];have sp := swapRange L (E := E) (H := H) (c := c) (ex := ex) (X := Y) (cv := cv) hbs (by omega) (a := m - i) (b := m) (m := j) (by omega) (by omega);rw [hl] at sp;refine sem_call sp ?_;rintro _ _ ⟨rfl, rfl⟩;refine sem_run 9000 _ ?_;simp [w6];refine sem_ok ?_;exact ⟨i - j + j, by omega, i - j, j, swpR Y (m - i) m j, rfl, by omega, hj0, by omega, by omega, rfl, rfl, swpR_perm.trans hp, fun Z h => hr Z (rot_more hi c1 (by omega) (by rwa [show m - i + j = m - (i - j) by omega]))⟩
structure Cmp (p : Prog) (ext : Ext) (E : Enc α) (D : α → Prop) (cv : Dv.D) (cmp : α → α → Int) : Prop where
  fn : ∃ g a c, cv = .func g a c ∧ ∀ x y, D x → D y → FnD p ext g (a ++ E.d x :: E.d y :: c) (.lit (.int .i64 (cmp x y)))
  anti : ∀ x y, D x → D y → cmp x y < 0 → ¬ cmp y x < 0
  trans : ∀ x y z, D x → D y → D z → ¬ cmp y x < 0 → ¬ cmp z y < 0 → ¬ cmp z x < 0
def InsI (E : Enc α) (H : HpD) (bs c : Nat) (ex : Bool) (n : Nat) (cv : D) (cmp : α → α → Int) (X : List α) (a b i k : Nat) (fr : FrD) (H' : HpD) : Prop :=
  ∃ (j : Nat) (Y : List α), k = j ∧ a ≤ j ∧ j ≤ i ∧ fr = [(0, sl bs n c ex), (1, iD a), (2, iD b), (3, cv), (8, iD i), (9, iD j)] ∧
    H' = hp E H bs Y ∧ Mix X Y a b ∧ (∀ p q x y, a ≤ p → p < q → q ≤ i → p ≠ j → q ≠ j → Y[p]? = some x → Y[q]? = some y → ¬ cmp y x < 0) ∧ ∀ q x y, j < q → q ≤ i → Y[j]? = some x → Y[q]? = some y → ¬ cmp y x < 0
def InsO (E : Enc α) (H : HpD) (bs c : Nat) (ex : Bool) (n : Nat) (cv : D) (cmp : α → α → Int) (X : List α) (a b k : Nat) (fr : FrD) (H' : HpD) : Prop :=
  ∃ (i : Nat) (Y : List α), k = b + 1 - i ∧ a < i ∧ i ≤ max b (a + 1) ∧ fr = [(0, sl bs n c ex), (1, iD a), (2, iD b), (3, cv), (8, iD i)] ∧
    H' = hp E H bs Y ∧ Mix X Y a b ∧ Srt cmp Y a i
theorem insertion (L : HSrt p ext F) {E : Enc α} {H : HpD} {bs c : Nat} {ex : Bool} {X : List α} {cv : D} {G : α → Prop} {cmp : α → α → Int} (hc : Cmp p ext E G cv cmp) (hbs : bs < H.next) (hX : X.length < 1000000) (hG : ∀ x, x ∈ X → G x) {a b : Nat} (hab : a ≤ b) (hbl : b ≤ X.length) : WcD p ext (F 28) [sl bs X.length c ex, iD a, iD b, cv] (hp E H bs X) (fun d H' => d = .tup [] ∧ ∃ X', H' = hp E H bs X' ∧ Mix X X' a b ∧ Srt cmp X' a b) := by
  refine wc_of L.h28 (M := M28) rfl ok28 rfl (sem_run 9000 _ ?_);obtain ⟨g, ga, gc, rfl, hcall⟩ := hc.fn
  have w1 : wr .i64 ((a : Int) + 1) = ((a + 1 : Nat) : Int) := by rw [wr_of] <;> omega
  simp [w1, -Int.natCast_add];refine sem_loop (InsO E H bs c ex X.length (.func g ga gc) cmp X a b) ?_ (k := b + 1 - (a + 1)) ⟨a + 1, X, rfl, by omega, by omega, rfl, rfl, .refl, fun p q x y h1 h2 h3 => by omega⟩;rintro k fr H' ⟨i, Y, rfl, hai, hib, rfl, rfl, hm, hsrt⟩;refine sem_run 9000 _ ?_;simp
  by_cases c1 : i < b
  · have hl : Y.length = X.length := hm.perm.length_eq
    simp [c1];refine sem_loop (InsI E H bs c ex X.length (.func g ga gc) cmp X a b i) ?_ (k := i) ⟨i, Y, rfl, by omega, by omega, rfl, rfl, hm, fun p q x y h1 h2 h3 h4 h5 => hsrt p q x y h1 h2 (by omega), fun q x y h1 h2 => by omega⟩;rintro j fr H' ⟨_, Z, rfl, haj, hji, rfl, rfl, hm2, hso, hsj⟩;refine sem_run 9000 _ ?_;simp;have hl2 : Z.length = X.length := hm2.perm.length_eq
    have w4 : wr .i64 ((i : Int) + 1) = ((i + 1 : Nat) : Int) := by rw [wr_of] <;> omega
    by_cases c2 : a < j
    · have w5 : wr .i64 ((j : Int) - 1) = ((j - 1 : Nat) : Int) := by rw [wr_of] <;> omega
      obtain ⟨x, gx⟩ := get_of (X := Z) (n := j) (by omega);obtain ⟨y, gy⟩ := get_of (X := Z) (n := j - 1) (by omega);have hxm : x ∈ X := hm2.perm.mem_iff.1 (List.mem_of_getElem? gx);have hym : y ∈ X := hm2.perm.mem_iff.1 (List.mem_of_getElem? gy)
      have l1 : j < X.length := by omega
      have l2 : j - 1 < X.length := by omega
      simp [c2, w5, gx, gy, l1, l2, hbs, -getElem?_pos];refine sem_dfn (hcall x y (hG x hxm) (hG y hym)) (by first | exact D.les_refl _ | simp) (sem_run 9000 _ ?_);simp
      by_cases c3 : cmp x y < 0
      · have s1 := spliceD_one (X := Z.map E.d) (i := j) (x := E.d y) (by simp; omega)
        have s2 := spliceD_one (X := (Z.map E.d).set j (E.d y)) (i := j - 1) (x := E.d x) (by simp; omega)
        have l3 : j + 1 ≤ X.length := by omega
        have l4 : j - 1 + 1 ≤ X.length := by omega
        simp [c3, w5, gx, gy, l1, l2, l3, l4, hl2, s1, s2, hbs, hp_swp gx gy, -List.map_set, -getElem?_pos];refine sem_ok ?_
        have hlj : j < Z.length := by omega
        have hlj1 : j - 1 < Z.length := by omega
        have hg := swp_get hlj hlj1;refine ⟨j - 1, by omega, j - 1, swp Z j (j - 1), rfl, by omega, by omega, rfl, by simp [hp], hm2.trans (Mix.swp (by omega) (by omega) (by omega)), fun p q u v h1 h2 h3 h4 h5 h6 h7 => ?_, fun q u v h1 h2 h3 h4 => ?_⟩
        · rw [hg, if_neg h4] at h6
          rw [hg, if_neg h5] at h7
          split at h6
          · rename_i hp
            rw [if_neg (by omega)] at h7;exact hso (j - 1) q u v (by omega) (by omega) h3 (by omega) (by omega) h6 h7
          · rename_i hp
            split at h7
            · exact hso p (j - 1) u v h1 (by omega) (by omega) hp (by omega) h6 h7
            · rename_i hq'
              exact hso p q u v h1 h2 h3 hp hq' h6 h7
        · rw [hg, if_pos rfl, gx] at h3
          rw [hg, if_neg (by omega)] at h4;cases h3
          split at h4
          · rw [gy] at h4; cases h4
            exact hc.anti _ _ (hG _ hxm) (hG _ hym) c3
          · exact hsj q x v (by omega) h2 gx h4
      · simp [c3]
        refine sem_exit (sem_run 9000 _ ?_);simp [w4];refine sem_ok ?_;refine ⟨b + 1 - (i + 1), by omega, i + 1, Z, rfl, by omega, by omega, by simp, rfl, hm2, fun p q u v h1 h2 h3 h4 h5 => ?_⟩
        by_cases hp : p = j
        · subst hp; exact hsj q u v h2 (by omega) h4 h5
        · by_cases hq' : q = j
          · subst hq'
            rw [gx] at h5; cases h5
            by_cases hp1 : p = q - 1
            · subst hp1; rw [gy] at h4; cases h4; exact c3
            · have hGu : G u := hG u (hm2.perm.mem_iff.1 (List.mem_of_getElem? h4))
              exact hc.trans u y x hGu (hG y hym) (hG x hxm) (hso p (q - 1) u y h1 (by omega) (by omega) hp (by omega) h4 gy) c3
          · exact hso p q u v h1 h2 (by omega) hp hq' h4 h5
    · have : j = a := by omega
      subst this;simp;refine sem_exit (sem_run 9000 _ ?_);simp [w4];refine sem_ok ?_;refine ⟨b + 1 - (i + 1), by omega, i + 1, Z, rfl, by omega, by omega, by simp, rfl, hm2, fun p q x y h1 h2 h3 h4 h5 => ?_⟩
      by_cases hp : p = j
      · subst hp; exact hsj q x y h2 (by omega) h4 h5
      · exact hso p q x y h1 h2 (by omega) hp (by omega) h4 h5
  · simp [c1]
    refine sem_exit (sem_run 9000 _ ?_);simp;refine sem_ok ?_;simp [M28];exact ⟨Y, rfl, hm, fun p q x y h1 h2 h3 => hsrt p q x y h1 h2 (by omega)⟩
theorem mid_of {n : Nat} (h : n < 4000000) : wr .i64 (shrI .u64 (wr .u64 (n : Int)) 1) = ((n / 2 : Nat) : Int) := by
  have e0 : Nat.blt n (hiN .u64) = true := nblt.2 (by simp only [hiN]; omega)
  have e1 : wr .u64 (n : Int) = (n : Int) := by
    show cond (Nat.blt n (hiN .u64)) _ _ = _;rw [e0]; rfl
  rw [e1];have e2 : shrI .u64 (n : Int) 1 = ((n / 2 : Nat) : Int) := rfl
  rw [e2, wr_of] <;> omega
def SymI1 (E : Enc α) (H : HpD) (bs c : Nat) (ex : Bool) (n : Nat) (cv : D) (cmp : α → α → Int) (X : List α) (a m b k : Nat) (fr : FrD) (H' : HpD) : Prop :=
  ∃ (i j : Nat), k = j - i ∧ m ≤ i ∧ i ≤ j ∧ j ≤ b ∧ fr = [(0, sl bs n c ex), (1, iD a), (4, cv), (10, iD i), (11, iD j)] ∧ H' = hp E H bs X ∧
    (∀ q x y, X[a]? = some x → X[q]? = some y → m ≤ q → q < i → cmp y x < 0) ∧ ∀ q x y, X[a]? = some x → X[q]? = some y → j ≤ q → q < b → ¬ cmp y x < 0
def SymS1 (E : Enc α) (H : HpD) (bs c : Nat) (ex : Bool) (n : Nat) (X : List α) (a b i k : Nat) (fr : FrD) (H' : HpD) : Prop :=
  ∃ (t : Nat) (Y : List α), k = i - 1 - t ∧ a ≤ t ∧ t ≤ i - 1 ∧ fr = [(0, sl bs n c ex), (10, iD i), (13, iD t)] ∧ H' = hp E H bs Y ∧
    Mix X Y a b ∧ (∀ p, a ≤ p → p < t → Y[p]? = X[p + 1]?) ∧ Y[t]? = X[a]? ∧ ∀ p, t < p → Y[p]? = X[p]?
def SymI2 (E : Enc α) (H : HpD) (bs c : Nat) (ex : Bool) (n : Nat) (cv : D) (cmp : α → α → Int) (X : List α) (a m _b k : Nat) (fr : FrD) (H' : HpD) : Prop :=
  ∃ (i j : Nat), k = j - i ∧ a ≤ i ∧ i ≤ j ∧ j ≤ m ∧ fr = [(0, sl bs n c ex), (2, iD m), (4, cv), (14, iD i), (15, iD j)] ∧ H' = hp E H bs X ∧
    (∀ q x y, X[m]? = some x → X[q]? = some y → a ≤ q → q < i → ¬ cmp x y < 0) ∧ ∀ q x y, X[m]? = some x → X[q]? = some y → j ≤ q → q < m → cmp x y < 0
def SymS2 (E : Enc α) (H : HpD) (bs c : Nat) (ex : Bool) (n : Nat) (X : List α) (a m b i k : Nat) (fr : FrD) (H' : HpD) : Prop :=
  ∃ (t : Nat) (Y : List α), k = t - i ∧ i ≤ t ∧ t ≤ m ∧ fr = [(0, sl bs n c ex), (14, iD i), (17, iD t)] ∧ H' = hp E H bs Y ∧
    Mix X Y a b ∧ (∀ p, p < t → Y[p]? = X[p]?) ∧ Y[t]? = X[m]? ∧ ∀ p, t < p → p ≤ m → Y[p]? = X[p - 1]?
def SymI3 (E : Enc α) (H : HpD) (bs c : Nat) (ex : Bool) (n : Nat) (cv : D) (cmp : α → α → Int) (X : List α) (a m b md S R k : Nat) (fr : FrD) (H' : HpD) : Prop :=
  ∃ (i j : Nat), k = j - i ∧ S ≤ i ∧ i ≤ j ∧ j ≤ R ∧ fr = [(0, sl bs n c ex), (1, iD a), (2, iD m), (3, iD b), (4, cv), (18, iD md), (19, iD (md + m)), (20, iD i), (21, iD j), (22, iD (md + m - 1))] ∧ H' = hp E H bs X ∧
    (S < i → ∀ x y, X[i - 1]? = some x → X[md + m - i]? = some y → ¬ cmp y x < 0) ∧ (j < R → ∀ x y, X[j]? = some x → X[md + m - 1 - j]? = some y → cmp y x < 0)
structure Sym4 (cmp : α → α → Int) (Y : List α) (a s md e b : Nat) : Prop where
  s1 : Srt cmp Y a s
  s2 : Srt cmp Y s md
  s3 : Srt cmp Y md e
  s4 : Srt cmp Y e b
  part : Parted cmp Y a md b
theorem rot_mix {X Y : List α} {s m e a b : Nat} (hr : RotR X Y s m e) (hp : Y.Perm X) (h1 : a ≤ s) (h2 : s ≤ m) (h3 : m ≤ e) (h4 : e ≤ b) : Mix X Y a b :=
  ⟨hp, fun k hk => by rw [hr k, if_neg (by omega), if_neg (by omega)]⟩
theorem rot_id {X : List α} {s m e : Nat} (h : s = m ∨ e = m) (h2 : s ≤ m) (h3 : m ≤ e) : RotR X X s m e := fun k => by
  split
  · congr 1; omega
  · split
    · congr 1; omega
    · rfl
theorem sym4 {E : Enc α} {cv : D} {G : α → Prop} {cmp : α → α → Int} (hc : Cmp p ext E G cv cmp) {X Y : List α} {a m b md s S R : Nat} (hG : ∀ x, x ∈ X → G x) (h1 : a < m) (h2 : m < b) (hmd : a < md ∧ md < b) (hb : b ≤ X.length)
    (hs1 : Srt cmp X a m) (hs2 : Srt cmp X m b) (hq : md = (a + b) / 2) (hS : S = if md < m then md + m - b else a) (hR : R = min m md) (hSs : S ≤ s) (hsR : s ≤ R)
    (hlo : S < s → ∀ x y, X[s - 1]? = some x → X[md + m - s]? = some y → ¬ cmp y x < 0) (hhi : s < R → ∀ x y, X[s]? = some x → X[md + m - 1 - s]? = some y → cmp y x < 0)
    (hr : RotR X Y s m (md + m - s)) : Sym4 cmp Y a s md (md + m - s) b := by
  have hk : a ≤ s ∧ s ≤ m ∧ s ≤ md ∧ md + m - s ≤ b ∧ m ≤ md + m - s := by
    have : R ≤ m ∧ R ≤ md := by omega
    split at hS <;> omega
  have hSc : S = s → s = a ∨ md + m - s = b := by
    intro e; split at hS <;> omega
  have hRc : s = R → s = m ∨ md + m - s = m := by omega
  have y1 : ∀ k, k < s → Y[k]? = X[k]? := fun k h => by rw [hr k, if_neg (by omega), if_neg (by omega)]
  have y2 : ∀ k, s ≤ k → k < md → Y[k]? = X[m + (k - s)]? := fun k h h' => by rw [hr k, if_pos (by omega)]
  have y3 : ∀ k, md ≤ k → k < md + m - s → Y[k]? = X[k - (md - s)]? := fun k h h' => by
    rw [hr k, if_neg (by omega), if_pos (by omega)]; congr 1; omega
  have y4 : ∀ k, md + m - s ≤ k → Y[k]? = X[k]? := fun k h => by rw [hr k, if_neg (by omega), if_neg (by omega)]
  have hGm : ∀ {k x}, X[k]? = some x → G x := fun h => hG _ (List.mem_of_getElem? h);refine ⟨fun p q x y k1 k2 k3 k4 k5 => ?_, fun p q x y k1 k2 k3 k4 k5 => ?_, fun p q x y k1 k2 k3 k4 k5 => ?_, fun p q x y k1 k2 k3 k4 k5 => ?_, fun p q x y k1 k2 k3 k4 k5 k6 => ?_⟩
  · rw [y1 p (by omega)] at k4; rw [y1 q (by omega)] at k5
    exact hs1 p q x y k1 k2 (by omega) k4 k5
  · rw [y2 p (by omega) (by omega)] at k4; rw [y2 q (by omega) (by omega)] at k5
    exact hs2 _ _ x y (by omega) (by omega) (by omega) k4 k5
  · rw [y3 p (by omega) (by omega)] at k4; rw [y3 q (by omega) (by omega)] at k5
    exact hs1 _ _ x y (by omega) (by omega) (by omega) k4 k5
  · rw [y4 p (by omega)] at k4; rw [y4 q (by omega)] at k5
    exact hs2 p q x y (by omega) k2 k3 k4 k5
  · by_cases cp : p < s
    · rw [y1 p cp] at k5
      by_cases cq : q < md + m - s
      · rw [y3 q k3 cq] at k6
        exact hs1 p _ x y k1 (by omega) (by omega) k5 k6
      · rw [y4 q (by omega)] at k6
        have hlt : S < s := by
          rcases Nat.lt_or_ge S s with h | h
          · exact h
          · have := hSc (by omega); omega
        obtain ⟨u, gu⟩ := get_of (X := X) (n := s - 1) (by omega);obtain ⟨v, gv⟩ := get_of (X := X) (n := md + m - s) (by omega);have huv := hlo hlt u v gu gv
        have hxu : ¬ cmp v x < 0 := by
          by_cases e : p = s - 1
          · subst e; rw [gu] at k5; cases k5; exact huv
          · exact hc.trans x u v (hGm k5) (hGm gu) (hGm gv) (hs1 p (s - 1) x u k1 (by omega) (by omega) k5 gu) huv
        by_cases e : q = md + m - s
        · subst e; rw [gv] at k6; cases k6; exact hxu
        · exact hc.trans x v y (hGm k5) (hGm gv) (hGm k6) hxu (hs2 _ q v y (by omega) (by omega) k4 gv k6)
    · rw [y2 p (by omega) k2] at k5
      by_cases cq : q < md + m - s
      · rw [y3 q k3 cq] at k6
        have hlt : s < R := by
          rcases Nat.lt_or_ge s R with h | h
          · exact h
          · have := hRc (by omega); omega
        obtain ⟨u, gu⟩ := get_of (X := X) (n := s) (by omega);obtain ⟨v, gv⟩ := get_of (X := X) (n := md + m - 1 - s) (by omega);have huv := hc.anti _ _ (hGm gv) (hGm gu) (hhi hlt u v gu gv)
        have hxu : ¬ cmp u x < 0 := by
          by_cases e : m + (p - s) = md + m - 1 - s
          · rw [e, gv] at k5; cases k5; exact huv
          · exact hc.trans x v u (hGm k5) (hGm gv) (hGm gu) (hs2 _ _ x v (by omega) (by omega) (by omega) k5 gv) huv
        by_cases e : q - (md - s) = s
        · rw [e, gu] at k6; cases k6; exact hxu
        · exact hc.trans x u y (hGm k5) (hGm gu) (hGm k6) hxu (hs1 _ _ u y (by omega) (by omega) (by omega) gu k6)
      · rw [y4 q (by omega)] at k6
        exact hs2 _ q x y (by omega) (by omega) k4 k5 k6
theorem Srt.of_out {cmp : α → α → Int} {Y Z : List α} {a b c d : Nat} (h : Srt cmp Y a b) (hm : Mix Y Z c d) (ho : b ≤ c ∨ d ≤ a) : Srt cmp Z a b := fun p q x y k1 k2 k3 k4 k5 => by
  rw [hm.out p (by omega)] at k4;rw [hm.out q (by omega)] at k5;exact h p q x y k1 k2 k3 k4 k5
theorem Mix.wide {Y Z : List α} {a b c d : Nat} (h : Mix Y Z c d) (h1 : a ≤ c) (h2 : d ≤ b) : Mix Y Z a b := ⟨h.perm, fun k hk => h.out k (by omega)⟩
theorem sym_end {cmp : α → α → Int} {X Y Z W : List α} {a s md e b : Nat} (h4 : Sym4 cmp Y a s md e b) (h0 : Mix X Y a b) (hmd : a ≤ md ∧ md ≤ b) (m1 : Mix Y Z a md) (t1 : Srt cmp Z a md) (m2 : Mix Z W md b) (t2 : Srt cmp W md b) : Mix X W a b ∧ Srt cmp W a b := by
  refine ⟨h0.trans ((Mix.wide m1 (Nat.le_refl _) hmd.2).trans (Mix.wide m2 hmd.1 (Nat.le_refl _))), ?_⟩;exact Srt.join (Srt.of_out t1 m2 (.inl (Nat.le_refl _))) t2 ((h4.part.mix m1 (.inl ⟨Nat.le_refl _, Nat.le_refl _⟩)).mix m2 (.inr ⟨Nat.le_refl _, Nat.le_refl _⟩))
def SymJ (E : Enc α) (H : HpD) (bs c : Nat) (ex : Bool) (n : Nat) (cv : D) (X : List α) (a m b md S R : Nat) (fr : FrD) (H' : HpD) : Prop :=
  fr = [(0, sl bs n c ex), (1, iD a), (2, iD m), (3, iD b), (4, cv), (18, iD md), (19, iD (md + m)), (20, iD S), (21, iD R)] ∧ H' = hp E H bs X
def SymJ2 (E : Enc α) (H : HpD) (bs c : Nat) (ex : Bool) (n : Nat) (cv : D) (X : List α) (a m b md s e : Nat) (fr : FrD) (H' : HpD) : Prop :=
  ∃ Y, (lk fr 0 = sl bs n c ex ∧ lk fr 1 = iD a ∧ lk fr 3 = iD b ∧ lk fr 4 = cv ∧ lk fr 18 = iD md ∧ lk fr 20 = iD s ∧ lk fr 24 = iD e) ∧ H' = hp E H bs Y ∧ Y.Perm X ∧ RotR X Y s m e
def SymJ3 (E : Enc α) (H : HpD) (bs c : Nat) (ex : Bool) (n : Nat) (cv : D) (cmp : α → α → Int) (Y : List α) (a b md e : Nat) (fr : FrD) (H' : HpD) : Prop :=
  ∃ Z, (lk fr 0 = sl bs n c ex ∧ lk fr 3 = iD b ∧ lk fr 4 = cv ∧ lk fr 18 = iD md ∧ lk fr 24 = iD e) ∧ H' = hp E H bs Z ∧ Mix Y Z a md ∧ Srt cmp Z a md
set_option maxHeartbeats 2000000 in
theorem symMerge (L : HSrt p ext F) {E : Enc α} {H : HpD} {bs c : Nat} {ex : Bool} {n : Nat} {cv : D} {G : α → Prop} {cmp : α → α → Int} (hc : Cmp p ext E G cv cmp) (hbs : bs < H.next) (hn : n < 1000000) : ∀ (w : Nat) {X : List α} {a m b : Nat},
    b - a ≤ w → X.length = n → (∀ x, x ∈ X → G x) → a < m → m < b → b ≤ n → Srt cmp X a m → Srt cmp X m b →
    WcD p ext (F 29) [sl bs n c ex, iD a, iD m, iD b, cv] (hp E H bs X) fun d H' => d = .tup [] ∧ ∃ X', H' = hp E H bs X' ∧ Mix X X' a b ∧ Srt cmp X' a b := by
  obtain ⟨g, ga, gc, rfl, hcall⟩ := hc.fn;intro w
  induction w with
  | zero => intro X a m b hw _ _ h1 h2; omega
  | succ w ih =>
  intro X a m b hw hl hG h1 h2 h3 hs1 hs2;refine wc_of L.h29 (M := M29) rfl ok29 rfl (sem_run 57 _ ?_)
  have w1 : wr .i64 ((m : Int) - a) = ((m - a : Nat) : Int) := by rw [wr_of] <;> omega
  simp [w1];refine sem_if (fun c1 => ?_) fun c1 => ?_
  · simp
    refine sem_loop (SymI1 E H bs c ex n (.func g ga gc) cmp X a m b) ?_ (k := b - m) ⟨m, b, rfl, by omega, by omega, by omega, rfl, rfl, fun q x y _ _ h4 h5 => by omega, fun q x y _ _ h4 h5 => by omega⟩;rintro k fr H' ⟨i, j, rfl, hmi, hij, hjb, rfl, rfl, hlo, hhi⟩;refine sem_run 9000 _ ?_;simp
    by_cases c2 : i < j
    · have w2 : wr .i64 ((i : Int) + j) = ((i + j : Nat) : Int) := by rw [wr_of] <;> omega
      have w3 := mid_of (n := i + j) (by omega)
      have hmid : m ≤ (i + j) / 2 ∧ (i + j) / 2 < b ∧ i ≤ (i + j) / 2 ∧ (i + j) / 2 < j := by omega
      generalize (i + j) / 2 = t at w3 hmid;obtain ⟨x, gx⟩ := get_of (X := X) (n := t) (by omega);obtain ⟨y, gy⟩ := get_of (X := X) (n := a) (by omega);have hxm : x ∈ X := List.mem_of_getElem? gx;have hym : y ∈ X := List.mem_of_getElem? gy
      have w4 : wr .i64 ((t : Int) + 1) = ((t + 1 : Nat) : Int) := by rw [wr_of] <;> omega
      have l1 : t < n := by omega
      have l2 : a < n := by omega
      simp [c2, w2, w3, gx, gy, l1, l2, hbs, -Int.natCast_add, -getElem?_pos];refine sem_dfn (hcall x y (hG x hxm) (hG y hym)) (by first | exact D.les_refl _ | simp) (sem_run 9000 _ ?_);simp
      by_cases c3 : cmp x y < 0
      · simp [c3, w4, -Int.natCast_add]
        refine sem_ok ?_;refine ⟨j - (t + 1), by omega, t + 1, j, rfl, by omega, by omega, hjb, rfl, rfl, fun q u v hu hv h4 h5 => ?_, hhi⟩;rw [gy] at hu; cases hu;have hGv : G v := hG v (List.mem_of_getElem? hv)
        by_cases hqt : q = t
        · subst hqt; rw [gx] at hv; cases hv; exact c3
        · exact Decidable.byContradiction fun hne => hc.trans y v x (hG y hym) hGv (hG x hxm) hne (hs2 q t v x h4 (by omega) (by omega) hv gx) c3
      · simp [c3]
        refine sem_ok ?_;refine ⟨t - i, by omega, i, t, rfl, by omega, by omega, by omega, rfl, rfl, hlo, fun q u v hu hv h4 h5 => ?_⟩;rw [gy] at hu; cases hu;have hGv : G v := hG v (List.mem_of_getElem? hv)
        by_cases hqt : q = t
        · subst hqt; rw [gx] at hv; cases hv; exact c3
        · exact hc.trans y x v (hG y hym) (hG x hxm) hGv c3 (hs2 t q x v (by omega) (by omega) h5 gx hv)
    · obtain rfl : i = j := by omega
      simp;refine sem_exit (sem_run 9000 _ ?_);simp
      have w5 : wr .i64 ((i : Int) - 1) = ((i - 1 : Nat) : Int) := by rw [wr_of] <;> omega
      refine sem_loop (SymS1 E H bs c ex n X a b i) ?_ (k := i - 1 - a) ⟨a, X, rfl, by omega, by omega, rfl, rfl, .refl, fun p _ _ => by omega, rfl, fun _ _ => rfl⟩;rintro k fr H' ⟨t, Y, rfl, hat1, hti, rfl, rfl, hmt, hlt, hxt, hgt⟩;refine sem_run 9000 _ ?_;simp;have hl1 : Y.length = n := hmt.perm.length_eq.trans hl
      by_cases c3 : t < i - 1
      · have w6 : wr .i64 ((t : Int) + 1) = ((t + 1 : Nat) : Int) := by rw [wr_of] <;> omega
        have hlj : t < Y.length := by omega
        have hlj1 : t + 1 < Y.length := by omega
        obtain ⟨x, gx⟩ := get_of hlj;obtain ⟨y, gy⟩ := get_of hlj1;have s1 := spliceD_one (X := Y.map E.d) (i := t) (x := E.d y) (by simp; omega);have s2 := spliceD_one (X := (Y.map E.d).set t (E.d y)) (i := t + 1) (x := E.d x) (by simp; omega)
        have l1 : t < n := by omega
        have l2 : t + 1 < n := by omega
        have l3 : t + 1 ≤ n := by omega
        have l4 : t + 1 + 1 ≤ n := by omega
        simp [c3, w5, w6, gx, gy, l1, l2, l3, l4, hl1, s1, s2, hbs, hp_swp gx gy, -List.map_set, -getElem?_pos, -Int.natCast_add];refine sem_ok ?_;have hg := swp_get hlj hlj1;refine ⟨i - 1 - (t + 1), by omega, t + 1, swp Y t (t + 1), rfl, by omega, by omega, rfl, by simp [hp], hmt.trans (Mix.swp (by omega) (by omega) (by omega)), fun p h4 h5 => ?_, ?_, fun p h4 => ?_⟩
        · rw [hg, if_neg (by omega)]
          split
          · rename_i hp; subst hp; exact hgt _ (by omega)
          · exact hlt p h4 (by omega)
        · rw [hg, if_pos rfl]; exact hxt
        · rw [hg, if_neg (by omega), if_neg (by omega)]; exact hgt p (by omega)
      · obtain rfl : t = i - 1 := by omega
        simp [w5];refine sem_exit (sem_run 9000 _ ?_);simp;refine sem_ret ?_;simp [M29];refine ⟨Y, rfl, hmt, fun p q u v h4 h5 h6 h7 h8 => ?_⟩;obtain ⟨y, gy⟩ := get_of (X := X) (n := a) (by omega);have hGy : G y := hG y (List.mem_of_getElem? gy);rw [gy] at hxt;rcases Nat.lt_trichotomy p (i - 1) with cp | cp | cp
        · rw [hlt p h4 cp] at h7
          rcases Nat.lt_trichotomy q (i - 1) with cq | cq | cq
          · rw [hlt q (by omega) cq] at h8
            exact hs2 (p + 1) (q + 1) u v (by omega) (by omega) (by omega) h7 h8
          · subst cq
            rw [hxt] at h8; cases h8;exact hc.anti _ _ (hG u (List.mem_of_getElem? h7)) hGy (hlo (p + 1) v u gy h7 (by omega) (by omega))
          · rw [hgt q cq] at h8
            exact hs2 (p + 1) q u v (by omega) (by omega) h6 h7 h8
        · subst cp
          rw [hxt] at h7; cases h7;rw [hgt q h5] at h8;exact hhi q u v gy h8 (by omega) h6
        · rw [hgt p cp] at h7
          rw [hgt q (by omega)] at h8;exact hs2 p q u v (by omega) h5 h6 h7 h8
  have w1 : wr .i64 ((b : Int) - m) = ((b - m : Nat) : Int) := by rw [wr_of] <;> omega
  simp [w1];refine sem_if (fun c1 => ?_) fun c1 => ?_
  · simp
    refine sem_loop (SymI2 E H bs c ex n (.func g ga gc) cmp X a m b) ?_ (k := m - a) ⟨a, m, rfl, by omega, by omega, by omega, rfl, rfl, fun q x y _ _ h4 h5 => by omega, fun q x y _ _ h4 h5 => by omega⟩;rintro k fr H' ⟨i, j, rfl, hmi, hij, hjb, rfl, rfl, hlo, hhi⟩;refine sem_run 9000 _ ?_;simp
    by_cases c2 : i < j
    · have w2 : wr .i64 ((i : Int) + j) = ((i + j : Nat) : Int) := by rw [wr_of] <;> omega
      have w3 := mid_of (n := i + j) (by omega)
      have hmid : a ≤ (i + j) / 2 ∧ (i + j) / 2 < m ∧ i ≤ (i + j) / 2 ∧ (i + j) / 2 < j := by omega
      generalize (i + j) / 2 = t at w3 hmid;obtain ⟨x, gx⟩ := get_of (X := X) (n := t) (by omega);obtain ⟨y, gy⟩ := get_of (X := X) (n := m) (by omega);have hxm : x ∈ X := List.mem_of_getElem? gx;have hym : y ∈ X := List.mem_of_getElem? gy
      have w4 : wr .i64 ((t : Int) + 1) = ((t + 1 : Nat) : Int) := by rw [wr_of] <;> omega
      have l1 : t < n := by omega
      have l2 : m < n := by omega
      simp [c2, w2, w3, gx, gy, l1, l2, hbs, -Int.natCast_add, -getElem?_pos];refine sem_dfn (hcall y x (hG y hym) (hG x hxm)) (by first | exact D.les_refl _ | simp) (sem_run 9000 _ ?_);simp
      by_cases c3 : cmp y x < 0
      · simp [c3]
        refine sem_ok ?_;refine ⟨t - i, by omega, i, t, rfl, by omega, by omega, by omega, rfl, rfl, hlo, fun q u v hu hv h4 h5 => ?_⟩;rw [gy] at hu; cases hu;have hGv : G v := hG v (List.mem_of_getElem? hv)
        by_cases hqt : q = t
        · subst hqt; rw [gx] at hv; cases hv; exact c3
        · exact Decidable.byContradiction fun hne => hc.trans x v y (hG x hxm) hGv (hG y hym) (hs1 t q x v (by omega) (by omega) h5 gx hv) hne c3
      · simp [c3, w4, -Int.natCast_add]
        refine sem_ok ?_;refine ⟨j - (t + 1), by omega, t + 1, j, rfl, by omega, by omega, hjb, rfl, rfl, fun q u v hu hv h4 h5 => ?_, hhi⟩;rw [gy] at hu; cases hu;have hGv : G v := hG v (List.mem_of_getElem? hv)
        by_cases hqt : q = t
        · subst hqt; rw [gx] at hv; cases hv; exact c3
        · exact hc.trans v x y hGv (hG x hxm) (hG y hym) (hs1 q t v x h4 (by omega) (by omega) hv gx) c3
    · obtain rfl : i = j := by omega
      simp;refine sem_exit (sem_run 9000 _ ?_);simp;refine sem_loop (SymS2 E H bs c ex n X a m b i) ?_ (k := m - i) ⟨m, X, rfl, by omega, by omega, rfl, rfl, .refl, fun _ _ => rfl, rfl, fun p _ _ => by omega⟩;rintro k fr H' ⟨t, Y, rfl, hat1, hti, rfl, rfl, hmt, hlt, hxt, hgt⟩;refine sem_run 9000 _ ?_;simp;have hl1 : Y.length = n := hmt.perm.length_eq.trans hl
      by_cases c3 : i < t
      · have w6 : wr .i64 ((t : Int) - 1) = ((t - 1 : Nat) : Int) := by rw [wr_of] <;> omega
        have hlj : t < Y.length := by omega
        have hlj1 : t - 1 < Y.length := by omega
        obtain ⟨x, gx⟩ := get_of hlj;obtain ⟨y, gy⟩ := get_of hlj1;have s1 := spliceD_one (X := Y.map E.d) (i := t) (x := E.d y) (by simp; omega);have s2 := spliceD_one (X := (Y.map E.d).set t (E.d y)) (i := t - 1) (x := E.d x) (by simp; omega)
        have l1 : t < n := by omega
        have l2 : t - 1 < n := by omega
        have l3 : t + 1 ≤ n := by omega
        have l4 : t - 1 + 1 ≤ n := by omega
        simp [c3, w6, gx, gy, l1, l2, l3, l4, hl1, s1, s2, hbs, hp_swp gx gy, -List.map_set, -getElem?_pos];refine sem_ok ?_;have hg := swp_get hlj hlj1;refine ⟨t - 1 - i, by omega, t - 1, swp Y t (t - 1), rfl, by omega, by omega, rfl, by simp [hp], hmt.trans (Mix.swp (by omega) (by omega) (by omega)), fun p h4 => ?_, ?_, fun p h4 h5 => ?_⟩
        · rw [hg, if_neg (by omega), if_neg (by omega)]; exact hlt p (by omega)
        · rw [hg, if_pos rfl]; exact hxt
        · rw [hg, if_neg (by omega)]
          split
          · rename_i hp; subst hp; exact hlt _ (by omega)
          · exact hgt p (by omega) h5
      · obtain rfl : t = i := by omega
        simp;refine sem_exit (sem_run 9000 _ ?_);simp;refine sem_ret ?_;simp [M29];refine ⟨Y, rfl, hmt, fun p q u v h4 h5 h6 h7 h8 => ?_⟩;obtain ⟨y, gy⟩ := get_of (X := X) (n := m) (by omega);rw [gy] at hxt;rcases Nat.lt_trichotomy p t with cp | cp | cp
        · rw [hlt p cp] at h7
          rcases Nat.lt_trichotomy q t with cq | cq | cq
          · rw [hlt q cq] at h8
            exact hs1 p q u v h4 h5 (by omega) h7 h8
          · subst cq
            rw [hxt] at h8; cases h8;exact hlo p v u gy h7 h4 cp
          · rw [hgt q cq (by omega)] at h8
            exact hs1 p (q - 1) u v h4 (by omega) (by omega) h7 h8
        · subst cp
          rw [hxt] at h7; cases h7;rw [hgt q h5 (by omega)] at h8;exact hc.anti _ _ (hG u (List.mem_of_getElem? gy)) (hG v (List.mem_of_getElem? h8)) (hhi (q - 1) u v gy h8 (by omega) (by omega))
        · rw [hgt p cp (by omega)] at h7
          rw [hgt q (by omega) (by omega)] at h8;exact hs1 (p - 1) (q - 1) u v (by omega) (by omega) (by omega) h7 h8
  have w2 : wr .i64 ((a : Int) + b) = ((a + b : Nat) : Int) := by rw [wr_of] <;> omega
  have w3 := mid_of (n := a + b) (by omega);obtain ⟨md, hmd⟩ : ∃ md, md = (a + b) / 2 := ⟨_, rfl⟩;rw [← hmd] at w3
  have w4 : wr .i64 ((md : Int) + m) = ((md + m : Nat) : Int) := by rw [wr_of] <;> omega
  have w5 : wr .i64 (((md + m : Nat) : Int) - 1) = ((md + m - 1 : Nat) : Int) := by rw [wr_of] <;> omega
  have w6 : md < m → wr .i64 (((md + m : Nat) : Int) - b) = ((md + m - b : Nat) : Int) := fun _ => by rw [wr_of] <;> omega
  obtain ⟨S, hS⟩ : ∃ S, S = if md < m then md + m - b else a := ⟨_, rfl⟩
  obtain ⟨R, hR⟩ : ∃ R, R = min m md := ⟨_, rfl⟩;simp [w2, w3, w4, -Int.natCast_add];refine sem_cut (SymJ E H bs c ex n (.func g ga gc) X a m b md S R) (sem_run 9000 _ ?_) ?_
  · simp [-Int.natCast_add]
    refine sem_if (fun e => ?_) fun e => ?_
    · simp [w6 e, -Int.natCast_add]
      refine sem_ok ?_;simp only [okQ_ok];refine ⟨?_, rfl⟩;rw [hS, hR, if_pos e, Nat.min_eq_right (by omega)]
    · simp [-Int.natCast_add]
      refine sem_ok ?_;simp only [okQ_ok];refine ⟨?_, rfl⟩;rw [hS, hR, if_neg e, Nat.min_eq_left (by omega)]
  rintro fr _ ⟨rfl, rfl⟩;refine sem_run 9000 _ ?_;simp [w5, -Int.natCast_add]
  have hSR : a ≤ S ∧ S ≤ R ∧ R ≤ m ∧ R ≤ md ∧ md < b ∧ a < md ∧ md + m - S ≤ b ∧ m ≤ md + m - R := by
    rw [hS, hR]
    split <;> omega
  refine sem_loop (SymI3 E H bs c ex n (.func g ga gc) cmp X a m b md S R) ?_ (k := R - S) ⟨S, R, rfl, by omega, by omega, by omega, rfl, rfl, fun h => by omega, fun h => by omega⟩;rintro k fr H' ⟨i, j, rfl, hSi, hij, hjR, rfl, rfl, hlo, hhi⟩;refine sem_run 9000 _ ?_;simp
  by_cases c2 : i < j
  · have v2 : wr .i64 ((i : Int) + j) = ((i + j : Nat) : Int) := by rw [wr_of] <;> omega
    have v3 := mid_of (n := i + j) (by omega)
    have hmid : i ≤ (i + j) / 2 ∧ (i + j) / 2 < j := by omega
    generalize (i + j) / 2 = t at v3 hmid
    have v4 : wr .i64 ((t : Int) + 1) = ((t + 1 : Nat) : Int) := by rw [wr_of] <;> omega
    have v5 : wr .i64 (((md + m - 1 : Nat) : Int) - t) = ((md + m - 1 - t : Nat) : Int) := by rw [wr_of] <;> omega
    obtain ⟨x, gx⟩ := get_of (X := X) (n := t) (by omega);obtain ⟨y, gy⟩ := get_of (X := X) (n := md + m - 1 - t) (by omega);have hxm : x ∈ X := List.mem_of_getElem? gx;have hym : y ∈ X := List.mem_of_getElem? gy
    have l1 : t < n := by omega
    have l2 : md + m - 1 - t < n := by omega
    simp [c2, v2, v3, v5, gx, gy, l1, l2, hbs, -Int.natCast_add, -getElem?_pos];refine sem_dfn (hcall y x (hG y hym) (hG x hxm)) (by first | exact D.les_refl _ | simp) (sem_run 9000 _ ?_);simp
    by_cases c3 : cmp y x < 0
    · simp [c3]
      refine sem_ok ?_;refine ⟨t - i, by omega, i, t, rfl, hSi, by omega, by omega, rfl, rfl, hlo, fun _ u v hu hv => ?_⟩;rw [gx] at hu; rw [gy] at hv; cases hu; cases hv; exact c3
    · simp [c3, v4, -Int.natCast_add]
      refine sem_ok ?_;refine ⟨j - (t + 1), by omega, t + 1, j, rfl, by omega, by omega, hjR, rfl, rfl, fun _ u v hu hv => ?_, hhi⟩;rw [Nat.add_sub_cancel, gx] at hu;rw [show md + m - (t + 1) = md + m - 1 - t by omega, gy] at hv;cases hu; cases hv; exact c3
  obtain rfl : i = j := by omega
  have v6 : wr .i64 (((md + m : Nat) : Int) - i) = ((md + m - i : Nat) : Int) := by rw [wr_of] <;> omega
  simp;refine sem_exit (sem_run 11 _ ?_);simp [v6, -Int.natCast_add];obtain ⟨e, he⟩ : ∃ e, e = md + m - i := ⟨_, rfl⟩;rw [← he];refine sem_cut (SymJ2 E H bs c ex n (.func g ga gc) X a m b md i e) (sem_run 9000 _ ?_) ?_
  · simp
    by_cases d1 : i < m
    · by_cases d2 : m < e
      · simp [d1, d2]
        have sp := rotate L (E := E) (H := H) (c := c) (ex := ex) (X := X) (cv := .func g ga gc) hbs (by omega) d1 d2 (by omega);rw [hl] at sp;refine sem_call sp ?_;rintro _ _ ⟨rfl, Y, rfl, hp1, hr1⟩;refine sem_run 9000 _ ?_;simp;refine sem_ok ?_;exact ⟨Y, by simp, rfl, hp1, hr1⟩
      · simp [d1, d2]
        refine sem_ok ?_;exact ⟨X, by simp, rfl, .refl _, rot_id (.inr (by omega)) (by omega) (by omega)⟩
    · simp [d1]
      refine sem_ok ?_;exact ⟨X, by simp, rfl, .refl _, rot_id (.inl (by omega)) (by omega) (by omega)⟩
  rintro fr _ ⟨Y, ⟨e0, e1, e3, e4, e18, e20, e24⟩, rfl, hp1, hr1⟩;have hm1 := rot_mix hr1 hp1 (a := a) (b := b) (by omega) (by omega) (by omega) (by omega);have h4 := sym4 hc hG h1 h2 ⟨by omega, by omega⟩ (by omega) hs1 hs2 hmd hS hR hSi hjR hlo hhi (he ▸ hr1);rw [← he] at h4;have hlY : Y.length = n := hp1.length_eq.trans hl;have hGY : ∀ x, x ∈ Y → G x := fun x h => hG x (hp1.mem_iff.1 h);refine sem_run 2 _ ?_;simp;refine sem_cut (SymJ3 E H bs c ex n (.func g ga gc) cmp Y a b md e) (sem_run 9000 _ ?_) ?_
  · simp [e1, e20]
    by_cases d1 : a < i
    · by_cases d2 : i < md
      · simp [d1, d2, e0, e1, e3, e4, e18, e20, e24]
        refine sem_call (ih (X := Y) (by omega) hlY hGY d1 d2 (by omega) h4.s1 h4.s2) ?_;rintro _ _ ⟨rfl, Z, rfl, hm2, hz⟩;refine sem_run 9000 _ ?_;simp;refine sem_ok ?_;exact ⟨Z, by simp, rfl, hm2, hz⟩
      · simp [d1, d2, e0, e1, e3, e4, e18, e20, e24]
        refine sem_ok ?_
        obtain rfl : i = md := by omega
        exact ⟨Y, by simp, rfl, .refl, h4.s1⟩
    · simp [d1, e0, e1, e3, e4, e18, e20, e24]
      refine sem_ok ?_
      obtain rfl : i = a := by omega
      exact ⟨Y, by simp, rfl, .refl, h4.s2⟩
  rintro fr _ ⟨Z, ⟨e0, e3, e4, e18, e24⟩, rfl, hm2, hz⟩;have hlZ : Z.length = n := hm2.perm.length_eq.trans hlY;have hGZ : ∀ x, x ∈ Z → G x := fun x h => hGY x (hm2.perm.mem_iff.1 h);have z3 := Srt.of_out h4.s3 hm2 (.inr (Nat.le_refl _));have z4 := Srt.of_out h4.s4 hm2 (.inr (by omega));refine sem_run 9000 _ ?_;simp [e18, e24]
  by_cases d1 : md < e
  · by_cases d2 : e < b
    · simp [d1, d2, e0, e3, e4, e18, e24]
      refine sem_call (ih (X := Z) (by omega) hlZ hGZ d1 d2 (by omega) z3 z4) ?_;rintro _ _ ⟨rfl, W, rfl, hm3, hw3⟩;refine sem_run 9000 _ ?_;simp;refine sem_ok ?_;simp [M29];exact ⟨W, rfl, sym_end h4 hm1 ⟨by omega, by omega⟩ hm2 hz hm3 hw3⟩
    · simp [d1, d2, e0, e3, e4, e18, e24]
      refine sem_ok ?_;simp [M29]
      obtain rfl : e = b := by omega
      exact ⟨Z, rfl, sym_end h4 hm1 ⟨by omega, by omega⟩ hm2 hz .refl z3⟩
  · simp [d1, e0, e3, e4, e18, e24]
    refine sem_ok ?_;simp [M29]
    obtain rfl : e = md := by omega
    exact ⟨Z, rfl, sym_end h4 hm1 ⟨by omega, by omega⟩ hm2 hz .refl z4⟩
end Go.Lib
end
