/-
  Texts that the claim's last one rests on, joined.
-/
import Derived.Test.YtnbmmnjihipahaaBModlPlaysf
import Derived.Test.YtnbmmnjihipahaaBModlPlaysc

section
namespace Go.Lib
open Go.Vm Go.Dv
set_option maxRecDepth 100000
abbrev K1 (F : Nat → Nat) : KC := .seq (.region [⟨some 2,.a (.box (.tmp 0)),none⟩,⟨some 3,.a (.box (.tmp 1)),none⟩,mi 4 0] [2,3] [2,3])
 (.seq (.seq (.dregion [⟨ln 6 4 2,0,1⟩,⟨⟨some 7,.e (.call (F 8) [(.tmp 6)]),none⟩,0,3⟩,⟨ln 8 4 3,0,3⟩,⟨⟨some 9,.e (.call (F 8) [(.tmp 8)]),none⟩,2,4⟩,⟨⟨some 10,.e (.call (F 9) [(.tmp 7),(.tmp 9)]),none⟩,4,6⟩,⟨mv 5 10,5,6⟩] [2,3,5])
 (.seq (.region [mv 11 5,bi 12 .neq 11 0,mv 13 12,⟨some 14,.p (.faddr 0 (.tmp 2)),(some (13,false))⟩,⟨some 15,.load1 (.tmp 14),(some (13,false))⟩,⟨some 16,.p (.pick (.tmp 13) (.val (.bool true)) (.tmp 15)),none⟩] [] [2,3,5,16])
 (.cond (.tmp 16) (.seq (.region [mv 17 5,mv 4 17] [] [4])
 (.ret))
 (.skip))))
 (.seq (.seq (.region [fa 18 1 2,l1 19 18] [] [2,3,19])
 (.block 0 (.seq (.region [bi 21 .eql 19 1,mv 20 21] [] [2,3,19,20])
 (.cond (.tmp 20) (.seq (.region [fa 22 2 2,l1 23 22,fa 24 2 3,l1 25 24,⟨some 26,.e (.call (F 10) [(.tmp 23),(.tmp 25)]),none⟩,mv 4 26] [] [4])
 (.ret))
 (.seq (.region [bi 28 .eql 19 2,mv 27 28] [] [2,3,27])
 (.cond (.tmp 27) (.seq (.region [fa 29 3 2,l1 30 29,fa 31 3 3,l1 32 31,⟨some 33,.e (.call (F 11) [(.tmp 30),(.tmp 32)]),none⟩,mv 4 33] [] [4])
 (.ret))
 (.skip)))))))
 (.seq (.region [mi 4 0] [] [4])
 (.ret))))
def M1 (F : Nat → Nat) : Fun := ⟨34,2,(K1 F).erase,[.tmp 4]⟩
theorem ok1 {F : Nat → Nat} : (K1 F).ok = true := rfl
abbrev K2 (F : Nat → Nat) : KC := .seq (.region [mi 4 0] [] [0,1])
 (.seq (.region [mv 5 0,mv 6 1,⟨some 7,.e (.call (F 12) [(.tmp 5),(.tmp 6),(.val (.func (F 1) [] []))]),none⟩,mv 4 7] [] [4])
 (.ret))
def M2 (F : Nat → Nat) : Fun := ⟨8,2,(K2 F).erase,[.tmp 4]⟩
theorem ok2 {F : Nat → Nat} : (K2 F).ok = true := rfl
abbrev K3 (F : Nat → Nat) : KC := .seq (.region [⟨some 4,.a (.new [.bool false,.int .i64 (.ofNat 0),.int .i64 (.ofNat 0),.nilslice]),none⟩] [] [0,1,4])
 (.seq (.seq (.region [mv 5 1,bi 6 .lss 5 0,mv 7 6,⟨some 8,.p (.mov (.tmp 1)),(some (7,false))⟩,⟨some 9,.p (.mov (.tmp 0)),(some (7,false))⟩,⟨some 10,.p (.lenb (.tmp 9)),(some (7,false))⟩,⟨some 11,.p (.bin .geq (.tmp 8) (.tmp 10)),(some (7,false))⟩,⟨some 12,.p (.pick (.tmp 7) (.val (.bool true)) (.tmp 11)),none⟩] [] [0,1,4,12])
 (.cond (.tmp 12) (.seq (.region [⟨some 13,.p (.build [.bool false,.int .i64 (.ofNat 0),.int .i64 (.ofNat 0),.nilslice] []),none⟩,⟨none,.e (.store 4 (.tmp 4) (.tmp 13)),none⟩] [] [4])
 (.ret))
 (.skip)))
 (.seq (.region [mv 14 0,mv 15 1,ix 16 4 14 15,ln 17 4 16,⟨some 18,.e (.call (F 5) [(.tmp 17)]),none⟩,⟨none,.e (.store 4 (.tmp 4) (.tmp 18)),none⟩] [] [4])
 (.ret)))
def M3 (F : Nat → Nat) : Fun := ⟨19,2,(K3 F).erase,[.celln 4 4]⟩
theorem ok3 {F : Nat → Nat} : (K3 F).ok = true := rfl
abbrev K4 (F : Nat → Nat) : KC := .seq (.region [⟨some 2,.p (.mov (.val (.nilslice))),none⟩] [] [0])
 (.seq (.region [⟨some 3,.p (.mov (.val (.nilslice))),none⟩] [] [0,3])
 (.seq (.seq (.region [mv 6 0,lb 7 6,mi 8 0] [] [3,6,7,8])
 (.block 0 (.loop (.seq (.region [bt 9 .lss 8 7] [] [3,6,7,8,9])
 (.seq (.cond (.tmp 9) (.skip)
 (.exit 0))
 (.seq (.block 1 (.seq (.region [ix 10 4 6 8,ln 11 4 10,⟨some 5,.a (.new [.bool false,.int .i64 (.ofNat 0),.int .i64 (.ofNat 0),.nilslice]),none⟩,⟨none,.e (.store 4 (.tmp 5) (.tmp 11)),none⟩] [] [3,5,6,7,8])
 (.region [mv 12 3,ln 13 4 5,⟨some 14,.e (.call (F 5) [(.tmp 13)]),none⟩,⟨some 15,.a (.bslice [.bool false,.int .i64 (.ofNat 0),.int .i64 (.ofNat 0),.nilslice] 4 1 [(0,4,(.tmp 14))]),none⟩,⟨some 16,.e (.append 4 48 (.tmp 12) (.tmp 15)),none⟩,mv 3 16] [15] [3,6,7,8])))
 (.region [bi 17 .add 8 1,mv 8 17] [] [3,6,7,8])))))))
 (.seq (.region [mv 18 3,⟨some 19,.e (.call (F 13) [(.tmp 18)]),none⟩,mv 2 19] [] [2])
 (.ret))))
def M4 (F : Nat → Nat) : Fun := ⟨20,1,(K4 F).erase,[.tmp 2]⟩
theorem ok4 {F : Nat → Nat} : (K4 F).ok = true := rfl
abbrev K5 (F : Nat → Nat) : KC := .seq (.region [⟨some 1,.a (.box (.tmp 0)),none⟩,⟨some 2,.a (.new [.bool false,.int .i64 (.ofNat 0),.int .i64 (.ofNat 0),.nilslice]),none⟩] [] [1,2])
 (.seq (.region [fa 3 3 1,l1 4 3,⟨some 5,.e (.call (F 14) [(.tmp 4)]),none⟩,fa 6 3 1,⟨none,.e (.store 1 (.tmp 6) (.tmp 5)),none⟩] [] [1,2])
 (.seq (.region [ln 7 4 1,⟨none,.e (.store 4 (.tmp 2) (.tmp 7)),none⟩] [] [2])
 (.ret)))
def M5 (F : Nat → Nat) : Fun := ⟨8,1,(K5 F).erase,[.celln 4 2]⟩
theorem ok5 {F : Nat → Nat} : (K5 F).ok = true := rfl
abbrev K6 (F : Nat → Nat) : KC := .seq (.region [⟨some 2,.a (.box (.tmp 0)),none⟩,⟨some 3,.a (.box (.tmp 1)),none⟩,⟨some 4,.p (.mov (.val (.bool false))),none⟩] [2,3] [2,3])
 (.seq (.region [fa 5 0 2,l1 6 5,fa 7 0 3,l1 8 7,⟨some 9,.p (.eq .bool false (.tmp 6) (.tmp 8)),none⟩,mv 10 9,⟨some 11,.p (.faddr 1 (.tmp 2)),(some (10,true))⟩,⟨some 12,.load1 (.tmp 11),(some (10,true))⟩,⟨some 13,.p (.faddr 1 (.tmp 3)),(some (10,true))⟩,⟨some 14,.load1 (.tmp 13),(some (10,true))⟩,⟨some 15,.p (.bin .eql (.tmp 12) (.tmp 14)),(some (10,true))⟩,⟨some 16,.p (.pick (.tmp 10) (.tmp 15) (.val (.bool false))),none⟩,mv 17 16,⟨some 18,.p (.faddr 2 (.tmp 2)),(some (17,true))⟩,⟨some 19,.load1 (.tmp 18),(some (17,true))⟩,⟨some 20,.p (.faddr 2 (.tmp 3)),(some (17,true))⟩,⟨some 21,.load1 (.tmp 20),(some (17,true))⟩,⟨some 22,.p (.bin .eql (.tmp 19) (.tmp 21)),(some (17,true))⟩,⟨some 23,.p (.pick (.tmp 17) (.tmp 22) (.val (.bool false))),none⟩,mv 24 23,⟨some 25,.p (.faddr 3 (.tmp 2)),(some (24,true))⟩,⟨some 26,.load1 (.tmp 25),(some (24,true))⟩,⟨some 27,.p (.faddr 3 (.tmp 3)),(some (24,true))⟩,⟨some 28,.load1 (.tmp 27),(some (24,true))⟩,⟨some 29,.e (.call (F 15) [(.tmp 26),(.tmp 28)]),(some (24,true))⟩,⟨some 30,.p (.pick (.tmp 24) (.tmp 29) (.val (.bool false))),none⟩,mv 4 30] [] [4])
 (.ret))
def M6 (F : Nat → Nat) : Fun := ⟨31,2,(K6 F).erase,[.tmp 4]⟩
abbrev K7 (F : Nat → Nat) : KC := .seq (.region [⟨some 4,.p (.mov (.val (.bool false))),none⟩] [] [0,1])
 (.seq (.region [mv 5 0,mv 6 1,⟨some 7,.e (.call (F 16) [(.tmp 5),(.tmp 6),(.val (.func (F 17) [] []))]),none⟩,mv 4 7] [] [4])
 (.ret))
def M7 (F : Nat → Nat) : Fun := ⟨8,2,(K7 F).erase,[.tmp 4]⟩
abbrev K8 (_F : Nat → Nat) : KC := .seq (.region [⟨some 1,.a (.box (.tmp 0)),none⟩,mi 2 0] [1] [1])
 (.seq (.seq (.region [fa 3 0 1,l1 4 3] [] [4])
 (.cond (.tmp 4) (.seq (.region [mi 2 0] [] [2])
 (.ret))
 (.skip)))
 (.seq (.region [mi 2 1] [] [2])
 (.ret)))
def M8 (F : Nat → Nat) : Fun := ⟨5,1,(K8 F).erase,[.tmp 2]⟩
theorem ok8 {F : Nat → Nat} : (K8 F).ok = true := rfl
abbrev K9 (F : Nat → Nat) : KC := .seq (.region [mi 4 0] [] [0,1])
 (.seq (.region [mv 7 0,⟨some 8,.e (.call (F 18) [(.tmp 7)]),none⟩,mv 5 8] [] [0,1,5])
 (.seq (.region [mv 9 1,⟨some 10,.e (.call (F 18) [(.tmp 9)]),none⟩,mv 6 10] [] [0,1,5,6])
 (.seq (.seq (.region [mv 11 5] [] [0,1,6,11])
 (.cond (.tmp 11) (.seq (.seq (.region [mv 12 6] [] [12])
 (.cond (.tmp 12) (.seq (.region [mi 4 0] [] [4])
 (.ret))
 (.skip)))
 (.seq (.region [⟨some 4,.p (.mov (.val (.int .i64 (.negSucc 0)))),none⟩] [] [4])
 (.ret)))
 (.skip)))
 (.seq (.seq (.region [mv 13 6] [] [0,1,13])
 (.cond (.tmp 13) (.seq (.region [mi 4 1] [] [4])
 (.ret))
 (.skip)))
 (.seq (.seq (.region [mv 14 0,mv 15 1,bt 16 .lss 14 15] [] [0,1,16])
 (.cond (.tmp 16) (.seq (.region [⟨some 4,.p (.mov (.val (.int .i64 (.negSucc 0)))),none⟩] [] [4])
 (.ret))
 (.skip)))
 (.seq (.seq (.region [mv 17 0,mv 18 1,bt 19 .gtr 17 18] [] [19])
 (.cond (.tmp 19) (.seq (.region [mi 4 1] [] [4])
 (.ret))
 (.skip)))
 (.seq (.region [mi 4 0] [] [4])
 (.ret))))))))
def M9 (F : Nat → Nat) : Fun := ⟨20,2,(K9 F).erase,[.tmp 4]⟩
theorem ok9 {F : Nat → Nat} : (K9 F).ok = true := rfl
abbrev K10 (F : Nat → Nat) : KC := .seq (.region [mi 4 0] [] [0,1])
 (.seq (.region [mv 7 0,⟨some 8,.e (.call (F 19) [(.tmp 7)]),none⟩,mv 5 8] [] [0,1,5])
 (.seq (.region [mv 9 1,⟨some 10,.e (.call (F 19) [(.tmp 9)]),none⟩,mv 6 10] [] [0,1,5,6])
 (.seq (.seq (.region [mv 11 5] [] [0,1,6,11])
 (.cond (.tmp 11) (.seq (.seq (.region [mv 12 6] [] [12])
 (.cond (.tmp 12) (.seq (.region [mi 4 0] [] [4])
 (.ret))
 (.skip)))
 (.seq (.region [⟨some 4,.p (.mov (.val (.int .i64 (.negSucc 0)))),none⟩] [] [4])
 (.ret)))
 (.skip)))
 (.seq (.seq (.region [mv 13 6] [] [0,1,13])
 (.cond (.tmp 13) (.seq (.region [mi 4 1] [] [4])
 (.ret))
 (.skip)))
 (.seq (.seq (.region [mv 14 0,mv 15 1,bt 16 .lss 14 15] [] [0,1,16])
 (.cond (.tmp 16) (.seq (.region [⟨some 4,.p (.mov (.val (.int .i64 (.negSucc 0)))),none⟩] [] [4])
 (.ret))
 (.skip)))
 (.seq (.seq (.region [mv 17 0,mv 18 1,bt 19 .gtr 17 18] [] [19])
 (.cond (.tmp 19) (.seq (.region [mi 4 1] [] [4])
 (.ret))
 (.skip)))
 (.seq (.region [mi 4 0] [] [4])
 (.ret))))))))
def M10 (F : Nat → Nat) : Fun := ⟨20,2,(K10 F).erase,[.tmp 4]⟩
theorem ok10 {F : Nat → Nat} : (K10 F).ok = true := rfl
abbrev K11 (F : Nat → Nat) : KC := .seq (.region [mi 4 0] [] [0,1])
 (.seq (.region [mv 5 0,mv 6 1,⟨some 7,.e (.extern (F 20) [(.tmp 5),(.tmp 6)]),none⟩,mv 4 7] [] [4])
 (.ret))
def M11 (F : Nat → Nat) : Fun := ⟨8,2,(K11 F).erase,[.tmp 4]⟩
theorem ok11 {F : Nat → Nat} : (K11 F).ok = true := rfl
abbrev K12 (_F : Nat → Nat) : KC := .seq (.region [mi 6 0] [] [0,1,2])
 (.seq (.seq (.region [mv 11 0,lb 12 11,mi 13 0] [] [0,1,2,11,12,13])
 (.block 0 (.loop (.seq (.region [bt 14 .lss 13 12] [] [0,1,2,11,12,13,14])
 (.seq (.cond (.tmp 14) (.skip)
 (.exit 0))
 (.seq (.block 1 (.seq (.region [mv 15 13,ix 16 4 11 13,ln 17 4 16,⟨some 8,.a (.new [.bool false,.int .i64 (.ofNat 0),.int .i64 (.ofNat 0),.nilslice]),none⟩,mv 7 15,⟨none,.e (.store 4 (.tmp 8) (.tmp 17)),none⟩] [] [0,1,2,7,8,11,12,13])
 (.seq (.seq (.region [mv 18 7,mv 19 1,lb 20 19,bt 21 .geq 18 20] [] [0,1,2,7,8,11,12,13,21])
 (.cond (.tmp 21) (.seq (.region [mi 6 1] [] [6])
 (.ret))
 (.skip)))
 (.seq (.region [mv 22 1,mv 23 7,ix 24 4 22 23,ln 25 4 24,⟨some 9,.a (.new [.bool false,.int .i64 (.ofNat 0),.int .i64 (.ofNat 0),.nilslice]),none⟩,⟨none,.e (.store 4 (.tmp 9) (.tmp 25)),none⟩] [] [0,1,2,8,9,11,12,13])
 (.seq (.region [mv 26 2,ln 27 4 8,ln 28 4 9,⟨some 29,.e (.callv (.tmp 26) [(.tmp 27),(.tmp 28)]),none⟩,mv 10 29] [] [0,1,2,10,11,12,13])
 (.seq (.region [mv 30 10,bi 31 .neq 30 0] [] [0,1,2,10,11,12,13,31])
 (.cond (.tmp 31) (.seq (.region [mv 32 10,mv 6 32] [] [6])
 (.ret))
 (.skip))))))))
 (.region [bi 33 .add 13 1,mv 13 33] [] [0,1,2,11,12,13])))))))
 (.seq (.seq (.region [mv 34 0,lb 35 34,mv 36 1,lb 37 36,bt 38 .lss 35 37] [] [38])
 (.cond (.tmp 38) (.seq (.region [⟨some 6,.p (.mov (.val (.int .i64 (.negSucc 0)))),none⟩] [] [6])
 (.ret))
 (.skip)))
 (.seq (.region [mi 6 0] [] [6])
 (.ret))))
def M12 (F : Nat → Nat) : Fun := ⟨39,3,(K12 F).erase,[.tmp 6]⟩
theorem ok12 {F : Nat → Nat} : (K12 F).ok = true := rfl
abbrev K13 (_F : Nat → Nat) : KC := .seq (.region [⟨some 2,.p (.mov (.val (.nilslice))),none⟩] [] [0])
 (.seq (.region [mv 3 0,mv 4 0,lb 5 4,mv 6 0,lb 7 6,⟨some 8,.p (.slc 4 (.tmp 3) none (some (.tmp 5)) (some (.tmp 7))),none⟩,mv 2 8] [] [2])
 (.ret))
def M13 (F : Nat → Nat) : Fun := ⟨9,1,(K13 F).erase,[.tmp 2]⟩
theorem ok13 {F : Nat → Nat} : (K13 F).ok = true := rfl
abbrev K14 (_F : Nat → Nat) : KC := .seq (.region [⟨some 2,.p (.mov (.val (.nilslice))),none⟩] [] [0])
 (.seq (.seq (.region [mv 3 0,⟨some 4,.p (.eq .slice false (.tmp 3) (.val (.nilslice))),none⟩] [] [0,4])
 (.cond (.tmp 4) (.seq (.region [⟨some 2,.p (.mov (.val (.nilslice))),none⟩] [] [2])
 (.ret))
 (.skip)))
 (.seq (.region [⟨some 5,.a (.bslice [] 1 0 []),none⟩,mv 6 0,⟨some 7,.e (.append 1 1 (.tmp 5) (.tmp 6)),none⟩,mv 2 7] [] [2])
 (.ret)))
def M14 (F : Nat → Nat) : Fun := ⟨8,1,(K14 F).erase,[.tmp 2]⟩
theorem ok14 {F : Nat → Nat} : (K14 F).ok = true := rfl
abbrev K15 (_F : Nat → Nat) : KC := .seq (.region [⟨some 4,.p (.mov (.val (.bool false))),none⟩] [] [0,1])
 (.seq (.region [mv 5 0,⟨some 6,.e (.text (.tmp 5)),none⟩,mv 7 1,⟨some 8,.e (.text (.tmp 7)),none⟩,bt 9 .eql 6 8,mv 4 9] [] [4])
 (.ret))
def M15 (F : Nat → Nat) : Fun := ⟨10,2,(K15 F).erase,[.tmp 4]⟩
abbrev K16 (_F : Nat → Nat) : KC := .seq (.region [⟨some 6,.p (.mov (.val (.bool false))),none⟩] [] [0,1,2])
 (.seq (.seq (.region [mv 10 0,lb 11 10,mv 12 1,lb 13 12,bt 14 .neq 11 13] [] [0,1,2,14])
 (.cond (.tmp 14) (.seq (.region [⟨some 6,.p (.mov (.val (.bool false))),none⟩] [] [6])
 (.ret))
 (.skip)))
 (.seq (.seq (.region [mv 15 0,lb 16 15,mi 17 0] [] [1,2,15,16,17])
 (.block 0 (.loop (.seq (.region [bt 18 .lss 17 16] [] [1,2,15,16,17,18])
 (.seq (.cond (.tmp 18) (.skip)
 (.exit 0))
 (.seq (.block 1 (.seq (.region [mv 19 17,ix 20 1 15 17,l1 21 20,mv 7 19,mv 8 21] [] [1,2,7,8,15,16,17])
 (.seq (.region [mv 22 1,mv 23 7,ix 24 1 22 23,l1 25 24,mv 9 25] [] [1,2,8,9,15,16,17])
 (.seq (.region [mv 26 2,mv 27 8,mv 28 9,⟨some 29,.e (.callv (.tmp 26) [(.tmp 27),(.tmp 28)]),none⟩,⟨some 30,.p (.not (.tmp 29)),none⟩] [] [1,2,15,16,17,30])
 (.cond (.tmp 30) (.seq (.region [⟨some 6,.p (.mov (.val (.bool false))),none⟩] [] [6])
 (.ret))
 (.skip))))))
 (.region [bi 31 .add 17 1,mv 17 31] [] [1,2,15,16,17])))))))
 (.seq (.region [⟨some 6,.p (.mov (.val (.bool true))),none⟩] [] [6])
 (.ret))))
def M16 (F : Nat → Nat) : Fun := ⟨32,3,(K16 F).erase,[.tmp 6]⟩
abbrev K17 (F : Nat → Nat) : KC := .seq (.region [⟨some 4,.p (.mov (.val (.bool false))),none⟩] [] [0,1])
 (.seq (.region [mv 5 0,mv 6 1,⟨some 7,.e (.call (F 21) [(.tmp 5),(.tmp 6),(.val (.func (F 6) [] []))]),none⟩,mv 4 7] [] [4])
 (.ret))
def M17 (F : Nat → Nat) : Fun := ⟨8,2,(K17 F).erase,[.tmp 4]⟩
abbrev K18 (_F : Nat → Nat) : KC := .seq (.region [⟨some 2,.p (.mov (.val (.bool false))),none⟩] [] [0])
 (.seq (.region [mv 3 0,mv 4 0,bt 5 .neq 3 4,mv 2 5] [] [2])
 (.ret))
def M18 (F : Nat → Nat) : Fun := ⟨6,1,(K18 F).erase,[.tmp 2]⟩
theorem ok18 {F : Nat → Nat} : (K18 F).ok = true := rfl
abbrev K19 (_F : Nat → Nat) : KC := .seq (.region [⟨some 2,.p (.mov (.val (.bool false))),none⟩] [] [0])
 (.seq (.region [mv 3 0,mv 4 0,bt 5 .neq 3 4,mv 2 5] [] [2])
 (.ret))
def M19 (F : Nat → Nat) : Fun := ⟨6,1,(K19 F).erase,[.tmp 2]⟩
theorem ok19 {F : Nat → Nat} : (K19 F).ok = true := rfl
abbrev K21 (_F : Nat → Nat) : KC := .seq (.region [⟨some 6,.p (.mov (.val (.bool false))),none⟩] [] [0,1,2])
 (.seq (.seq (.region [mv 10 0,lb 11 10,mv 12 1,lb 13 12,bt 14 .neq 11 13] [] [0,1,2,14])
 (.cond (.tmp 14) (.seq (.region [⟨some 6,.p (.mov (.val (.bool false))),none⟩] [] [6])
 (.ret))
 (.skip)))
 (.seq (.seq (.region [mv 15 0,lb 16 15,mi 17 0] [] [1,2,15,16,17])
 (.block 0 (.loop (.seq (.region [bt 18 .lss 17 16] [] [1,2,15,16,17,18])
 (.seq (.cond (.tmp 18) (.skip)
 (.exit 0))
 (.seq (.block 1 (.seq (.region [mv 19 17,ix 20 4 15 17,ln 21 4 20,⟨some 8,.a (.new [.bool false,.int .i64 (.ofNat 0),.int .i64 (.ofNat 0),.nilslice]),none⟩,mv 7 19,⟨none,.e (.store 4 (.tmp 8) (.tmp 21)),none⟩] [] [1,2,7,8,15,16,17])
 (.seq (.region [mv 22 1,mv 23 7,ix 24 4 22 23,ln 25 4 24,⟨some 9,.a (.new [.bool false,.int .i64 (.ofNat 0),.int .i64 (.ofNat 0),.nilslice]),none⟩,⟨none,.e (.store 4 (.tmp 9) (.tmp 25)),none⟩] [] [1,2,8,9,15,16,17])
 (.seq (.region [mv 26 2,ln 27 4 8,ln 28 4 9,⟨some 29,.e (.callv (.tmp 26) [(.tmp 27),(.tmp 28)]),none⟩,⟨some 30,.p (.not (.tmp 29)),none⟩] [] [1,2,15,16,17,30])
 (.cond (.tmp 30) (.seq (.region [⟨some 6,.p (.mov (.val (.bool false))),none⟩] [] [6])
 (.ret))
 (.skip))))))
 (.region [bi 31 .add 17 1,mv 17 31] [] [1,2,15,16,17])))))))
 (.seq (.region [⟨some 6,.p (.mov (.val (.bool true))),none⟩] [] [6])
 (.ret))))
def M21 (F : Nat → Nat) : Fun := ⟨32,3,(K21 F).erase,[.tmp 6]⟩
end Go.Lib
end

section
namespace Go.Dv
open Go.Vm
variable {p : Prog} {ext : Ext} {F : Nat → Nat}
structure Has (p : Prog) (ext : Ext) (F : Nat → Nat) (i : Nat) (M : (Nat → Nat) → Fun) : Prop where
  get : p.funs.get (F i) = some (M F)
  ext : ∀ args h, ext (F i) args h = none
def Fin (H : HpD) (d : D) (d' : D) (H' : HpD) : Prop := ∃ H2, WeakV d' H' d H2 ∧ Sub H H2 ∧ d.under H.next
theorem Fin.same {H : HpD} {d : D} (hu : d.under H.next) : Fin H d d H := ⟨H, .refl, .refl, hu⟩
theorem Fin.le {H H' : HpD} {d d' : D} (hs : Sub H H') (hl : D.le d' d) (hu : d.under H.next) : Fin H d d' H' := ⟨H', .le hl, hs, hu⟩
theorem fn_of {i : Nat} {M : (Nat → Nat) → Fun} (hh : Has p ext F i M) {kc : KC} (hb : (M F).body = kc.erase) (hk : kc.ok = true) {args : List D} {d : D} (hn : args.length = (M F).nargs)
    (hs : ∀ H, Sem p ext (endD (M F).results (Fin H d)) (.code kc [] .mk (argsD 0 args) H)) : FnD p ext (F i) args d := by
  intro H;refine WcD.drop (WcD.mono (enterD hh.ext hh.get hb hk hn (hs H)) ?_);rintro d' H' ⟨H2, w, s, u⟩;exact ⟨d, H2, w, s, u, rfl, rfl⟩
theorem wc_of {i : Nat} {M : (Nat → Nat) → Fun} (hh : Has p ext F i M) {kc : KC} (hb : (M F).body = kc.erase) (hk : kc.ok = true) {args : List D} {H : HpD} {R : D → HpD → Prop} (hn : args.length = (M F).nargs)
    (hs : Sem p ext (endD (M F).results R) (.code kc [] .mk (argsD 0 args) H)) : WcD p ext (F i) args H R := enterD hh.ext hh.get hb hk hn hs
theorem underss_map {α : Type} {n : Nat} {f : α → List D} (h : ∀ x, D.unders n (f x)) : ∀ l : List α, D.underss n (l.map f)
  | [] => trivial
  | x :: l => ⟨h x, underss_map h l⟩
end Go.Dv
end

section
namespace Go.Dv
open Go.Vm
variable {p : Prog} {ext : Ext} {Q : ResD → Prop}
def D.hasB (x : Nat) : D → Prop
  | .slice b _ _ _ _ _ => x = b
  | _ => False
structure Gr (H0 H : HpD) (sz : Nat) (s : D) (el : List (List D)) : Prop where
  sub : Sub H0 H
  len : ∀ e, e ∈ el → e.length = sz
  at_ : (s = .lit .nilslice ∧ el = []) ∨ ∃ b ex el0, s = .slice b 0 sz el.length el.length ex ∧ H0.next ≤ b ∧ b < H.next ∧ H.blk b = .cells el0.flatten false ∧ D.less el0 el
section
variable {H0 H H1 : HpD} {sz : Nat} {s : D} {el : List (List D)}
theorem Gr.nil (hs : Sub H0 H) : Gr H0 H sz (.lit .nilslice) [] := ⟨hs, fun _ h => (by cases h), .inl ⟨rfl, rfl⟩⟩
theorem Gr.lit (hs : Sub H0 H) {ex : Bool} (he : ∀ e, e ∈ el → e.length = sz) {c : List D} (hc : c = el.flatten) {n : Nat} (hn : n = el.length) : Gr H0 (H.new (.cells c false)) sz (.slice H.next 0 sz n n ex) el :=
  ⟨hs.new, he, .inr ⟨H.next, ex, el, by rw [hn], hs.next, by simp [new_next], by simp [new_blk, hc], D.less_refl _⟩⟩
theorem Gr.start : Gr H H sz (.lit .nilslice) [] := .nil .refl
theorem Gr.mono (g : Gr H0 H sz s el) (h : Sub H H1) : Gr H0 H1 sz s el := by
  refine ⟨g.sub.trans h, g.len, ?_⟩;rcases g.at_ with k | ⟨b, ex, el0, rfl, h1, h2, h3, h4⟩
  · exact .inl k
  · exact .inr ⟨b, ex, el0, rfl, h1, Nat.lt_of_lt_of_le h2 h.next, (h.blk b h2).trans h3, h4⟩
theorem Gr.keep (g : Gr H0 H sz s el) (hs : Sub H0 H1) (hn : H.next ≤ H1.next) (hk : ∀ x, s.hasB x → H1.blk x = H.blk x) : Gr H0 H1 sz s el := by
  refine ⟨hs, g.len, ?_⟩;rcases g.at_ with k | ⟨b, ex, el0, rfl, h1, h2, h3, h4⟩
  · exact .inl k
  · exact .inr ⟨b, ex, el0, rfl, h1, Nat.lt_of_lt_of_le h2 hn, (hk b rfl).trans h3, h4⟩
theorem Gr.lenb (g : Gr H0 H sz s el) : lenbD s = some (.lit (.int .i64 (el.length : Int))) := by
  rcases g.at_ with ⟨rfl, rfl⟩ | ⟨b, ex, el0, rfl, _⟩ <;> rfl
theorem flatten_len {sz : Nat} : ∀ {el : List (List D)}, (∀ e, e ∈ el → e.length = sz) → el.flatten.length = el.length * sz
  | [], _ => by simp
  | e :: l, h => by
    rw [List.flatten_cons, List.length_append, flatten_len fun x hx => h x (List.mem_cons_of_mem _ hx), h e (List.mem_cons_self ..), List.length_cons, Nat.succ_mul, Nat.add_comm]
theorem flatsD_flatten : ∀ {l : List (List D)}, (∀ e, e ∈ l → flatsD e = true) → flatsD l.flatten = true
  | [], _ => rfl
  | e :: l, h => by
    have key : ∀ (a b : List D), flatsD (a ++ b) = (flatsD a && flatsD b) := by
      intro a b
      induction a with
      | nil => simp [flatsD]
      | cons d a ih => simp [flatsD, ih, Bool.and_assoc]
    rw [List.flatten_cons, key, h e (List.mem_cons_self ..), flatsD_flatten fun x hx => h x (List.mem_cons_of_mem _ hx)]
    rfl
theorem roomyD {by_ n : Nat} (h : by_ * n ≤ 1099511627776) (h2 : n ≤ 1099511627776) : roomy by_ n = true := roomy_of h h2
theorem less_append : ∀ {a a' b b' : List (List D)}, D.less a a' → D.less b b' → D.less (a ++ b) (a' ++ b')
  | [], [], _, _, _, k => k
  | x :: a, y :: a', b, b', k, k2 => by
    simp only [D.less, List.cons_append] at k ⊢;exact ⟨k.1, less_append k.2 k2⟩
  | [], _ :: _, _, _, k, _ => by simp [D.less] at k
  | _ :: _, [], _, _, k, _ => by simp [D.less] at k
theorem less_sz : ∀ {a a' : List (List D)} {sz : Nat}, D.less a a' → (∀ e, e ∈ a' → e.length = sz) → ∀ e, e ∈ a → e.length = sz
  | [], _, _, _, _, e, he => by cases he
  | x :: a, y :: a', sz, k, h, e, he => by
    simp only [D.less] at k;rcases List.mem_cons.1 he with rfl | he
    · rw [les_length k.1]; exact h y (List.mem_cons_self ..)
    · exact less_sz k.2 (fun z hz => h z (List.mem_cons_of_mem _ hz)) e he
  | _ :: _, [], _, k, _, _, _ => by simp [D.less] at k
theorem Gr.grow (g : Gr H0 H sz s el) {by_ n : Nat} {new0 new : List (List D)} (hle : D.less new0 new) (hn : new.length = n) (h0 : 0 < n) (he : ∀ e, e ∈ new → e.length = sz) (hr : roomy by_ (el.length + n) = true) :
    ∃ s' H', appendCD sz by_ H s n new0.flatten = some (s', H') ∧ Gr H0 H' sz s' (el ++ new) ∧ (∀ x, x < H.next → ¬ s.hasB x → H'.blk x = H.blk x) ∧ H.next < H'.next ∧ s' = .slice H.next 0 sz (el ++ new).length (el ++ new).length false := by
  have hlen : ∀ e, e ∈ el ++ new → e.length = sz := fun e h => by
    rcases List.mem_append.1 h with h | h
    · exact g.len e h
    · exact he e h
  rcases g.at_ with ⟨rfl, rfl⟩ | ⟨b, ex, el0, rfl, h1, h2, h3, h4⟩
  · simp only [List.length_nil, Nat.zero_add] at hr
    refine ⟨_, _, by simp only [appendCD, hr, cond_true]; rfl, ⟨g.sub.new, hlen, .inr ⟨H.next, false, new0, by simp [hn], g.sub.next, by simp [new_next], by simp [new_blk], by simpa using hle⟩⟩, fun x hx _ => by rw [new_blk, if_neg (by omega)], Nat.lt_succ_self _, by simp [hn]⟩
  · have hel := less_length h4
    have hf := flatten_len (less_sz h4 g.len)
    have hrd : readD H b 0 (el.length * sz) = some el0.flatten := by
      rw [readD_eq, h3, ← hel, ← hf];simp only [Nat.zero_add, Nat.le_refl, if_true, List.drop_zero, List.take_length]
    have hnew : D.less (el0 ++ new0) (el ++ new) := less_append h4 hle
    cases ex with
    | false =>
      refine ⟨.slice H.next 0 sz (el.length + n) (el.length + n) false, (H.put b .gone).new (.cells (el0.flatten ++ new0.flatten) false), ?_, ⟨(g.sub.put h1).new, hlen, .inr ⟨H.next, false, el0 ++ new0, by simp [hn], g.sub.next, by simp [new_next, put_next], by simp [new_blk, put_next], hnew⟩⟩, fun x hx hx2 => ?_, by simp [new_next, put_next], by simp [hn]⟩
      · simp only [appendCD, hr, hrd, h3, growD]
        rw [show Nat.beq sz sz = true from nbeq.2 rfl, show Nat.ble (el.length + n) el.length = false from by rw [nble_d]; exact decide_eq_false (by omega)]
        rfl
      · rw [new_blk, put_next, if_neg (by omega), put_blk, if_neg]
        exact hx2
    | true =>
      refine ⟨.slice H.next 0 sz (el.length + n) (el.length + n) false, H.new (.cells (el0.flatten ++ new0.flatten) false), ?_, ⟨g.sub.new, hlen, .inr ⟨H.next, false, el0 ++ new0, by simp [hn], g.sub.next, by simp [new_next], by simp [new_blk], hnew⟩⟩, fun x hx hx2 => ?_, by simp [new_next], by simp [hn]⟩
      · simp only [appendCD, hr, hrd, growD]
        rw [show Nat.beq sz sz = true from nbeq.2 rfl, show Nat.ble (el.length + n) el.length = false from by rw [nble_d]; exact decide_eq_false (by omega)]
        rfl
      · rw [new_blk, if_neg (by omega)]
theorem Gr.app' (g : Gr H0 H sz s el) {by_ : Nat} {m : Md} {new0 new : List (List D)} (hle : D.less new0 new) (he : ∀ e, e ∈ new → e.length = sz) (hf : ∀ e, e ∈ new0 → flatsD e = true) (hr : roomy by_ (el.length + new.length) = true) :
    ∃ s' H', appendD sz by_ H s (.row sz m new0) = some (s', H') ∧ Gr H0 H' sz s' (el ++ new) ∧ (∀ x, x < H.next → ¬ s.hasB x → H'.blk x = H.blk x) ∧ H.next ≤ H'.next := by
  have hln := less_length hle
  cases hn : new0 with
  | nil =>
    have : new = [] := by rw [hn] at hln; exact List.eq_nil_of_length_eq_zero hln.symm
    subst this;refine ⟨s, H, ?_, by rw [List.append_nil]; exact g, fun _ _ _ => rfl, Nat.le_refl _⟩;simp only [appendD, lenD, List.length_nil];rcases g.at_ with ⟨rfl, rfl⟩ | ⟨b, ex, el0, rfl, _⟩
    · rfl
    · simp only [sameD]
      rw [show Nat.beq sz sz = true from nbeq.2 rfl]
      rfl
  | cons e l =>
    rw [← hn]
    have h0 : 0 < new.length := by rw [← hln, hn]; simp
    obtain ⟨s', H', e1, g', k, n, _⟩ := g.grow (by_ := by_) hle rfl h0 he hr;refine ⟨s', H', ?_, g', k, Nat.le_of_lt n⟩;simp only [appendD, lenD];obtain ⟨k, hk⟩ : ∃ k, new.length = k + 1 := ⟨new.length - 1, by omega⟩;rw [hln, hk];simp only
    have hm : srcD H sz (k + 1) (.row sz m new0) = some new0.flatten := by
      simp only [srcD];rw [show Nat.beq sz sz = true from nbeq.2 rfl, show Nat.ble (k + 1) new0.length = true from nble.2 (by omega)];rw [show new0.take (k + 1) = new0 from List.take_of_length_le (by omega)]
      cases m <;> rfl
    rw [hm];simp only [appendN, flatsD_flatten hf, cond_true];rw [← hk]; exact e1
theorem Gr.app (g : Gr H0 H sz s el) {by_ : Nat} {m : Md} {new : List (List D)} (he : ∀ e, e ∈ new → e.length = sz) (hf : ∀ e, e ∈ new → flatsD e = true) (hr : roomy by_ (el.length + new.length) = true) :
    ∃ s' H', appendD sz by_ H s (.row sz m new) = some (s', H') ∧ Gr H0 H' sz s' (el ++ new) ∧ (∀ x, x < H.next → ¬ s.hasB x → H'.blk x = H.blk x) ∧ H.next ≤ H'.next := g.app' (D.less_refl _) he hf hr
theorem Gr.push (g : Gr H0 H sz s el) {by_ : Nat} {m : Md} {e : List D} (e' : List D) (hle : D.les e e') (he : e'.length = sz) (hf : flatsD e = true) (hr : roomy by_ (el.length + 1) = true) :
    ∃ s' H', appendD sz by_ H s (.row sz m [e]) = some (s', H') ∧ Gr H0 H' sz s' (el ++ [e']) ∧ (∀ x, x < H.next → ¬ s.hasB x → H'.blk x = H.blk x) ∧ H.next ≤ H'.next ∧ s' = .slice H.next 0 sz (el.length + 1) (el.length + 1) false := by
  obtain ⟨s', H', e1, g', k, n, e2⟩ := g.grow (by_ := by_) (n := 1) (new0 := [e]) (new := [e']) (by simp only [D.less]; exact ⟨hle, trivial⟩) rfl (by omega) (by simp [he]) hr;refine ⟨s', H', ?_, g', k, Nat.le_of_lt n, by simpa using e2⟩;simp only [appendD, lenD, List.length_singleton]
  have hm : srcD H sz (0 + 1) (.row sz m [e]) = some [e].flatten := by
    simp only [srcD];rw [show Nat.beq sz sz = true from nbeq.2 rfl]
    cases m <;> rfl
  rw [hm];simp only [appendN];rw [show flatsD [e].flatten = true from by simpa using hf];exact e1
theorem appendD_slice1 {by_ b o cap : Nat} {ex ro : Bool} {cs : List D} (hb : H.blk b = .cells cs ro) (ho : o + sz ≤ cs.length) : appendD sz by_ H s (.slice b o sz 1 cap ex) = appendD sz by_ H s (.row sz .p [(cs.drop o).take sz]) := by
  simp only [appendD, lenD, List.length_singleton]
  have h1 : srcD H sz (0 + 1) (.slice b o sz 1 cap ex) = some ((cs.drop o).take sz) := by
    simp only [srcD];rw [show Nat.beq sz sz = true from nbeq.2 rfl, readD_eq, hb];simp [ho]
  have h2 : srcD H sz (0 + 1) (.row sz .p [(cs.drop o).take sz]) = some ((cs.drop o).take sz) := by
    simp only [srcD];rw [show Nat.beq sz sz = true from nbeq.2 rfl];simp
  rw [h1, h2]
theorem Gr.fin (g : Gr H0 H sz s el) (hu : D.underss H0.next el) {m : Md} (hm : m ≠ .c) : Fin H0 (.row sz m el) s H := by
  have hm' : m = .p ∨ m = .w := by cases m <;> simp at hm ⊢
  rcases g.at_ with ⟨rfl, rfl⟩ | ⟨b, ex, el0, rfl, h1, h2, h3, h4⟩
  · exact ⟨H, .le (by simp [D.le]), g.sub, by simp [D.under]⟩
  · have hel := less_length h4
    refine ⟨H.put b .gone, (WeakV.freeze h3 (less_sz h4 g.len)).trans (.le ?_), g.sub.put h1, by simpa [D.under] using hu⟩;simp only [frz];rw [if_pos ⟨trivial, trivial, trivial, hel.symm, by omega⟩];simp only [D.le, h4, and_true, true_and]
    by_cases hx : el.length = el0.length ∧ ex = true
    · rcases hm' with rfl | rfl <;> simp [hx]
    · rcases hm' with rfl | rfl <;> simp [hx]
theorem Gr.slot (g : Gr H0 H sz s el) {t : Nat} {fr : FrD} {args : List D} (ht : lk fr t = s) {m : Md} (hm : m ≠ .c) :
    ∃ H', Weak args fr H args ((t, .row sz m el) :: fr) H' ∧ Sub H0 H' ∧ (∀ x, ¬ s.hasB x → H'.blk x = H.blk x) ∧ H'.next = H.next := by
  have hm' : m = .p ∨ m = .w := by cases m <;> simp at hm ⊢
  have put : ∀ {ψ : Nat → Option Nat} {S : Nat → Prop} {h : Hp} {fv : Fr} {d : D}, FrR h ψ S fr fv → VD h ψ S d (ev fv (.tmp t)) → FrR h ψ S ((t, d) :: fr) fv := by
    intro ψ S h fv d k kd u;rw [lk_cons]
    split
    · rename_i e; subst e; exact kd
    · exact k u
  rcases g.at_ with ⟨rfl, rfl⟩ | ⟨b, ex, el0, rfl, h1, h2, h3, h4⟩
  · refine ⟨H, ?_, g.sub, fun _ _ => rfl, rfl⟩
    intro ψ S h fv vs sr kf kv;refine ⟨ψ, S, .refl, sr, put kf (VD.le (.lit .nilslice) _ (by simp [D.le]) ?_), kv⟩;have := kf t
    rwa [ht] at this
  · refine ⟨H.put b .gone, ?_, g.sub.put h1, fun x hx => by rw [put_blk, if_neg]; exact hx, put_next⟩
    intro ψ S h fv vs sr kf kv;have hel := less_length h4;obtain ⟨c, hc, hr⟩ := frz_row sr h3 (less_sz h4 g.len);obtain ⟨x0, s0⟩ := sr.freeze hc;refine ⟨ψ, _, x0, s0, put (kf.mono x0) ?_, VDl.mono x0 _ kv⟩;have := kf t;rw [ht] at this;simp only [VD] at this;obtain ⟨c', e, e2⟩ := this;rw [hc] at e; cases e;rw [e2];rw [← hel];refine VD.le _ _ ?_ (hr _ _ (Nat.le_refl _));simp only [D.le, h4, and_true, true_and]
    rcases hm' with rfl | rfl <;> simp
theorem VDl.setD {h : Hp} {ψ : Nat → Option Nat} {S : Nat → Prop} {args : List D} {vs : List V} {j : Nat} {d d' : D} (k : VDl h ψ S args vs) (hj : args[j]? = some d) (hd : ∀ v, VD h ψ S d v → VD h ψ S d' v) : VDl h ψ S (args.set j d') vs := by
  obtain ⟨v, e, kv⟩ := VDl.get k hj;have := VDl.set j k (hd v kv)
  have he : vs.set j v = vs := by
    obtain ⟨hl, rfl⟩ := List.getElem?_eq_some_iff.1 e;exact List.set_getElem_self hl
  rwa [he] at this
theorem Gr.arg (g : Gr H0 H sz s el) (j : Nat) {fr : FrD} {args : List D} (ht : args[j]? = some s) {m : Md} (hm : m ≠ .c) :
    ∃ H', Weak args fr H (args.set j (.row sz m el)) fr H' ∧ Sub H0 H' ∧ (∀ x, ¬ s.hasB x → H'.blk x = H.blk x) ∧ H'.next = H.next := by
  have hm' : m = .p ∨ m = .w := by cases m <;> simp at hm ⊢
  rcases g.at_ with ⟨rfl, rfl⟩ | ⟨b, ex, el0, rfl, h1, h2, h3, h4⟩
  · refine ⟨H, ?_, g.sub, fun _ _ => rfl, rfl⟩
    intro ψ S h fv vs sr kf kv;exact ⟨ψ, S, .refl, sr, kf, kv.setD ht fun v hv => VD.le (.lit .nilslice) _ (by simp [D.le]) hv⟩
  · refine ⟨H.put b .gone, ?_, g.sub.put h1, fun x hx => by rw [put_blk, if_neg]; exact hx, put_next⟩
    intro ψ S h fv vs sr kf kv;have hel := less_length h4;obtain ⟨c, hc, hr⟩ := frz_row sr h3 (less_sz h4 g.len);obtain ⟨x0, s0⟩ := sr.freeze hc;refine ⟨ψ, _, x0, s0, kf.mono x0, (VDl.mono x0 _ kv).setD ht fun v hv => ?_⟩;simp only [VD] at hv;obtain ⟨c', e, e2⟩ := hv;rw [hc] at e; cases e;rw [e2];rw [← hel];refine VD.le _ _ ?_ (hr _ _ (Nat.le_refl _));simp only [D.le, h4, and_true, true_and]
    rcases hm' with rfl | rfl <;> simp
theorem sem_push_le {by_ : Nat} {m : Md} {e : List D} (e' : List D) {k : D → HpD → Cfg} (g : Gr H0 H sz s el) (hle : D.les e e') (he : e'.length = sz) (hf : flatsD e = true) (hr : roomy by_ (el.length + 1) = true)
    (hk : ∀ s' H', Gr H0 H' sz s' (el ++ [e']) → (∀ x, x < H.next → ¬ s.hasB x → H'.blk x = H.blk x) → (H.next ≤ H'.next ∧ s' = .slice H.next 0 sz (el.length + 1) (el.length + 1) false) → Sem p ext Q (k s' H')) : Sem p ext Q (optH (appendD sz by_ H s (.row sz m [e])) k) := by
  obtain ⟨s', H', e1, g', k1, n1⟩ := g.push (m := m) e' hle he hf hr;rw [e1];exact hk s' H' g' k1 n1
theorem sem_push {by_ : Nat} {m : Md} {e : List D} {k : D → HpD → Cfg} (g : Gr H0 H sz s el) (he : e.length = sz) (hf : flatsD e = true) (hr : roomy by_ (el.length + 1) = true)
    (hk : ∀ s' H', Gr H0 H' sz s' (el ++ [e]) → (∀ x, x < H.next → ¬ s.hasB x → H'.blk x = H.blk x) → (H.next ≤ H'.next ∧ s' = .slice H.next 0 sz (el.length + 1) (el.length + 1) false) → Sem p ext Q (k s' H')) : Sem p ext Q (optH (appendD sz by_ H s (.row sz m [e])) k) :=
  sem_push_le e g (D.les_refl _) he hf hr hk
theorem sem_app {by_ : Nat} {m : Md} {new : List (List D)} {k : D → HpD → Cfg} (g : Gr H0 H sz s el) (he : ∀ e, e ∈ new → e.length = sz) (hf : ∀ e, e ∈ new → flatsD e = true) (hr : roomy by_ (el.length + new.length) = true)
    (hk : ∀ s' H', Gr H0 H' sz s' (el ++ new) → (∀ x, x < H.next → ¬ s.hasB x → H'.blk x = H.blk x) → H.next ≤ H'.next → Sem p ext Q (k s' H')) : Sem p ext Q (optH (appendD sz by_ H s (.row sz m new)) k) := by
  obtain ⟨s', H', e1, g', k1, n1⟩ := g.app (m := m) he hf hr;rw [e1];exact hk s' H' g' k1 n1
theorem sem_row (g : Gr H0 H sz s el) (j : Nat) {f : Nat} {args : List D} {dst : Option Nat} {l : List MO} {fz lv : List Nat} {K : List KD} {fr : FrD} (ht : args[j]? = some s)
    (hs : ∀ H', Sub H0 H' → (∀ x, ¬ s.hasB x → H'.blk x = H.blk x) → H'.next = H.next → Sem p ext Q (.call f (args.set j (.row sz .p el)) dst l fz lv K .mk fr H')) : Sem p ext Q (.call f args dst l fz lv K .mk fr H) := by
  obtain ⟨H', w, s', k, n⟩ := g.arg j (fr := fr) ht (m := .p) (by simp);exact sem_weak_call w (hs H' s' k n)
theorem sem_turn_ok (g : Gr H0 H sz s el) (t : Nat) {K : List KD} {fr : FrD} (ht : lk fr t = s)
    (hs : ∀ H', Sub H0 H' → (∀ x, ¬ s.hasB x → H'.blk x = H.blk x) → H'.next = H.next → Sem p ext Q (.res (.ok ((t, .row sz .p el) :: fr) H') K .mk)) : Sem p ext Q (.res (.ok fr H) K .mk) := by
  obtain ⟨H', w, s', k, n⟩ := g.slot (args := []) ht (m := .p) (by simp);exact sem_weak_ok w (hs H' s' k n)
theorem sem_turn_exit (g : Gr H0 H sz s el) (t : Nat) {id : Nat} {K : List KD} {fr : FrD} (ht : lk fr t = s)
    (hs : ∀ H', Sub H0 H' → (∀ x, ¬ s.hasB x → H'.blk x = H.blk x) → H'.next = H.next → Sem p ext Q (.res (.exit id ((t, .row sz .p el) :: fr) H') K .mk)) : Sem p ext Q (.res (.exit id fr H) K .mk) := by
  obtain ⟨H', w, s', k, n⟩ := g.slot (args := []) ht (m := .p) (by simp);exact sem_weak_exit w (hs H' s' k n)
theorem sem_turn_ops (g : Gr H0 H sz s el) (t : Nat) {l : List MO} {fz lv : List Nat} {K : List KD} {fr : FrD} (ht : lk fr t = s)
    (hs : ∀ H', Sub H0 H' → (∀ x, ¬ s.hasB x → H'.blk x = H.blk x) → H'.next = H.next → Sem p ext Q (.ops l fz lv K .mk ((t, .row sz .p el) :: fr) H')) : Sem p ext Q (.ops l fz lv K .mk fr H) := by
  obtain ⟨H', w, s', k, n⟩ := g.slot (args := []) ht (m := .p) (by simp);exact sem_weak_ops w (hs H' s' k n)
theorem sem_turn (g : Gr H0 H sz s el) (t : Nat) {c : KC} {K : List KD} {fr : FrD} (ht : lk fr t = s)
    (hs : ∀ H', Sub H0 H' → (∀ x, ¬ s.hasB x → H'.blk x = H.blk x) → H'.next = H.next → Sem p ext Q (.code c K .mk ((t, .row sz .p el) :: fr) H')) : Sem p ext Q (.code c K .mk fr H) := by
  obtain ⟨H', w, s', k, n⟩ := g.slot (args := []) ht (m := .p) (by simp);exact sem_weak w (hs H' s' k n)
theorem Gr.finA (g : Gr H0 H sz s el) (hu : D.underss H0.next el) {m : Md} (hm : m ≠ .c) : Fin H0 (.agg [.row sz m el]) (.agg [s]) H := by
  obtain ⟨H2, w, sub, u⟩ := g.fin hu hm;refine ⟨H2, ?_, sub, by simpa [D.under] using u⟩;intro ψ S h v sr kv;simp only [VD, VDl] at kv;obtain ⟨l', rfl, x, r, rfl, kx, rfl⟩ := kv;obtain ⟨ψ', S', x0, s', k'⟩ := w ψ S h x sr kx;exact ⟨ψ', S', x0, s', by simp only [VD, VDl]; exact ⟨_, rfl, _, _, rfl, k', rfl⟩⟩
theorem WeakV.part {pre : List D} {b o n cap : Nat} {ex ro : Bool} {cs : List D} {el : List (List D)} (hb : H.blk b = .cells cs ro) (he : ∀ e, e ∈ el → e.length = sz) (hl : el.length = n) (hc : (cs.drop o).take (n * sz) = el.flatten) (hn : n ≤ cap) :
    WeakV (.agg (pre ++ [.slice b o sz n cap ex])) H (.agg (pre ++ [.row sz .p el])) (H.put b .gone) := by
  intro ψ S h v sr kv
  obtain ⟨c, h1, h2, l', h3, h4⟩ : ∃ c, ψ b = some c ∧ ¬ S c ∧ ∃ l', h.blk c = .cells l' ro ∧ VDl h ψ S cs l' := by
    obtain ⟨c, h1, h2, h3⟩ := sr.live b (by rw [hb]; rfl);rw [hb] at h3;exact ⟨c, h1, h2, h3⟩
  obtain ⟨x0, s0⟩ := sr.freeze h1;refine ⟨ψ, _, x0, s0, ?_⟩;simp only [VD] at kv ⊢;obtain ⟨l2, rfl, kl⟩ := kv;refine ⟨l2, rfl, ?_⟩
  have key : ∀ (pre : List D) (l2 : List V), VDl h ψ S (pre ++ [.slice b o sz n cap ex]) l2 → VDl h ψ (fun x => S x ∨ x = c) (pre ++ [.row sz .p el]) l2 := by
    intro pre
    induction pre with
    | nil =>
      intro l2 kl;simp only [List.nil_append, VDl, VD] at kl ⊢;obtain ⟨x, r, rfl, ⟨c', e, rfl⟩, rfl⟩ := kl;rw [h1] at e; cases e;refine ⟨_, _, rfl, .inr ⟨c, o, cap, ex, by rw [hl], by rw [hl]; exact hn, fun e => (by cases e), .inr ⟨l', ro, .inr rfl, h3, ?_⟩⟩, rfl⟩;have k1 := VDl.take (n * sz) (VDl.drop o h4);rw [hc] at k1;have := VDss.of (us := (l'.drop o).drop (n * sz)) he (VDl.mono x0 _ k1)
      rwa [List.take_append_drop] at this
    | cons d pre ih =>
      intro l2 kl;simp only [List.cons_append, VDl] at kl ⊢;obtain ⟨x, r, rfl, k1, k2⟩ := kl;exact ⟨x, r, rfl, VD.mono x0 _ k1, ih _ k2⟩
  exact key pre l2 kl
theorem own_fn {f : Nat} {args : List D} {sz : Nat} {el : List (List D)} (hw : ∀ H, WcD p ext f args H fun d H' => Gr H H' sz d el) (hu : ∀ n, D.underss n el) : FnD p ext f args (.row sz .p el) := by
  intro H;refine WcD.drop ((hw H).mono ?_);intro d H' g;obtain ⟨H2, w, s, u⟩ := g.fin (hu H.next) (m := .p) (by simp);exact ⟨_, H2, w, s, u, rfl, rfl⟩
theorem spliceD_flatten {sz j : Nat} {x : D} : ∀ {el : List (List D)} {i : Nat} {e : List D}, (∀ e, e ∈ el → e.length = sz) → el[i]? = some e → j < sz → spliceD el.flatten (i * sz + j) [x] = (el.set i (e.set j x)).flatten
  | [], _, _, _, he, _ => by simp at he
  | a :: l, 0, e, hs, he, hj => by
    simp at he;subst he;have ha := hs a (List.mem_cons_self ..);simp only [Nat.zero_mul, Nat.zero_add, List.flatten_cons, List.set_cons_zero]
    have key : ∀ (a m : List D) (j : Nat), j < a.length → spliceD (a ++ m) j [x] = a.set j x ++ m := by
      intro a
      induction a with
      | nil => intro m j h; simp at h
      | cons d a ih =>
        intro m j h
        cases j with
        | zero => simp [spliceD_zero]
        | succ j => simp only [List.cons_append, spliceD_succ, List.set_cons_succ]; rw [ih m j (by simpa using h)]
    exact key a _ j (by omega)
  | a :: l, i + 1, e, hs, he, hj => by
    have ha := hs a (List.mem_cons_self ..);have ih := spliceD_flatten (j := j) (x := x) (el := l) (i := i) (e := e) (fun y hy => hs y (List.mem_cons_of_mem _ hy)) (by simpa using he) hj;simp only [List.flatten_cons, List.set_cons_succ]
    have key : ∀ (a m : List D) (k : Nat), spliceD (a ++ m) (a.length + k) [x] = a ++ spliceD m k [x] := by
      intro a
      induction a with
      | nil => intro m k; simp
      | cons d a ih2 =>
        intro m k;rw [List.cons_append, List.length_cons, show a.length + 1 + k = (a.length + k) + 1 from by omega, spliceD_succ, ih2]; rfl
    rw [show (i + 1) * sz + j = a.length + (i * sz + j) from by rw [ha, Nat.succ_mul]; omega, key, ih]
theorem les_set : ∀ {l l' : List D} {j : Nat} {x : D}, D.les l l' → D.les (l.set j x) (l'.set j x)
  | [], [], _, _, k => k
  | a :: l, b :: l', 0, x, k => by simp only [D.les, List.set_cons_zero] at k ⊢; exact ⟨D.le_refl x, k.2⟩
  | a :: l, b :: l', j + 1, x, k => by simp only [D.les, List.set_cons_succ] at k ⊢; exact ⟨k.1, les_set k.2⟩
  | [], _ :: _, _, _, k => by simp [D.les] at k
  | _ :: _, [], _, _, k => by simp [D.les] at k
theorem less_get : ∀ {l l' : List (List D)} {i : Nat} {e : List D}, D.less l l' → l'[i]? = some e → ∃ e0, l[i]? = some e0 ∧ D.les e0 e
  | [], [], _, _, _, he => by simp at he
  | a :: l, b :: l', 0, e, k, he => by simp at he; subst he; simp only [D.less] at k; exact ⟨a, rfl, k.1⟩
  | a :: l, b :: l', i + 1, e, k, he => by simp only [D.less] at k; exact less_get (l := l) (l' := l') k.2 (by simpa using he)
  | [], _ :: _, _, _, k, _ => by simp [D.less] at k
  | _ :: _, [], _, _, k, _ => by simp [D.less] at k
theorem less_set : ∀ {l l' : List (List D)} {i : Nat} {a b : List D}, D.less l l' → D.les a b → D.less (l.set i a) (l'.set i b)
  | [], [], _, _, _, k, _ => k
  | x :: l, y :: l', 0, a, b, k, k2 => by simp only [D.less, List.set_cons_zero] at k ⊢; exact ⟨k2, k.2⟩
  | x :: l, y :: l', i + 1, a, b, k, k2 => by simp only [D.less, List.set_cons_succ] at k ⊢; exact ⟨k.1, less_set k.2 k2⟩
  | [], _ :: _, _, _, _, k, _ => by simp [D.less] at k
  | _ :: _, [], _, _, _, k, _ => by simp [D.less] at k
theorem Gr.place (g : Gr H0 H sz s el) (hn : 0 < el.length) : ∃ b ex el0, s = .slice b 0 sz el.length el.length ex ∧ H0.next ≤ b ∧ b < H.next ∧ H.blk b = .cells el0.flatten false ∧ D.less el0 el ∧ el0.flatten.length = el.length * sz := by
  rcases g.at_ with ⟨rfl, rfl⟩ | ⟨b, ex, el0, rfl, h1, h2, h3, h4⟩
  · simp at hn
  · exact ⟨b, ex, el0, rfl, h1, h2, h3, h4, by rw [flatten_len (less_sz h4 g.len), less_length h4]⟩
theorem Gr.set (g : Gr H0 H sz s el) {b : Nat} {ex : Bool} {el0 : List (List D)} (hs : s = .slice b 0 sz el.length el.length ex) (h1 : H0.next ≤ b) (h2 : b < H.next) (h4 : D.less el0 el) {i j o : Nat} {e : List D} {x : D} (he : el[i]? = some e) (hj : j < sz) (ho : o = i * sz + j) :
    Gr H0 (H.put b (.cells (spliceD el0.flatten o [x]) false)) sz s (el.set i (e.set j x)) := by
  subst ho;obtain ⟨e0, h5, h6⟩ := less_get h4 he;have hl : e.length = sz := g.len e (List.mem_of_getElem? he);refine ⟨g.sub.put h1, fun y hy => ?_, .inr ⟨b, ex, el0.set i (e0.set j x), by rw [List.length_set]; exact hs, h1, h2, ?_, less_set h4 (les_set h6)⟩⟩
  · rcases List.mem_or_eq_of_mem_set hy with hy | rfl
    · exact g.len y hy
    · rw [List.length_set]; exact hl
  · rw [put_blk, if_pos rfl, spliceD_flatten (less_sz h4 g.len) h5 hj]
end
end Go.Dv
end

section
namespace Go.Lib
open Go.Vm Go.Dv
abbrev By := Fin 256
structure Vl where
  null : Bool
  kind : Int
  n : Int
  bytes : List By
  small : bytes.length < 1000000
def byE (b : List By) : List (List D) := b.map fun c => [.lit (.int .u8 (c.val : Int))]
def byD (b : List By) : D := .row 1 .p (byE b)
def Vl.c (v : Vl) : List D := [.lit (.bool v.null), .lit (.int .i64 v.kind), .lit (.int .i64 v.n), byD v.bytes]
abbrev Row := List Vl
def rowE (r : Row) : List (List D) := r.map Vl.c
def rowD (r : Row) : D := .row 4 .p (rowE r)
def rowsE (l : List Row) : List (List D) := l.map fun r => [rowD r]
def rowsD (l : List Row) : D := .row 1 .p (rowsE l)
theorem by_under {n : Nat} {b : List By} : (byD b).under n := by
  simp only [byD, D.under]; exact underss_map (fun _ => by simp) _
theorem vl_unders {n : Nat} {v : Vl} : D.unders n v.c := by simp [Vl.c, by_under]
theorem row_under {n : Nat} {r : Row} : (rowD r).under n := by
  simp only [rowD, D.under]; exact underss_map (fun _ => vl_unders) _
theorem rows_under {n : Nat} {l : List Row} : (rowsD l).under n := by
  simp only [rowsD, D.under]; exact underss_map (fun _ => by simp [row_under]) _
theorem by_underss {n : Nat} {b : List By} : D.underss n (byE b) := underss_map (fun _ => by simp) _
theorem row_underss {n : Nat} {r : Row} : D.underss n (rowE r) := underss_map (fun _ => vl_unders) _
theorem rows_underss {n : Nat} {l : List Row} : D.underss n (rowsE l) := underss_map (fun _ => by simp [row_under]) _
theorem by_flat {b : List By} : flatD (byD b) = true := rfl
theorem row_flat {r : Row} : flatD (rowD r) = true := rfl
theorem rows_flat {l : List Row} : flatD (rowsD l) = true := rfl
theorem vl_len {v : Vl} : v.c.length = 4 := rfl
theorem vl_flats {v : Vl} : flatsD v.c = true := rfl
theorem vl_0 {v : Vl} : v.c[0]? = some (.lit (.bool v.null)) := rfl
theorem vl_1 {v : Vl} : v.c[1]? = some (.lit (.int .i64 v.kind)) := rfl
theorem vl_2 {v : Vl} : v.c[2]? = some (.lit (.int .i64 v.n)) := rfl
theorem vl_3 {v : Vl} : v.c[3]? = some (byD v.bytes) := rfl
theorem vl_take {v : Vl} : v.c.take 4 = v.c := rfl
theorem vl_drop {v : Vl} : v.c.drop 4 = [] := rfl
theorem by_len {b : List By} : (byE b).length = b.length := by simp [byE]
theorem row_len {r : Row} : (rowE r).length = r.length := by simp [rowE]
theorem rows_len {l : List Row} : (rowsE l).length = l.length := by simp [rowsE]
theorem lenb_row {r : Row} : lenbD (rowD r) = some (.lit (.int .i64 (r.length : Int))) := by simp [rowD, row_len]
theorem lenb_rows {l : List Row} : lenbD (rowsD l) = some (.lit (.int .i64 (l.length : Int))) := by simp [rowsD, rows_len]
theorem cellsD_by {b : List By} : cellsD (byD b) = some [byD b] := rfl
theorem cellsD_rowD {r : Row} : cellsD (rowD r) = some [rowD r] := rfl
theorem cellsD_rowsD {l : List Row} : cellsD (rowsD l) = some [rowsD l] := rfl
def bys (b : List By) : List Nat := b.map fun c => c.val
theorem bys_inj {a b : List By} : bys a = bys b ↔ a = b := by
  constructor
  · intro h
    induction a generalizing b with
    | nil => cases b with
      | nil => rfl
      | cons y b => simp [bys] at h
    | cons x a ih => cases b with
      | nil => simp [bys] at h
      | cons y b =>
        simp only [bys, List.map_cons, List.cons.injEq] at h;rw [Fin.ext h.1, ih h.2]
  · rintro rfl; rfl
theorem toVs_by : ∀ b : List By, toVs (byE b).flatten = some (b.map fun c => V.int .u8 (c.val : Int))
  | [] => rfl
  | c :: b => by
    have := toVs_by b;simp only [byE] at this;simp only [byE, List.map_cons, List.flatten_cons, List.singleton_append, toVs, toV, this]
theorem bytesOf_by : ∀ b : List By, eV.bytesOf (b.map fun c => V.int .u8 (c.val : Int)) = some (bys b)
  | [] => rfl
  | c :: b => by
    show cond (Nat.blt c.val 256) _ none = _;rw [show Nat.blt c.val 256 = true from nblt.2 c.isLt, cond_true, bytesOf_by b]; rfl
theorem text_by {H : HpD} {b : List By} : textD H (byD b) = some (.lit (.str (bys b)), H) := by
  simp only [byD, textD, Nat.beq, cond_true, strD, toVs_by, bytesOf_by]
theorem neqs_iff : ∀ {a b : List Nat}, neqs a b = true ↔ a = b
  | [], [] => by simp [neqs]
  | [], _ :: _ => by simp [neqs]
  | _ :: _, [] => by simp [neqs]
  | x :: a, y :: b => by
    simp only [neqs, cond_eq_ite]
    by_cases h : Nat.beq x y = true
    · rw [if_pos h, neqs_iff]; rw [nbeq] at h; simp [h]
    · rw [if_neg h]; rw [nbeq] at h; simp [h]
theorem neqs_bys {a b : List By} : neqs (bys a) (bys b) = decide (a = b) := by
  rw [Bool.eq_iff_iff, neqs_iff, bys_inj, decide_eq_true_iff]
theorem str_eql {tab : Tab} {a b : List Nat} : binV tab .eql (.str a) (.str b) = some (.bool (neqs a b)) := rfl
theorem str_neq {tab : Tab} {a b : List Nat} : binV tab .neq (.str a) (.str b) = some (.bool (!neqs a b)) := rfl
theorem str_lss {tab : Tab} {a b : List Nat} : binV tab .lss (.str a) (.str b) = some (.bool (slt a b)) := rfl
theorem bytesV_by {h : Hp} {ψ : Nat → Option Nat} {S : Nat → Prop} {b : List By} {v : V} (k : VD h ψ S (byD b) v) : bytesV h v = some (bys b) := by
  simp only [byD, VD] at k;rcases k with ⟨rfl, hb⟩ | ⟨c, o, cp, ex, rfl, h1, h2, k⟩
  · cases b with
    | nil => rfl
    | cons x b => simp [byE] at hb
  · rcases k with ⟨hm, _⟩ | ⟨cs, ro, hs, hb, hp⟩
    · cases hm
    · obtain ⟨us, e1, k1⟩ := VDss.cells hp
      rw [Nat.mul_one] at e1;have := toVs_ok _ (toVs_by b) k1;subst this
      have hr : h.read c o (byE b).length = some (b.map fun c => V.int .u8 (c.val : Int)) := by unfold Hp.read; rw [hb]; exact e1
      simp only [bytesV, hr];exact bytesOf_by b
theorem vl_set3 {v : Vl} : spliceD v.c 3 [byD v.bytes] = v.c := rfl
theorem by_one {b : List By} : ∀ e, e ∈ byE b → e.length = 1 := by simp [byE]
theorem by_flats {b : List By} : ∀ e, e ∈ byE b → flatsD e = true := by simp [byE]
theorem row_four {r : Row} : ∀ e, e ∈ rowE r → e.length = 4 := by simp [rowE]; exact fun _ _ => rfl
theorem at_row {r : Row} {n : Nat} : atO 4 (rowD r) (some n) = elemD (r[n]?.map Vl.c) := by simp [rowD, rowE]
theorem at_rows {l : List Row} {n : Nat} : atO 1 (rowsD l) (some n) = elemD (l[n]?.map fun r => [rowD r]) := by simp [rowsD, rowsE]
theorem rowE_snoc {r : Row} {i : Nat} {x : Vl} (hx : r[i]? = some x) : rowE (r.take i) ++ [x.c] = rowE (r.take (i + 1)) := by
  rw [List.take_add_one, hx]; simp [rowE]
theorem rowsE_snoc {l : List Row} {i : Nat} {x : Row} (hx : l[i]? = some x) : rowsE (l.take i) ++ [[rowD x]] = rowsE (l.take (i + 1)) := by
  rw [List.take_add_one, hx]; simp [rowsE]
attribute [simp] at_row at_rows
theorem row_flats {r : Row} : ∀ e, e ∈ rowE r → flatsD e = true := by simp [rowE]; exact fun _ _ => rfl
theorem rows_one {l : List Row} : ∀ e, e ∈ rowsE l → e.length = 1 := by simp [rowsE]
theorem rows_flats {l : List Row} : ∀ e, e ∈ rowsE l → flatsD e = true := by simp [rowsE]; exact fun _ _ => rfl
def zv : Vl := ⟨false, 0, 0, [], by simp⟩
theorem zv_le : D.le (.agg [.lit (.bool false), .lit (.int .i64 0), .lit (.int .i64 0), .lit .nilslice]) (.agg zv.c) := by
  simp [Vl.c, zv, byD, byE, D.le]
attribute [simp] vl_set3 vl_0 vl_1 vl_2 vl_3 vl_take vl_drop by_len row_len rows_len lenb_row lenb_rows cellsD_by cellsD_rowD cellsD_rowsD text_by neqs_bys str_eql str_neq str_lss
attribute [simp] by_underss row_underss rows_underss by_under vl_unders row_under rows_under by_flat row_flat rows_flat vl_len vl_flats
end Go.Lib
end

section
set_option maxRecDepth 10000
namespace Go.Lib
open Go.Vm Go.Dv
variable {p : Prog} {ext : Ext} {F : Nat → Nat}
structure HSchm (p : Prog) (ext : Ext) (F : Nat → Nat) : Prop where
  h1 : Has p ext F 1 M1
  h2 : Has p ext F 2 M2
  h3 : Has p ext F 3 M3
  h4 : Has p ext F 4 M4
  h5 : Has p ext F 5 M5
  h6 : Has p ext F 6 M6
  h7 : Has p ext F 7 M7
  h8 : Has p ext F 8 M8
  h9 : Has p ext F 9 M9
  h10 : Has p ext F 10 M10
  h11 : Has p ext F 11 M11
  h12 : Has p ext F 12 M12
  h13 : Has p ext F 13 M13
  h14 : Has p ext F 14 M14
  h15 : Has p ext F 15 M15
  h16 : Has p ext F 16 M16
  h17 : Has p ext F 17 M17
  h18 : Has p ext F 18 M18
  h19 : Has p ext F 19 M19
  h21 : Has p ext F 21 M21
  x20 : ∀ args h, ext (F 20) args h = extV .cmp args h
theorem isNaN_int (L : HSchm p ext F) {n : Int} : FnD p ext (F 18) [.lit (.int .i64 n)] (.lit (.bool false)) := by
  refine fn_of L.h18 (M := M18) rfl ok18 rfl fun H => sem_run 9000 _ ?_;simp;refine sem_ret ?_;simp [M18];exact .same (by simp)
theorem isNaN_int64 (L : HSchm p ext F) {n : Int} : FnD p ext (F 19) [.lit (.int .i64 n)] (.lit (.bool false)) := by
  refine fn_of L.h19 (M := M19) rfl ok19 rfl fun H => sem_run 9000 _ ?_;simp;refine sem_ret ?_;simp [M19];exact .same (by simp)
def cmpI (a b : Int) : Int := if a < b then -1 else if b < a then 1 else 0
theorem compare_int (L : HSchm p ext F) {a b : Int} : FnD p ext (F 9) [.lit (.int .i64 a), .lit (.int .i64 b)] (.lit (.int .i64 (cmpI a b))) := by
  refine fn_of L.h9 (M := M9) rfl ok9 rfl fun H => sem_run 9000 _ ?_;simp;refine sem_fn (isNaN_int L) (by first | exact D.les_refl _ | simp) (sem_run 9000 _ ?_);simp;refine sem_fn (isNaN_int L) (by first | exact D.les_refl _ | simp) (sem_run 9000 _ ?_);simp;refine sem_if (fun h => ?_) fun h => ?_
  · simp
    refine sem_ret ?_;simp [M9, cmpI, h];exact .same (by simp)
  · simp
    refine sem_if (fun h2 => ?_) fun h2 => ?_
    · simp
      refine sem_ret ?_;simp [M9, cmpI, h, h2];exact .same (by simp)
    · simp
      refine sem_ret ?_;simp [M9, cmpI, h, h2];exact .same (by simp)
theorem compare_int64 (L : HSchm p ext F) {a b : Int} : FnD p ext (F 10) [.lit (.int .i64 a), .lit (.int .i64 b)] (.lit (.int .i64 (cmpI a b))) := by
  refine fn_of L.h10 (M := M10) rfl ok10 rfl fun H => sem_run 9000 _ ?_;simp;refine sem_fn (isNaN_int64 L) (by first | exact D.les_refl _ | simp) (sem_run 9000 _ ?_);simp;refine sem_fn (isNaN_int64 L) (by first | exact D.les_refl _ | simp) (sem_run 9000 _ ?_);simp;refine sem_if (fun h => ?_) fun h => ?_
  · simp
    refine sem_ret ?_;simp [M10, cmpI, h];exact .same (by simp)
  · simp
    refine sem_if (fun h2 => ?_) fun h2 => ?_
    · simp
      refine sem_ret ?_;simp [M10, cmpI, h, h2];exact .same (by simp)
    · simp
      refine sem_ret ?_;simp [M10, cmpI, h, h2];exact .same (by simp)
def rankV (v : Vl) : Int := if v.null then 0 else 1
theorem rank (L : HSchm p ext F) {v : Vl} : FnD p ext (F 8) [.agg v.c] (.lit (.int .i64 (rankV v))) := by
  refine fn_of L.h8 (M := M8) rfl ok8 rfl fun H => sem_run 9000 _ ?_;simp [Vl.c];refine sem_br (fun h => ?_) fun h => ?_
  · simp
    refine sem_ret ?_;simp [M8, rankV, h];exact .same (by simp)
  · simp
    refine sem_ret ?_;simp [M8, rankV, h];exact .same (by simp)
def cmpB (a b : List By) : Int := cmpL (bys a) (bys b)
theorem cmp_ext (L : HSchm p ext F) {a b : List By} : FnD p ext (F 20) [byD a, byD b] (.lit (.int .i64 (cmpB a b))) := by
  intro H ψ S h vs s k;simp only [VDl] at k;obtain ⟨v, r, rfl, k1, w, r2, rfl, k2, rfl⟩ := k;refine wpc_ext (v := .int .i64 (cmpB a b)) (h' := h) ?_ ⟨ψ, S, _, H, .refl, s, ?_, rfl, rfl⟩
  · rw [L.x20]
    simp only [extV, bytesV_by k1, bytesV_by k2]
    rfl
  · simp [VD, atomV]
theorem bytes_compare (L : HSchm p ext F) {a b : List By} : FnD p ext (F 11) [byD a, byD b] (.lit (.int .i64 (cmpB a b))) := by
  refine fn_of L.h11 (M := M11) rfl ok11 rfl fun H => sem_run 9000 _ ?_;simp;refine sem_fn (cmp_ext L) (by first | exact D.les_refl _ | simp) (sem_run 9000 _ ?_);simp;refine sem_ret ?_;simp [M11];exact .same (by simp)
def cmpV (a b : Vl) : Int := if cmpI (rankV a) (rankV b) ≠ 0 ∨ a.null = true then cmpI (rankV a) (rankV b) else if a.kind = 1 then cmpI a.n b.n else if a.kind = 2 then cmpB a.bytes b.bytes else 0
theorem schm_compare (L : HSchm p ext F) {a b : Vl} : FnD p ext (F 1) [.agg a.c, .agg b.c] (.lit (.int .i64 (cmpV a b))) := by
  refine fn_of L.h1 (M := M1) rfl ok1 rfl fun H => sem_run 9000 _ ?_;simp;refine sem_dfn (rank L) (by first | exact D.les_refl _ | simp) (sem_run 9000 _ ?_);simp;refine sem_dfn (rank L) (by first | exact D.les_refl _ | simp) (sem_run 9000 _ ?_);simp;refine sem_dfn (compare_int L) (by first | exact D.les_refl _ | simp) (sem_run 9000 _ ?_);simp
  by_cases h1 : cmpI (rankV a) (rankV b) = 0
  · cases h2 : a.null
    · by_cases h3 : a.kind = 1
      · simp [h1, h2, h3]
        refine sem_fn (compare_int64 L) (by first | exact D.les_refl _ | simp) (sem_run 9000 _ ?_);simp;refine sem_ret ?_;simp [M1, cmpV, h1, h2, h3];exact .same (by simp)
      · by_cases h4 : a.kind = 2
        · simp [h1, h2, h4]
          refine sem_fn (bytes_compare L) (by first | exact D.les_refl _ | simp) (sem_run 9000 _ ?_);simp;refine sem_ret ?_;simp [M1, cmpV, h1, h2, h4];exact .same (by simp)
        · simp [h1, h2, h3, h4]
          refine sem_ret ?_;simp [M1, cmpV, h1, h2, h3, h4];exact .same (by simp)
    · simp [h1, h2]
      refine sem_ret ?_;simp [M1, cmpV, h1, h2];exact .same (by simp)
  · simp [h1]
    refine sem_ret ?_;simp [M1, cmpV, h1];exact .same (by simp)
theorem slcRow_eq {sz : Nat} {m : Md} {l : List (List D)} {lo hi mx : Option V} : slcD sz (.row sz m l) (lo.map .lit) (hi.map .lit) (mx.map .lit) = cond (needH hi mx) (slcRow sz m l lo hi mx) none := by
  cases lo <;> cases hi <;> cases mx <;> simp only [slcD, Option.map, bndD, beq_d, decide_true, cond_true]
theorem slc_clip {sz : Nat} {m : Md} {l : List (List D)} (hm : m ≠ .w) : slcD sz (.row sz m l) none (some (.lit (.int .i64 (l.length : Int)))) (some (.lit (.int .i64 (l.length : Int)))) = some (.row sz .c l) := by
  have := slcRow_eq (sz := sz) (m := m) (l := l) (lo := none) (hi := some (.int .i64 (l.length : Int))) (mx := some (.int .i64 (l.length : Int)));simp only [Option.map] at this;rw [this];simp only [needH, cond_true, slcRow, boundM, natOf_cast, ble_d, Nat.le_refl, decide_true, boundH, boundL, cutMd, beq_d]
  cases m <;> simp at hm ⊢
theorem clip_val (L : HSchm p ext F) {r : Row} : FnD p ext (F 13) [rowD r] (rowD r) := by
  refine fn_of L.h13 (M := M13) rfl ok13 rfl fun H => sem_run 9000 _ ?_;simp [rowD];have := slc_clip (sz := 4) (m := .p) (l := rowE r) (by simp);simp only [row_len] at this;simp [this];refine sem_ret ?_;simp [M13];exact .le .refl (by simp [D.le]) (by simp)
theorem clone_by (L : HSchm p ext F) {b : List By} (hb : b.length < 1000000) : FnD p ext (F 14) [byD b] (byD b) := by
  refine fn_of L.h14 (M := M14) rfl ok14 rfl fun H => sem_run 9000 _ ?_;simp [byD];refine ⟨?_, ?_⟩
  · intro h0
    refine sem_ret ?_;simp [M14];exact .le .refl (by rw [h0]; simp [D.le]) (by simp)
  · obtain ⟨s', H', e, g, _⟩ := (Gr.lit (el := []) (sz := 1) (H := H) (ex := true) (c := []) (n := 0) Sub.refl (by simp) rfl rfl).app (by_ := 1) (m := .p) (new := byE b) by_one by_flats (roomyD (by simp; omega) (by simp; omega))
    simp [e];refine sem_ret ?_;simp [M14];exact g.fin (by simp) (by simp)
theorem schm_val (L : HSchm p ext F) {v : Vl} : FnD p ext (F 5) [.agg v.c] (.agg v.c) := by
  refine fn_of L.h5 (M := M5) rfl ok5 rfl fun H => sem_run 9000 _ ?_;simp;refine sem_fn (clone_by L v.small) (by first | exact D.les_refl _ | simp) (sem_run 9000 _ ?_);simp;refine sem_ret ?_;simp [M5, Vl.c];exact .le (by repeat (first | exact Sub.refl | apply Sub.new | refine Sub.put ?_ (by first | omega | (simp only [put_next, new_next]; omega)))) (by simp) (by simp)
def RowI (H0 : HpD) (r : Row) (k : Nat) (fr : FrD) (H : HpD) : Prop :=
  ∃ (i : Nat) (s : D), k = r.length - i ∧ i ≤ r.length ∧ fr = [(3, s), (6, rowD r), (7, .lit (.int .i64 (r.length : Int))), (8, .lit (.int .i64 (i : Int)))] ∧ Gr H0 H 4 s (rowE (r.take i))
theorem schm_row (L : HSchm p ext F) {r : Row} (hr : r.length < 1000000) : FnD p ext (F 4) [rowD r] (rowD r) := by
  refine fn_of L.h4 (M := M4) rfl ok4 rfl fun H => sem_run 9000 _ ?_;simp;refine sem_loop (RowI H r) ?_ (k := r.length) ⟨0, .lit .nilslice, by simp, by simp, rfl, by simpa [rowE] using Gr.start⟩;rintro k fr H' ⟨i, s, rfl, hi, rfl, g⟩;refine sem_run 9000 _ ?_;simp
  by_cases c : i < r.length
  · have hx : r[i]? = some r[i] := by simp
    simp [c];refine sem_fn (schm_val L) (by first | exact D.les_refl _ | simp) (sem_run 9000 _ ?_);simp;refine sem_push (g.mono (by repeat (first | exact Sub.refl | apply Sub.new | refine Sub.put ?_ (by first | omega | (simp only [put_next, new_next]; omega))))) rfl rfl (roomyD (by simp; omega) (by simp; omega)) fun s' H1 g1 _ _ => ?_;simp;refine sem_ok ?_
    have hw : wr .i64 ((i : Int) + 1) = ((i + 1 : Nat) : Int) := by rw [wr_of] <;> omega
    rw [rowE_snoc hx] at g1;exact ⟨_, by omega, i + 1, s', rfl, by omega, by rw [hw], g1⟩
  · simp [c]
    refine sem_exit (sem_run 9000 _ ?_)
    have : i = r.length := by omega
    subst this;rw [List.take_length] at g;simp;refine sem_row g 0 rfl fun H2 s2 _ _ => ?_;refine sem_fn (clip_val L) (by first | exact D.les_refl _ | simp) (sem_run 9000 _ ?_);simp;refine sem_ret ?_;simp [M4];exact .le s2 (D.le_refl _) (by simp)
def atV (r : Row) (c : Int) : Vl := if c < 0 then zv else (r[c.toNat]?).getD zv
theorem schm_at (L : HSchm p ext F) {r : Row} {c : Int} : FnD p ext (F 3) [rowD r, .lit (.int .i64 c)] (.agg (atV r c).c) := by
  refine fn_of L.h3 (M := M3) rfl ok3 rfl fun H => sem_run 9000 _ ?_;simp
  by_cases h1 : c < 0
  · simp [h1]
    refine sem_ret ?_;simp [M3];exact .le (by repeat (first | exact Sub.refl | apply Sub.new | refine Sub.put ?_ (by first | omega | (simp only [put_next, new_next]; omega)))) (by rw [atV, if_pos h1]; exact zv_le) (by simp)
  · obtain ⟨n, rfl⟩ : ∃ n : Nat, c = n := ⟨c.toNat, by omega⟩
    by_cases h2 : r.length ≤ n
    · simp [h1, h2]
      refine sem_ret ?_;simp [M3];exact .le (by repeat (first | exact Sub.refl | apply Sub.new | refine Sub.put ?_ (by first | omega | (simp only [put_next, new_next]; omega)))) (by rw [atV, if_neg h1]; simp [h2]; exact zv_le) (by simp)
    · have h3 : n < r.length := by omega
      simp [h1, h2, h3];refine sem_fn (schm_val L) (by first | exact D.les_refl _ | simp) (sem_run 9000 _ ?_);simp;refine sem_ret ?_;simp [M3];exact .le (by repeat (first | exact Sub.refl | apply Sub.new | refine Sub.put ?_ (by first | omega | (simp only [put_next, new_next]; omega)))) (by rw [atV, if_neg h1]; simp [h3]) (by simp)
def cmpRow (cmp : Vl → Vl → Int) : Row → Row → Int
  | [], [] => 0
  | [], _ :: _ => -1
  | _ :: _, [] => 1
  | a :: x, b :: y => if cmp a b ≠ 0 then cmp a b else cmpRow cmp x y
theorem compareFunc (L : HSchm p ext F) {f : Nat} {cmp : Vl → Vl → Int} (hf : ∀ a b : Vl, FnD p ext f [.agg a.c, .agg b.c] (.lit (.int .i64 (cmp a b)))) {x y : Row} (hx : x.length < 1000000) : FnD p ext (F 12) [rowD x, rowD y, .func f [] []] (.lit (.int .i64 (cmpRow cmp x y))) := by
  refine fn_of L.h12 (M := M12) rfl ok12 rfl fun H => sem_run 9000 _ ?_;simp;refine sem_loop (fun k fr H' => ∃ i : Nat, k = x.length - i ∧ i ≤ x.length ∧ i ≤ y.length ∧ cmpRow cmp x y = cmpRow cmp (x.drop i) (y.drop i) ∧ fr = [(0, rowD x), (1, rowD y), (2, .func f [] []), (11, rowD x), (12, .lit (.int .i64 (x.length : Int))), (13, .lit (.int .i64 (i : Int)))] ∧ Sub H H') ?_ (k := x.length) ⟨0, by simp, by simp, by simp, by simp, rfl, .refl⟩;rintro k fr H' ⟨i, rfl, hi, hi2, hc, rfl, hs⟩;refine sem_run 9000 _ ?_;simp
  by_cases c : i < x.length
  · by_cases c2 : y.length ≤ i
    · simp [c, c2]
      refine sem_ret ?_;simp;refine sem_ret ?_;simp [M12];have : y.drop i = [] := List.drop_eq_nil_of_le (by omega);rw [hc, this, List.drop_eq_getElem_cons c];exact .le (by have := hs.next; repeat (first | exact hs | apply Sub.new | refine Sub.put ?_ (by first | omega | (simp only [put_next, new_next]; omega)))) (by simp [cmpRow]) trivial
    · have c3 : i < y.length := by omega
      simp [c, c2, c3];refine sem_fn (hf x[i] y[i]) (by first | exact D.les_refl _ | simp) (sem_run 9000 _ ?_);simp;rw [List.drop_eq_getElem_cons c, List.drop_eq_getElem_cons c3] at hc
      by_cases c4 : cmp x[i] y[i] = 0
      · simp [c4]
        refine sem_ok ?_
        have hw : wr .i64 ((i : Int) + 1) = ((i + 1 : Nat) : Int) := by rw [wr_of] <;> omega
        exact ⟨_, by omega, i + 1, rfl, by omega, by omega, by rw [hc]; simp [cmpRow, c4], by rw [hw], (by have := hs.next; repeat (first | exact hs | apply Sub.new | refine Sub.put ?_ (by first | omega | (simp only [put_next, new_next]; omega))))⟩
      · simp [c4]
        refine sem_ret ?_;simp;refine sem_ret ?_;simp [M12];exact .le (by have := hs.next; repeat (first | exact hs | apply Sub.new | refine Sub.put ?_ (by first | omega | (simp only [put_next, new_next]; omega)))) (by rw [hc]; simp [cmpRow, c4]) trivial
  · simp [c]
    refine sem_exit (sem_run 9000 _ ?_);have hd : x.drop i = [] := List.drop_eq_nil_of_le (by omega)
    have hl : i = x.length := by omega
    by_cases c2 : x.length < y.length
    · simp [c2]
      refine sem_ret ?_;simp [M12];rw [hc, hd, List.drop_eq_getElem_cons (by omega)];exact .le (by have := hs.next; repeat (first | exact hs | apply Sub.new | refine Sub.put ?_ (by first | omega | (simp only [put_next, new_next]; omega)))) (by simp [cmpRow]) trivial
    · simp [c2]
      refine sem_ret ?_;simp [M12];rw [hc, hd, List.drop_eq_nil_of_le (by omega : y.length ≤ i)];exact .le (by have := hs.next; repeat (first | exact hs | apply Sub.new | refine Sub.put ?_ (by first | omega | (simp only [put_next, new_next]; omega)))) (by simp [cmpRow]) trivial
theorem schm_rows (L : HSchm p ext F) {x y : Row} (hx : x.length < 1000000) : FnD p ext (F 2) [rowD x, rowD y] (.lit (.int .i64 (cmpRow cmpV x y))) := by
  refine fn_of L.h2 (M := M2) rfl ok2 rfl fun H => sem_run 9000 _ ?_;simp;refine sem_fn (compareFunc L (fun a b => schm_compare L) hx) (by first | exact D.les_refl _ | simp) (sem_run 9000 _ ?_);simp;refine sem_ret ?_;simp [M2];exact .same (by simp)
theorem vl_ext {a b : Vl} : a = b ↔ a.null = b.null ∧ a.kind = b.kind ∧ a.n = b.n ∧ a.bytes = b.bytes := by
  cases a; cases b; simp
instance : DecidableEq Vl := fun _a _b => decidable_of_iff _ vl_ext.symm
end Go.Lib
end

section
set_option maxRecDepth 10000
namespace Go.Lib
open Go.Vm Go.Dv
variable {α : Type}
structure Ord3 (G : α → Prop) (cmp : α → α → Int) : Prop where
  sym : ∀ x y, G x → G y → cmp x y = - cmp y x
  tr : ∀ x y z, G x → G y → G z → cmp x y ≤ 0 → cmp y z ≤ 0 → cmp x z ≤ 0
namespace Ord3
variable {G : α → Prop} {cmp : α → α → Int}
theorem lt_le (o : Ord3 G cmp) {x y z : α} (hx : G x) (hy : G y) (hz : G z) (h1 : cmp x y < 0) (h2 : cmp y z ≤ 0) : cmp x z < 0 := by
  have h3 := o.tr x y z hx hy hz (by omega) h2;rcases Int.lt_or_eq_of_le h3 with h | h
  · exact h
  · have := o.sym x z hx hz
    have h4 := o.tr y z x hy hz hx h2 (by omega);have := o.sym x y hx hy;omega
theorem le_lt (o : Ord3 G cmp) {x y z : α} (hx : G x) (hy : G y) (hz : G z) (h1 : cmp x y ≤ 0) (h2 : cmp y z < 0) : cmp x z < 0 := by
  have h3 := o.tr x y z hx hy hz h1 (by omega);rcases Int.lt_or_eq_of_le h3 with h | h
  · exact h
  · have := o.sym x z hx hz
    have h4 := o.tr z x y hz hx hy (by omega) h1;have := o.sym y z hy hz;omega
theorem eq_eq (o : Ord3 G cmp) {x y z : α} (hx : G x) (hy : G y) (hz : G z) (h1 : cmp x y = 0) (h2 : cmp y z = 0) : cmp x z = 0 := by
  have h3 := o.tr x y z hx hy hz (by omega) (by omega);have e1 := o.sym x y hx hy;have e2 := o.sym y z hy hz;have e3 := o.sym x z hx hz;have h4 := o.tr z y x hz hy hx (by omega) (by omega);omega
theorem anti (o : Ord3 G cmp) : ∀ x y, G x → G y → cmp x y < 0 → ¬ cmp y x < 0 := fun x y hx hy h => by
  have := o.sym x y hx hy; omega
theorem trans (o : Ord3 G cmp) : ∀ x y z, G x → G y → G z → ¬ cmp y x < 0 → ¬ cmp z y < 0 → ¬ cmp z x < 0 := fun x y z hx hy hz h1 h2 => by
  have e1 := o.sym x y hx hy;have e2 := o.sym y z hy hz;have e3 := o.sym x z hx hz;have := o.tr x y z hx hy hz (by omega) (by omega);omega
end Ord3
theorem cmpI_ord : Ord3 (fun _ => True) cmpI :=
  ⟨fun x y _ _ => by unfold cmpI; repeat' split <;> omega, fun x y z _ _ _ h1 h2 => by unfold cmpI at *; split at h1 <;> split at h2 <;> (repeat' split) <;> omega⟩
theorem cmpI_eq {x y : Int} : cmpI x y = 0 ↔ x = y := by unfold cmpI; repeat' split <;> omega
theorem cmpL_cons {a b : Nat} {x y : List Nat} : cmpL (a :: x) (b :: y) = if cmpI a b ≠ 0 then cmpI a b else cmpL x y := by
  simp only [cmpL, cmpI, cond_eq_ite, nblt]
  repeat' split
  all_goals first | rfl | omega
theorem cmpL_ord : Ord3 (fun _ => True) cmpL := by
  refine ⟨fun x y _ _ => ?_, fun x y z _ _ _ => ?_⟩
  · induction x generalizing y with
    | nil => cases y <;> rfl
    | cons a x ih => cases y with
      | nil => rfl
      | cons b y =>
        rw [cmpL_cons, cmpL_cons];have := cmpI_ord.sym (a : Int) b trivial trivial;have := ih y
        split <;> split <;> omega
  · induction x generalizing y z with
    | nil => intro _ _; cases z <;> simp [cmpL]
    | cons a x ih => cases y with
      | nil => intro h; simp [cmpL] at h
      | cons b y => cases z with
        | nil => intro _ h; simp [cmpL] at h
        | cons c z =>
          rw [cmpL_cons, cmpL_cons, cmpL_cons];intro h1 h2;have ih := ih y z;have o := cmpI_ord;have t := o.tr (a : Int) b c trivial trivial trivial;have t1 := o.lt_le (x := (a : Int)) (y := b) (z := c) trivial trivial trivial;have t2 := o.le_lt (x := (a : Int)) (y := b) (z := c) trivial trivial trivial;have t3 := o.eq_eq (x := (a : Int)) (y := b) (z := c) trivial trivial trivial
          split at h1 <;> split at h2 <;> split <;> first | omega | (exact ih (by omega) (by omega)) | skip
theorem cmpB_ord : Ord3 (fun _ => True) cmpB := ⟨fun _ _ _ _ => cmpL_ord.sym _ _ trivial trivial, fun _ _ _ _ _ _ h1 h2 => cmpL_ord.tr _ _ _ trivial trivial trivial h1 h2⟩
theorem cmpL_eq : ∀ {x y : List Nat}, cmpL x y = 0 ↔ x = y
  | [], [] => by simp [cmpL]
  | [], _ :: _ => by simp [cmpL]
  | _ :: _, [] => by simp [cmpL]
  | a :: x, b :: y => by
    rw [cmpL_cons];have := cmpI_eq (x := (a : Int)) (y := b)
    split
    · constructor
      · intro h; omega
      · intro h; simp only [List.cons.injEq] at h; omega
    · rw [cmpL_eq]
      constructor
      · rintro rfl; simp; omega
      · intro h; exact (List.cons.inj h).2
theorem cmpB_eq {x y : List By} : cmpB x y = 0 ↔ x = y := by unfold cmpB; rw [cmpL_eq, bys_inj]
theorem cmpV_null {a b : Vl} : cmpV a b = if a.null = true then (if b.null = true then 0 else -1) else if b.null = true then 1 else if a.kind = 1 then cmpI a.n b.n else if a.kind = 2 then cmpB a.bytes b.bytes else 0 := by
  unfold cmpV rankV cmpI
  cases a.null <;> cases b.null <;> simp
theorem cmpV_ord {k : Int} : Ord3 (fun v : Vl => v.kind = k) cmpV := by
  refine ⟨fun x y hx hy => ?_, fun x y z hx hy hz h1 h2 => ?_⟩
  · rw [cmpV_null, cmpV_null, hx, hy]
    have := cmpI_ord.sym x.n y.n trivial trivial;have := cmpB_ord.sym x.bytes y.bytes trivial trivial
    repeat' split
    all_goals omega
  · rw [cmpV_null] at *
    rw [hx] at *;rw [hy] at h2;have := cmpI_ord.tr x.n y.n z.n trivial trivial trivial;have := cmpB_ord.tr x.bytes y.bytes z.bytes trivial trivial trivial
    cases hx0 : x.null <;> cases hy0 : y.null <;> cases hz0 : z.null <;> simp [hx0, hy0, hz0] at h1 h2 ⊢
    split at h1
    · rename_i e
      simp only [e] at h2 ⊢;simp at h2 ⊢; omega
    · rename_i e
      simp only [e] at h2 ⊢
      split at h1
      · rename_i e2
        simp [e2] at h2 ⊢; omega
      · rename_i e2
        simp [e2]
theorem cmpL_abs : ∀ {x y : List Nat}, -1 ≤ cmpL x y ∧ cmpL x y ≤ 1
  | [], [] => by simp [cmpL]
  | [], _ :: _ => by simp [cmpL]
  | _ :: _, [] => by simp [cmpL]
  | a :: x, b :: y => by
    rw [cmpL_cons];have := cmpL_abs (x := x) (y := y);unfold cmpI
    repeat' split
    all_goals omega
theorem cmpV_abs {a b : Vl} : -1 ≤ cmpV a b ∧ cmpV a b ≤ 1 := by
  rw [cmpV_null];have := cmpL_abs (x := bys a.bytes) (y := bys b.bytes);unfold cmpI cmpB
  repeat' split
  all_goals omega
def Kin (ks : List Int) (r : Row) : Prop := r.map Vl.kind = ks
theorem cmpRow_ord : ∀ {ks : List Int}, Ord3 (Kin ks) (cmpRow cmpV) := by
  intro ks;refine ⟨?_, ?_⟩
  · induction ks with
    | nil =>
      intro x y hx hy;simp only [Kin, List.map_eq_nil_iff] at hx hy;subst hx; subst hy; rfl
    | cons k ks ih =>
      intro x y hx hy
      cases x with
      | nil => simp [Kin] at hx
      | cons a x => cases y with
        | nil => simp [Kin] at hy
        | cons b y =>
          simp only [Kin, List.map_cons, List.cons.injEq] at hx hy;have := ih x y hx.2 hy.2;have := (cmpV_ord (k := k)).sym a b hx.1 hy.1;simp only [cmpRow]
          split <;> split <;> omega
  · induction ks with
    | nil =>
      intro x y z hx hy hz;simp only [Kin, List.map_eq_nil_iff] at hx hy hz;subst hx; subst hy; subst hz; simp [cmpRow]
    | cons k ks ih =>
      intro x y z hx hy hz
      cases x with
      | nil => simp [Kin] at hx
      | cons a x => cases y with
        | nil => simp [Kin] at hy
        | cons b y => cases z with
          | nil => simp [Kin] at hz
          | cons c z =>
            simp only [Kin, List.map_cons, List.cons.injEq] at hx hy hz;have ih := ih x y z hx.2 hy.2 hz.2;have o := cmpV_ord (k := k);have t := o.tr a b c hx.1 hy.1 hz.1;have t1 := o.lt_le hx.1 hy.1 hz.1;have t2 := o.le_lt hx.1 hy.1 hz.1;have t3 := o.eq_eq hx.1 hy.1 hz.1;simp only [cmpRow];intro h1 h2
            split at h1 <;> split at h2 <;> split <;> first | omega | (exact ih (by omega) (by omega)) | skip
end Go.Lib
end

section
set_option maxRecDepth 10000
namespace Go.Lib
open Go.Vm Go.Dv
variable {p : Prog} {ext : Ext} {F : Nat → Nat}
structure HRef6 (p : Prog) (ext : Ext) (F : Nat → Nat) : Prop where
  h46 : Has p ext F 46 M46
  h47 : Has p ext F 47 M47
  h48 : Has p ext F 48 M48
  h49 : Has p ext F 49 M49
  h50 : Has p ext F 50 M50
theorem slt_cmp : ∀ {x y : List Nat}, slt x y = decide (cmpL x y = -1)
  | [], [] => rfl
  | [], _ :: _ => rfl
  | _ :: _, [] => rfl
  | a :: x, b :: y => by
    have ih := slt_cmp (x := x) (y := y);rw [cmpL_cons];simp only [slt, cond_eq_ite, nblt, nbeq, ih];rcases Nat.lt_trichotomy a b with h | h | h
    · have : cmpI (a : Int) b = -1 := by unfold cmpI; rw [if_pos (by omega)]
      simp [h, this]
    · subst h
      have : cmpI (a : Int) a = 0 := cmpI_eq.2 rfl;simp [this]
    · have : cmpI (a : Int) b = 1 := by unfold cmpI; rw [if_neg (by omega), if_pos (by omega)]
      rw [if_neg (by omega), if_neg (by omega)];simp [this]
theorem ref6_compare (L : HRef6 p ext F) {a b : Vl} : FnD p ext (F 46) [.agg a.c, .agg b.c] (.lit (.int .i64 (cmpV a b))) := by
  refine fn_of L.h46 (M := M46) rfl ok46 rfl fun H => sem_run 9000 _ ?_;simp;rw [cmpV_null]
  cases an : a.null with
  | true =>
    cases bn : b.null with
    | true =>
      simp [an, bn];refine sem_ret ?_;simp [M46];exact .same (by simp)
    | false =>
      simp [an, bn];refine sem_ret ?_;simp [M46];exact .same (by simp)
  | false =>
    cases bn : b.null with
    | true =>
      simp [an, bn];refine sem_ret ?_;simp [M46];exact .same (by simp)
    | false =>
      simp [bn]
      by_cases k1 : a.kind = 1
      · by_cases n1 : a.n = b.n
        · simp [k1, n1]
          have : cmpI b.n b.n = 0 := cmpI_eq.2 rfl;refine sem_ret ?_;simp [M46, this];exact .same (by simp)
        · simp [k1, n1]
          refine sem_if (fun h => ?_) fun h => ?_
          · simp
            have : cmpI a.n b.n = -1 := by unfold cmpI; rw [if_pos h]
            refine sem_ret ?_;simp [M46, this];exact .same (by simp)
          · simp
            have : cmpI a.n b.n = 1 := by unfold cmpI; rw [if_neg h, if_pos (by omega)]
            refine sem_ret ?_;simp [M46, this];exact .same (by simp)
      · by_cases k2 : a.kind = 2
        · by_cases n1 : a.bytes = b.bytes
          · simp [k2, n1]
            have : cmpB b.bytes b.bytes = 0 := cmpB_eq.2 rfl;refine sem_ret ?_;simp [M46, this];exact .same (by simp)
          · simp [k2, n1]
            rw [slt_cmp];refine sem_if (fun h => ?_) fun h => ?_
            · simp
              have : cmpB a.bytes b.bytes = -1 := h;refine sem_ret ?_;simp [M46, this];exact .same (by simp)
            · simp
              have h1 := cmpL_abs (x := bys a.bytes) (y := bys b.bytes);have h2 : ¬ cmpB a.bytes b.bytes = 0 := fun e => n1 (cmpB_eq.1 e)
              have : cmpB a.bytes b.bytes = 1 := by unfold cmpB at h2 ⊢; omega
              refine sem_ret ?_;simp [M46, this];exact .same (by simp)
        · simp [k1, k2]
          refine sem_ret ?_;simp [M46];exact .same (by simp)
end Go.Lib
end

section
namespace Go.Lib
open Go.Vm Go.Dv
set_option maxRecDepth 100000
abbrev K32 (F : Nat → Nat) : KC := .seq (.region [⟨some 4,.a (.box (.tmp 1)),none⟩,⟨some 6,.p (.mov (.val (.nilslice))),none⟩,⟨some 7,.p (.mov (.val (.bool false))),none⟩] [4] [0,2,4])
 (.seq (.seq (.region [l1 16 4,bi 17 .lss 16 0] [] [0,2,4,17])
 (.cond (.tmp 17) (.seq (.region [mv 19 0,mv 20 2,⟨some 21,.e (.call (F 36) [(.val (.nilslice)),(.tmp 19),(.tmp 20)]),none⟩,mv 18 21,et 22 18 0,et 23 18 1,mv 8 22,mv 9 23] [] [8,9])
 (.seq (.seq (.region [mv 24 9,⟨some 25,.p (.not (.tmp 24)),none⟩] [] [8,25])
 (.cond (.tmp 25) (.seq (.region [⟨some 6,.p (.mov (.val (.nilslice))),none⟩,⟨some 7,.p (.mov (.val (.bool false))),none⟩] [] [6,7])
 (.ret))
 (.skip)))
 (.seq (.region [mv 26 8,⟨some 27,.a (.bslice [.nilslice] 1 1 [(0,1,(.tmp 26))]),none⟩,mv 6 27,⟨some 7,.p (.mov (.val (.bool true))),none⟩] [27] [6,7])
 (.ret))))
 (.skip)))
 (.seq (.region [mv 28 0,⟨some 29,.e (.call (F 37) [(.tmp 28)]),none⟩,mv 10 29] [] [2,4,10])
 (.seq (.region [mv 30 10,⟨some 31,.p (.mkfunc (F 38) [] [(.tmp 4)]),none⟩,⟨some 32,.e (.call (F 26) [(.tmp 30),(.tmp 31)]),none⟩] [] [2,4,10])
 (.seq (.region [⟨some 11,.p (.mov (.val (.nilslice))),none⟩] [] [2,4,10,11])
 (.seq (.block 0 (.loop (.seq (.seq (.region [mv 33 10,lb 34 33,bi 35 .gtr 34 0] [] [2,4,10,11,35])
 (.cond (.tmp 35) (.skip)
 (.exit 0)))
 (.block 1 (.seq (.dregion [⟨mv 36 10,0,4⟩,⟨⟨some 37,.p (.iaddr 1 (.tmp 36) (.val (.int .i64 (.ofNat 0)))),none⟩,0,4⟩,⟨l1 38 37,0,4⟩,⟨l1 39 4,0,4⟩,⟨⟨some 40,.e (.call (F 3) [(.tmp 38),(.tmp 39)]),none⟩,0,6⟩,⟨⟨some 12,.a (.new [.bool false,.int .i64 (.ofNat 0),.int .i64 (.ofNat 0),.nilslice]),none⟩,0,6⟩,⟨⟨none,.e (.store 4 (.tmp 12) (.tmp 40)),none⟩,5,7⟩] [2,4,10,11,12])
 (.seq (.region [mi 13 1] [] [2,4,10,11,12,13])
 (.seq (.block 2 (.loop (.seq (.seq (.dregion [⟨mv 41 13,0,10⟩,⟨mv 42 10,0,10⟩,⟨lb 43 42,0,10⟩,⟨bt 44 .lss 41 43,0,10⟩,⟨mv 45 44,0,10⟩,⟨⟨some 46,.p (.mov (.tmp 10)),(some (45,true))⟩,0,10⟩,⟨⟨some 47,.p (.mov (.tmp 13)),(some (45,true))⟩,0,10⟩,⟨⟨some 48,.p (.iaddr 1 (.tmp 46) (.tmp 47)),(some (45,true))⟩,0,10⟩,⟨⟨some 49,.load1 (.tmp 48),(some (45,true))⟩,0,10⟩,⟨⟨some 50,.load1 (.tmp 4),(some (45,true))⟩,0,10⟩,⟨⟨some 51,.e (.call (F 3) [(.tmp 49),(.tmp 50)]),(some (45,true))⟩,0,12⟩,⟨⟨some 52,.loadn 4 (.tmp 12),(some (45,true))⟩,0,12⟩,⟨⟨some 53,.e (.call (F 1) [(.tmp 51),(.tmp 52)]),(some (45,true))⟩,11,15⟩,⟨⟨some 54,.p (.bin .eql (.tmp 53) (.val (.int .i64 (.ofNat 0)))),(some (45,true))⟩,13,15⟩,⟨⟨some 55,.p (.pick (.tmp 45) (.tmp 54) (.val (.bool false))),none⟩,13,15⟩] [2,4,10,11,12,13,55])
 (.cond (.tmp 55) (.skip)
 (.exit 2)))
 (.block 3 (.region [mv 56 13,bi 57 .add 56 1,mv 13 57] [] [2,4,10,11,12,13])))))
 (.seq (.dregion [⟨ln 59 4 12,0,6⟩,⟨⟨some 60,.a (.bslice [.bool false,.int .i64 (.ofNat 0),.int .i64 (.ofNat 0),.nilslice] 4 1 [(0,4,(.tmp 59))]),none⟩,0,6⟩,⟨mv 61 10,0,6⟩,⟨mv 62 13,0,6⟩,⟨⟨some 63,.p (.slc 1 (.tmp 61) none (some (.tmp 62)) none),none⟩,0,6⟩,⟨mv 64 2,0,6⟩,⟨⟨some 65,.e (.call (F 36) [(.tmp 60),(.tmp 63),(.tmp 64)]),none⟩,0,12⟩,⟨mv 58 65,7,12⟩,⟨et 66 58 0,7,12⟩,⟨et 67 58 1,7,12⟩,⟨mv 14 66,7,12⟩,⟨mv 15 67,7,12⟩] [2,4,10,11,13,14,15])
 (.seq (.seq (.region [mv 68 15,⟨some 69,.p (.not (.tmp 68)),none⟩] [] [2,4,10,11,13,14,69])
 (.cond (.tmp 69) (.seq (.region [⟨some 6,.p (.mov (.val (.nilslice))),none⟩,⟨some 7,.p (.mov (.val (.bool false))),none⟩] [] [6,7])
 (.ret))
 (.skip)))
 (.seq (.region [mv 70 11,mv 71 14,⟨some 72,.a (.bslice [.nilslice] 1 1 [(0,1,(.tmp 71))]),none⟩,⟨some 73,.e (.append 1 24 (.tmp 70) (.tmp 72)),none⟩,mv 11 73] [72] [2,4,10,11,13])
 (.region [mv 74 10,mv 75 13,⟨some 76,.p (.slc 1 (.tmp 74) (some (.tmp 75)) none none),none⟩,mv 10 76] [] [2,4,10,11])))))))))))
 (.seq (.region [mv 77 11,⟨some 78,.e (.call (F 39) [(.tmp 77)]),none⟩,mv 6 78,⟨some 7,.p (.mov (.val (.bool true))),none⟩] [] [6,7])
 (.ret)))))))
def M32 (F : Nat → Nat) : Fun := ⟨79,3,(K32 F).erase,[.tmp 6,.tmp 7]⟩
theorem ok32 {F : Nat → Nat} : (K32 F).ok = true := rfl
abbrev K33 (F : Nat → Nat) : KC := .seq (.region [⟨some 2,.p (.mov (.val (.nilslice))),none⟩] [] [0])
 (.seq (.region [mv 4 0,⟨some 5,.e (.call (F 37) [(.tmp 4)]),none⟩,mv 3 5] [] [3])
 (.seq (.region [mv 6 3,⟨some 7,.e (.call (F 26) [(.tmp 6),(.val (.func (F 2) [] []))]),none⟩] [] [3])
 (.seq (.region [mv 8 3,mv 2 8] [] [2])
 (.ret))))
def M33 (F : Nat → Nat) : Fun := ⟨9,1,(K33 F).erase,[.tmp 2]⟩
theorem ok33 {F : Nat → Nat} : (K33 F).ok = true := rfl
abbrev K34 (F : Nat → Nat) : KC := .seq (.region [⟨some 4,.p (.mov (.val (.nilslice))),none⟩] [] [0,1])
 (.seq (.region [⟨some 5,.p (.mov (.val (.nilslice))),none⟩] [] [0,1,5])
 (.seq (.seq (.region [mv 11 0,lb 12 11,mi 13 0] [] [1,5,11,12,13])
 (.block 0 (.loop (.seq (.region [bt 14 .lss 13 12] [] [1,5,11,12,13,14])
 (.seq (.cond (.tmp 14) (.skip)
 (.exit 0))
 (.seq (.block 1 (.seq (.region [ix 15 1 11 13,l1 16 15,mv 7 16] [] [1,5,7,11,12,13])
 (.seq (.region [⟨some 8,.p (.mov (.val (.nilslice))),none⟩] [] [1,5,7,8,11,12,13])
 (.seq (.seq (.region [mv 17 1,lb 18 17,mi 19 0] [] [1,5,7,8,11,12,13,17,18,19])
 (.block 2 (.loop (.seq (.region [bt 20 .lss 19 18] [] [1,5,7,8,11,12,13,17,18,19,20])
 (.seq (.cond (.tmp 20) (.skip)
 (.exit 2))
 (.seq (.block 3 (.seq (.region [ix 21 1 17 19,l1 22 21,mv 10 22] [] [1,5,7,8,10,11,12,13,17,18,19])
 (.region [mv 23 8,mv 24 7,mv 25 10,⟨some 26,.e (.call (F 3) [(.tmp 24),(.tmp 25)]),none⟩,⟨some 27,.a (.bslice [.bool false,.int .i64 (.ofNat 0),.int .i64 (.ofNat 0),.nilslice] 4 1 [(0,4,(.tmp 26))]),none⟩,⟨some 28,.e (.append 4 48 (.tmp 23) (.tmp 27)),none⟩,mv 8 28] [27] [1,5,7,8,11,12,13,17,18,19])))
 (.region [bi 29 .add 19 1,mv 19 29] [] [1,5,7,8,11,12,13,17,18,19])))))))
 (.region [mv 30 5,mv 31 8,⟨some 32,.a (.bslice [.nilslice] 1 1 [(0,1,(.tmp 31))]),none⟩,⟨some 33,.e (.append 1 24 (.tmp 30) (.tmp 32)),none⟩,mv 5 33] [32] [1,5,11,12,13])))))
 (.region [bi 34 .add 13 1,mv 13 34] [] [1,5,11,12,13])))))))
 (.seq (.region [mv 35 5,⟨some 36,.e (.call (F 33) [(.tmp 35)]),none⟩,mv 4 36] [] [4])
 (.ret))))
def M34 (F : Nat → Nat) : Fun := ⟨37,2,(K34 F).erase,[.tmp 4]⟩
theorem ok34 {F : Nat → Nat} : (K34 F).ok = true := rfl
abbrev K35 (F : Nat → Nat) : KC := .seq (.region [⟨some 4,.p (.mov (.val (.nilslice))),none⟩,⟨some 5,.p (.mov (.val (.bool false))),none⟩] [] [0,1])
 (.seq (.region [mv 12 0,⟨some 13,.e (.call (F 4) [(.tmp 12)]),none⟩,mv 6 13] [] [1,6])
 (.seq (.seq (.region [mv 14 1,lb 15 14,mi 16 0] [] [6,14,15,16])
 (.block 0 (.loop (.seq (.region [bt 17 .lss 16 15] [] [6,14,15,16,17])
 (.seq (.cond (.tmp 17) (.skip)
 (.exit 0))
 (.seq (.block 1 (.seq (.region [ix 18 6 14 16,ln 19 6 18,⟨some 8,.a (.new [.int .i64 (.ofNat 0),.bool false,.bool false,.int .i64 (.ofNat 0),.int .i64 (.ofNat 0),.nilslice]),none⟩,⟨none,.e (.store 6 (.tmp 8) (.tmp 19)),none⟩] [] [6,8,14,15,16])
 (.seq (.seq (.region [fa 20 0 8,l1 21 20,bi 22 .lss 21 0,mv 23 22,⟨some 24,.p (.faddr 0 (.tmp 8)),(some (23,false))⟩,⟨some 25,.load1 (.tmp 24),(some (23,false))⟩,⟨some 26,.p (.mov (.tmp 6)),(some (23,false))⟩,⟨some 27,.p (.lenb (.tmp 26)),(some (23,false))⟩,⟨some 28,.p (.bin .geq (.tmp 25) (.tmp 27)),(some (23,false))⟩,⟨some 29,.p (.pick (.tmp 23) (.val (.bool true)) (.tmp 28)),none⟩] [] [6,8,14,15,16,29])
 (.cond (.tmp 29) (.exit 1)
 (.skip)))
 (.seq (.region [mv 30 6,fa 31 0 8,l1 32 31,ix 33 4 30 32,mv 9 33] [] [6,8,9,14,15,16])
 (.block 2 (.seq (.region [fa 35 1 8,l1 36 35,⟨some 37,.p (.not (.tmp 36)),none⟩,mv 34 37] [] [6,8,9,14,15,16,34])
 (.cond (.tmp 34) (.region [mv 38 9,fa 39 2 8,ln 40 4 39,⟨some 41,.e (.call (F 5) [(.tmp 40)]),none⟩,⟨some 42,.p (.nilchk (.tmp 38)),none⟩,⟨none,.e (.store 4 (.tmp 42) (.tmp 41)),none⟩] [] [6,14,15,16])
 (.seq (.region [mv 44 9,⟨some 45,.p (.nilchk (.tmp 44)),none⟩,fa 46 0 45,l1 47 46,⟨some 48,.p (.not (.tmp 47)),none⟩,mv 43 48] [] [6,8,9,14,15,16,43])
 (.cond (.tmp 43) (.seq (.dregion [⟨mv 50 9,0,7⟩,⟨⟨some 51,.p (.nilchk (.tmp 50)),none⟩,0,7⟩,⟨fa 52 2 51,0,7⟩,⟨l1 53 52,0,7⟩,⟨fa 54 2 8,0,7⟩,⟨fa 55 2 54,0,7⟩,⟨l1 56 55,0,7⟩,⟨⟨some 57,.e (.call (F 40) [(.tmp 53),(.tmp 56)]),none⟩,0,13⟩,⟨mv 49 57,8,13⟩,⟨et 58 49 0,8,13⟩,⟨et 59 49 1,8,13⟩,⟨mv 10 58,8,13⟩,⟨mv 11 59,8,13⟩] [6,9,10,11,14,15,16])
 (.seq (.seq (.region [mv 60 11,⟨some 61,.p (.not (.tmp 60)),none⟩] [] [6,9,10,14,15,16,61])
 (.cond (.tmp 61) (.seq (.region [⟨some 4,.p (.mov (.val (.nilslice))),none⟩,⟨some 5,.p (.mov (.val (.bool false))),none⟩] [] [4,5])
 (.ret))
 (.skip)))
 (.region [mv 62 9,mv 63 10,⟨some 64,.p (.nilchk (.tmp 62)),none⟩,fa 65 2 64,⟨none,.e (.store 1 (.tmp 65) (.tmp 63)),none⟩] [] [6,14,15,16])))
 (.skip))))))))))
 (.region [bi 66 .add 16 1,mv 16 66] [] [6,14,15,16])))))))
 (.seq (.region [mv 67 6,mv 4 67,⟨some 5,.p (.mov (.val (.bool true))),none⟩] [] [4,5])
 (.ret))))
def M35 (F : Nat → Nat) : Fun := ⟨68,2,(K35 F).erase,[.tmp 4,.tmp 5]⟩
theorem ok35 {F : Nat → Nat} : (K35 F).ok = true := rfl
abbrev K36 (F : Nat → Nat) : KC := .seq (.region [⟨some 6,.p (.mov (.val (.nilslice))),none⟩,⟨some 7,.p (.mov (.val (.bool false))),none⟩] [] [0,1,2])
 (.seq (.region [mv 13 0,mv 8 13] [] [1,2,8])
 (.seq (.seq (.region [mv 14 2,lb 15 14,mi 16 0] [] [1,8,14,15,16])
 (.block 0 (.loop (.seq (.region [bt 17 .lss 16 15] [] [1,8,14,15,16,17])
 (.seq (.cond (.tmp 17) (.skip)
 (.exit 0))
 (.seq (.block 1 (.seq (.region [ix 18 2 14 16,ln 19 2 18,⟨some 10,.a (.new [.int .i64 (.ofNat 0),.int .i64 (.ofNat 0)]),none⟩,⟨none,.e (.store 2 (.tmp 10) (.tmp 19)),none⟩] [] [1,8,10,14,15,16])
 (.seq (.region [mv 21 1,ln 22 2 10,⟨some 23,.e (.call (F 41) [(.tmp 21),(.tmp 22)]),none⟩,mv 20 23,et 24 20 0,et 25 20 1,⟨some 11,.a (.new [.bool false,.int .i64 (.ofNat 0),.int .i64 (.ofNat 0),.nilslice]),none⟩,⟨none,.e (.store 4 (.tmp 11) (.tmp 24)),none⟩,mv 12 25] [] [1,8,11,12,14,15,16])
 (.seq (.seq (.region [mv 26 12,⟨some 27,.p (.not (.tmp 26)),none⟩] [] [1,8,11,14,15,16,27])
 (.cond (.tmp 27) (.seq (.region [⟨some 6,.p (.mov (.val (.nilslice))),none⟩,⟨some 7,.p (.mov (.val (.bool false))),none⟩] [] [6,7])
 (.ret))
 (.skip)))
 (.region [mv 28 8,ln 29 4 11,⟨some 30,.a (.bslice [.bool false,.int .i64 (.ofNat 0),.int .i64 (.ofNat 0),.nilslice] 4 1 [(0,4,(.tmp 29))]),none⟩,⟨some 31,.e (.append 4 48 (.tmp 28) (.tmp 30)),none⟩,mv 8 31] [30] [1,8,14,15,16])))))
 (.region [bi 32 .add 16 1,mv 16 32] [] [1,8,14,15,16])))))))
 (.seq (.region [mv 33 8,⟨some 34,.e (.call (F 13) [(.tmp 33)]),none⟩,mv 6 34,⟨some 7,.p (.mov (.val (.bool true))),none⟩] [] [6,7])
 (.ret))))
def M36 (F : Nat → Nat) : Fun := ⟨35,3,(K36 F).erase,[.tmp 6,.tmp 7]⟩
theorem ok36 {F : Nat → Nat} : (K36 F).ok = true := rfl
abbrev K37 (F : Nat → Nat) : KC := .seq (.region [⟨some 2,.p (.mov (.val (.nilslice))),none⟩] [] [0])
 (.seq (.region [⟨some 3,.p (.mov (.val (.nilslice))),none⟩] [] [0,3])
 (.seq (.seq (.region [mv 6 0,lb 7 6,mi 8 0] [] [3,6,7,8])
 (.block 0 (.loop (.seq (.region [bt 9 .lss 8 7] [] [3,6,7,8,9])
 (.seq (.cond (.tmp 9) (.skip)
 (.exit 0))
 (.seq (.block 1 (.seq (.region [ix 10 1 6 8,l1 11 10,mv 5 11] [] [3,5,6,7,8])
 (.region [mv 12 3,mv 13 5,⟨some 14,.e (.call (F 4) [(.tmp 13)]),none⟩,⟨some 15,.a (.bslice [.nilslice] 1 1 [(0,1,(.tmp 14))]),none⟩,⟨some 16,.e (.append 1 24 (.tmp 12) (.tmp 15)),none⟩,mv 3 16] [15] [3,6,7,8])))
 (.region [bi 17 .add 8 1,mv 8 17] [] [3,6,7,8])))))))
 (.seq (.region [mv 18 3,⟨some 19,.e (.call (F 39) [(.tmp 18)]),none⟩,mv 2 19] [] [2])
 (.ret))))
def M37 (F : Nat → Nat) : Fun := ⟨20,1,(K37 F).erase,[.tmp 2]⟩
theorem ok37 {F : Nat → Nat} : (K37 F).ok = true := rfl
abbrev K38 (F : Nat → Nat) : KC := .seq (.region [mi 5 0] [] [0,1,2])
 (.seq (.dregion [⟨mv 6 0,0,2⟩,⟨l1 7 2,0,2⟩,⟨⟨some 8,.e (.call (F 3) [(.tmp 6),(.tmp 7)]),none⟩,0,5⟩,⟨mv 9 1,0,5⟩,⟨l1 10 2,0,5⟩,⟨⟨some 11,.e (.call (F 3) [(.tmp 9),(.tmp 10)]),none⟩,3,6⟩,⟨⟨some 12,.e (.call (F 1) [(.tmp 8),(.tmp 11)]),none⟩,6,8⟩,⟨mv 5 12,7,8⟩] [5])
 (.ret))
def M38 (F : Nat → Nat) : Fun := ⟨13,3,(K38 F).erase,[.tmp 5]⟩
theorem ok38 {F : Nat → Nat} : (K38 F).ok = true := rfl
abbrev K39 (_F : Nat → Nat) : KC := .seq (.region [⟨some 2,.p (.mov (.val (.nilslice))),none⟩] [] [0])
 (.seq (.region [mv 3 0,mv 4 0,lb 5 4,mv 6 0,lb 7 6,⟨some 8,.p (.slc 1 (.tmp 3) none (some (.tmp 5)) (some (.tmp 7))),none⟩,mv 2 8] [] [2])
 (.ret))
def M39 (F : Nat → Nat) : Fun := ⟨9,1,(K39 F).erase,[.tmp 2]⟩
theorem ok39 {F : Nat → Nat} : (K39 F).ok = true := rfl
abbrev K40 (F : Nat → Nat) : KC := .seq (.region [mi 4 0,⟨some 5,.p (.mov (.val (.bool false))),none⟩] [] [0,1])
 (.seq (.region [⟨some 6,.a (.new [.int .i64 (.ofNat 0),.int .u64 (.ofNat 0)]),none⟩] [] [0,1,6])
 (.seq (.region [mv 7 0,⟨some 8,.e (.call (F 42) [(.tmp 6),(.tmp 7)]),none⟩] [] [1,6])
 (.seq (.region [mv 9 1,⟨some 10,.e (.call (F 42) [(.tmp 6),(.tmp 9)]),none⟩] [] [6])
 (.seq (.dregion [⟨fa 11 1 6,0,12⟩,⟨l1 12 11,0,12⟩,⟨⟨some 13,.p (.conv (.int .i64) (.tmp 12)),none⟩,0,12⟩,⟨fa 14 0 6,0,12⟩,⟨l1 15 14,0,12⟩,⟨fa 16 1 6,0,12⟩,⟨l1 17 16,0,12⟩,⟨⟨some 18,.p (.conv (.int .i64) (.tmp 17)),none⟩,0,12⟩,⟨⟨some 19,.p (.bin .shr (.tmp 18) (.val (.int .u64 (.ofNat 63)))),none⟩,0,12⟩,⟨bt 20 .eql 15 19,0,12⟩,⟨mv 4 13,0,12⟩,⟨mv 5 20,0,12⟩] [4,5])
 (.ret)))))
def M40 (F : Nat → Nat) : Fun := ⟨21,2,(K40 F).erase,[.tmp 4,.tmp 5]⟩
theorem ok40 {F : Nat → Nat} : (K40 F).ok = true := rfl
abbrev K41 (F : Nat → Nat) : KC := .seq (.region [⟨some 3,.a (.box (.tmp 1)),none⟩,⟨some 4,.a (.new [.bool false,.int .i64 (.ofNat 0),.int .i64 (.ofNat 0),.nilslice]),none⟩,⟨some 5,.p (.mov (.val (.bool false))),none⟩] [3] [0,3,4])
 (.seq (.seq (.region [fa 6 0 3,l1 7 6] [] [0,3,4,7])
 (.block 0 (.seq (.region [bi 9 .eql 7 1,mv 8 9] [] [0,3,4,7,8])
 (.cond (.tmp 8) (.seq (.region [mv 10 0,lb 11 10,⟨some 12,.p (.build [.bool false,.int .i64 (.ofNat 0),.int .i64 (.ofNat 0),.nilslice] [(1,1,(.val (.int .i64 (.ofNat 1)))),(2,1,(.tmp 11))]),none⟩,⟨none,.e (.store 4 (.tmp 4) (.tmp 12)),none⟩,⟨some 5,.p (.mov (.val (.bool true))),none⟩] [] [4,5])
 (.ret))
 (.seq (.region [bi 14 .eql 7 2,mv 13 14] [] [0,3,4,7,13])
 (.cond (.tmp 13) (.seq (.region [mv 15 0,fa 16 1 3,l1 17 16,⟨some 18,.e (.call (F 43) [(.tmp 15),(.tmp 17)]),none⟩,et 19 18 0,et 20 18 1,⟨none,.e (.store 4 (.tmp 4) (.tmp 19)),none⟩,mv 5 20] [] [4,5])
 (.ret))
 (.seq (.region [bi 22 .eql 7 3,mv 21 22] [] [0,3,4,21])
 (.cond (.tmp 21) (.seq (.region [mv 23 0,fa 24 1 3,l1 25 24,⟨some 26,.e (.call (F 44) [(.tmp 23),(.tmp 25),(.val (.int .i64 (.negSucc 0)))]),none⟩,⟨none,.e (.store 4 (.tmp 4) (.tmp 26)),none⟩,⟨some 5,.p (.mov (.val (.bool true))),none⟩] [] [4,5])
 (.ret))
 (.skip)))))))))
 (.seq (.region [mv 27 0,fa 28 1 3,l1 29 28,⟨some 30,.e (.call (F 44) [(.tmp 27),(.tmp 29),(.val (.int .i64 (.ofNat 1)))]),none⟩,⟨none,.e (.store 4 (.tmp 4) (.tmp 30)),none⟩,⟨some 5,.p (.mov (.val (.bool true))),none⟩] [] [4,5])
 (.ret)))
def M41 (F : Nat → Nat) : Fun := ⟨31,2,(K41 F).erase,[.celln 4 4,.tmp 5]⟩
theorem ok41 {F : Nat → Nat} : (K41 F).ok = true := rfl
abbrev K42 (F : Nat → Nat) : KC := .seq (.region [mv 7 0,⟨some 8,.p (.nilchk (.tmp 7)),none⟩,fa 9 1 8,l1 10 9,mv 11 1,⟨some 12,.p (.conv (.int .u64) (.tmp 11)),none⟩,⟨some 13,.e (.extern (F 45) [(.tmp 10),(.tmp 12),(.val (.int .u64 (.ofNat 0)))]),none⟩,mv 6 13,et 14 6 0,et 15 6 1,mv 4 14,mv 5 15] [] [0,1,4,5])
 (.seq (.region [mv 16 0,mv 17 4,⟨some 18,.p (.nilchk (.tmp 16)),none⟩,fa 19 1 18,⟨none,.e (.store 1 (.tmp 19) (.tmp 17)),none⟩] [] [0,1,5])
 (.region [mv 20 0,⟨some 21,.p (.nilchk (.tmp 20)),none⟩,fa 22 0 21,l1 23 22,mv 24 1,⟨some 25,.p (.bin .shr (.tmp 24) (.val (.int .u64 (.ofNat 63)))),none⟩,mv 26 5,⟨some 27,.p (.conv (.int .i64) (.tmp 26)),none⟩,bt 28 .add 25 27,bt 29 .add 23 28,⟨some 30,.p (.nilchk (.tmp 20)),none⟩,fa 31 0 30,⟨none,.e (.store 1 (.tmp 31) (.tmp 29)),none⟩] [] []))
def M42 (F : Nat → Nat) : Fun := ⟨32,2,(K42 F).erase,[]⟩
theorem ok42 {F : Nat → Nat} : (K42 F).ok = true := rfl
abbrev K43 (F : Nat → Nat) : KC := .seq (.region [⟨some 4,.a (.new [.bool false,.int .i64 (.ofNat 0),.int .i64 (.ofNat 0),.nilslice]),none⟩,⟨some 5,.p (.mov (.val (.bool false))),none⟩] [] [0,1,4])
 (.seq (.region [⟨some 6,.a (.new [.int .i64 (.ofNat 0),.int .u64 (.ofNat 0)]),none⟩] [] [0,1,4,6])
 (.seq (.seq (.region [mv 10 0,lb 11 10,mi 12 0] [] [1,4,6,10,11,12])
 (.block 0 (.loop (.seq (.region [bt 13 .lss 12 11] [] [1,4,6,10,11,12,13])
 (.seq (.cond (.tmp 13) (.skip)
 (.exit 0))
 (.seq (.block 1 (.seq (.region [ix 14 1 10 12,l1 15 14,mv 8 15] [] [1,4,6,8,10,11,12])
 (.seq (.region [mv 16 8,mv 17 1,⟨some 18,.e (.call (F 3) [(.tmp 16),(.tmp 17)]),none⟩,⟨some 9,.a (.new [.bool false,.int .i64 (.ofNat 0),.int .i64 (.ofNat 0),.nilslice]),none⟩,⟨none,.e (.store 4 (.tmp 9) (.tmp 18)),none⟩] [] [1,4,6,9,10,11,12])
 (.seq (.region [fa 19 0 9,l1 20 19,⟨some 21,.p (.not (.tmp 20)),none⟩] [] [1,4,6,9,10,11,12,21])
 (.cond (.tmp 21) (.region [fa 22 2 9,l1 23 22,⟨some 24,.e (.call (F 42) [(.tmp 6),(.tmp 23)]),none⟩] [] [1,4,6,10,11,12])
 (.skip))))))
 (.region [bi 25 .add 12 1,mv 12 25] [] [1,4,6,10,11,12])))))))
 (.seq (.seq (.region [fa 26 0 6,l1 27 26,fa 28 1 6,l1 29 28,⟨some 30,.p (.conv (.int .i64) (.tmp 29)),none⟩,⟨some 31,.p (.bin .shr (.tmp 30) (.val (.int .u64 (.ofNat 63)))),none⟩,bt 32 .neq 27 31] [] [4,6,32])
 (.cond (.tmp 32) (.seq (.region [⟨some 33,.p (.build [.bool false,.int .i64 (.ofNat 0),.int .i64 (.ofNat 0),.nilslice] []),none⟩,⟨none,.e (.store 4 (.tmp 4) (.tmp 33)),none⟩,⟨some 5,.p (.mov (.val (.bool false))),none⟩] [] [4,5])
 (.ret))
 (.skip)))
 (.seq (.region [fa 34 1 6,l1 35 34,⟨some 36,.p (.conv (.int .i64) (.tmp 35)),none⟩,⟨some 37,.p (.build [.bool false,.int .i64 (.ofNat 0),.int .i64 (.ofNat 0),.nilslice] [(1,1,(.val (.int .i64 (.ofNat 1)))),(2,1,(.tmp 36))]),none⟩,⟨none,.e (.store 4 (.tmp 4) (.tmp 37)),none⟩,⟨some 5,.p (.mov (.val (.bool true))),none⟩] [] [4,5])
 (.ret)))))
def M43 (F : Nat → Nat) : Fun := ⟨38,2,(K43 F).erase,[.celln 4 4,.tmp 5]⟩
theorem ok43 {F : Nat → Nat} : (K43 F).ok = true := rfl
abbrev K44 (F : Nat → Nat) : KC := .seq (.region [⟨some 6,.a (.new [.bool false,.int .i64 (.ofNat 0),.int .i64 (.ofNat 0),.nilslice]),none⟩] [] [0,1,2,6])
 (.seq (.region [⟨some 11,.p (.build [.bool false,.int .i64 (.ofNat 0),.int .i64 (.ofNat 0),.nilslice] [(0,1,(.val (.bool true)))]),none⟩,⟨some 7,.a (.new [.bool false,.int .i64 (.ofNat 0),.int .i64 (.ofNat 0),.nilslice]),none⟩,⟨none,.e (.store 4 (.tmp 7) (.tmp 11)),none⟩] [] [0,1,2,6,7])
 (.seq (.seq (.region [mv 12 0,lb 13 12,mi 14 0] [] [1,2,6,7,12,13,14])
 (.block 0 (.loop (.seq (.region [bt 15 .lss 14 13] [] [1,2,6,7,12,13,14,15])
 (.seq (.cond (.tmp 15) (.skip)
 (.exit 0))
 (.seq (.block 1 (.seq (.region [ix 16 1 12 14,l1 17 16,mv 9 17] [] [1,2,6,7,9,12,13,14])
 (.seq (.region [mv 18 9,mv 19 1,⟨some 20,.e (.call (F 3) [(.tmp 18),(.tmp 19)]),none⟩,⟨some 10,.a (.new [.bool false,.int .i64 (.ofNat 0),.int .i64 (.ofNat 0),.nilslice]),none⟩,⟨none,.e (.store 4 (.tmp 10) (.tmp 20)),none⟩] [] [1,2,6,7,10,12,13,14])
 (.block 2 (.seq (.region [fa 22 0 10,l1 23 22,mv 21 23] [] [1,2,6,7,10,12,13,14,21])
 (.cond (.tmp 21) (.region [fa 24 1 10,l1 25 24,fa 26 1 7,⟨none,.e (.store 1 (.tmp 26) (.tmp 25)),none⟩] [] [1,2,6,7,12,13,14])
 (.seq (.region [fa 28 0 7,l1 29 28,mv 30 29,⟨some 31,.loadn 4 (.tmp 10),(some (30,false))⟩,⟨some 32,.loadn 4 (.tmp 7),(some (30,false))⟩,⟨some 33,.e (.call (F 1) [(.tmp 31),(.tmp 32)]),(some (30,false))⟩,⟨some 34,.p (.mov (.tmp 2)),(some (30,false))⟩,⟨some 35,.p (.bin .mul (.tmp 33) (.tmp 34)),(some (30,false))⟩,⟨some 36,.p (.bin .gtr (.tmp 35) (.val (.int .i64 (.ofNat 0)))),(some (30,false))⟩,⟨some 37,.p (.pick (.tmp 30) (.val (.bool true)) (.tmp 36)),none⟩,mv 27 37] [] [1,2,6,7,10,12,13,14,27])
 (.cond (.tmp 27) (.region [ln 38 4 10,⟨none,.e (.store 4 (.tmp 7) (.tmp 38)),none⟩] [] [1,2,6,7,12,13,14])
 (.skip)))))))))
 (.region [bi 39 .add 14 1,mv 14 39] [] [1,2,6,7,12,13,14])))))))
 (.seq (.region [ln 40 4 7,⟨none,.e (.store 4 (.tmp 6) (.tmp 40)),none⟩] [] [6])
 (.ret))))
def M44 (F : Nat → Nat) : Fun := ⟨41,3,(K44 F).erase,[.celln 4 6]⟩
theorem ok44 {F : Nat → Nat} : (K44 F).ok = true := rfl
end Go.Lib
end

section
set_option maxRecDepth 10000
namespace Go.Dv
open Go.Vm
variable {p : Prog} {ext : Ext} {Q : ResD → Prop} {H0 H : HpD} {sz : Nat} {s : D} {el : List (List D)}
theorem les_append : ∀ {a a' b b' : List D}, D.les a a' → D.les b b' → D.les (a ++ b) (a' ++ b')
  | [], [], _, _, _, h => h
  | d :: a, d' :: a', _, _, k, h => by
    simp only [D.les, List.cons_append] at k ⊢;exact ⟨k.1, les_append k.2 h⟩
  | [], _ :: _, _, _, k, _ => by simp [D.les] at k
  | _ :: _, [], _, _, k, _ => by simp [D.les] at k
theorem les_flat : ∀ {l l' : List (List D)}, D.less l l' → D.les l.flatten l'.flatten
  | [], [], _ => by simp
  | e :: l, e' :: l', k => by
    simp only [D.less] at k;simp only [List.flatten_cons];exact les_append k.1 (les_flat k.2)
  | [], _ :: _, k => by simp [D.less] at k
  | _ :: _, [], k => by simp [D.less] at k
theorem SR.tell {ψ : Nat → Option Nat} {S : Nat → Prop} {h : Hp} {b : Nat} {cs cs' : List D} {ro : Bool} (s : SR ψ S H h) (hb : H.blk b = .cells cs ro) (hl : D.les cs cs') : SR ψ S (H.put b (.cells cs' ro)) h :=
  ⟨s.inj, s.dom, s.frz, fun b' hg => by
    rw [put_blk] at hg ⊢
    by_cases e : b' = b
    · subst e
      obtain ⟨c, h1, h2, h3⟩ := s.live b' (by rw [hb]; rfl);rw [hb] at h3;obtain ⟨l', e1, k⟩ := h3;refine ⟨c, h1, h2, ?_⟩;rw [if_pos rfl];exact ⟨l', e1, VDl.le _ _ hl k⟩
    · rw [if_neg e] at hg ⊢
      exact s.live b' hg⟩
theorem Weak.tell {a : List D} {fr : FrD} {b : Nat} {cs cs' : List D} {ro : Bool} (hb : H.blk b = .cells cs ro) (hl : D.les cs cs') : Weak a fr H a fr (H.put b (.cells cs' ro)) :=
  fun ψ S _ _ _ s k kv => ⟨ψ, S, .refl, s.tell hb hl, k, kv⟩
structure GrX (H0 H : HpD) (sz : Nat) (s : D) (el : List (List D)) : Prop where
  gr : Gr H0 H sz s el
  at_ : (s = .lit .nilslice ∧ el = []) ∨ ∃ b ex, s = .slice b 0 sz el.length el.length ex ∧ H0.next ≤ b ∧ b < H.next ∧ H.blk b = .cells el.flatten false
theorem Gr.exact (g : Gr H0 H sz s el) : ∃ H', (∀ a fr, Weak a fr H a fr H') ∧ GrX H0 H' sz s el ∧ (∀ x, ¬ s.hasB x → H'.blk x = H.blk x) ∧ H'.next = H.next := by
  rcases g.at_ with ⟨rfl, rfl⟩ | ⟨b, ex, el0, rfl, h1, h2, h3, h4⟩
  · exact ⟨H, fun _ _ => .refl, ⟨g, .inl ⟨rfl, rfl⟩⟩, fun _ _ => rfl, rfl⟩
  · refine ⟨H.put b (.cells el.flatten false), fun _ _ => Weak.tell h3 (les_flat h4), ⟨⟨g.sub.put h1, g.len, .inr ⟨b, ex, el, rfl, h1, h2, by simp, D.less_refl _⟩⟩, .inr ⟨b, ex, rfl, h1, h2, by simp⟩⟩, fun x hx => ?_, rfl⟩
    rw [put_blk, if_neg];rintro rfl;exact hx rfl
theorem sem_exact_call {f : Nat} {args : List D} {dst : Option Nat} {l : List MO} {fz lv : List Nat} {K : List KD} {fr : FrD} (g : Gr H0 H sz s el)
    (hs : ∀ H', GrX H0 H' sz s el → (∀ x, ¬ s.hasB x → H'.blk x = H.blk x) → H'.next = H.next → Sem p ext Q (.call f args dst l fz lv K .mk fr H')) : Sem p ext Q (.call f args dst l fz lv K .mk fr H) := by
  obtain ⟨H', w, g', k, n⟩ := g.exact;exact sem_weak_call (w _ _) (hs H' g' k n)
theorem Weak.box {a : List D} {fr : FrD} {b t : Nat} {cs : List D} {ro : Bool} (hb : H.blk b = .cells cs ro) (ht : lk fr t = .ptr b 0) : Weak a fr H a ((t, .rptr cs 0) :: fr) (H.put b .gone) := by
  intro ψ S h fv vs sr kf kv;obtain ⟨c, hc, h2, h3⟩ := sr.live b (by rw [hb]; rfl);rw [hb] at h3;obtain ⟨l', e1, k⟩ := h3;obtain ⟨x0, s0⟩ := sr.freeze hc;refine ⟨ψ, _, x0, s0, ?_, VDl.mono x0 _ kv⟩;intro u;rw [lk_cons]
  split
  · rename_i e; subst e
    have := kf t;rw [ht] at this;simp only [VD] at this ⊢;obtain ⟨c', e, e2⟩ := this;rw [hc] at e; cases e;exact ⟨c, 0, l', ro, .inr rfl, by rw [e2], e1, by have := VDp.of (us := []) (VDl.mono x0 _ k); simpa using this⟩
  · exact kf.mono x0 u
theorem sem_box {b : Nat} {cs : List D} {ro : Bool} (t : Nat) {c : KC} {K : List KD} {fr : FrD} (hb : H.blk b = .cells cs ro) (ht : lk fr t = .ptr b 0)
    (hs : Sem p ext Q (.code c K .mk ((t, .rptr cs 0) :: fr) (H.put b .gone))) : Sem p ext Q (.code c K .mk fr H) := sem_weak (Weak.box hb ht) hs
end Go.Dv
end

section
namespace Go.Lib
open Go.Vm Go.Dv
set_option maxRecDepth 100000
abbrev K26 (F : Nat → Nat) : KC := .region [mv 4 0,mv 5 0,lb 6 5,mv 7 1,⟨some 8,.e (.call (F 27) [(.tmp 4),(.tmp 6),(.tmp 7)]),none⟩] [] []
def M26 (F : Nat → Nat) : Fun := ⟨9,2,(K26 F).erase,[]⟩
theorem ok26 {F : Nat → Nat} : (K26 F).ok = true := rfl
abbrev K27 (F : Nat → Nat) : KC := .seq (.region [mi 6 20] [] [0,1,2,6])
 (.seq (.region [mv 10 6,mi 7 0,mv 8 10] [] [0,1,2,6,7,8])
 (.seq (.block 0 (.loop (.seq (.seq (.region [mv 11 8,mv 12 1,bt 13 .leq 11 12] [] [0,1,2,6,7,8,13])
 (.cond (.tmp 13) (.skip)
 (.exit 0)))
 (.block 1 (.seq (.region [mv 14 0,mv 15 7,mv 16 8,mv 17 2,⟨some 18,.e (.call (F 28) [(.tmp 14),(.tmp 15),(.tmp 16),(.tmp 17)]),none⟩] [] [0,1,2,6,8])
 (.seq (.region [mv 19 8,mv 7 19] [] [0,1,2,6,7,8])
 (.region [mv 20 8,mv 21 6,bt 22 .add 20 21,mv 8 22] [] [0,1,2,6,7,8])))))))
 (.seq (.region [mv 23 0,mv 24 7,mv 25 1,mv 26 2,⟨some 27,.e (.call (F 28) [(.tmp 23),(.tmp 24),(.tmp 25),(.tmp 26)]),none⟩] [] [0,1,2,6])
 (.block 2 (.loop (.seq (.seq (.region [mv 28 6,mv 29 1,bt 30 .lss 28 29] [] [0,1,2,6,30])
 (.cond (.tmp 30) (.skip)
 (.exit 2)))
 (.block 3 (.seq (.region [mv 31 6,⟨some 32,.p (.bin .mul (.val (.int .i64 (.ofNat 2))) (.tmp 31)),none⟩,mi 7 0,mv 8 32] [] [0,1,2,6,7,8])
 (.seq (.block 4 (.loop (.seq (.seq (.region [mv 33 8,mv 34 1,bt 35 .leq 33 34] [] [0,1,2,6,7,8,35])
 (.cond (.tmp 35) (.skip)
 (.exit 4)))
 (.block 5 (.seq (.region [mv 36 0,mv 37 7,mv 38 7,mv 39 6,bt 40 .add 38 39,mv 41 8,mv 42 2,⟨some 43,.e (.call (F 29) [(.tmp 36),(.tmp 37),(.tmp 40),(.tmp 41),(.tmp 42)]),none⟩] [] [0,1,2,6,8])
 (.seq (.region [mv 44 8,mv 7 44] [] [0,1,2,6,7,8])
 (.region [mv 45 8,mv 46 6,⟨some 47,.p (.bin .mul (.val (.int .i64 (.ofNat 2))) (.tmp 46)),none⟩,bt 48 .add 45 47,mv 8 48] [] [0,1,2,6,7,8])))))))
 (.seq (.seq (.region [mv 49 7,mv 50 6,bt 51 .add 49 50,mv 9 51] [] [0,1,2,6,7,9])
 (.seq (.region [mv 52 9,mv 53 1,bt 54 .lss 52 53] [] [0,1,2,6,7,9,54])
 (.cond (.tmp 54) (.region [mv 55 0,mv 56 7,mv 57 9,mv 58 1,mv 59 2,⟨some 60,.e (.call (F 29) [(.tmp 55),(.tmp 56),(.tmp 57),(.tmp 58),(.tmp 59)]),none⟩] [] [0,1,2,6])
 (.skip))))
 (.region [mv 61 6,bi 62 .mul 61 2,mv 6 62] [] [0,1,2,6])))))))))))
def M27 (F : Nat → Nat) : Fun := ⟨63,3,(K27 F).erase,[]⟩
theorem ok27 {F : Nat → Nat} : (K27 F).ok = true := rfl
abbrev K28 (_F : Nat → Nat) : KC := .seq (.region [mv 10 1,bi 11 .add 10 1,mv 8 11] [] [0,1,2,3,8])
 (.block 0 (.loop (.seq (.seq (.region [mv 12 8,mv 13 2,bt 14 .lss 12 13] [] [0,1,2,3,8,14])
 (.cond (.tmp 14) (.skip)
 (.exit 0)))
 (.seq (.block 1 (.seq (.region [mv 17 8,mv 9 17] [] [0,1,2,3,8,9])
 (.block 2 (.loop (.seq (.seq (.dregion [⟨mv 18 9,0,14⟩,⟨mv 19 1,0,14⟩,⟨bt 20 .gtr 18 19,0,14⟩,⟨mv 21 20,0,14⟩,⟨⟨some 22,.p (.mov (.tmp 3)),(some (21,true))⟩,0,14⟩,⟨⟨some 23,.p (.mov (.tmp 0)),(some (21,true))⟩,0,14⟩,⟨⟨some 24,.p (.mov (.tmp 9)),(some (21,true))⟩,0,14⟩,⟨⟨some 25,.p (.iaddr 1 (.tmp 23) (.tmp 24)),(some (21,true))⟩,0,14⟩,⟨⟨some 26,.load1 (.tmp 25),(some (21,true))⟩,0,14⟩,⟨⟨some 27,.p (.mov (.tmp 0)),(some (21,true))⟩,0,14⟩,⟨⟨some 28,.p (.mov (.tmp 9)),(some (21,true))⟩,0,14⟩,⟨⟨some 29,.p (.bin .sub (.tmp 28) (.val (.int .i64 (.ofNat 1)))),(some (21,true))⟩,0,14⟩,⟨⟨some 30,.p (.iaddr 1 (.tmp 27) (.tmp 29)),(some (21,true))⟩,0,14⟩,⟨⟨some 31,.load1 (.tmp 30),(some (21,true))⟩,0,14⟩,⟨⟨some 32,.e (.callv (.tmp 22) [(.tmp 26),(.tmp 31)]),(some (21,true))⟩,0,17⟩,⟨⟨some 33,.p (.bin .lss (.tmp 32) (.val (.int .i64 (.ofNat 0)))),(some (21,true))⟩,15,17⟩,⟨⟨some 34,.p (.pick (.tmp 21) (.tmp 33) (.val (.bool false))),none⟩,15,17⟩] [0,1,2,3,8,9,34])
 (.cond (.tmp 34) (.skip)
 (.exit 2)))
 (.seq (.block 3 (.dregion [⟨mv 37 0,0,12⟩,⟨mv 38 9,0,12⟩,⟨mv 42 0,0,12⟩,⟨mv 43 9,0,12⟩,⟨bi 44 .sub 43 1,0,12⟩,⟨ix 45 1 42 44,0,12⟩,⟨l1 46 45,0,12⟩,⟨mv 47 0,0,12⟩,⟨mv 48 9,0,12⟩,⟨ix 49 1 47 48,0,12⟩,⟨l1 50 49,0,12⟩,⟨ix 51 1 37 38,0,12⟩,⟨⟨none,.e (.store 1 (.tmp 51) (.tmp 46)),none⟩,0,17⟩,⟨mv 39 0,0,17⟩,⟨mv 40 9,0,17⟩,⟨bi 41 .sub 40 1,0,17⟩,⟨ix 52 1 39 41,13,17⟩,⟨⟨none,.e (.store 1 (.tmp 52) (.tmp 50)),none⟩,13,18⟩] [0,1,2,3,8,9]))
 (.region [mv 35 9,bi 36 .sub 35 1,mv 9 36] [] [0,1,2,3,8,9])))))))
 (.region [mv 15 8,bi 16 .add 15 1,mv 8 16] [] [0,1,2,3,8])))))
def M28 (F : Nat → Nat) : Fun := ⟨53,4,(K28 F).erase,[]⟩
theorem ok28 {F : Nat → Nat} : (K28 F).ok = true := rfl
abbrev K29 (F : Nat → Nat) : KC := .seq (.seq (.region [mv 25 2,mv 26 1,bt 27 .sub 25 26,bi 28 .eql 27 1] [] [0,1,2,3,4,28])
 (.cond (.tmp 28) (.seq (.region [mv 29 2,mv 10 29] [] [0,1,3,4,10])
 (.seq (.region [mv 30 3,mv 11 30] [] [0,1,4,10,11])
 (.seq (.block 0 (.loop (.seq (.seq (.region [mv 31 10,mv 32 11,bt 33 .lss 31 32] [] [0,1,4,10,11,33])
 (.cond (.tmp 33) (.skip)
 (.exit 0)))
 (.block 1 (.seq (.region [mv 34 10,mv 35 11,bt 36 .add 34 35,⟨some 37,.p (.conv (.int .u64) (.tmp 36)),none⟩,⟨some 38,.p (.bin .shr (.tmp 37) (.val (.int .u64 (.ofNat 1)))),none⟩,⟨some 39,.p (.conv (.int .i64) (.tmp 38)),none⟩,mv 12 39] [] [0,1,4,10,11,12])
 (.seq (.dregion [⟨mv 40 4,0,9⟩,⟨mv 41 0,0,9⟩,⟨mv 42 12,0,9⟩,⟨ix 43 1 41 42,0,9⟩,⟨l1 44 43,0,9⟩,⟨mv 45 0,0,9⟩,⟨mv 46 1,0,9⟩,⟨ix 47 1 45 46,0,9⟩,⟨l1 48 47,0,9⟩,⟨⟨some 49,.e (.callv (.tmp 40) [(.tmp 44),(.tmp 48)]),none⟩,0,11⟩,⟨bi 50 .lss 49 0,10,11⟩] [0,1,4,10,11,12,50])
 (.cond (.tmp 50) (.region [mv 51 12,bi 52 .add 51 1,mv 10 52] [] [0,1,4,10,11])
 (.region [mv 53 12,mv 11 53] [] [0,1,4,10,11]))))))))
 (.seq (.seq (.region [mv 54 1,mv 13 54] [] [0,10,13])
 (.block 2 (.loop (.seq (.seq (.region [mv 55 13,mv 56 10,bi 57 .sub 56 1,bt 58 .lss 55 57] [] [0,10,13,58])
 (.cond (.tmp 58) (.skip)
 (.exit 2)))
 (.seq (.block 3 (.dregion [⟨mv 61 0,0,12⟩,⟨mv 62 13,0,12⟩,⟨mv 66 0,0,12⟩,⟨mv 67 13,0,12⟩,⟨bi 68 .add 67 1,0,12⟩,⟨ix 69 1 66 68,0,12⟩,⟨l1 70 69,0,12⟩,⟨mv 71 0,0,12⟩,⟨mv 72 13,0,12⟩,⟨ix 73 1 71 72,0,12⟩,⟨l1 74 73,0,12⟩,⟨ix 75 1 61 62,0,12⟩,⟨⟨none,.e (.store 1 (.tmp 75) (.tmp 70)),none⟩,0,17⟩,⟨mv 63 0,0,17⟩,⟨mv 64 13,0,17⟩,⟨bi 65 .add 64 1,0,17⟩,⟨ix 76 1 63 65,13,17⟩,⟨⟨none,.e (.store 1 (.tmp 76) (.tmp 74)),none⟩,13,18⟩] [0,10,13]))
 (.region [mv 59 13,bi 60 .add 59 1,mv 13 60] [] [0,10,13]))))))
 (.ret)))))
 (.skip)))
 (.seq (.seq (.region [mv 77 3,mv 78 2,bt 79 .sub 77 78,bi 80 .eql 79 1] [] [0,1,2,3,4,80])
 (.cond (.tmp 80) (.seq (.region [mv 81 1,mv 14 81] [] [0,2,4,14])
 (.seq (.region [mv 82 2,mv 15 82] [] [0,2,4,14,15])
 (.seq (.block 4 (.loop (.seq (.seq (.region [mv 83 14,mv 84 15,bt 85 .lss 83 84] [] [0,2,4,14,15,85])
 (.cond (.tmp 85) (.skip)
 (.exit 4)))
 (.block 5 (.seq (.region [mv 86 14,mv 87 15,bt 88 .add 86 87,⟨some 89,.p (.conv (.int .u64) (.tmp 88)),none⟩,⟨some 90,.p (.bin .shr (.tmp 89) (.val (.int .u64 (.ofNat 1)))),none⟩,⟨some 91,.p (.conv (.int .i64) (.tmp 90)),none⟩,mv 16 91] [] [0,2,4,14,15,16])
 (.seq (.dregion [⟨mv 92 4,0,9⟩,⟨mv 93 0,0,9⟩,⟨mv 94 2,0,9⟩,⟨ix 95 1 93 94,0,9⟩,⟨l1 96 95,0,9⟩,⟨mv 97 0,0,9⟩,⟨mv 98 16,0,9⟩,⟨ix 99 1 97 98,0,9⟩,⟨l1 100 99,0,9⟩,⟨⟨some 101,.e (.callv (.tmp 92) [(.tmp 96),(.tmp 100)]),none⟩,0,12⟩,⟨bi 102 .lss 101 0,10,12⟩,⟨⟨some 103,.p (.not (.tmp 102)),none⟩,10,12⟩] [0,2,4,14,15,16,103])
 (.cond (.tmp 103) (.region [mv 104 16,bi 105 .add 104 1,mv 14 105] [] [0,2,4,14,15])
 (.region [mv 106 16,mv 15 106] [] [0,2,4,14,15]))))))))
 (.seq (.seq (.region [mv 107 2,mv 17 107] [] [0,14,17])
 (.block 6 (.loop (.seq (.seq (.region [mv 108 17,mv 109 14,bt 110 .gtr 108 109] [] [0,14,17,110])
 (.cond (.tmp 110) (.skip)
 (.exit 6)))
 (.seq (.block 7 (.dregion [⟨mv 113 0,0,12⟩,⟨mv 114 17,0,12⟩,⟨mv 118 0,0,12⟩,⟨mv 119 17,0,12⟩,⟨bi 120 .sub 119 1,0,12⟩,⟨ix 121 1 118 120,0,12⟩,⟨l1 122 121,0,12⟩,⟨mv 123 0,0,12⟩,⟨mv 124 17,0,12⟩,⟨ix 125 1 123 124,0,12⟩,⟨l1 126 125,0,12⟩,⟨ix 127 1 113 114,0,12⟩,⟨⟨none,.e (.store 1 (.tmp 127) (.tmp 122)),none⟩,0,17⟩,⟨mv 115 0,0,17⟩,⟨mv 116 17,0,17⟩,⟨bi 117 .sub 116 1,0,17⟩,⟨ix 128 1 115 117,13,17⟩,⟨⟨none,.e (.store 1 (.tmp 128) (.tmp 126)),none⟩,13,18⟩] [0,14,17]))
 (.region [mv 111 17,bi 112 .sub 111 1,mv 17 112] [] [0,14,17]))))))
 (.ret)))))
 (.skip)))
 (.seq (.region [mv 129 1,mv 130 3,bt 131 .add 129 130,⟨some 132,.p (.conv (.int .u64) (.tmp 131)),none⟩,⟨some 133,.p (.bin .shr (.tmp 132) (.val (.int .u64 (.ofNat 1)))),none⟩,⟨some 134,.p (.conv (.int .i64) (.tmp 133)),none⟩,mv 18 134] [] [0,1,2,3,4,18])
 (.seq (.region [mv 135 18,mv 136 2,bt 137 .add 135 136,mv 19 137] [] [0,1,2,3,4,18,19])
 (.seq (.region [mi 20 0,mi 21 0] [] [0,1,2,3,4,18,19])
 (.seq (.seq (.region [mv 138 2,mv 139 18,bt 140 .gtr 138 139] [] [0,1,2,3,4,18,19,140])
 (.cond (.tmp 140) (.seq (.region [mv 141 19,mv 142 3,bt 143 .sub 141 142,mv 20 143] [] [0,1,2,3,4,18,19,20])
 (.region [mv 144 18,mv 21 144] [] [0,1,2,3,4,18,19,20,21]))
 (.seq (.region [mv 145 1,mv 20 145] [] [0,1,2,3,4,18,19,20])
 (.region [mv 146 2,mv 21 146] [] [0,1,2,3,4,18,19,20,21]))))
 (.seq (.region [mv 147 19,bi 148 .sub 147 1,mv 22 148] [] [0,1,2,3,4,18,19,20,21,22])
 (.seq (.block 8 (.loop (.seq (.seq (.region [mv 149 20,mv 150 21,bt 151 .lss 149 150] [] [0,1,2,3,4,18,19,20,21,22,151])
 (.cond (.tmp 151) (.skip)
 (.exit 8)))
 (.block 9 (.seq (.region [mv 152 20,mv 153 21,bt 154 .add 152 153,⟨some 155,.p (.conv (.int .u64) (.tmp 154)),none⟩,⟨some 156,.p (.bin .shr (.tmp 155) (.val (.int .u64 (.ofNat 1)))),none⟩,⟨some 157,.p (.conv (.int .i64) (.tmp 156)),none⟩,mv 23 157] [] [0,1,2,3,4,18,19,20,21,22,23])
 (.seq (.dregion [⟨mv 158 4,0,11⟩,⟨mv 159 0,0,11⟩,⟨mv 160 22,0,11⟩,⟨mv 161 23,0,11⟩,⟨bt 162 .sub 160 161,0,11⟩,⟨ix 163 1 159 162,0,11⟩,⟨l1 164 163,0,11⟩,⟨mv 165 0,0,11⟩,⟨mv 166 23,0,11⟩,⟨ix 167 1 165 166,0,11⟩,⟨l1 168 167,0,11⟩,⟨⟨some 169,.e (.callv (.tmp 158) [(.tmp 164),(.tmp 168)]),none⟩,0,14⟩,⟨bi 170 .lss 169 0,12,14⟩,⟨⟨some 171,.p (.not (.tmp 170)),none⟩,12,14⟩] [0,1,2,3,4,18,19,20,21,22,23,171])
 (.cond (.tmp 171) (.region [mv 172 23,bi 173 .add 172 1,mv 20 173] [] [0,1,2,3,4,18,19,20,21,22])
 (.region [mv 174 23,mv 21 174] [] [0,1,2,3,4,18,19,20,21,22]))))))))
 (.seq (.region [mv 175 19,mv 176 20,bt 177 .sub 175 176,mv 24 177] [] [0,1,2,3,4,18,20,24])
 (.seq (.seq (.region [mv 178 20,mv 179 2,bt 180 .lss 178 179,mv 181 180,⟨some 182,.p (.mov (.tmp 2)),(some (181,true))⟩,⟨some 183,.p (.mov (.tmp 24)),(some (181,true))⟩,⟨some 184,.p (.bin .lss (.tmp 182) (.tmp 183)),(some (181,true))⟩,⟨some 185,.p (.pick (.tmp 181) (.tmp 184) (.val (.bool false))),none⟩] [] [0,1,2,3,4,18,20,24,185])
 (.cond (.tmp 185) (.region [mv 186 0,mv 187 20,mv 188 2,mv 189 24,mv 190 4,⟨some 191,.e (.call (F 30) [(.tmp 186),(.tmp 187),(.tmp 188),(.tmp 189),(.tmp 190)]),none⟩] [] [0,1,3,4,18,20,24])
 (.skip)))
 (.seq (.seq (.region [mv 192 1,mv 193 20,bt 194 .lss 192 193,mv 195 194,⟨some 196,.p (.mov (.tmp 20)),(some (195,true))⟩,⟨some 197,.p (.mov (.tmp 18)),(some (195,true))⟩,⟨some 198,.p (.bin .lss (.tmp 196) (.tmp 197)),(some (195,true))⟩,⟨some 199,.p (.pick (.tmp 195) (.tmp 198) (.val (.bool false))),none⟩] [] [0,1,3,4,18,20,24,199])
 (.cond (.tmp 199) (.region [mv 200 0,mv 201 1,mv 202 20,mv 203 18,mv 204 4,⟨some 205,.e (.call (F 29) [(.tmp 200),(.tmp 201),(.tmp 202),(.tmp 203),(.tmp 204)]),none⟩] [] [0,3,4,18,24])
 (.skip)))
 (.seq (.region [mv 206 18,mv 207 24,bt 208 .lss 206 207,mv 209 208,⟨some 210,.p (.mov (.tmp 24)),(some (209,true))⟩,⟨some 211,.p (.mov (.tmp 3)),(some (209,true))⟩,⟨some 212,.p (.bin .lss (.tmp 210) (.tmp 211)),(some (209,true))⟩,⟨some 213,.p (.pick (.tmp 209) (.tmp 212) (.val (.bool false))),none⟩] [] [0,3,4,18,24,213])
 (.cond (.tmp 213) (.region [mv 214 0,mv 215 18,mv 216 24,mv 217 3,mv 218 4,⟨some 219,.e (.call (F 29) [(.tmp 214),(.tmp 215),(.tmp 216),(.tmp 217),(.tmp 218)]),none⟩] [] [])
 (.skip)))))))))))))
def M29 (F : Nat → Nat) : Fun := ⟨220,5,(K29 F).erase,[]⟩
theorem ok29 {F : Nat → Nat} : (K29 F).ok = true := rfl
abbrev K30 (F : Nat → Nat) : KC := .seq (.region [mv 12 2,mv 13 1,bt 14 .sub 12 13,mv 10 14] [] [0,2,3,4,10])
 (.seq (.region [mv 15 3,mv 16 2,bt 17 .sub 15 16,mv 11 17] [] [0,2,4,10,11])
 (.seq (.block 0 (.loop (.seq (.seq (.region [mv 18 10,mv 19 11,bt 20 .neq 18 19] [] [0,2,4,10,11,20])
 (.cond (.tmp 20) (.skip)
 (.exit 0)))
 (.block 1 (.seq (.region [mv 21 10,mv 22 11,bt 23 .gtr 21 22] [] [0,2,4,10,11,23])
 (.cond (.tmp 23) (.seq (.region [mv 24 0,mv 25 2,mv 26 10,bt 27 .sub 25 26,mv 28 2,mv 29 11,mv 30 4,⟨some 31,.e (.call (F 31) [(.tmp 24),(.tmp 27),(.tmp 28),(.tmp 29),(.tmp 30)]),none⟩] [] [0,2,4,10,11])
 (.region [mv 32 10,mv 33 11,bt 34 .sub 32 33,mv 10 34] [] [0,2,4,10,11]))
 (.seq (.region [mv 35 0,mv 36 2,mv 37 10,bt 38 .sub 36 37,mv 39 2,mv 40 11,bt 41 .add 39 40,mv 42 10,bt 43 .sub 41 42,mv 44 10,mv 45 4,⟨some 46,.e (.call (F 31) [(.tmp 35),(.tmp 38),(.tmp 43),(.tmp 44),(.tmp 45)]),none⟩] [] [0,2,4,10,11])
 (.region [mv 47 11,mv 48 10,bt 49 .sub 47 48,mv 11 49] [] [0,2,4,10,11]))))))))
 (.region [mv 50 0,mv 51 2,mv 52 10,bt 53 .sub 51 52,mv 54 2,mv 55 10,mv 56 4,⟨some 57,.e (.call (F 31) [(.tmp 50),(.tmp 53),(.tmp 54),(.tmp 55),(.tmp 56)]),none⟩] [] [])))
def M30 (F : Nat → Nat) : Fun := ⟨58,5,(K30 F).erase,[]⟩
theorem ok30 {F : Nat → Nat} : (K30 F).ok = true := rfl
abbrev K31 (_F : Nat → Nat) : KC := .seq (.region [mi 10 0] [] [0,1,2,3,10])
 (.block 0 (.loop (.seq (.seq (.region [mv 11 10,mv 12 3,bt 13 .lss 11 12] [] [0,1,2,3,10,13])
 (.cond (.tmp 13) (.skip)
 (.exit 0)))
 (.seq (.block 1 (.dregion [⟨mv 16 0,0,17⟩,⟨mv 17 1,0,17⟩,⟨mv 18 10,0,17⟩,⟨bt 19 .add 17 18,0,17⟩,⟨mv 24 0,0,17⟩,⟨mv 25 2,0,17⟩,⟨mv 26 10,0,17⟩,⟨bt 27 .add 25 26,0,17⟩,⟨ix 28 1 24 27,0,17⟩,⟨l1 29 28,0,17⟩,⟨mv 30 0,0,17⟩,⟨mv 31 1,0,17⟩,⟨mv 32 10,0,17⟩,⟨bt 33 .add 31 32,0,17⟩,⟨ix 34 1 30 33,0,17⟩,⟨l1 35 34,0,17⟩,⟨ix 36 1 16 19,0,17⟩,⟨⟨none,.e (.store 1 (.tmp 36) (.tmp 29)),none⟩,0,23⟩,⟨mv 20 0,0,23⟩,⟨mv 21 2,0,23⟩,⟨mv 22 10,0,23⟩,⟨bt 23 .add 21 22,0,23⟩,⟨ix 37 1 20 23,18,23⟩,⟨⟨none,.e (.store 1 (.tmp 37) (.tmp 35)),none⟩,18,24⟩] [0,1,2,3,10]))
 (.region [mv 14 10,bi 15 .add 14 1,mv 10 15] [] [0,1,2,3,10])))))
def M31 (F : Nat → Nat) : Fun := ⟨38,5,(K31 F).erase,[]⟩
theorem ok31 {F : Nat → Nat} : (K31 F).ok = true := rfl
end Go.Lib
end

section
namespace Go.Srt
variable {α : Type}
def swp (L : List α) (i j : Nat) : List α := match L[i]?, L[j]? with
  | some x, some y => (L.set i y).set j x
  | _, _ => L
theorem swp_length {L : List α} {i j : Nat} : (swp L i j).length = L.length := by
  unfold swp; split <;> simp
theorem swp_perm {L : List α} {i j : Nat} : (swp L i j).Perm L := by
  unfold swp
  split
  · rename_i x y hx hy
    obtain ⟨h1, rfl⟩ := List.getElem?_eq_some_iff.1 hx;obtain ⟨h2, rfl⟩ := List.getElem?_eq_some_iff.1 hy;exact List.set_set_perm h1 h2
  · exact .refl _
theorem swp_get {L : List α} {i j : Nat} (hi : i < L.length) (hj : j < L.length) (k : Nat) : (swp L i j)[k]? = if k = j then L[i]? else if k = i then L[j]? else L[k]? := by
  unfold swp;rw [List.getElem?_eq_getElem hi, List.getElem?_eq_getElem hj];simp only;rw [List.getElem?_set, List.getElem?_set]
  by_cases h1 : k = j
  · subst h1; simp [hj]
  · rw [if_neg (Ne.symm h1), if_neg h1]
    by_cases h2 : k = i
    · subst h2; simp [hi]
    · rw [if_neg (Ne.symm h2), if_neg h2]
def swpR (L : List α) (a b : Nat) : Nat → List α
  | 0 => L
  | m + 1 => swp (swpR L a b m) (a + m) (b + m)
theorem swpR_length {L : List α} {a b : Nat} : ∀ {m : Nat}, (swpR L a b m).length = L.length
  | 0 => rfl
  | m + 1 => by rw [swpR, swp_length, swpR_length]
theorem swpR_perm {L : List α} {a b : Nat} : ∀ {m : Nat}, (swpR L a b m).Perm L
  | 0 => .refl _
  | m + 1 => by rw [swpR]; exact swp_perm.trans swpR_perm
theorem swpR_get {L : List α} {a b : Nat} : ∀ {m : Nat}, a + m ≤ b → b + m ≤ L.length → ∀ k, (swpR L a b m)[k]? = if a ≤ k ∧ k < a + m then L[b + (k - a)]? else if b ≤ k ∧ k < b + m then L[a + (k - b)]? else L[k]?
  | 0, _, _, k => by rw [swpR, if_neg (by omega), if_neg (by omega)]
  | m + 1, h1, h2, k => by
    have ih := fun k => swpR_get (L := L) (a := a) (b := b) (m := m) (by omega) (by omega) k;rw [swpR, swp_get (by rw [swpR_length]; omega) (by rw [swpR_length]; omega)];simp only [ih]
    repeat' split
    all_goals first | rfl | omega | (congr 1; omega)
theorem swp_eq {L : List α} {i j : Nat} {x y : α} (hx : L[i]? = some x) (hy : L[j]? = some y) : (L.set i y).set j x = swp L i j := by
  unfold swp; rw [hx, hy]
def RotR (L L' : List α) (a m b : Nat) : Prop := ∀ k, L'[k]? = if a ≤ k ∧ k < a + (b - m) then L[m + (k - a)]? else if a + (b - m) ≤ k ∧ k < b then L[k - (b - m)]? else L[k]?
theorem rot_more {L L2 : List α} {i j m : Nat} (hi : i ≤ m) (hj : j < i) (hl : m + j ≤ L.length) (h : RotR (swpR L (m - i) m j) L2 (m - i + j) m (m + j)) : RotR L L2 (m - i) m (m + j) := by
  intro k;have hk := h k;simp only [swpR_get (L := L) (a := m - i) (b := m) (m := j) (by omega) (by omega)] at hk;rw [hk]
  repeat' split
  all_goals first | rfl | omega | (congr 1; omega)
theorem rot_less {L L2 : List α} {i j m : Nat} (hi : i ≤ m) (hj : i < j) (hl : m + j ≤ L.length) (h : RotR (swpR L (m - i) (m + j - i) i) L2 (m - i) m (m + (j - i))) : RotR L L2 (m - i) m (m + j) := by
  intro k;have hk := h k;simp only [swpR_get (L := L) (a := m - i) (b := m + j - i) (m := i) (by omega) (by omega)] at hk;rw [hk]
  repeat' split
  all_goals first | rfl | omega | (congr 1; omega)
theorem rot_same {L : List α} {i m : Nat} (hi : i ≤ m) (hl : m + i ≤ L.length) : RotR L (swpR L (m - i) m i) (m - i) m (m + i) := by
  intro k;rw [swpR_get (by omega) (by omega)]
  repeat' split
  all_goals first | rfl | omega | (congr 1; omega)
def Srt (cmp : α → α → Int) (L : List α) (a b : Nat) : Prop := ∀ p q x y, a ≤ p → p < q → q < b → L[p]? = some x → L[q]? = some y → ¬ cmp y x < 0
structure Mix (L L' : List α) (a b : Nat) : Prop where
  perm : L'.Perm L
  out : ∀ k, k < a ∨ b ≤ k → L'[k]? = L[k]?
theorem Mix.refl {L : List α} {a b : Nat} : Mix L L a b := ⟨.refl _, fun _ _ => rfl⟩
theorem Mix.trans {L L1 L2 : List α} {a b : Nat} (x : Mix L L1 a b) (y : Mix L1 L2 a b) : Mix L L2 a b := ⟨y.perm.trans x.perm, fun k hk => (y.out k hk).trans (x.out k hk)⟩
theorem Mix.swp {L : List α} {a b i j : Nat} (hi : a ≤ i ∧ i < b) (hj : a ≤ j ∧ j < b) (hb : b ≤ L.length) : Mix L (swp L i j) a b :=
  ⟨swp_perm, fun k hk => by rw [swp_get (by omega) (by omega), if_neg (by omega), if_neg (by omega)]⟩
theorem Srt.mono {cmp : α → α → Int} {L : List α} {a b a' b' : Nat} (h : Srt cmp L a b) (ha : a ≤ a') (hb : b' ≤ b) : Srt cmp L a' b' :=
  fun p q x y h1 h2 h3 => h p q x y (by omega) h2 (by omega)
def Parted (cmp : α → α → Int) (L : List α) (a m b : Nat) : Prop := ∀ p q x y, a ≤ p → p < m → m ≤ q → q < b → L[p]? = some x → L[q]? = some y → ¬ cmp y x < 0
theorem Srt.join {cmp : α → α → Int} {L : List α} {a m b : Nat} (h1 : Srt cmp L a m) (h2 : Srt cmp L m b) (h3 : Parted cmp L a m b) : Srt cmp L a b := fun p q x y k1 k2 k3 k4 k5 => by
  rcases Nat.lt_or_ge q m with c | c
  · exact h1 p q x y k1 k2 c k4 k5
  · rcases Nat.lt_or_ge p m with d | d
    · exact h3 p q x y k1 d c k3 k4 k5
    · exact h2 p q x y d k2 k3 k4 k5
theorem parts (M : List α) {a b : Nat} (h : a ≤ b) : M = M.take a ++ ((M.take b).drop a ++ M.drop b) := by
  rw [← List.append_assoc]
  have : M.take a ++ (M.take b).drop a = M.take b := by
    have := List.take_append_drop a (M.take b)
    rwa [List.take_take, Nat.min_eq_left h] at this
  rw [this, List.take_append_drop]
theorem Mix.src {L L' : List α} {a b k : Nat} {v : α} (hm : Mix L L' a b) (h1 : a ≤ k) (h2 : k < b) (hv : L'[k]? = some v) : ∃ k', a ≤ k' ∧ k' < b ∧ L[k']? = some v := by
  have ht : L'.take a = L.take a := List.ext_getElem? fun i => by
    rw [List.getElem?_take, List.getElem?_take]
    split
    · exact hm.out i (by omega)
    · rfl
  have hd : L'.drop b = L.drop b := List.ext_getElem? fun i => by
    rw [List.getElem?_drop, List.getElem?_drop];exact hm.out _ (by omega)
  have hp := hm.perm;rw [parts L' (show a ≤ b by omega), parts L (show a ≤ b by omega), ht, hd] at hp;have hp := (List.perm_append_right_iff _).1 ((List.perm_append_left_iff _).1 hp)
  have hmem : v ∈ (L'.take b).drop a := by
    refine List.mem_of_getElem? (i := k - a) ?_;rw [List.getElem?_drop, List.getElem?_take, if_pos (by omega), show a + (k - a) = k by omega];exact hv
  obtain ⟨i, hi⟩ := List.getElem?_of_mem (hp.mem_iff.1 hmem);rw [List.getElem?_drop, List.getElem?_take] at hi
  split at hi
  · exact ⟨a + i, by omega, by omega, hi⟩
  · cases hi
theorem Parted.mix {cmp : α → α → Int} {L L' : List α} {a m b a' b' : Nat} (h : Parted cmp L a m b) (hm : Mix L L' a' b') (hw : (a ≤ a' ∧ b' ≤ m) ∨ (m ≤ a' ∧ b' ≤ b)) : Parted cmp L' a m b := by
  have src : ∀ k v, L'[k]? = some v → a' ≤ k → k < b' → ∃ k', a' ≤ k' ∧ k' < b' ∧ L[k']? = some v := fun k v hv h1 h2 => hm.src h1 h2 hv;intro p q x y k1 k2 k3 k4 k5 k6
  have hp : ∃ p', a ≤ p' ∧ p' < m ∧ L[p']? = some x := by
    by_cases c : a' ≤ p ∧ p < b'
    · obtain ⟨p', e1, e2, e3⟩ := src p x k5 c.1 c.2
      rcases hw with hw | hw
      · exact ⟨p', by omega, by omega, e3⟩
      · omega
    · exact ⟨p, k1, k2, by rw [← hm.out p (by omega)]; exact k5⟩
  have hq : ∃ q', m ≤ q' ∧ q' < b ∧ L[q']? = some y := by
    by_cases c : a' ≤ q ∧ q < b'
    · obtain ⟨q', e1, e2, e3⟩ := src q y k6 c.1 c.2
      rcases hw with hw | hw
      · omega
      · exact ⟨q', by omega, by omega, e3⟩
    · exact ⟨q, k3, k4, by rw [← hm.out q (by omega)]; exact k6⟩
  obtain ⟨p', a1, a2, a3⟩ := hp;obtain ⟨q', b1, b2, b3⟩ := hq;exact h p' q' x y a1 a2 b1 b2 a3 b3
end Go.Srt
end
