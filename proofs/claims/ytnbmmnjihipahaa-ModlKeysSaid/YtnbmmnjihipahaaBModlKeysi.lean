/-
  Texts that the claim's last one rests on, joined.
-/
import Derived.Test.YtnbmmnjihipahaaBModlKeysf
import Derived.Test.YtnbmmnjihipahaaBModlKeysh

section
namespace Go.Lib
open Go.Vm Go.Dv
set_option maxRecDepth 100000
abbrev K22 (F : Nat → Nat) : KC := .seq (.region [⟨some 2,.a (.box (.tmp 0)),none⟩,⟨some 4,.p (.mov (.val (.nilslice))),none⟩] [2] [1,2])
 (.seq (.region [⟨some 5,.p (.mov (.val (.nilslice))),none⟩] [] [1,2,5])
 (.seq (.seq (.region [⟨some 6,.p (.mov (.val (.int .i64 (.ofNat 0)))),none⟩] [] [1,2,5,6])
 (.block 0 (.loop (.seq (.seq (.region [⟨some 8,.p (.mov (.tmp 6)),none⟩,⟨some 9,.p (.mov (.tmp 1)),none⟩,⟨some 10,.p (.lenb (.tmp 9)),none⟩,⟨some 11,.p (.bin .lss (.tmp 8) (.tmp 10)),none⟩,⟨some 12,.p (.mov (.tmp 11)),none⟩,⟨some 13,.p (.mov (.tmp 6)),(some (12,true))⟩,⟨some 14,.p (.bin .lss (.tmp 13) (.val (.int .i64 (.ofNat 40)))),(some (12,true))⟩,⟨some 15,.p (.pick (.tmp 12) (.tmp 14) (.val (.bool false))),none⟩] [] [1,2,5,6,15])
 (.cond (.tmp 15) (.skip)
 (.exit 0)))
 (.seq (.block 1 (.seq (.dregion [⟨⟨some 18,.loadn 1 (.tmp 2),none⟩,0,5⟩,⟨⟨some 19,.p (.mov (.tmp 1)),none⟩,0,5⟩,⟨⟨some 20,.p (.mov (.tmp 6)),none⟩,0,5⟩,⟨⟨some 21,.p (.iaddr 1 (.tmp 19) (.tmp 20)),none⟩,0,5⟩,⟨⟨some 22,.load1 (.tmp 21),none⟩,0,5⟩,⟨⟨some 23,.e (.call (F 24) [(.tmp 18),(.tmp 22)]),none⟩,0,7⟩,⟨⟨some 7,.p (.mov (.tmp 23)),none⟩,6,7⟩] [1,2,5,6,7])
 (.seq (.region [⟨some 24,.p (.mov (.tmp 7)),none⟩,⟨some 25,.p (.mov (.tmp 6)),none⟩,⟨some 26,.p (.bin .mul (.tmp 25) (.val (.int .i64 (.ofNat 3)))),none⟩,⟨some 27,.p (.mov (.tmp 1)),none⟩,⟨some 28,.p (.mov (.tmp 6)),none⟩,⟨some 29,.p (.iaddr 1 (.tmp 27) (.tmp 28)),none⟩,⟨some 30,.load1 (.tmp 29),none⟩,⟨some 31,.p (.bin .and (.tmp 30) (.val (.int .i64 (.ofNat 1)))),none⟩,⟨some 32,.p (.bin .add (.tmp 26) (.tmp 31)),none⟩,⟨some 33,.p (.iaddr 4 (.tmp 24) (.val (.int .i64 (.ofNat 0)))),none⟩,⟨some 34,.p (.faddr 2 (.tmp 33)),none⟩,⟨none,.e (.store 1 (.tmp 34) (.tmp 32)),none⟩] [] [1,2,5,6,7])
 (.region [⟨some 35,.p (.mov (.tmp 5)),none⟩,⟨some 36,.p (.mov (.tmp 7)),none⟩,⟨some 37,.a (.bslice [.nilslice] 1 1 [(0,1,(.tmp 36))]),none⟩,⟨some 38,.e (.append 1 24 (.tmp 35) (.tmp 37)),none⟩,⟨some 5,.p (.mov (.tmp 38)),none⟩] [37] [1,2,5,6]))))
 (.region [⟨some 16,.p (.mov (.tmp 6)),none⟩,⟨some 17,.p (.bin .add (.tmp 16) (.val (.int .i64 (.ofNat 1)))),none⟩,⟨some 6,.p (.mov (.tmp 17)),none⟩] [] [1,2,5,6]))))))
 (.seq (.region [⟨some 39,.p (.mov (.tmp 5)),none⟩,⟨some 4,.p (.mov (.tmp 39)),none⟩] [] [4])
 (.ret))))
def M22 (F : Nat → Nat) : Fun := ⟨40,2,(K22 F).erase,[.tmp 4]⟩
abbrev K23 (_F : Nat → Nat) : KC := .seq (.region [⟨some 2,.a (.new [.nilslice]),none⟩] [] [0,2])
 (.seq (.region [⟨some 6,.p (.build [.str [],.int .i64 (.ofNat 0),.bool false] [(0,1,(.val (.str [107,101,121]))),(1,1,(.val (.int .i64 (.ofNat 1))))]),none⟩,⟨some 7,.a (.bslice [.str [],.int .i64 (.ofNat 0),.bool false] 3 1 [(0,3,(.tmp 6))]),none⟩,⟨some 8,.p (.build [.nilslice] [(0,1,(.tmp 7))]),none⟩,⟨some 3,.a (.new [.nilslice]),none⟩,⟨none,.e (.store 1 (.tmp 3) (.tmp 8)),none⟩] [] [0,2,3])
 (.seq (.region [⟨some 9,.a (.bslice [.str [],.str [],.str [],.str [],.str []] 1 5 [(0,1,(.val (.str [97]))),(1,1,(.val (.str [98,98]))),(2,1,(.val (.str [99,99,99]))),(3,1,(.val (.str [110,117,108,108]))),(4,1,(.val (.str [97,110,100])))]),none⟩,⟨some 4,.p (.mov (.tmp 9)),none⟩] [9] [0,2,3,4])
 (.seq (.seq (.region [⟨some 5,.p (.mov (.val (.int .i64 (.ofNat 0)))),none⟩] [] [0,2,3,4,5])
 (.block 0 (.loop (.seq (.seq (.region [⟨some 10,.p (.mov (.tmp 5)),none⟩,⟨some 11,.p (.mov (.tmp 0)),none⟩,⟨some 12,.p (.bin .and (.tmp 11) (.val (.int .i64 (.ofNat 255)))),none⟩,⟨some 13,.p (.bin .rem (.tmp 12) (.val (.int .i64 (.ofNat 6)))),none⟩,⟨some 14,.p (.bin .lss (.tmp 10) (.tmp 13)),none⟩,⟨some 15,.p (.mov (.tmp 14)),none⟩,⟨some 16,.p (.mov (.tmp 5)),(some (15,true))⟩,⟨some 17,.p (.bin .lss (.tmp 16) (.val (.int .i64 (.ofNat 5)))),(some (15,true))⟩,⟨some 18,.p (.pick (.tmp 15) (.tmp 17) (.val (.bool false))),none⟩] [] [0,2,3,4,5,18])
 (.cond (.tmp 18) (.skip)
 (.exit 0)))
 (.seq (.block 1 (.dregion [⟨⟨some 21,.p (.faddr 0 (.tmp 3)),none⟩,0,24⟩,⟨⟨some 22,.load1 (.tmp 21),none⟩,0,24⟩,⟨⟨some 23,.p (.mov (.tmp 4)),none⟩,0,24⟩,⟨⟨some 24,.p (.mov (.tmp 5)),none⟩,0,24⟩,⟨⟨some 25,.p (.iaddr 1 (.tmp 23) (.tmp 24)),none⟩,0,24⟩,⟨⟨some 26,.load1 (.tmp 25),none⟩,0,24⟩,⟨⟨some 27,.p (.mov (.tmp 0)),none⟩,0,24⟩,⟨⟨some 28,.p (.mov (.tmp 5)),none⟩,0,24⟩,⟨⟨some 29,.p (.bin .mul (.val (.int .i64 (.ofNat 2))) (.tmp 28)),none⟩,0,24⟩,⟨⟨some 30,.p (.bin .add (.val (.int .i64 (.ofNat 8))) (.tmp 29)),none⟩,0,24⟩,⟨⟨some 31,.p (.conv (.int .u64) (.tmp 30)),none⟩,0,24⟩,⟨⟨some 32,.p (.bin .shr (.tmp 27) (.tmp 31)),none⟩,0,24⟩,⟨⟨some 33,.p (.bin .and (.tmp 32) (.val (.int .i64 (.ofNat 1)))),none⟩,0,24⟩,⟨⟨some 34,.p (.bin .add (.tmp 33) (.val (.int .i64 (.ofNat 1)))),none⟩,0,24⟩,⟨⟨some 35,.p (.mov (.tmp 0)),none⟩,0,24⟩,⟨⟨some 36,.p (.mov (.tmp 5)),none⟩,0,24⟩,⟨⟨some 37,.p (.bin .mul (.val (.int .i64 (.ofNat 2))) (.tmp 36)),none⟩,0,24⟩,⟨⟨some 38,.p (.bin .add (.val (.int .i64 (.ofNat 9))) (.tmp 37)),none⟩,0,24⟩,⟨⟨some 39,.p (.conv (.int .u64) (.tmp 38)),none⟩,0,24⟩,⟨⟨some 40,.p (.bin .shr (.tmp 35) (.tmp 39)),none⟩,0,24⟩,⟨⟨some 41,.p (.bin .and (.tmp 40) (.val (.int .i64 (.ofNat 1)))),none⟩,0,24⟩,⟨⟨some 42,.p (.bin .eql (.tmp 41) (.val (.int .i64 (.ofNat 1)))),none⟩,0,24⟩,⟨⟨some 43,.p (.build [.str [],.int .i64 (.ofNat 0),.bool false] [(0,1,(.tmp 26)),(1,1,(.tmp 34)),(2,1,(.tmp 42))]),none⟩,0,24⟩,⟨⟨some 44,.a (.bslice [.str [],.int .i64 (.ofNat 0),.bool false] 3 1 [(0,3,(.tmp 43))]),none⟩,0,24⟩,⟨⟨some 45,.e (.append 3 32 (.tmp 22) (.tmp 44)),none⟩,0,26⟩,⟨⟨some 46,.p (.faddr 0 (.tmp 3)),none⟩,25,26⟩,⟨⟨none,.e (.store 1 (.tmp 46) (.tmp 45)),none⟩,25,27⟩] [0,2,3,4,5]))
 (.region [⟨some 19,.p (.mov (.tmp 5)),none⟩,⟨some 20,.p (.bin .add (.tmp 19) (.val (.int .i64 (.ofNat 1)))),none⟩,⟨some 5,.p (.mov (.tmp 20)),none⟩] [] [0,2,3,4,5]))))))
 (.seq (.region [⟨some 47,.loadn 1 (.tmp 3),none⟩,⟨none,.e (.store 1 (.tmp 2) (.tmp 47)),none⟩] [] [2])
 (.ret)))))
def M23 (F : Nat → Nat) : Fun := ⟨48,1,(K23 F).erase,[.celln 1 2]⟩
theorem ok23 {F : Nat → Nat} : (K23 F).ok = true := rfl
abbrev K24 (F : Nat → Nat) : KC := .seq (.region [⟨some 2,.a (.box (.tmp 0)),none⟩,⟨some 4,.p (.mov (.val (.nilslice))),none⟩] [2] [1,2])
 (.seq (.region [⟨some 5,.p (.mov (.val (.nilslice))),none⟩] [] [1,2,5])
 (.seq (.seq (.region [⟨some 8,.p (.faddr 0 (.tmp 2)),none⟩,⟨some 9,.load1 (.tmp 8),none⟩,⟨some 10,.p (.lenb (.tmp 9)),none⟩,⟨some 11,.p (.mov (.val (.int .i64 (.ofNat 0)))),none⟩] [] [1,5,9,10,11])
 (.block 0 (.loop (.seq (.region [⟨some 12,.p (.bin .lss (.tmp 11) (.tmp 10)),none⟩] [] [1,5,9,10,11,12])
 (.seq (.cond (.tmp 12) (.skip)
 (.exit 0))
 (.seq (.block 1 (.seq (.region [⟨some 13,.p (.mov (.tmp 11)),none⟩,⟨some 14,.p (.iaddr 3 (.tmp 9) (.tmp 11)),none⟩,⟨some 15,.loadn 3 (.tmp 14),none⟩,⟨some 7,.a (.new [.str [],.int .i64 (.ofNat 0),.bool false]),none⟩,⟨some 6,.p (.mov (.tmp 13)),none⟩,⟨none,.e (.store 3 (.tmp 7) (.tmp 15)),none⟩] [] [1,5,6,7,9,10,11])
 (.seq (.seq (.region [⟨some 16,.p (.mov (.tmp 6)),none⟩,⟨some 17,.p (.bin .eql (.tmp 16) (.val (.int .i64 (.ofNat 0)))),none⟩] [] [1,5,6,7,9,10,11,17])
 (.cond (.tmp 17) (.seq (.region [⟨some 18,.p (.mov (.tmp 5)),none⟩,⟨some 19,.p (.mov (.tmp 1)),none⟩,⟨some 20,.p (.bin .and (.tmp 19) (.val (.int .i64 (.ofNat 15)))),none⟩,⟨some 21,.p (.build [.bool false,.int .i64 (.ofNat 0),.int .i64 (.ofNat 0),.nilslice] [(1,1,(.val (.int .i64 (.ofNat 1)))),(2,1,(.tmp 20))]),none⟩,⟨some 22,.a (.bslice [.bool false,.int .i64 (.ofNat 0),.int .i64 (.ofNat 0),.nilslice] 4 1 [(0,4,(.tmp 21))]),none⟩,⟨some 23,.e (.append 4 48 (.tmp 18) (.tmp 22)),none⟩,⟨some 5,.p (.mov (.tmp 23)),none⟩] [22] [1,5,9,10,11])
 (.exit 1))
 (.skip)))
 (.region [⟨some 24,.p (.mov (.tmp 5)),none⟩,⟨some 25,.loadn 3 (.tmp 7),none⟩,⟨some 26,.p (.mov (.tmp 1)),none⟩,⟨some 27,.p (.mov (.tmp 6)),none⟩,⟨some 28,.p (.bin .mul (.val (.int .i64 (.ofNat 3))) (.tmp 27)),none⟩,⟨some 29,.p (.conv (.int .u64) (.tmp 28)),none⟩,⟨some 30,.p (.bin .shr (.tmp 26) (.tmp 29)),none⟩,⟨some 31,.p (.mov (.tmp 1)),none⟩,⟨some 32,.p (.bin .shr (.tmp 31) (.val (.int .u64 (.ofNat 17)))),none⟩,⟨some 33,.p (.bin .xor (.tmp 30) (.tmp 32)),none⟩,⟨some 34,.e (.call (F 25) [(.tmp 25),(.tmp 33)]),none⟩,⟨some 35,.a (.bslice [.bool false,.int .i64 (.ofNat 0),.int .i64 (.ofNat 0),.nilslice] 4 1 [(0,4,(.tmp 34))]),none⟩,⟨some 36,.e (.append 4 48 (.tmp 24) (.tmp 35)),none⟩,⟨some 5,.p (.mov (.tmp 36)),none⟩] [35] [1,5,9,10,11]))))
 (.region [⟨some 37,.p (.bin .add (.tmp 11) (.val (.int .i64 (.ofNat 1)))),none⟩,⟨some 11,.p (.mov (.tmp 37)),none⟩] [] [1,5,9,10,11])))))))
 (.seq (.region [⟨some 38,.p (.mov (.tmp 5)),none⟩,⟨some 4,.p (.mov (.tmp 38)),none⟩] [] [4])
 (.ret))))
def M24 (F : Nat → Nat) : Fun := ⟨39,2,(K24 F).erase,[.tmp 4]⟩
theorem ok24 {F : Nat → Nat} : (K24 F).ok = true := rfl
abbrev K25 (_F : Nat → Nat) : KC := .seq (.region [⟨some 2,.a (.box (.tmp 0)),none⟩,⟨some 4,.a (.new [.bool false,.int .i64 (.ofNat 0),.int .i64 (.ofNat 0),.nilslice]),none⟩] [2] [1,2,4])
 (.seq (.seq (.region [⟨some 6,.p (.faddr 2 (.tmp 2)),none⟩,⟨some 7,.load1 (.tmp 6),none⟩,⟨some 8,.p (.mov (.tmp 7)),none⟩,⟨some 9,.p (.mov (.tmp 1)),(some (8,true))⟩,⟨some 10,.p (.bin .and (.tmp 9) (.val (.int .i64 (.ofNat 7)))),(some (8,true))⟩,⟨some 11,.p (.bin .eql (.tmp 10) (.val (.int .i64 (.ofNat 0)))),(some (8,true))⟩,⟨some 12,.p (.pick (.tmp 8) (.tmp 11) (.val (.bool false))),none⟩] [] [1,2,4,12])
 (.cond (.tmp 12) (.seq (.region [⟨some 13,.p (.faddr 1 (.tmp 2)),none⟩,⟨some 14,.load1 (.tmp 13),none⟩,⟨some 15,.p (.build [.bool false,.int .i64 (.ofNat 0),.int .i64 (.ofNat 0),.nilslice] [(1,1,(.tmp 14)),(0,1,(.val (.bool true)))]),none⟩,⟨none,.e (.store 4 (.tmp 4) (.tmp 15)),none⟩] [] [4])
 (.ret))
 (.skip)))
 (.seq (.region [⟨some 16,.p (.faddr 1 (.tmp 2)),none⟩,⟨some 17,.load1 (.tmp 16),none⟩,⟨some 18,.p (.build [.bool false,.int .i64 (.ofNat 0),.int .i64 (.ofNat 0),.nilslice] [(1,1,(.tmp 17))]),none⟩,⟨some 5,.a (.new [.bool false,.int .i64 (.ofNat 0),.int .i64 (.ofNat 0),.nilslice]),none⟩,⟨none,.e (.store 4 (.tmp 5) (.tmp 18)),none⟩] [] [1,2,4,5])
 (.seq (.seq (.region [⟨some 19,.p (.faddr 1 (.tmp 2)),none⟩,⟨some 20,.load1 (.tmp 19),none⟩,⟨some 21,.p (.bin .eql (.tmp 20) (.val (.int .i64 (.ofNat 1)))),none⟩] [] [1,4,5,21])
 (.cond (.tmp 21) (.seq (.region [⟨some 22,.p (.mov (.tmp 1)),none⟩,⟨some 23,.p (.bin .shr (.tmp 22) (.val (.int .u64 (.ofNat 3)))),none⟩,⟨some 24,.p (.bin .and (.tmp 23) (.val (.int .i64 (.ofNat 7)))),none⟩,⟨some 25,.p (.faddr 2 (.tmp 5)),none⟩,⟨none,.e (.store 1 (.tmp 25) (.tmp 24)),none⟩] [] [1,4,5])
 (.seq (.seq (.region [⟨some 26,.p (.mov (.tmp 1)),none⟩,⟨some 27,.p (.bin .shr (.tmp 26) (.val (.int .u64 (.ofNat 6)))),none⟩,⟨some 28,.p (.bin .and (.tmp 27) (.val (.int .i64 (.ofNat 15)))),none⟩] [] [1,4,5,28])
 (.block 0 (.seq (.region [⟨some 30,.p (.bin .eql (.tmp 28) (.val (.int .i64 (.ofNat 0)))),none⟩,⟨some 29,.p (.mov (.tmp 30)),none⟩] [] [1,4,5,28,29])
 (.cond (.tmp 29) (.region [⟨some 31,.p (.mov (.tmp 1)),none⟩,⟨some 32,.p (.bin .mul (.tmp 31) (.val (.int .i64 (.ofNat 712544676207699905)))),none⟩,⟨some 33,.p (.faddr 2 (.tmp 5)),none⟩,⟨none,.e (.store 1 (.tmp 33) (.tmp 32)),none⟩] [] [4,5])
 (.seq (.region [⟨some 35,.p (.bin .eql (.tmp 28) (.val (.int .i64 (.ofNat 1)))),none⟩,⟨some 34,.p (.mov (.tmp 35)),none⟩] [] [4,5,28,34])
 (.cond (.tmp 34) (.region [⟨some 36,.p (.faddr 2 (.tmp 5)),none⟩,⟨some 37,.load1 (.tmp 36),none⟩,⟨some 38,.p (.neg (.tmp 37)),none⟩,⟨some 39,.p (.faddr 2 (.tmp 5)),none⟩,⟨none,.e (.store 1 (.tmp 39) (.tmp 38)),none⟩] [] [4,5])
 (.seq (.region [⟨some 41,.p (.bin .eql (.tmp 28) (.val (.int .i64 (.ofNat 2)))),none⟩,⟨some 40,.p (.mov (.tmp 41)),none⟩] [] [4,5,40])
 (.cond (.tmp 40) (.region [⟨some 42,.p (.faddr 2 (.tmp 5)),none⟩,⟨some 43,.load1 (.tmp 42),none⟩,⟨some 44,.p (.bin .sub (.val (.int .i64 (.ofNat 9223372036854775807))) (.tmp 43)),none⟩,⟨some 45,.p (.faddr 2 (.tmp 5)),none⟩,⟨none,.e (.store 1 (.tmp 45) (.tmp 44)),none⟩] [] [4,5])
 (.skip)))))))))
 (.seq (.region [⟨some 46,.loadn 4 (.tmp 5),none⟩,⟨none,.e (.store 4 (.tmp 4) (.tmp 46)),none⟩] [] [4])
 (.ret))))
 (.skip)))
 (.seq (.region [⟨some 47,.a (.bslice [.int .u8 (.ofNat 0),.int .u8 (.ofNat 0),.int .u8 (.ofNat 0),.int .u8 (.ofNat 0),.int .u8 (.ofNat 0),.int .u8 (.ofNat 0),.int .u8 (.ofNat 0),.int .u8 (.ofNat 0)] 1 8 [(0,1,(.val (.int .u8 (.ofNat 97)))),(1,1,(.val (.int .u8 (.ofNat 98)))),(2,1,(.val (.int .u8 (.ofNat 99)))),(3,1,(.val (.int .u8 (.ofNat 97)))),(4,1,(.val (.int .u8 (.ofNat 98)))),(5,1,(.val (.int .u8 (.ofNat 99)))),(6,1,(.val (.int .u8 (.ofNat 97)))),(7,1,(.val (.int .u8 (.ofNat 98))))]),none⟩,⟨some 48,.e (.mark (.tmp 47)),none⟩,⟨some 49,.p (.mov (.tmp 1)),none⟩,⟨some 50,.p (.bin .shr (.tmp 49) (.val (.int .u64 (.ofNat 3)))),none⟩,⟨some 51,.p (.bin .and (.tmp 50) (.val (.int .i64 (.ofNat 3)))),none⟩,⟨some 52,.p (.mov (.tmp 1)),none⟩,⟨some 53,.p (.bin .shr (.tmp 52) (.val (.int .u64 (.ofNat 3)))),none⟩,⟨some 54,.p (.bin .and (.tmp 53) (.val (.int .i64 (.ofNat 3)))),none⟩,⟨some 55,.p (.mov (.tmp 1)),none⟩,⟨some 56,.p (.bin .shr (.tmp 55) (.val (.int .u64 (.ofNat 5)))),none⟩,⟨some 57,.p (.bin .and (.tmp 56) (.val (.int .i64 (.ofNat 3)))),none⟩,⟨some 58,.p (.bin .add (.tmp 54) (.tmp 57)),none⟩,⟨some 59,.p (.slc 1 (.tmp 48) (some (.tmp 51)) (some (.tmp 58)) none),none⟩,⟨some 60,.p (.faddr 3 (.tmp 5)),none⟩,⟨none,.e (.store 1 (.tmp 60) (.tmp 59)),none⟩] [] [4,5])
 (.seq (.region [⟨some 61,.loadn 4 (.tmp 5),none⟩,⟨none,.e (.store 4 (.tmp 4) (.tmp 61)),none⟩] [] [4])
 (.ret))))))
def M25 (F : Nat → Nat) : Fun := ⟨62,2,(K25 F).erase,[.celln 4 4]⟩
theorem ok25 {F : Nat → Nat} : (K25 F).ok = true := rfl
end Go.Lib
end

section
set_option maxRecDepth 10000
namespace Go.Lib
open Go.Vm Go.Dv
variable {p : Prog} {ext : Ext} {F : Nat → Nat}
structure HLaw6 (p : Prog) (ext : Ext) (F : Nat → Nat) : Prop where
  h22 : Has p ext F 22 M22
  h23 : Has p ext F 23 M23
  h24 : Has p ext F 24 M24
  h25 : Has p ext F 25 M25
structure Cl where
  name : List Nat
  kind : Int
  null : Bool
def Cl.c (c : Cl) : List D := [.lit (.str c.name), .lit (.int .i64 c.kind), .lit (.bool c.null)]
abbrev Sch := List Cl
def schE (s : Sch) : List (List D) := s.map Cl.c
def schR (s : Sch) : D := .row 3 .p (schE s)
def schD (s : Sch) : D := .agg [schR s]
theorem cl_unders {n : Nat} {c : Cl} : D.unders n c.c := by simp [Cl.c]
theorem sch_underss {n : Nat} {s : Sch} : D.underss n (schE s) := underss_map (fun _ => cl_unders) _
theorem schR_under {n : Nat} {s : Sch} : (schR s).under n := sch_underss
theorem schD_under {n : Nat} {s : Sch} : (schD s).under n := by simp [schD, schR_under]
theorem sch_len {s : Sch} : (schE s).length = s.length := by simp [schE]
theorem lenb_sch {s : Sch} : lenbD (schR s) = some (.lit (.int .i64 (s.length : Int))) := by simp [schR, sch_len]
theorem at_sch {s : Sch} {n : Nat} : atO 3 (schR s) (some n) = elemD (s[n]?.map Cl.c) := by simp [schR, schE]
theorem cl_0 {v : Cl} : v.c[0]? = some (.lit (.str v.name)) := rfl
theorem cl_1 {v : Cl} : v.c[1]? = some (.lit (.int .i64 v.kind)) := rfl
theorem cl_2 {v : Cl} : v.c[2]? = some (.lit (.bool v.null)) := rfl
theorem cl_len {v : Cl} : v.c.length = 3 := rfl
theorem cl_take {v : Cl} : v.c.take 3 = v.c := rfl
theorem cl_drop {v : Cl} : v.c.drop 3 = [] := rfl
theorem cl_flats {v : Cl} : flatsD v.c = true := rfl
theorem cellsD_schR {s : Sch} : cellsD (schR s) = some [schR s] := rfl
theorem flatD_schR {s : Sch} : flatD (schR s) = true := rfl
theorem cellsD_schD {s : Sch} : cellsD (schD s) = some [schR s] := rfl
attribute [simp] cl_unders sch_underss schR_under schD_under sch_len lenb_sch at_sch cl_0 cl_1 cl_2 cl_len cl_take cl_drop cl_flats cellsD_schR flatD_schR cellsD_schD
def andI (a m : Int) : Int := wr .i64 (.ofNat (Nat.land (toU .i64 a) (toU .i64 m)))
theorem bin_andI {tab : Tab} {a b : Int} : binV tab .and (.int .i64 a) (.int .i64 b) = some (.int .i64 (andI a b)) := bin_and
def xorI (a b : Int) : Int := wr .i64 (.ofNat (Nat.xor (toU .i64 a) (toU .i64 b)))
theorem bin_xorI {tab : Tab} {a b : Int} : binV tab .xor (.int .i64 a) (.int .i64 b) = some (.int .i64 (xorI a b)) := bin_xor
theorem andI_small {a : Int} {m : Nat} (hm : m < 65536) : ∃ q : Nat, andI a (m : Int) = q ∧ q ≤ m := and_range hm
attribute [-simp] bin_and bin_xor
attribute [simp] bin_andI bin_xorI
def abc : List By := [97, 98, 99, 97, 98, 99, 97, 98]
def valF (c : Cl) (n : Int) : Vl :=
  if c.null = true ∧ andI n 7 = 0 then ⟨true, c.kind, 0, [], by simp⟩ else
  if c.kind = 1 then
    ⟨false, c.kind, if andI (shrI .i64 n 6) 15 = 0 then wr .i64 (n * 712544676207699905) else if andI (shrI .i64 n 6) 15 = 1 then wr .i64 (-andI (shrI .i64 n 3) 7) else if andI (shrI .i64 n 6) 15 = 2 then wr .i64 (9223372036854775807 - andI (shrI .i64 n 3) 7) else andI (shrI .i64 n 3) 7, [], by simp⟩
  else ⟨false, c.kind, 0, (abc.drop (andI (shrI .i64 n 3) 3).toNat).take (andI (shrI .i64 n 5) 3).toNat, by
    have : ((abc.drop (andI (shrI .i64 n 3) 3).toNat).take (andI (shrI .i64 n 5) 3).toNat).length ≤ 8 := by
      rw [List.length_take, List.length_drop]; simp [abc]; omega
    omega⟩
theorem by_flat_map (b : List By) : (byE b).flatten = b.map fun c => D.lit (.int .u8 (c.val : Int)) := by
  induction b with
  | nil => rfl
  | cons c b ih => simp only [byE, List.map_cons, List.flatten_cons, List.singleton_append] at ih ⊢; rw [ih]
theorem law6_value (L : HLaw6 p ext F) {c : Cl} {n : Int} : FnD p ext (F 25) [.agg c.c, .lit (.int .i64 n)] (.agg (valF c n).c) := by
  refine fn_of L.h25 (M := M25) rfl ok25 rfl fun H => sem_run 9000 _ ?_;simp
  by_cases h1 : c.null = true ∧ andI n 7 = 0
  · simp [h1.1, h1.2]
    refine sem_ret ?_;simp [M25];exact .le (by repeat (first | exact Sub.refl | apply Sub.new | refine Sub.put ?_ (by first | omega | (simp only [put_next, new_next]; omega)))) (by simp [valF, h1.1, h1.2, Vl.c, D.le, byD, byE]) (by simp)
  · have h2 : c.null = false ∨ (c.null = true ∧ ¬ andI n 7 = 0) := by
      cases h3 : c.null
      · exact .inl rfl
      · exact .inr ⟨rfl, fun h4 => h1 ⟨h3, h4⟩⟩
    by_cases h5 : c.kind = 1
    · by_cases k0 : andI (shrI .i64 n 6) 15 = 0
      · rcases h2 with h2 | h2
        all_goals
          simp [h2, h5, k0];refine sem_ret ?_;simp [M25];exact .le (by repeat (first | exact Sub.refl | apply Sub.new | refine Sub.put ?_ (by first | omega | (simp only [put_next, new_next]; omega)))) (by simp [valF, h2, h5, k0, Vl.c, D.le, byD, byE]) (by simp)
      · by_cases k1 : andI (shrI .i64 n 6) 15 = 1
        · rcases h2 with h2 | h2
          all_goals
            simp [h2, h5, k1];refine sem_ret ?_;simp [M25];exact .le (by repeat (first | exact Sub.refl | apply Sub.new | refine Sub.put ?_ (by first | omega | (simp only [put_next, new_next]; omega)))) (by simp [valF, h2, h5, k1, Vl.c, D.le, byD, byE]) (by simp)
        · by_cases k2 : andI (shrI .i64 n 6) 15 = 2
          · rcases h2 with h2 | h2
            all_goals
              simp [h2, h5, k2];refine sem_ret ?_;simp [M25];exact .le (by repeat (first | exact Sub.refl | apply Sub.new | refine Sub.put ?_ (by first | omega | (simp only [put_next, new_next]; omega)))) (by simp [valF, h2, h5, k2, Vl.c, D.le, byD, byE]) (by simp)
          · rcases h2 with h2 | h2
            all_goals
              simp [h2, h5, k0, k1, k2];refine sem_ret ?_;simp [M25];exact .le (by repeat (first | exact Sub.refl | apply Sub.new | refine Sub.put ?_ (by first | omega | (simp only [put_next, new_next]; omega)))) (by simp [valF, h2, h5, k0, k1, k2, Vl.c, D.le, byD, byE]) (by simp)
    · obtain ⟨i, hi, hi3⟩ := andI_small (a := shrI .i64 n 3) (m := 3) (by simp)
      obtain ⟨j, hj, hj3⟩ := andI_small (a := shrI .i64 n 5) (m := 3) (by simp);have hi' : andI (shrI .i64 n 3) 3 = i := hi;have hj' : andI (shrI .i64 n 5) 3 = j := hj
      have hw : wr .i64 ((i : Int) + (j : Int)) = (i : Int) + (j : Int) := by rw [wr_of] <;> omega
      have ht : ((i : Int) + (j : Int)).toNat = i + j := by omega
      have hn : (0 : Int) ≤ (i : Int) + (j : Int) := by omega
      have hl : i + j ≤ 8 := by omega
      rcases h2 with h2 | h2
      all_goals
        simp [h2, h5, hi', hj', markD, slcD, slcV, needH, boundM, boundH, boundL, sliceO, hw, ht, hn, hl];refine sem_ret ?_;simp [M25];refine ⟨_, (WeakV.part (pre := [.lit (.bool false), .lit (.int .i64 c.kind), .lit (.int .i64 0)]) (el := byE ((abc.drop i).take j)) (sz := 1) (cs := (byE abc).flatten) (ro := false) (by simp [put_blk, new_blk, abc, byE]; decide) by_one (by simp [abc]; omega) ?_ (by omega)).trans (.le ?_), (by repeat (first | exact Sub.refl | apply Sub.new | refine Sub.put ?_ (by first | omega | (simp only [put_next, new_next]; omega)))), by simp⟩
        · rw [by_flat_map, by_flat_map, Nat.mul_one, List.map_take, List.map_drop]
        · simp [valF, h2, h5, hi', hj', Vl.c, byD, D.le]
theorem wr_u64 {n : Int} (h0 : 0 ≤ n) (h1 : n < 18446744073709551616) : wr .u64 n = n := by
  obtain ⟨m, rfl⟩ : ∃ m : Nat, n = m := ⟨n.toNat, by omega⟩;show cond (Nat.blt m 18446744073709551616) _ _ = _;rw [show Nat.blt m 18446744073709551616 = true from nblt.2 (by omega)]
  rfl
def cellF (n : Int) (i : Nat) (c : Cl) : Vl := if i = 0 then ⟨false, 1, andI n 15, [], by simp⟩ else valF c (xorI (shrI .i64 n (3 * i)) (shrI .i64 n 17))
def rowF (s : Sch) (n : Int) : Row := s.mapIdx (cellF n)
theorem rowF_len {s : Sch} {n : Int} : (rowF s n).length = s.length := by simp [rowF]
theorem rowF_get {s : Sch} {n : Int} {i : Nat} : (rowF s n)[i]? = s[i]?.map (cellF n i) := by simp [rowF]
def Row6I (H0 : HpD) (s : Sch) (n : Int) (k : Nat) (fr : FrD) (H : HpD) : Prop :=
  ∃ (i : Nat) (t : D), k = s.length - i ∧ i ≤ s.length ∧ fr = [(1, .lit (.int .i64 n)), (5, t), (9, schR s), (10, .lit (.int .i64 (s.length : Int))), (11, .lit (.int .i64 (i : Int)))] ∧ Gr H0 H 4 t (rowE ((rowF s n).take i))
theorem law6_row_own (L : HLaw6 p ext F) {s : Sch} {n : Int} {H : HpD} (hs : s.length < 1000) : WcD p ext (F 24) [schD s, .lit (.int .i64 n)] H (fun d H' => Gr H H' 4 d (rowE (rowF s n))) := by
  refine wc_of L.h24 (M := M24) rfl ok24 rfl (sem_run 9000 _ ?_);simp [schD];refine sem_loop (Row6I H s n) ?_ (k := s.length) ⟨0, .lit .nilslice, by simp, by simp, rfl, by simpa [rowE] using Gr.start⟩;rintro k fr H' ⟨i, t, rfl, hi, rfl, g⟩;refine sem_run 9000 _ ?_;simp
  by_cases c : i < s.length
  · have hx : (rowF s n)[i]? = some (cellF n i s[i]) := by rw [rowF_get]; simp [c]
    have hw : wr .i64 ((i : Int) + 1) = ((i + 1 : Nat) : Int) := by rw [wr_of] <;> omega
    have h1 : wr .i64 (3 * (i : Int)) = 3 * (i : Int) := by rw [wr_of] <;> omega
    have h2 : wr .u64 (3 * (i : Int)) = 3 * (i : Int) := wr_u64 (by omega) (by omega)
    have h3 : (0 : Int) ≤ 3 * (i : Int) := by omega
    have h4 : (3 * (i : Int)).toNat = 3 * i := by omega
    have hl : (rowE ((rowF s n).take i)).length ≤ i := by simp; omega
    by_cases c0 : i = 0
    · subst c0
      simp [c];refine sem_push_le (cellF n 0 s[0]).c (g.mono (by repeat (first | exact Sub.refl | apply Sub.new | refine Sub.put ?_ (by first | omega | (simp only [put_next, new_next]; omega))))) (by simp [cellF, Vl.c, byD, byE, D.le]) rfl rfl (roomyD (by omega) (by omega)) fun s' H1 g1 _ _ => ?_;simp;refine sem_ok ?_;rw [rowE_snoc hx] at g1;exact ⟨_, by omega, 1, s', rfl, by omega, by simp [wr_of], g1⟩
    · simp [c, c0, h1, h2, h3, h4]
      refine sem_fn (law6_value L) (by first | exact D.les_refl _ | simp) (sem_run 9000 _ ?_);simp;refine sem_push_le (cellF n i s[i]).c (g.mono (by repeat (first | exact Sub.refl | apply Sub.new | refine Sub.put ?_ (by first | omega | (simp only [put_next, new_next]; omega))))) (by simp [cellF, c0]) rfl rfl (roomyD (by omega) (by omega)) fun s' H1 g1 _ _ => ?_;simp;refine sem_ok ?_;rw [rowE_snoc hx] at g1;exact ⟨_, by omega, i + 1, s', rfl, by omega, by rw [hw], g1⟩
  · simp [c]
    refine sem_exit (sem_run 9000 _ ?_)
    have : i = s.length := by omega
    subst this
    have hf : (rowF s n).take s.length = rowF s n := by rw [List.take_of_length_le]; rw [rowF_len]; exact Nat.le_refl _
    rw [hf] at g;simp;refine sem_ret ?_;simp [M24];exact g
theorem law6_row (L : HLaw6 p ext F) {s : Sch} {n : Int} (hs : s.length < 1000) : FnD p ext (F 24) [schD s, .lit (.int .i64 n)] (rowD (rowF s n)) :=
  own_fn (fun _ => law6_row_own L hs) fun _ => row_underss
def intsD (m : Md) (l : List Int) : D := .row 1 m (l.map fun n => [.lit (.int .i64 n)])
theorem lenb_ints {m : Md} {l : List Int} : lenbD (intsD m l) = some (.lit (.int .i64 (l.length : Int))) := by simp [intsD]
theorem at_ints {m : Md} {l : List Int} {n : Nat} : atO 1 (intsD m l) (some n) = elemD (l[n]?.map fun x => [.lit (.int .i64 x)]) := by simp [intsD]
theorem ints_under {m : Md} {l : List Int} {n : Nat} : (intsD m l).under n := by simp only [intsD, D.under]; exact underss_map (fun _ => by simp) _
theorem cellsD_ints {m : Md} {l : List Int} : cellsD (intsD m l) = some [intsD m l] := rfl
attribute [simp] lenb_ints at_ints ints_under cellsD_ints
def bitI (n : Int) (k : Nat) : Int := andI (shrI .i64 n k) 1
theorem bitI_01 {n : Int} {k : Nat} : bitI n k = 0 ∨ bitI n k = 1 := by
  obtain ⟨q, hq, h1⟩ := andI_small (a := shrI .i64 n k) (m := 1) (by simp);have : bitI n k = q := hq;omega
def colNames : List (List Nat) := [[97], [98, 98], [99, 99, 99], [110, 117, 108, 108], [97, 110, 100]]
def colF (n : Int) (i : Nat) : Cl := ⟨(colNames[i]?).getD [], bitI n (8 + 2 * i) + 1, decide (bitI n (9 + 2 * i) = 1)⟩
def keyC : Cl := ⟨[107, 101, 121], 1, false⟩
def moreF (n : Int) : Nat := (Int.tmod (andI n 255) 6).toNat
def schF (n : Int) : Sch := keyC :: (List.range (moreF n)).map (colF n)
theorem more_le {n : Int} : moreF n ≤ 5 ∧ Int.tmod (andI n 255) 6 = (moreF n : Int) := by
  obtain ⟨q, hq, h1⟩ := andI_small (a := n) (m := 255) (by simp);have hq' : andI n 255 = q := hq;unfold moreF;rw [hq']
  have : Int.tmod (q : Int) 6 = ((q % 6 : Nat) : Int) := by
    rw [Int.tmod_eq_emod_of_nonneg (by omega)]; omega
  rw [this];omega
theorem schF_len {n : Int} : (schF n).length = moreF n + 1 := by simp [schF]
theorem schF_small {n : Int} : (schF n).length < 1000 ∧ 0 < (schF n).length := by
  have := (more_le (n := n)).1;rw [schF_len]; omega
def SchI (H0 : HpD) (n : Int) (k : Nat) (fr : FrD) (H : HpD) : Prop :=
  ∃ (i : Nat) (t : D), k = 6 - i ∧ i ≤ moreF n ∧ fr = [(0, .lit (.int .i64 n)), (2, .ptr H0.next 0), (3, .ptr (H0.next + 1 + 1) 0), (4, .row 1 .c (colNames.map fun x => [.lit (.str x)])), (5, .lit (.int .i64 (i : Int)))] ∧
    Gr H0 H 3 t (schE (keyC :: (List.range i).map (colF n))) ∧ H.blk (H0.next + 1 + 1) = .cells [t] false ∧ (∃ d, H.blk H0.next = .cells [d] false) ∧ ¬ t.hasB (H0.next + 1 + 1) ∧ ¬ t.hasB H0.next ∧ H0.next + 1 + 1 < H.next
theorem schema_own (L : HLaw6 p ext F) {n : Int} {H : HpD} : WcD p ext (F 23) [.lit (.int .i64 n)] H (fun d H' => ∃ t, d = .agg [t] ∧ Gr H H' 3 t (schE (schF n))) := by
  refine wc_of L.h23 (M := M23) rfl ok23 rfl (sem_run 9000 _ ?_);simp
  have gk : Gr H ((H.new (.cells [.lit .nilslice] false)).new (.cells [D.lit (V.str [107, 101, 121]), D.lit (V.int .i64 1), D.lit (V.bool false)] false)) 3 (.slice (H.next + 1) 0 3 1 1 true) (schE (keyC :: (List.range 0).map (colF n))) :=
    Gr.lit (H := H.new (.cells [.lit .nilslice] false)) Sub.refl.new (by simp [schE, Cl.c]) (by simp [schE, Cl.c, keyC]) (by simp [schE])
  have hin := gk.mono (Sub.put (H1 := _) (b := H.next + 1 + 1) (x := .cells [.slice (H.next + 1) 0 3 1 1 true] false) (Sub.refl.new (x := .cells [.lit .nilslice] false)) (by simp));refine sem_loop (SchI H n) ?_ (k := 6) ⟨0, .slice (H.next + 1) 0 3 1 1 true, by simp, by omega, by simp [colNames], hin, by simp, ⟨.lit .nilslice, by simp⟩, by simp [D.hasB], by simp [D.hasB], by simp⟩;rintro k fr H' ⟨i, t, rfl, hi, rfl, g, h3, ⟨d2, h2⟩, n3, n2, hlt⟩;refine sem_run 9000 _ ?_;simp;obtain ⟨hm, hm2⟩ := more_le (n := n)
  by_cases c : i < moreF n
  · have c' : (i : Int) < Int.tmod (andI n 255) 6 := by omega
    have c5 : (i : Int) < 5 := by omega
    have hw : wr .i64 ((i : Int) + 1) = ((i + 1 : Nat) : Int) := by rw [wr_of] <;> omega
    have w1 : wr .i64 (2 * (i : Int)) = 2 * (i : Int) := by rw [wr_of] <;> omega
    have w2 : wr .i64 (8 + 2 * (i : Int)) = 8 + 2 * (i : Int) := by rw [wr_of] <;> omega
    have w3 : wr .i64 (9 + 2 * (i : Int)) = 9 + 2 * (i : Int) := by rw [wr_of] <;> omega
    have w4 : wr .u64 (8 + 2 * (i : Int)) = 8 + 2 * (i : Int) := wr_u64 (by omega) (by omega);have w5 : wr .u64 (9 + 2 * (i : Int)) = 9 + 2 * (i : Int) := wr_u64 (by omega) (by omega)
    have p1 : (0 : Int) ≤ 8 + 2 * (i : Int) := by omega
    have p2 : (0 : Int) ≤ 9 + 2 * (i : Int) := by omega
    have t1 : (8 + 2 * (i : Int)).toNat = 8 + 2 * i := by omega
    have t2 : (9 + 2 * (i : Int)).toNat = 9 + 2 * i := by omega
    obtain ⟨nm, hnm⟩ : ∃ nm, colNames[i]? = some nm := ⟨colNames[i]'(by simp [colNames]; omega), by simp⟩;simp [c', c5, h3, hlt, w1, w2, w3, w4, w5, p1, p2, t1, t2, hnm]
    have hwb : wr .i64 (andI (shrI .i64 n (8 + 2 * i)) 1 + 1) = bitI n (8 + 2 * i) + 1 := by
      rcases bitI_01 (n := n) (k := 8 + 2 * i) with h | h <;> unfold bitI at h ⊢ <;> rw [h] <;> decide
    rw [hwb, appendD_slice1 (b := H'.next) (cs := [.lit (.str nm), .lit (.int .i64 (bitI n (8 + 2 * i) + 1)), .lit (.bool (decide (bitI n (9 + 2 * i) = 1)))]) (ro := false) (by simp [bitI]; congr) (by simp)];refine sem_push_le (colF n i).c (g.mono Sub.refl.new) (by simp [colF, Cl.c, hnm]) rfl rfl (roomyD (by simp [schE]; omega) (by simp [schE]; omega)) fun s' H1 g1 k1 n1 => ?_;have k3 := k1 (H.next + 1 + 1) (by simp; omega) n3;have k2 := k1 H.next (by simp; omega) n2;rw [new_blk, if_neg (by omega), h3] at k3;rw [new_blk, if_neg (by omega), h2] at k2;obtain ⟨n1, rfl⟩ := n1;simp at n1;simp [k3];refine sem_ok ?_
    have hs : schE (keyC :: (List.range i).map (colF n)) ++ [(colF n i).c] = schE (keyC :: (List.range (i+1)).map (colF n)) := by simp [schE, List.range_succ]
    rw [hs] at g1;refine ⟨_, by omega, i + 1, _, rfl, by omega, by rw [hw], g1.keep (g1.sub.put (by omega)) (by simp) (fun x hx => ?_), by simp, ⟨d2, ?_⟩, ?_, ?_, ?_⟩
    · rw [put_blk, if_neg]
      rintro rfl;simp [D.hasB] at hx;omega
    · rw [put_blk, if_neg (by omega), k2]
    · simp [D.hasB]; omega
    · simp [D.hasB]; omega
    · simp; omega
  · have c' : ¬ (i : Int) < Int.tmod (andI n 255) 6 := by omega
    have : i = moreF n := by omega
    subst this
    have hft : flatD t = true := by
      rcases g.at_ with ⟨rfl, _⟩ | ⟨b, ex, el0, rfl, _⟩ <;> rfl
    simp [c'];refine sem_exit (sem_run 9000 _ ?_);simp [h3, h2, hft];refine sem_ret ?_;simp [M23];refine g.keep (g.sub.put (Nat.le_refl _)) (by simp) fun x hx => ?_;rw [put_blk, if_neg];rintro rfl;exact n2 hx
theorem schema (L : HLaw6 p ext F) {n : Int} : FnD p ext (F 23) [.lit (.int .i64 n)] (schD (schF n)) := by
  intro H;refine WcD.drop ((schema_own L).mono ?_);rintro d H' ⟨t, rfl, g⟩;obtain ⟨H2, w, s, u⟩ := g.finA sch_underss (m := .p) (by simp);exact ⟨_, H2, w, s, u, rfl, rfl⟩
end Go.Lib
end

section
set_option maxRecDepth 10000
namespace Go.Lib
open Go.Vm Go.Dv Go.Srt
attribute [-simp] bin_and bin_xor
theorem valF_kind {c : Cl} {n : Int} : (valF c n).kind = c.kind := by
  unfold valF; split
  · rfl
  · split <;> rfl
def ksF (s : Sch) : List Int := s.map Cl.kind
def GoodS (s : Sch) : Prop := ∀ c, c ∈ s → c.kind = 1 ∨ c.kind = 2
theorem in64_wr {n : Int} : In64 (wr .i64 n) := by
  rw [wr_eq]
  have : IntKind.wrap .i64 n = if (decide (n % 18446744073709551616 ≥ 9223372036854775808)) = true then n % 18446744073709551616 - 18446744073709551616 else n % 18446744073709551616 := rfl
  rw [this];unfold In64
  by_cases h : n % 18446744073709551616 ≥ 9223372036854775808
  · rw [if_pos (by simpa using h)]; omega
  · rw [if_neg (by simpa using h)]; omega
theorem in64_and {n : Int} {m : Nat} (hm : m < 65536) : In64 (andI n (m : Int)) := by
  obtain ⟨q, hq, h1⟩ := andI_small (a := n) hm;rw [hq]; unfold In64; omega
theorem valF_good {c : Cl} (hc : c.kind = 1 ∨ c.kind = 2) {n : Int} : (valF c n).Good := by
  unfold valF
  split
  · exact ⟨fun _ => ⟨rfl, rfl⟩, by rcases hc with h | h <;> simp [h], by unfold In64; simp⟩
  · split
    · rename_i h
      refine ⟨fun h2 => by simp at h2, .inl ⟨h, rfl⟩, ?_⟩;show In64 (if _ then _ else _)
      split
      · exact in64_wr
      · split
        · exact in64_wr
        · split
          · exact in64_wr
          · exact in64_and (m := 7) (by simp)
    · rename_i h
      exact ⟨fun h2 => by simp at h2, .inr ⟨by rcases hc with k | k; exact absurd k h; exact k, rfl⟩, by show In64 0; unfold In64; simp⟩
theorem schF_kinds {n : Int} : GoodS (schF n) := by
  intro c hc;rcases List.mem_cons.1 hc with rfl | hc
  · exact .inl rfl
  · obtain ⟨i, _, rfl⟩ := List.mem_map.1 hc
    have := bitI_01 (n := n) (k := 8 + 2 * i);show bitI n (8 + 2 * i) + 1 = 1 ∨ bitI n (8 + 2 * i) + 1 = 2;omega
theorem schF_cons {n : Int} : schF n = keyC :: (List.range (moreF n)).map (colF n) := rfl
theorem cells_good {s : Sch} (hs : GoodS s) {x : Int} : GoodR (ksF s) (s.mapIdx fun j => cellF x (j + 1)) := by
  refine ⟨?_, fun v hv => ?_⟩
  · unfold Kin ksF
    apply List.ext_getElem
    · simp
    · intro i h1 h2
      simp [cellF, valF_kind]
  · rw [List.mem_mapIdx] at hv
    obtain ⟨i, hi, rfl⟩ := hv;exact valF_good (hs _ (by simp))
theorem GoodR.cons {k : Int} {ks : List Int} {v : Vl} {r : Row} (h1 : v.kind = k) (h2 : v.Good) (h : GoodR ks r) : GoodR (k :: ks) (v :: r) :=
  ⟨by have := h.kin; unfold Kin at this ⊢; simp [h1, this], fun w hw => by
    rcases List.mem_cons.1 hw with rfl | hw
    · exact h2
    · exact h.good w hw⟩
theorem row6_good {n x : Int} : GoodR (ksF (schF n)) (rowF (schF n) x) := by
  have e : rowF (schF n) x = ⟨false, 1, andI x 15, [], by simp⟩ :: ((List.range (moreF n)).map (colF n)).mapIdx fun j => cellF x (j + 1) := by
    rw [schF_cons, rowF, List.mapIdx_cons]; rfl
  rw [e];exact GoodR.cons rfl ⟨fun h => by simp at h, .inl ⟨rfl, rfl⟩, in64_and (m := 15) (by simp)⟩ (cells_good fun c hc => schF_kinds (n := n) c (by rw [schF_cons]; exact List.mem_cons_of_mem _ hc))
theorem ksF_len {s : Sch} : (ksF s).length = s.length := by simp [ksF]
theorem inK_0 {n : Int} : InK (ksF (schF n)) 0 := ⟨by omega, by rw [ksF_len, schF_len]; omega⟩
end Go.Lib
end

section
namespace Go.Lib
open Go.Vm Go.Dv
set_option maxRecDepth 100000
abbrev K70 (F : Nat → Nat) : KC := .seq (.region [⟨some 3,.a (.box (.tmp 0)),none⟩,⟨some 5,.a (.box (.tmp 2)),none⟩,⟨some 6,.p (.mov (.val (.nilslice))),none⟩,⟨some 7,.a (.new [.int .i64 (.ofNat 0),.int .i64 (.ofNat 0),.nilslice]),none⟩] [3,5] [1,5,7])
 (.seq (.region [⟨some 14,.p (.mov (.tmp 1)),none⟩,⟨some 15,.e (.call (F 72) [(.tmp 14)]),none⟩,⟨some 1,.p (.mov (.tmp 15)),none⟩] [] [1,5,7])
 (.seq (.region [⟨some 16,.p (.mkfunc (F 73) [] [(.tmp 5)]),none⟩,⟨some 8,.p (.mov (.tmp 16)),none⟩] [] [1,5,7,8])
 (.seq (.region [⟨some 9,.p (.mov (.val (.nilslice))),none⟩] [] [1,5,7,8,9])
 (.seq (.seq (.region [⟨some 17,.p (.mov (.tmp 1)),none⟩,⟨some 18,.p (.lenb (.tmp 17)),none⟩,⟨some 19,.p (.mov (.val (.int .i64 (.ofNat 0)))),none⟩] [] [1,5,7,8,9,17,18,19])
 (.block 0 (.loop (.seq (.region [⟨some 20,.p (.bin .lss (.tmp 19) (.tmp 18)),none⟩] [] [1,5,7,8,9,17,18,19,20])
 (.seq (.cond (.tmp 20) (.skip)
 (.exit 0))
 (.seq (.block 1 (.seq (.region [⟨some 21,.p (.iaddr 1 (.tmp 17) (.tmp 19)),none⟩,⟨some 22,.load1 (.tmp 21),none⟩,⟨some 11,.p (.mov (.tmp 22)),none⟩] [] [1,5,7,8,9,11,17,18,19])
 (.seq (.region [⟨some 23,.p (.mov (.tmp 8)),none⟩,⟨some 24,.p (.mov (.tmp 11)),none⟩,⟨some 25,.e (.callv (.tmp 23) [(.tmp 24)]),none⟩] [] [1,5,7,8,9,11,17,18,19,25])
 (.cond (.tmp 25) (.region [⟨some 26,.p (.mov (.tmp 9)),none⟩,⟨some 27,.p (.mov (.tmp 11)),none⟩,⟨some 28,.a (.bslice [.nilslice] 1 1 [(0,1,(.tmp 27))]),none⟩,⟨some 29,.e (.append 1 24 (.tmp 26) (.tmp 28)),none⟩,⟨some 9,.p (.mov (.tmp 29)),none⟩] [28] [1,5,7,8,9,17,18,19])
 (.skip)))))
 (.region [⟨some 30,.p (.bin .add (.tmp 19) (.val (.int .i64 (.ofNat 1)))),none⟩,⟨some 19,.p (.mov (.tmp 30)),none⟩] [] [1,5,7,8,9,17,18,19])))))))
 (.seq (.seq (.region [⟨some 31,.p (.faddr 0 (.tmp 5)),none⟩,⟨some 32,.load1 (.tmp 31),none⟩] [] [1,5,7,8,9,32])
 (.block 2 (.seq (.region [⟨some 34,.p (.bin .eql (.tmp 32) (.val (.int .i64 (.ofNat 1)))),none⟩,⟨some 33,.p (.mov (.tmp 34)),none⟩] [] [1,5,7,8,9,32,33])
 (.cond (.tmp 33) (.seq (.region [⟨some 35,.p (.mov (.tmp 1)),none⟩,⟨some 36,.p (.faddr 1 (.tmp 5)),none⟩,⟨some 37,.load1 (.tmp 36),none⟩,⟨some 38,.e (.call (F 74) [(.tmp 35),(.tmp 37)]),none⟩,⟨some 39,.p (.ext (.tmp 38) 0),none⟩,⟨some 40,.p (.ext (.tmp 38) 1),none⟩,⟨some 6,.p (.mov (.tmp 39)),none⟩,⟨none,.e (.store 3 (.tmp 7) (.tmp 40)),none⟩] [] [6,7])
 (.ret))
 (.seq (.region [⟨some 42,.p (.bin .eql (.tmp 32) (.val (.int .i64 (.ofNat 2)))),none⟩,⟨some 41,.p (.mov (.tmp 42)),none⟩] [] [1,5,7,8,9,32,41])
 (.cond (.tmp 41) (.seq (.region [⟨some 43,.p (.mov (.tmp 1)),none⟩,⟨some 44,.loadn 14 (.tmp 5),none⟩,⟨some 45,.e (.call (F 75) [(.tmp 43),(.tmp 44)]),none⟩,⟨some 46,.p (.ext (.tmp 45) 0),none⟩,⟨some 47,.p (.ext (.tmp 45) 1),none⟩,⟨some 6,.p (.mov (.tmp 46)),none⟩,⟨none,.e (.store 3 (.tmp 7) (.tmp 47)),none⟩] [] [6,7])
 (.ret))
 (.seq (.region [⟨some 49,.p (.bin .eql (.tmp 32) (.val (.int .i64 (.ofNat 3)))),none⟩,⟨some 48,.p (.mov (.tmp 49)),none⟩] [] [1,5,7,8,9,32,48])
 (.cond (.tmp 48) (.seq (.region [⟨some 50,.p (.mov (.tmp 1)),none⟩,⟨some 51,.p (.mov (.tmp 8)),none⟩,⟨some 52,.e (.call (F 76) [(.tmp 50),(.tmp 51)]),none⟩,⟨some 53,.e (.call (F 39) [(.tmp 52)]),none⟩,⟨some 54,.p (.mov (.tmp 9)),none⟩,⟨some 55,.p (.lenb (.tmp 54)),none⟩,⟨some 56,.p (.build [.int .i64 (.ofNat 0),.int .i64 (.ofNat 0),.nilslice] [(1,1,(.tmp 55))]),none⟩,⟨some 6,.p (.mov (.tmp 53)),none⟩,⟨none,.e (.store 3 (.tmp 7) (.tmp 56)),none⟩] [] [6,7])
 (.ret))
 (.seq (.region [⟨some 58,.p (.bin .eql (.tmp 32) (.val (.int .i64 (.ofNat 4)))),none⟩,⟨some 57,.p (.mov (.tmp 58)),none⟩] [] [1,5,7,9,32,57])
 (.cond (.tmp 57) (.seq (.region [⟨some 59,.p (.mov (.tmp 1)),none⟩,⟨some 60,.p (.mov (.tmp 9)),none⟩,⟨some 61,.p (.faddr 11 (.tmp 5)),none⟩,⟨some 62,.load1 (.tmp 61),none⟩,⟨some 63,.e (.call (F 34) [(.tmp 60),(.tmp 62)]),none⟩,⟨some 64,.p (.build [.int .i64 (.ofNat 0),.int .i64 (.ofNat 0),.nilslice] [(2,1,(.tmp 63))]),none⟩,⟨some 6,.p (.mov (.tmp 59)),none⟩,⟨none,.e (.store 3 (.tmp 7) (.tmp 64)),none⟩] [] [6,7])
 (.ret))
 (.seq (.region [⟨some 66,.p (.bin .eql (.tmp 32) (.val (.int .i64 (.ofNat 5)))),none⟩,⟨some 65,.p (.mov (.tmp 66)),none⟩] [] [1,5,7,9,32,65])
 (.cond (.tmp 65) (.seq (.region [⟨some 68,.p (.mov (.tmp 9)),none⟩,⟨some 69,.p (.faddr 12 (.tmp 5)),none⟩,⟨some 70,.load1 (.tmp 69),none⟩,⟨some 71,.p (.faddr 13 (.tmp 5)),none⟩,⟨some 72,.load1 (.tmp 71),none⟩,⟨some 73,.e (.call (F 32) [(.tmp 68),(.tmp 70),(.tmp 72)]),none⟩,⟨some 67,.p (.mov (.tmp 73)),none⟩,⟨some 74,.p (.ext (.tmp 67) 0),none⟩,⟨some 75,.p (.ext (.tmp 67) 1),none⟩,⟨some 12,.p (.mov (.tmp 74)),none⟩,⟨some 13,.p (.mov (.tmp 75)),none⟩] [] [1,7,12,13])
 (.seq (.seq (.region [⟨some 76,.p (.mov (.tmp 13)),none⟩,⟨some 77,.p (.not (.tmp 76)),none⟩] [] [1,7,12,77])
 (.cond (.tmp 77) (.seq (.region [⟨some 78,.p (.mov (.tmp 1)),none⟩,⟨some 79,.p (.build [.int .i64 (.ofNat 0),.int .i64 (.ofNat 0),.nilslice] [(0,1,(.val (.int .i64 (.ofNat 2))))]),none⟩,⟨some 6,.p (.mov (.tmp 78)),none⟩,⟨none,.e (.store 3 (.tmp 7) (.tmp 79)),none⟩] [] [6,7])
 (.ret))
 (.skip)))
 (.seq (.region [⟨some 80,.p (.mov (.tmp 1)),none⟩,⟨some 81,.p (.mov (.tmp 12)),none⟩,⟨some 82,.p (.build [.int .i64 (.ofNat 0),.int .i64 (.ofNat 0),.nilslice] [(2,1,(.tmp 81))]),none⟩,⟨some 6,.p (.mov (.tmp 80)),none⟩,⟨none,.e (.store 3 (.tmp 7) (.tmp 82)),none⟩] [] [6,7])
 (.ret))))
 (.seq (.region [⟨some 84,.p (.bin .eql (.tmp 32) (.val (.int .i64 (.ofNat 6)))),none⟩,⟨some 83,.p (.mov (.tmp 84)),none⟩] [] [1,7,83])
 (.cond (.tmp 83) (.seq (.region [⟨some 85,.p (.mov (.tmp 1)),none⟩,⟨some 86,.p (.build [.int .i64 (.ofNat 0),.int .i64 (.ofNat 0),.nilslice] [(0,1,(.val (.int .i64 (.ofNat 3))))]),none⟩,⟨some 6,.p (.mov (.tmp 85)),none⟩,⟨none,.e (.store 3 (.tmp 7) (.tmp 86)),none⟩] [] [6,7])
 (.ret))
 (.skip)))))))))))))))
 (.seq (.region [⟨some 87,.p (.mov (.tmp 1)),none⟩,⟨some 88,.p (.build [.int .i64 (.ofNat 0),.int .i64 (.ofNat 0),.nilslice] []),none⟩,⟨some 6,.p (.mov (.tmp 87)),none⟩,⟨none,.e (.store 3 (.tmp 7) (.tmp 88)),none⟩] [] [6,7])
 (.ret)))))))
def M70 (F : Nat → Nat) : Fun := ⟨89,3,(K70 F).erase,[.tmp 6,.celln 3 7]⟩
theorem ok70 {F : Nat → Nat} : (K70 F).ok = true := rfl
abbrev K71 (F : Nat → Nat) : KC := .seq (.region [⟨some 3,.a (.box (.tmp 0)),none⟩,⟨some 6,.p (.mov (.val (.nilslice))),none⟩,⟨some 7,.p (.mov (.val (.nilslice))),none⟩] [3] [1,2,3])
 (.seq (.region [⟨some 14,.p (.mov (.tmp 1)),none⟩,⟨some 15,.e (.call (F 72) [(.tmp 14)]),none⟩,⟨some 1,.p (.mov (.tmp 15)),none⟩] [] [1,2,3])
 (.seq (.region [⟨some 16,.p (.mov (.tmp 1)),none⟩,⟨some 8,.p (.mov (.tmp 16)),none⟩] [] [1,2,3,8])
 (.seq (.region [⟨some 9,.p (.mov (.val (.nilslice))),none⟩] [] [1,2,3,8,9])
 (.seq (.seq (.region [⟨some 17,.p (.mov (.tmp 2)),none⟩,⟨some 18,.p (.lenb (.tmp 17)),none⟩,⟨some 19,.p (.mov (.val (.int .i64 (.ofNat 0)))),none⟩] [] [1,3,8,9,17,18,19])
 (.block 0 (.loop (.seq (.region [⟨some 20,.p (.bin .lss (.tmp 19) (.tmp 18)),none⟩] [] [1,3,8,9,17,18,19,20])
 (.seq (.cond (.tmp 20) (.skip)
 (.exit 0))
 (.seq (.block 1 (.seq (.region [⟨some 21,.p (.iaddr 14 (.tmp 17) (.tmp 19)),none⟩,⟨some 22,.loadn 14 (.tmp 21),none⟩,⟨some 11,.a (.new [.int .i64 (.ofNat 0),.nilslice,.int .i64 (.ofNat 0),.int .i64 (.ofNat 0),.int .i64 (.ofNat 0),.bool false,.int .i64 (.ofNat 0),.int .i64 (.ofNat 0),.nilslice,.nilslice,.nilslice,.nilslice,.int .i64 (.ofNat 0),.nilslice]),none⟩,⟨none,.e (.store 14 (.tmp 11) (.tmp 22)),none⟩] [] [1,3,8,9,11,17,18,19])
 (.seq (.region [⟨some 24,.loadn 1 (.tmp 3),none⟩,⟨some 25,.p (.mov (.tmp 8)),none⟩,⟨some 26,.loadn 14 (.tmp 11),none⟩,⟨some 27,.e (.call (F 70) [(.tmp 24),(.tmp 25),(.tmp 26)]),none⟩,⟨some 23,.p (.mov (.tmp 27)),none⟩,⟨some 28,.p (.ext (.tmp 23) 0),none⟩,⟨some 29,.p (.ext (.tmp 23) 1),none⟩,⟨some 13,.a (.new [.int .i64 (.ofNat 0),.int .i64 (.ofNat 0),.nilslice]),none⟩,⟨some 12,.p (.mov (.tmp 28)),none⟩,⟨none,.e (.store 3 (.tmp 13) (.tmp 29)),none⟩] [] [1,3,9,12,13,17,18,19])
 (.seq (.region [⟨some 30,.p (.mov (.tmp 9)),none⟩,⟨some 31,.loadn 3 (.tmp 13),none⟩,⟨some 32,.a (.bslice [.int .i64 (.ofNat 0),.int .i64 (.ofNat 0),.nilslice] 3 1 [(0,3,(.tmp 31))]),none⟩,⟨some 33,.e (.append 3 40 (.tmp 30) (.tmp 32)),none⟩,⟨some 9,.p (.mov (.tmp 33)),none⟩] [32] [1,3,9,12,13,17,18,19])
 (.seq (.seq (.region [⟨some 34,.p (.faddr 0 (.tmp 13)),none⟩,⟨some 35,.load1 (.tmp 34),none⟩,⟨some 36,.p (.bin .neq (.tmp 35) (.val (.int .i64 (.ofNat 0)))),none⟩] [] [1,3,9,12,17,18,19,36])
 (.cond (.tmp 36) (.seq (.region [⟨some 37,.p (.mov (.tmp 1)),none⟩,⟨some 38,.p (.mov (.tmp 9)),none⟩,⟨some 39,.e (.call (F 77) [(.tmp 38)]),none⟩,⟨some 6,.p (.mov (.tmp 37)),none⟩,⟨some 7,.p (.mov (.tmp 39)),none⟩] [] [6,7])
 (.ret))
 (.skip)))
 (.region [⟨some 40,.p (.mov (.tmp 12)),none⟩,⟨some 8,.p (.mov (.tmp 40)),none⟩] [] [1,3,8,9,17,18,19]))))))
 (.region [⟨some 41,.p (.bin .add (.tmp 19) (.val (.int .i64 (.ofNat 1)))),none⟩,⟨some 19,.p (.mov (.tmp 41)),none⟩] [] [1,3,8,9,17,18,19])))))))
 (.seq (.region [⟨some 42,.p (.mov (.tmp 8)),none⟩,⟨some 43,.p (.mov (.tmp 9)),none⟩,⟨some 44,.e (.call (F 77) [(.tmp 43)]),none⟩,⟨some 6,.p (.mov (.tmp 42)),none⟩,⟨some 7,.p (.mov (.tmp 44)),none⟩] [] [6,7])
 (.ret))))))
def M71 (F : Nat → Nat) : Fun := ⟨45,3,(K71 F).erase,[.tmp 6,.tmp 7]⟩
theorem ok71 {F : Nat → Nat} : (K71 F).ok = true := rfl
abbrev K72 (F : Nat → Nat) : KC := .seq (.region [⟨some 2,.p (.mov (.val (.nilslice))),none⟩] [] [0])
 (.seq (.region [⟨some 3,.p (.mov (.val (.nilslice))),none⟩] [] [0,3])
 (.seq (.seq (.region [⟨some 6,.p (.mov (.tmp 0)),none⟩,⟨some 7,.p (.lenb (.tmp 6)),none⟩,⟨some 8,.p (.mov (.val (.int .i64 (.ofNat 0)))),none⟩] [] [3,6,7,8])
 (.block 0 (.loop (.seq (.region [⟨some 9,.p (.bin .lss (.tmp 8) (.tmp 7)),none⟩] [] [3,6,7,8,9])
 (.seq (.cond (.tmp 9) (.skip)
 (.exit 0))
 (.seq (.block 1 (.seq (.region [⟨some 10,.p (.iaddr 1 (.tmp 6) (.tmp 8)),none⟩,⟨some 11,.load1 (.tmp 10),none⟩,⟨some 5,.p (.mov (.tmp 11)),none⟩] [] [3,5,6,7,8])
 (.region [⟨some 12,.p (.mov (.tmp 3)),none⟩,⟨some 13,.p (.mov (.tmp 5)),none⟩,⟨some 14,.e (.call (F 4) [(.tmp 13)]),none⟩,⟨some 15,.a (.bslice [.nilslice] 1 1 [(0,1,(.tmp 14))]),none⟩,⟨some 16,.e (.append 1 24 (.tmp 12) (.tmp 15)),none⟩,⟨some 3,.p (.mov (.tmp 16)),none⟩] [15] [3,6,7,8])))
 (.region [⟨some 17,.p (.bin .add (.tmp 8) (.val (.int .i64 (.ofNat 1)))),none⟩,⟨some 8,.p (.mov (.tmp 17)),none⟩] [] [3,6,7,8])))))))
 (.seq (.region [⟨some 18,.p (.mov (.tmp 3)),none⟩,⟨some 19,.e (.call (F 39) [(.tmp 18)]),none⟩,⟨some 2,.p (.mov (.tmp 19)),none⟩] [] [2])
 (.ret))))
def M72 (F : Nat → Nat) : Fun := ⟨20,1,(K72 F).erase,[.tmp 2]⟩
theorem ok72 {F : Nat → Nat} : (K72 F).ok = true := rfl
abbrev K73 (F : Nat → Nat) : KC := .seq (.region [⟨some 3,.p (.mov (.val (.bool false))),none⟩] [] [0,1])
 (.seq (.region [⟨some 4,.p (.faddr 2 (.tmp 1)),none⟩,⟨some 5,.loadn 8 (.tmp 4),none⟩,⟨some 6,.p (.mov (.tmp 0)),none⟩,⟨some 7,.e (.call (F 65) [(.tmp 5),(.tmp 6)]),none⟩,⟨some 8,.p (.bin .eql (.tmp 7) (.val (.int .i64 (.ofNat 1)))),none⟩,⟨some 3,.p (.mov (.tmp 8)),none⟩] [] [3])
 (.ret))
def M73 (F : Nat → Nat) : Fun := ⟨9,2,(K73 F).erase,[.tmp 3]⟩
theorem ok73 {F : Nat → Nat} : (K73 F).ok = true := rfl
abbrev K74 (F : Nat → Nat) : KC := .seq (.region [⟨some 4,.p (.mov (.val (.nilslice))),none⟩,⟨some 5,.a (.new [.int .i64 (.ofNat 0),.int .i64 (.ofNat 0),.nilslice]),none⟩] [] [0,1,5])
 (.seq (.region [⟨some 9,.p (.mov (.tmp 0)),none⟩,⟨some 10,.p (.mov (.tmp 1)),none⟩,⟨some 11,.e (.call (F 78) [(.tmp 10)]),none⟩,⟨some 12,.e (.call (F 79) [(.tmp 9),(.tmp 11),(.val (.func (F 80) [] []))]),none⟩,⟨some 8,.p (.mov (.tmp 12)),none⟩,⟨some 13,.p (.ext (.tmp 8) 0),none⟩,⟨some 14,.p (.ext (.tmp 8) 1),none⟩,⟨some 6,.p (.mov (.tmp 13)),none⟩,⟨some 7,.p (.mov (.tmp 14)),none⟩] [] [0,1,5,6,7])
 (.seq (.seq (.region [⟨some 15,.p (.mov (.tmp 7)),none⟩] [] [0,1,5,6,15])
 (.cond (.tmp 15) (.seq (.region [⟨some 16,.p (.mov (.tmp 0)),none⟩,⟨some 17,.p (.build [.int .i64 (.ofNat 0),.int .i64 (.ofNat 0),.nilslice] [(0,1,(.val (.int .i64 (.ofNat 1))))]),none⟩,⟨some 4,.p (.mov (.tmp 16)),none⟩,⟨none,.e (.store 3 (.tmp 5) (.tmp 17)),none⟩] [] [4,5])
 (.ret))
 (.skip)))
 (.seq (.region [⟨some 18,.p (.mov (.tmp 0)),none⟩,⟨some 19,.p (.mov (.tmp 6)),none⟩,⟨some 20,.p (.mov (.tmp 1)),none⟩,⟨some 21,.e (.call (F 4) [(.tmp 20)]),none⟩,⟨some 22,.a (.bslice [.nilslice] 1 1 [(0,1,(.tmp 21))]),none⟩,⟨some 23,.e (.call (F 81) [(.tmp 18),(.tmp 19),(.tmp 22)]),none⟩,⟨some 24,.p (.build [.int .i64 (.ofNat 0),.int .i64 (.ofNat 0),.nilslice] [(1,1,(.val (.int .i64 (.ofNat 1))))]),none⟩,⟨some 4,.p (.mov (.tmp 23)),none⟩,⟨none,.e (.store 3 (.tmp 5) (.tmp 24)),none⟩] [22] [4,5])
 (.ret))))
def M74 (F : Nat → Nat) : Fun := ⟨25,2,(K74 F).erase,[.tmp 4,.celln 3 5]⟩
theorem ok74 {F : Nat → Nat} : (K74 F).ok = true := rfl
abbrev K75 (F : Nat → Nat) : KC := .seq (.region [⟨some 3,.a (.box (.tmp 1)),none⟩,⟨some 4,.p (.mov (.val (.nilslice))),none⟩,⟨some 5,.a (.new [.int .i64 (.ofNat 0),.int .i64 (.ofNat 0),.nilslice]),none⟩] [3] [0,3,5])
 (.seq (.region [⟨some 12,.p (.mov (.tmp 0)),none⟩,⟨some 13,.e (.call (F 72) [(.tmp 12)]),none⟩,⟨some 6,.p (.mov (.tmp 13)),none⟩] [] [0,3,5,6])
 (.seq (.region [⟨some 7,.p (.mov (.val (.int .i64 (.ofNat 0)))),none⟩] [] [0,3,5,6,7])
 (.seq (.seq (.region [⟨some 14,.p (.mov (.tmp 0)),none⟩,⟨some 15,.p (.lenb (.tmp 14)),none⟩,⟨some 16,.p (.mov (.val (.int .i64 (.ofNat 0)))),none⟩] [] [0,3,5,6,7,14,15,16])
 (.block 0 (.loop (.seq (.region [⟨some 17,.p (.bin .lss (.tmp 16) (.tmp 15)),none⟩] [] [0,3,5,6,7,14,15,16,17])
 (.seq (.cond (.tmp 17) (.skip)
 (.exit 0))
 (.seq (.block 1 (.seq (.region [⟨some 18,.p (.mov (.tmp 16)),none⟩,⟨some 19,.p (.iaddr 1 (.tmp 14) (.tmp 16)),none⟩,⟨some 20,.load1 (.tmp 19),none⟩,⟨some 8,.p (.mov (.tmp 18)),none⟩,⟨some 9,.p (.mov (.tmp 20)),none⟩] [] [0,3,5,6,7,8,9,14,15,16])
 (.seq (.seq (.region [⟨some 21,.p (.faddr 2 (.tmp 3)),none⟩,⟨some 22,.loadn 8 (.tmp 21),none⟩,⟨some 23,.p (.mov (.tmp 9)),none⟩,⟨some 24,.e (.call (F 65) [(.tmp 22),(.tmp 23)]),none⟩,⟨some 25,.p (.bin .neq (.tmp 24) (.val (.int .i64 (.ofNat 1)))),none⟩] [] [0,3,5,6,7,8,9,14,15,16,25])
 (.cond (.tmp 25) (.exit 1)
 (.skip)))
 (.seq (.region [⟨some 27,.p (.mov (.tmp 9)),none⟩,⟨some 28,.p (.faddr 10 (.tmp 3)),none⟩,⟨some 29,.load1 (.tmp 28),none⟩,⟨some 30,.e (.call (F 35) [(.tmp 27),(.tmp 29)]),none⟩,⟨some 26,.p (.mov (.tmp 30)),none⟩,⟨some 31,.p (.ext (.tmp 26) 0),none⟩,⟨some 32,.p (.ext (.tmp 26) 1),none⟩,⟨some 10,.p (.mov (.tmp 31)),none⟩,⟨some 11,.p (.mov (.tmp 32)),none⟩] [] [0,3,5,6,7,8,10,11,14,15,16])
 (.seq (.seq (.region [⟨some 33,.p (.mov (.tmp 11)),none⟩,⟨some 34,.p (.not (.tmp 33)),none⟩] [] [0,3,5,6,7,8,10,14,15,16,34])
 (.cond (.tmp 34) (.seq (.region [⟨some 35,.p (.mov (.tmp 0)),none⟩,⟨some 36,.p (.build [.int .i64 (.ofNat 0),.int .i64 (.ofNat 0),.nilslice] [(0,1,(.val (.int .i64 (.ofNat 2))))]),none⟩,⟨some 4,.p (.mov (.tmp 35)),none⟩,⟨none,.e (.store 3 (.tmp 5) (.tmp 36)),none⟩] [] [4,5])
 (.ret))
 (.skip)))
 (.seq (.region [⟨some 37,.p (.mov (.tmp 6)),none⟩,⟨some 38,.p (.mov (.tmp 8)),none⟩,⟨some 39,.p (.mov (.tmp 10)),none⟩,⟨some 40,.p (.iaddr 1 (.tmp 37) (.tmp 38)),none⟩,⟨none,.e (.store 1 (.tmp 40) (.tmp 39)),none⟩] [] [0,3,5,6,7,14,15,16])
 (.region [⟨some 41,.p (.mov (.tmp 7)),none⟩,⟨some 42,.p (.bin .add (.tmp 41) (.val (.int .i64 (.ofNat 1)))),none⟩,⟨some 7,.p (.mov (.tmp 42)),none⟩] [] [0,3,5,6,7,14,15,16])))))))
 (.region [⟨some 43,.p (.bin .add (.tmp 16) (.val (.int .i64 (.ofNat 1)))),none⟩,⟨some 16,.p (.mov (.tmp 43)),none⟩] [] [0,3,5,6,7,14,15,16])))))))
 (.seq (.region [⟨some 44,.p (.mov (.tmp 6)),none⟩,⟨some 45,.p (.mov (.tmp 7)),none⟩,⟨some 46,.p (.build [.int .i64 (.ofNat 0),.int .i64 (.ofNat 0),.nilslice] [(1,1,(.tmp 45))]),none⟩,⟨some 4,.p (.mov (.tmp 44)),none⟩,⟨none,.e (.store 3 (.tmp 5) (.tmp 46)),none⟩] [] [4,5])
 (.ret)))))
def M75 (F : Nat → Nat) : Fun := ⟨47,2,(K75 F).erase,[.tmp 4,.celln 3 5]⟩
theorem ok75 {F : Nat → Nat} : (K75 F).ok = true := rfl
abbrev K76 (F : Nat → Nat) : KC := .seq (.region [⟨some 4,.p (.mov (.val (.nilslice))),none⟩] [] [0,1])
 (.seq (.region [⟨some 8,.p (.mov (.tmp 0)),none⟩,⟨some 9,.p (.mov (.tmp 1)),none⟩,⟨some 10,.e (.call (F 82) [(.tmp 8),(.tmp 9)]),none⟩,⟨some 5,.p (.mov (.tmp 10)),none⟩] [] [0,1,5])
 (.seq (.seq (.region [⟨some 11,.p (.mov (.tmp 5)),none⟩,⟨some 12,.p (.bin .eql (.tmp 11) (.val (.int .i64 (.negSucc 0)))),none⟩] [] [0,1,5,12])
 (.cond (.tmp 12) (.seq (.region [⟨some 13,.p (.mov (.tmp 0)),none⟩,⟨some 4,.p (.mov (.tmp 13)),none⟩] [] [4])
 (.ret))
 (.skip)))
 (.seq (.seq (.region [⟨some 14,.p (.mov (.tmp 5)),none⟩,⟨some 15,.p (.bin .add (.tmp 14) (.val (.int .i64 (.ofNat 1)))),none⟩,⟨some 6,.p (.mov (.tmp 15)),none⟩] [] [0,1,5,6])
 (.block 0 (.loop (.seq (.seq (.region [⟨some 16,.p (.mov (.tmp 6)),none⟩,⟨some 17,.p (.mov (.tmp 0)),none⟩,⟨some 18,.p (.lenb (.tmp 17)),none⟩,⟨some 19,.p (.bin .lss (.tmp 16) (.tmp 18)),none⟩] [] [0,1,5,6,19])
 (.cond (.tmp 19) (.skip)
 (.exit 0)))
 (.seq (.block 1 (.seq (.region [⟨some 22,.p (.mov (.tmp 0)),none⟩,⟨some 23,.p (.mov (.tmp 6)),none⟩,⟨some 24,.p (.iaddr 1 (.tmp 22) (.tmp 23)),none⟩,⟨some 25,.load1 (.tmp 24),none⟩,⟨some 7,.p (.mov (.tmp 25)),none⟩] [] [0,1,5,6,7])
 (.seq (.region [⟨some 26,.p (.mov (.tmp 1)),none⟩,⟨some 27,.p (.mov (.tmp 7)),none⟩,⟨some 28,.e (.callv (.tmp 26) [(.tmp 27)]),none⟩,⟨some 29,.p (.not (.tmp 28)),none⟩] [] [0,1,5,6,7,29])
 (.cond (.tmp 29) (.seq (.region [⟨some 30,.p (.mov (.tmp 0)),none⟩,⟨some 31,.p (.mov (.tmp 5)),none⟩,⟨some 32,.p (.mov (.tmp 7)),none⟩,⟨some 33,.p (.iaddr 1 (.tmp 30) (.tmp 31)),none⟩,⟨none,.e (.store 1 (.tmp 33) (.tmp 32)),none⟩] [] [0,1,5,6])
 (.region [⟨some 34,.p (.mov (.tmp 5)),none⟩,⟨some 35,.p (.bin .add (.tmp 34) (.val (.int .i64 (.ofNat 1)))),none⟩,⟨some 5,.p (.mov (.tmp 35)),none⟩] [] [0,1,5,6]))
 (.skip)))))
 (.region [⟨some 20,.p (.mov (.tmp 6)),none⟩,⟨some 21,.p (.bin .add (.tmp 20) (.val (.int .i64 (.ofNat 1)))),none⟩,⟨some 6,.p (.mov (.tmp 21)),none⟩] [] [0,1,5,6]))))))
 (.seq (.region [⟨some 36,.p (.mov (.tmp 0)),none⟩,⟨some 37,.p (.mov (.tmp 5)),none⟩,⟨some 38,.p (.slc 1 (.tmp 36) (some (.tmp 37)) none none),none⟩,⟨none,.e (.clear [.nilslice] (.tmp 38)),none⟩] [] [0,5])
 (.seq (.region [⟨some 39,.p (.mov (.tmp 0)),none⟩,⟨some 40,.p (.mov (.tmp 5)),none⟩,⟨some 41,.p (.slc 1 (.tmp 39) none (some (.tmp 40)) none),none⟩,⟨some 4,.p (.mov (.tmp 41)),none⟩] [] [4])
 (.ret))))))
def M76 (F : Nat → Nat) : Fun := ⟨42,2,(K76 F).erase,[.tmp 4]⟩
theorem ok76 {F : Nat → Nat} : (K76 F).ok = true := rfl
abbrev K77 (_F : Nat → Nat) : KC := .seq (.region [⟨some 2,.p (.mov (.val (.nilslice))),none⟩] [] [0])
 (.seq (.region [⟨some 3,.p (.mov (.tmp 0)),none⟩,⟨some 4,.p (.mov (.tmp 0)),none⟩,⟨some 5,.p (.lenb (.tmp 4)),none⟩,⟨some 6,.p (.mov (.tmp 0)),none⟩,⟨some 7,.p (.lenb (.tmp 6)),none⟩,⟨some 8,.p (.slc 3 (.tmp 3) none (some (.tmp 5)) (some (.tmp 7))),none⟩,⟨some 2,.p (.mov (.tmp 8)),none⟩] [] [2])
 (.ret))
def M77 (F : Nat → Nat) : Fun := ⟨9,1,(K77 F).erase,[.tmp 2]⟩
theorem ok77 {F : Nat → Nat} : (K77 F).ok = true := rfl
abbrev K78 (F : Nat → Nat) : KC := .seq (.region [⟨some 2,.p (.mov (.val (.int .i64 (.ofNat 0)))),none⟩] [] [0])
 (.seq (.region [⟨some 3,.p (.mov (.tmp 0)),none⟩,⟨some 4,.e (.call (F 3) [(.tmp 3),(.val (.int .i64 (.ofNat 0)))]),none⟩,⟨some 5,.p (.field1 2 (.tmp 4)),none⟩,⟨some 2,.p (.mov (.tmp 5)),none⟩] [] [2])
 (.ret))
def M78 (F : Nat → Nat) : Fun := ⟨6,1,(K78 F).erase,[.tmp 2]⟩
theorem ok78 {F : Nat → Nat} : (K78 F).ok = true := rfl
abbrev K79 (_F : Nat → Nat) : KC := .seq (.region [⟨some 6,.p (.mov (.val (.int .i64 (.ofNat 0)))),none⟩,⟨some 7,.p (.mov (.val (.bool false))),none⟩] [] [0,1,2])
 (.seq (.region [⟨some 12,.p (.mov (.tmp 0)),none⟩,⟨some 13,.p (.lenb (.tmp 12)),none⟩,⟨some 8,.p (.mov (.tmp 13)),none⟩] [] [0,1,2,8])
 (.seq (.region [⟨some 14,.p (.mov (.tmp 8)),none⟩,⟨some 9,.p (.mov (.val (.int .i64 (.ofNat 0)))),none⟩,⟨some 10,.p (.mov (.tmp 14)),none⟩] [] [0,1,2,8,9,10])
 (.seq (.block 0 (.loop (.seq (.seq (.region [⟨some 15,.p (.mov (.tmp 9)),none⟩,⟨some 16,.p (.mov (.tmp 10)),none⟩,⟨some 17,.p (.bin .lss (.tmp 15) (.tmp 16)),none⟩] [] [0,1,2,8,9,10,17])
 (.cond (.tmp 17) (.skip)
 (.exit 0)))
 (.block 1 (.seq (.region [⟨some 18,.p (.mov (.tmp 9)),none⟩,⟨some 19,.p (.mov (.tmp 10)),none⟩,⟨some 20,.p (.bin .add (.tmp 18) (.tmp 19)),none⟩,⟨some 21,.p (.conv (.int .u64) (.tmp 20)),none⟩,⟨some 22,.p (.bin .shr (.tmp 21) (.val (.int .u64 (.ofNat 1)))),none⟩,⟨some 23,.p (.conv (.int .i64) (.tmp 22)),none⟩,⟨some 11,.p (.mov (.tmp 23)),none⟩] [] [0,1,2,8,9,10,11])
 (.seq (.region [⟨some 24,.p (.mov (.tmp 2)),none⟩,⟨some 25,.p (.mov (.tmp 0)),none⟩,⟨some 26,.p (.mov (.tmp 11)),none⟩,⟨some 27,.p (.iaddr 1 (.tmp 25) (.tmp 26)),none⟩,⟨some 28,.load1 (.tmp 27),none⟩,⟨some 29,.p (.mov (.tmp 1)),none⟩,⟨some 30,.e (.callv (.tmp 24) [(.tmp 28),(.tmp 29)]),none⟩,⟨some 31,.p (.bin .lss (.tmp 30) (.val (.int .i64 (.ofNat 0)))),none⟩] [] [0,1,2,8,9,10,11,31])
 (.cond (.tmp 31) (.region [⟨some 32,.p (.mov (.tmp 11)),none⟩,⟨some 33,.p (.bin .add (.tmp 32) (.val (.int .i64 (.ofNat 1)))),none⟩,⟨some 9,.p (.mov (.tmp 33)),none⟩] [] [0,1,2,8,9,10])
 (.region [⟨some 34,.p (.mov (.tmp 11)),none⟩,⟨some 10,.p (.mov (.tmp 34)),none⟩] [] [0,1,2,8,9,10]))))))))
 (.seq (.region [⟨some 35,.p (.mov (.tmp 9)),none⟩,⟨some 36,.p (.mov (.tmp 9)),none⟩,⟨some 37,.p (.mov (.tmp 8)),none⟩,⟨some 38,.p (.bin .lss (.tmp 36) (.tmp 37)),none⟩,⟨some 39,.p (.mov (.tmp 38)),none⟩,⟨some 40,.p (.mov (.tmp 2)),(some (39,true))⟩,⟨some 41,.p (.mov (.tmp 0)),(some (39,true))⟩,⟨some 42,.p (.mov (.tmp 9)),(some (39,true))⟩,⟨some 43,.p (.iaddr 1 (.tmp 41) (.tmp 42)),(some (39,true))⟩,⟨some 44,.load1 (.tmp 43),(some (39,true))⟩,⟨some 45,.p (.mov (.tmp 1)),(some (39,true))⟩,⟨some 46,.e (.callv (.tmp 40) [(.tmp 44),(.tmp 45)]),(some (39,true))⟩,⟨some 47,.p (.bin .eql (.tmp 46) (.val (.int .i64 (.ofNat 0)))),(some (39,true))⟩,⟨some 48,.p (.pick (.tmp 39) (.tmp 47) (.val (.bool false))),none⟩,⟨some 6,.p (.mov (.tmp 35)),none⟩,⟨some 7,.p (.mov (.tmp 48)),none⟩] [] [6,7])
 (.ret)))))
def M79 (F : Nat → Nat) : Fun := ⟨49,3,(K79 F).erase,[.tmp 6,.tmp 7]⟩
theorem ok79 {F : Nat → Nat} : (K79 F).ok = true := rfl
abbrev K80 (F : Nat → Nat) : KC := .seq (.region [⟨some 4,.p (.mov (.val (.int .i64 (.ofNat 0)))),none⟩] [] [0,1])
 (.seq (.region [⟨some 5,.p (.mov (.tmp 0)),none⟩,⟨some 6,.e (.call (F 78) [(.tmp 5)]),none⟩,⟨some 7,.p (.mov (.tmp 1)),none⟩,⟨some 8,.e (.call (F 10) [(.tmp 6),(.tmp 7)]),none⟩,⟨some 4,.p (.mov (.tmp 8)),none⟩] [] [4])
 (.ret))
def M80 (F : Nat → Nat) : Fun := ⟨9,2,(K80 F).erase,[.tmp 4]⟩
theorem ok80 {F : Nat → Nat} : (K80 F).ok = true := rfl
abbrev K81 (F : Nat → Nat) : KC := .seq (.region [⟨some 6,.p (.mov (.val (.nilslice))),none⟩] [] [0,1,2])
 (.seq (.region [⟨some 10,.p (.mov (.tmp 0)),none⟩,⟨some 11,.p (.mov (.tmp 1)),none⟩,⟨some 12,.p (.slc 1 (.tmp 10) (some (.tmp 11)) none none),none⟩] [] [0,1,2])
 (.seq (.region [⟨some 13,.p (.mov (.tmp 2)),none⟩,⟨some 14,.p (.lenb (.tmp 13)),none⟩,⟨some 7,.p (.mov (.tmp 14)),none⟩] [] [0,1,2,7])
 (.seq (.seq (.region [⟨some 15,.p (.mov (.tmp 7)),none⟩,⟨some 16,.p (.bin .eql (.tmp 15) (.val (.int .i64 (.ofNat 0)))),none⟩] [] [0,1,2,7,16])
 (.cond (.tmp 16) (.seq (.region [⟨some 17,.p (.mov (.tmp 0)),none⟩,⟨some 6,.p (.mov (.tmp 17)),none⟩] [] [6])
 (.ret))
 (.skip)))
 (.seq (.region [⟨some 18,.p (.mov (.tmp 0)),none⟩,⟨some 19,.p (.lenb (.tmp 18)),none⟩,⟨some 8,.p (.mov (.tmp 19)),none⟩] [] [0,1,2,7,8])
 (.seq (.seq (.region [⟨some 20,.p (.mov (.tmp 1)),none⟩,⟨some 21,.p (.mov (.tmp 8)),none⟩,⟨some 22,.p (.bin .eql (.tmp 20) (.tmp 21)),none⟩] [] [0,1,2,7,8,22])
 (.cond (.tmp 22) (.seq (.region [⟨some 23,.p (.mov (.tmp 0)),none⟩,⟨some 24,.p (.mov (.tmp 2)),none⟩,⟨some 25,.e (.append 1 24 (.tmp 23) (.tmp 24)),none⟩,⟨some 6,.p (.mov (.tmp 25)),none⟩] [] [6])
 (.ret))
 (.skip)))
 (.seq (.seq (.region [⟨some 26,.p (.mov (.tmp 8)),none⟩,⟨some 27,.p (.mov (.tmp 7)),none⟩,⟨some 28,.p (.bin .add (.tmp 26) (.tmp 27)),none⟩,⟨some 29,.p (.mov (.tmp 0)),none⟩,⟨some 30,.p (.caps (.tmp 29)),none⟩,⟨some 31,.p (.bin .gtr (.tmp 28) (.tmp 30)),none⟩] [] [0,1,2,7,8,31])
 (.cond (.tmp 31) (.seq (.region [⟨some 32,.p (.mov (.tmp 0)),none⟩,⟨some 33,.p (.mov (.tmp 1)),none⟩,⟨some 34,.p (.slc 1 (.tmp 32) none (some (.tmp 33)) none),none⟩,⟨some 35,.p (.mov (.tmp 8)),none⟩,⟨some 36,.p (.mov (.tmp 7)),none⟩,⟨some 37,.p (.bin .add (.tmp 35) (.tmp 36)),none⟩,⟨some 38,.p (.mov (.tmp 1)),none⟩,⟨some 39,.p (.bin .sub (.tmp 37) (.tmp 38)),none⟩,⟨some 40,.e (.appendz [.nilslice] 1 24 (.tmp 34) (.tmp 39)),none⟩,⟨some 9,.p (.mov (.tmp 40)),none⟩] [] [0,1,2,7,9])
 (.seq (.region [⟨some 41,.p (.mov (.tmp 9)),none⟩,⟨some 42,.p (.mov (.tmp 1)),none⟩,⟨some 43,.p (.slc 1 (.tmp 41) (some (.tmp 42)) none none),none⟩,⟨some 44,.p (.mov (.tmp 2)),none⟩,⟨some 45,.e (.copy 1 (.tmp 43) (.tmp 44)),none⟩] [] [0,1,7,9])
 (.seq (.dregion [⟨⟨some 46,.p (.mov (.tmp 9)),none⟩,0,8⟩,⟨⟨some 47,.p (.mov (.tmp 1)),none⟩,0,8⟩,⟨⟨some 48,.p (.mov (.tmp 7)),none⟩,0,8⟩,⟨⟨some 49,.p (.bin .add (.tmp 47) (.tmp 48)),none⟩,0,8⟩,⟨⟨some 50,.p (.slc 1 (.tmp 46) (some (.tmp 49)) none none),none⟩,0,8⟩,⟨⟨some 51,.p (.mov (.tmp 0)),none⟩,0,8⟩,⟨⟨some 52,.p (.mov (.tmp 1)),none⟩,0,8⟩,⟨⟨some 53,.p (.slc 1 (.tmp 51) (some (.tmp 52)) none none),none⟩,0,8⟩,⟨⟨some 54,.e (.copy 1 (.tmp 50) (.tmp 53)),none⟩,0,9⟩] [9])
 (.seq (.region [⟨some 55,.p (.mov (.tmp 9)),none⟩,⟨some 6,.p (.mov (.tmp 55)),none⟩] [] [6])
 (.ret)))))
 (.skip)))
 (.seq (.region [⟨some 56,.p (.mov (.tmp 0)),none⟩,⟨some 57,.p (.mov (.tmp 8)),none⟩,⟨some 58,.p (.mov (.tmp 7)),none⟩,⟨some 59,.p (.bin .add (.tmp 57) (.tmp 58)),none⟩,⟨some 60,.p (.slc 1 (.tmp 56) none (some (.tmp 59)) none),none⟩,⟨some 0,.p (.mov (.tmp 60)),none⟩] [] [0,1,2,7,8])
 (.seq (.seq (.region [⟨some 61,.p (.mov (.tmp 2)),none⟩,⟨some 62,.p (.mov (.tmp 0)),none⟩,⟨some 63,.p (.mov (.tmp 1)),none⟩,⟨some 64,.p (.mov (.tmp 7)),none⟩,⟨some 65,.p (.bin .add (.tmp 63) (.tmp 64)),none⟩,⟨some 66,.p (.slc 1 (.tmp 62) (some (.tmp 65)) none none),none⟩,⟨some 67,.e (.extern (F 83) [(.tmp 61),(.tmp 66)]),none⟩,⟨some 68,.p (.not (.tmp 67)),none⟩] [] [0,1,2,7,8,68])
 (.cond (.tmp 68) (.seq (.dregion [⟨⟨some 69,.p (.mov (.tmp 0)),none⟩,0,8⟩,⟨⟨some 70,.p (.mov (.tmp 1)),none⟩,0,8⟩,⟨⟨some 71,.p (.mov (.tmp 7)),none⟩,0,8⟩,⟨⟨some 72,.p (.bin .add (.tmp 70) (.tmp 71)),none⟩,0,8⟩,⟨⟨some 73,.p (.slc 1 (.tmp 69) (some (.tmp 72)) none none),none⟩,0,8⟩,⟨⟨some 74,.p (.mov (.tmp 0)),none⟩,0,8⟩,⟨⟨some 75,.p (.mov (.tmp 1)),none⟩,0,8⟩,⟨⟨some 76,.p (.slc 1 (.tmp 74) (some (.tmp 75)) none none),none⟩,0,8⟩,⟨⟨some 77,.e (.copy 1 (.tmp 73) (.tmp 76)),none⟩,0,9⟩] [0,1,2])
 (.seq (.region [⟨some 78,.p (.mov (.tmp 0)),none⟩,⟨some 79,.p (.mov (.tmp 1)),none⟩,⟨some 80,.p (.slc 1 (.tmp 78) (some (.tmp 79)) none none),none⟩,⟨some 81,.p (.mov (.tmp 2)),none⟩,⟨some 82,.e (.copy 1 (.tmp 80) (.tmp 81)),none⟩] [] [0])
 (.seq (.region [⟨some 83,.p (.mov (.tmp 0)),none⟩,⟨some 6,.p (.mov (.tmp 83)),none⟩] [] [6])
 (.ret))))
 (.skip)))
 (.seq (.region [⟨some 84,.p (.mov (.tmp 0)),none⟩,⟨some 85,.p (.mov (.tmp 8)),none⟩,⟨some 86,.p (.slc 1 (.tmp 84) (some (.tmp 85)) none none),none⟩,⟨some 87,.p (.mov (.tmp 2)),none⟩,⟨some 88,.e (.copy 1 (.tmp 86) (.tmp 87)),none⟩] [] [0,1,7])
 (.seq (.region [⟨some 89,.p (.mov (.tmp 0)),none⟩,⟨some 90,.p (.mov (.tmp 1)),none⟩,⟨some 91,.p (.slc 1 (.tmp 89) (some (.tmp 90)) none none),none⟩,⟨some 92,.p (.mov (.tmp 7)),none⟩,⟨some 93,.e (.call (F 84) [(.tmp 91),(.tmp 92)]),none⟩] [] [0])
 (.seq (.region [⟨some 94,.p (.mov (.tmp 0)),none⟩,⟨some 6,.p (.mov (.tmp 94)),none⟩] [] [6])
 (.ret))))))))))))
def M81 (F : Nat → Nat) : Fun := ⟨95,3,(K81 F).erase,[.tmp 6]⟩
theorem ok81 {F : Nat → Nat} : (K81 F).ok = true := rfl
abbrev K82 (_F : Nat → Nat) : KC := .seq (.region [⟨some 4,.p (.mov (.val (.int .i64 (.ofNat 0)))),none⟩] [] [0,1])
 (.seq (.seq (.region [⟨some 6,.p (.mov (.tmp 0)),none⟩,⟨some 7,.p (.lenb (.tmp 6)),none⟩,⟨some 8,.p (.mov (.val (.int .i64 (.ofNat 0)))),none⟩] [] [0,1,7,8])
 (.block 0 (.loop (.seq (.region [⟨some 9,.p (.bin .lss (.tmp 8) (.tmp 7)),none⟩] [] [0,1,7,8,9])
 (.seq (.cond (.tmp 9) (.skip)
 (.exit 0))
 (.seq (.block 1 (.seq (.region [⟨some 10,.p (.mov (.tmp 8)),none⟩,⟨some 5,.p (.mov (.tmp 10)),none⟩] [] [0,1,5,7,8])
 (.seq (.region [⟨some 11,.p (.mov (.tmp 1)),none⟩,⟨some 12,.p (.mov (.tmp 0)),none⟩,⟨some 13,.p (.mov (.tmp 5)),none⟩,⟨some 14,.p (.iaddr 1 (.tmp 12) (.tmp 13)),none⟩,⟨some 15,.load1 (.tmp 14),none⟩,⟨some 16,.e (.callv (.tmp 11) [(.tmp 15)]),none⟩] [] [0,1,5,7,8,16])
 (.cond (.tmp 16) (.seq (.region [⟨some 17,.p (.mov (.tmp 5)),none⟩,⟨some 4,.p (.mov (.tmp 17)),none⟩] [] [4])
 (.ret))
 (.skip)))))
 (.region [⟨some 18,.p (.bin .add (.tmp 8) (.val (.int .i64 (.ofNat 1)))),none⟩,⟨some 8,.p (.mov (.tmp 18)),none⟩] [] [0,1,7,8])))))))
 (.seq (.region [⟨some 4,.p (.mov (.val (.int .i64 (.negSucc 0)))),none⟩] [] [4])
 (.ret)))
def M82 (F : Nat → Nat) : Fun := ⟨19,2,(K82 F).erase,[.tmp 4]⟩
theorem ok82 {F : Nat → Nat} : (K82 F).ok = true := rfl
abbrev K84 (F : Nat → Nat) : KC := .region [⟨some 4,.p (.mov (.tmp 0)),none⟩,⟨some 5,.p (.mov (.tmp 0)),none⟩,⟨some 6,.p (.lenb (.tmp 5)),none⟩,⟨some 7,.p (.mov (.tmp 1)),none⟩,⟨some 8,.p (.bin .sub (.tmp 6) (.tmp 7)),none⟩,⟨some 9,.e (.call (F 85) [(.tmp 4),(.tmp 8)]),none⟩] [] []
def M84 (F : Nat → Nat) : Fun := ⟨10,2,(K84 F).erase,[]⟩
abbrev K85 (F : Nat → Nat) : KC := .seq (.region [⟨some 4,.p (.mov (.tmp 0)),none⟩,⟨some 5,.p (.mov (.tmp 1)),none⟩,⟨some 6,.p (.slc 1 (.tmp 4) none (some (.tmp 5)) none),none⟩,⟨some 7,.e (.call (F 86) [(.tmp 6)]),none⟩] [] [0,1])
 (.seq (.region [⟨some 8,.p (.mov (.tmp 0)),none⟩,⟨some 9,.p (.mov (.tmp 1)),none⟩,⟨some 10,.p (.slc 1 (.tmp 8) (some (.tmp 9)) none none),none⟩,⟨some 11,.e (.call (F 86) [(.tmp 10)]),none⟩] [] [0])
 (.region [⟨some 12,.p (.mov (.tmp 0)),none⟩,⟨some 13,.e (.call (F 86) [(.tmp 12)]),none⟩] [] []))
def M85 (F : Nat → Nat) : Fun := ⟨14,2,(K85 F).erase,[]⟩
abbrev K86 (_F : Nat → Nat) : KC := .seq (.region [⟨some 4,.p (.mov (.tmp 0)),none⟩,⟨some 5,.p (.lenb (.tmp 4)),none⟩,⟨some 6,.p (.bin .sub (.tmp 5) (.val (.int .i64 (.ofNat 1)))),none⟩,⟨some 2,.p (.mov (.val (.int .i64 (.ofNat 0)))),none⟩,⟨some 3,.p (.mov (.tmp 6)),none⟩] [] [0,2,3])
 (.block 0 (.loop (.seq (.seq (.region [⟨some 7,.p (.mov (.tmp 2)),none⟩,⟨some 8,.p (.mov (.tmp 3)),none⟩,⟨some 9,.p (.bin .lss (.tmp 7) (.tmp 8)),none⟩] [] [0,2,3,9])
 (.cond (.tmp 9) (.skip)
 (.exit 0)))
 (.seq (.block 1 (.dregion [⟨⟨some 14,.p (.mov (.tmp 0)),none⟩,0,11⟩,⟨⟨some 15,.p (.mov (.tmp 2)),none⟩,0,11⟩,⟨⟨some 18,.p (.mov (.tmp 0)),none⟩,0,11⟩,⟨⟨some 19,.p (.mov (.tmp 3)),none⟩,0,11⟩,⟨⟨some 20,.p (.iaddr 1 (.tmp 18) (.tmp 19)),none⟩,0,11⟩,⟨⟨some 21,.load1 (.tmp 20),none⟩,0,11⟩,⟨⟨some 22,.p (.mov (.tmp 0)),none⟩,0,11⟩,⟨⟨some 23,.p (.mov (.tmp 2)),none⟩,0,11⟩,⟨⟨some 24,.p (.iaddr 1 (.tmp 22) (.tmp 23)),none⟩,0,11⟩,⟨⟨some 25,.load1 (.tmp 24),none⟩,0,11⟩,⟨⟨some 26,.p (.iaddr 1 (.tmp 14) (.tmp 15)),none⟩,0,11⟩,⟨⟨none,.e (.store 1 (.tmp 26) (.tmp 21)),none⟩,0,15⟩,⟨⟨some 16,.p (.mov (.tmp 0)),none⟩,0,15⟩,⟨⟨some 17,.p (.mov (.tmp 3)),none⟩,0,15⟩,⟨⟨some 27,.p (.iaddr 1 (.tmp 16) (.tmp 17)),none⟩,12,15⟩,⟨⟨none,.e (.store 1 (.tmp 27) (.tmp 25)),none⟩,12,16⟩] [0,2,3]))
 (.region [⟨some 10,.p (.mov (.tmp 2)),none⟩,⟨some 11,.p (.bin .add (.tmp 10) (.val (.int .i64 (.ofNat 1)))),none⟩,⟨some 12,.p (.mov (.tmp 3)),none⟩,⟨some 13,.p (.bin .sub (.tmp 12) (.val (.int .i64 (.ofNat 1)))),none⟩,⟨some 2,.p (.mov (.tmp 11)),none⟩,⟨some 3,.p (.mov (.tmp 13)),none⟩] [] [0,2,3])))))
def M86 (F : Nat → Nat) : Fun := ⟨28,1,(K86 F).erase,[]⟩
end Go.Lib
end

section
namespace Go.Lib
open Go.Vm Go.Dv
set_option maxRecDepth 100000
abbrev K65 (F : Nat → Nat) : KC := .seq (.region [⟨some 2,.a (.box (.tmp 0)),none⟩,⟨some 4,.p (.mov (.val (.int .i64 (.ofNat 0)))),none⟩] [2] [1,2])
 (.seq (.seq (.region [⟨some 6,.p (.faddr 0 (.tmp 2)),none⟩,⟨some 7,.load1 (.tmp 6),none⟩] [] [1,2,7])
 (.block 0 (.seq (.region [⟨some 9,.p (.bin .eql (.tmp 7) (.val (.int .i64 (.ofNat 1)))),none⟩,⟨some 8,.p (.mov (.tmp 9)),none⟩] [] [1,2,7,8])
 (.cond (.tmp 8) (.seq (.region [⟨some 4,.p (.mov (.val (.int .i64 (.ofNat 1)))),none⟩] [] [4])
 (.ret))
 (.seq (.region [⟨some 11,.p (.bin .eql (.tmp 7) (.val (.int .i64 (.ofNat 2)))),none⟩,⟨some 10,.p (.mov (.tmp 11)),none⟩] [] [1,2,7,10])
 (.cond (.tmp 10) (.seq (.region [⟨some 12,.p (.mov (.tmp 1)),none⟩,⟨some 13,.p (.faddr 1 (.tmp 2)),none⟩,⟨some 14,.load1 (.tmp 13),none⟩,⟨some 15,.e (.call (F 3) [(.tmp 12),(.tmp 14)]),none⟩,⟨some 5,.a (.new [.bool false,.int .i64 (.ofNat 0),.int .i64 (.ofNat 0),.nilslice]),none⟩,⟨none,.e (.store 4 (.tmp 5) (.tmp 15)),none⟩] [] [2,5])
 (.seq (.seq (.region [⟨some 16,.p (.faddr 0 (.tmp 5)),none⟩,⟨some 17,.load1 (.tmp 16),none⟩] [] [2,5,17])
 (.cond (.tmp 17) (.seq (.region [⟨some 4,.p (.mov (.val (.int .i64 (.ofNat 3)))),none⟩] [] [4])
 (.ret))
 (.skip)))
 (.seq (.dregion [⟨⟨some 20,.loadn 4 (.tmp 5),none⟩,0,3⟩,⟨⟨some 21,.p (.faddr 3 (.tmp 2)),none⟩,0,3⟩,⟨⟨some 22,.loadn 4 (.tmp 21),none⟩,0,3⟩,⟨⟨some 23,.e (.call (F 1) [(.tmp 20),(.tmp 22)]),none⟩,0,6⟩,⟨⟨some 18,.p (.faddr 2 (.tmp 2)),none⟩,0,6⟩,⟨⟨some 19,.load1 (.tmp 18),none⟩,0,6⟩,⟨⟨some 24,.e (.call (F 66) [(.tmp 19),(.tmp 23)]),none⟩,4,7⟩,⟨⟨some 25,.e (.call (F 67) [(.tmp 24)]),none⟩,7,9⟩,⟨⟨some 4,.p (.mov (.tmp 25)),none⟩,8,9⟩] [4])
 (.ret))))
 (.seq (.region [⟨some 27,.p (.bin .eql (.tmp 7) (.val (.int .i64 (.ofNat 3)))),none⟩,⟨some 26,.p (.mov (.tmp 27)),none⟩] [] [1,2,7,26])
 (.cond (.tmp 26) (.seq (.region [⟨some 28,.p (.mov (.tmp 1)),none⟩,⟨some 29,.p (.faddr 1 (.tmp 2)),none⟩,⟨some 30,.load1 (.tmp 29),none⟩,⟨some 31,.e (.call (F 3) [(.tmp 28),(.tmp 30)]),none⟩,⟨some 32,.p (.field1 0 (.tmp 31)),none⟩,⟨some 33,.e (.call (F 67) [(.tmp 32)]),none⟩,⟨some 4,.p (.mov (.tmp 33)),none⟩] [] [4])
 (.ret))
 (.seq (.region [⟨some 35,.p (.bin .eql (.tmp 7) (.val (.int .i64 (.ofNat 4)))),none⟩,⟨some 34,.p (.mov (.tmp 35)),none⟩] [] [1,2,7,34])
 (.cond (.tmp 34) (.seq (.region [⟨some 36,.loadn 8 (.tmp 2),none⟩,⟨some 37,.p (.mov (.tmp 1)),none⟩,⟨some 38,.e (.call (F 68) [(.tmp 36),(.tmp 37),(.val (.int .i64 (.ofNat 2))),(.val (.int .i64 (.ofNat 1)))]),none⟩,⟨some 4,.p (.mov (.tmp 38)),none⟩] [] [4])
 (.ret))
 (.seq (.region [⟨some 40,.p (.bin .eql (.tmp 7) (.val (.int .i64 (.ofNat 5)))),none⟩,⟨some 39,.p (.mov (.tmp 40)),none⟩] [] [1,2,7,39])
 (.cond (.tmp 39) (.seq (.region [⟨some 41,.loadn 8 (.tmp 2),none⟩,⟨some 42,.p (.mov (.tmp 1)),none⟩,⟨some 43,.e (.call (F 68) [(.tmp 41),(.tmp 42),(.val (.int .i64 (.ofNat 1))),(.val (.int .i64 (.ofNat 2)))]),none⟩,⟨some 4,.p (.mov (.tmp 43)),none⟩] [] [4])
 (.ret))
 (.seq (.region [⟨some 45,.p (.bin .eql (.tmp 7) (.val (.int .i64 (.ofNat 6)))),none⟩,⟨some 44,.p (.mov (.tmp 45)),none⟩] [] [1,2,44])
 (.cond (.tmp 44) (.seq (.region [⟨some 46,.p (.faddr 7 (.tmp 2)),none⟩,⟨some 47,.load1 (.tmp 46),none⟩,⟨some 48,.p (.lenb (.tmp 47)),none⟩,⟨some 49,.p (.bin .gtr (.tmp 48) (.val (.int .i64 (.ofNat 0)))),none⟩] [] [1,2,49])
 (.cond (.tmp 49) (.seq (.region [⟨some 50,.p (.faddr 7 (.tmp 2)),none⟩,⟨some 51,.load1 (.tmp 50),none⟩,⟨some 52,.p (.iaddr 8 (.tmp 51) (.val (.int .i64 (.ofNat 0)))),none⟩,⟨some 53,.loadn 8 (.tmp 52),none⟩,⟨some 54,.p (.mov (.tmp 1)),none⟩,⟨some 55,.e (.call (F 65) [(.tmp 53),(.tmp 54)]),none⟩,⟨some 56,.e (.call (F 69) [(.tmp 55)]),none⟩,⟨some 4,.p (.mov (.tmp 56)),none⟩] [] [4])
 (.ret))
 (.skip)))
 (.skip)))))))))))))))
 (.seq (.region [⟨some 4,.p (.mov (.val (.int .i64 (.ofNat 3)))),none⟩] [] [4])
 (.ret)))
def M65 (F : Nat → Nat) : Fun := ⟨57,2,(K65 F).erase,[.tmp 4]⟩
theorem ok65 {F : Nat → Nat} : (K65 F).ok = true := rfl
abbrev K66 (_F : Nat → Nat) : KC := .seq (.region [⟨some 4,.p (.mov (.val (.bool false))),none⟩] [] [0,1])
 (.seq (.seq (.region [⟨some 5,.p (.mov (.tmp 0)),none⟩] [] [1,5])
 (.block 0 (.seq (.region [⟨some 7,.p (.bin .eql (.tmp 5) (.val (.int .i64 (.ofNat 1)))),none⟩,⟨some 6,.p (.mov (.tmp 7)),none⟩] [] [1,5,6])
 (.cond (.tmp 6) (.seq (.region [⟨some 8,.p (.mov (.tmp 1)),none⟩,⟨some 9,.p (.bin .eql (.tmp 8) (.val (.int .i64 (.ofNat 0)))),none⟩,⟨some 4,.p (.mov (.tmp 9)),none⟩] [] [4])
 (.ret))
 (.seq (.region [⟨some 11,.p (.bin .eql (.tmp 5) (.val (.int .i64 (.ofNat 2)))),none⟩,⟨some 10,.p (.mov (.tmp 11)),none⟩] [] [1,5,10])
 (.cond (.tmp 10) (.seq (.region [⟨some 12,.p (.mov (.tmp 1)),none⟩,⟨some 13,.p (.bin .neq (.tmp 12) (.val (.int .i64 (.ofNat 0)))),none⟩,⟨some 4,.p (.mov (.tmp 13)),none⟩] [] [4])
 (.ret))
 (.seq (.region [⟨some 15,.p (.bin .eql (.tmp 5) (.val (.int .i64 (.ofNat 3)))),none⟩,⟨some 14,.p (.mov (.tmp 15)),none⟩] [] [1,5,14])
 (.cond (.tmp 14) (.seq (.region [⟨some 16,.p (.mov (.tmp 1)),none⟩,⟨some 17,.p (.bin .lss (.tmp 16) (.val (.int .i64 (.ofNat 0)))),none⟩,⟨some 4,.p (.mov (.tmp 17)),none⟩] [] [4])
 (.ret))
 (.seq (.region [⟨some 19,.p (.bin .eql (.tmp 5) (.val (.int .i64 (.ofNat 4)))),none⟩,⟨some 18,.p (.mov (.tmp 19)),none⟩] [] [1,5,18])
 (.cond (.tmp 18) (.seq (.region [⟨some 20,.p (.mov (.tmp 1)),none⟩,⟨some 21,.p (.bin .leq (.tmp 20) (.val (.int .i64 (.ofNat 0)))),none⟩,⟨some 4,.p (.mov (.tmp 21)),none⟩] [] [4])
 (.ret))
 (.seq (.region [⟨some 23,.p (.bin .eql (.tmp 5) (.val (.int .i64 (.ofNat 5)))),none⟩,⟨some 22,.p (.mov (.tmp 23)),none⟩] [] [1,5,22])
 (.cond (.tmp 22) (.seq (.region [⟨some 24,.p (.mov (.tmp 1)),none⟩,⟨some 25,.p (.bin .gtr (.tmp 24) (.val (.int .i64 (.ofNat 0)))),none⟩,⟨some 4,.p (.mov (.tmp 25)),none⟩] [] [4])
 (.ret))
 (.seq (.region [⟨some 27,.p (.bin .eql (.tmp 5) (.val (.int .i64 (.ofNat 6)))),none⟩,⟨some 26,.p (.mov (.tmp 27)),none⟩] [] [1,26])
 (.cond (.tmp 26) (.seq (.region [⟨some 28,.p (.mov (.tmp 1)),none⟩,⟨some 29,.p (.bin .geq (.tmp 28) (.val (.int .i64 (.ofNat 0)))),none⟩,⟨some 4,.p (.mov (.tmp 29)),none⟩] [] [4])
 (.ret))
 (.skip)))))))))))))))
 (.seq (.region [⟨some 4,.p (.mov (.val (.bool false))),none⟩] [] [4])
 (.ret)))
def M66 (F : Nat → Nat) : Fun := ⟨30,2,(K66 F).erase,[.tmp 4]⟩
theorem ok66 {F : Nat → Nat} : (K66 F).ok = true := rfl
abbrev K67 (_F : Nat → Nat) : KC := .seq (.region [⟨some 2,.p (.mov (.val (.int .i64 (.ofNat 0)))),none⟩] [] [0])
 (.seq (.seq (.region [⟨some 3,.p (.mov (.tmp 0)),none⟩] [] [3])
 (.cond (.tmp 3) (.seq (.region [⟨some 2,.p (.mov (.val (.int .i64 (.ofNat 1)))),none⟩] [] [2])
 (.ret))
 (.skip)))
 (.seq (.region [⟨some 2,.p (.mov (.val (.int .i64 (.ofNat 2)))),none⟩] [] [2])
 (.ret)))
def M67 (F : Nat → Nat) : Fun := ⟨4,1,(K67 F).erase,[.tmp 2]⟩
theorem ok67 {F : Nat → Nat} : (K67 F).ok = true := rfl
abbrev K68 (F : Nat → Nat) : KC := .seq (.region [⟨some 4,.a (.box (.tmp 0)),none⟩,⟨some 8,.p (.mov (.val (.int .i64 (.ofNat 0)))),none⟩] [4] [1,2,3,4])
 (.seq (.region [⟨some 13,.p (.mov (.tmp 3)),none⟩,⟨some 9,.p (.mov (.tmp 13)),none⟩] [] [1,2,4,9])
 (.seq (.seq (.region [⟨some 14,.p (.faddr 7 (.tmp 4)),none⟩,⟨some 15,.load1 (.tmp 14),none⟩,⟨some 16,.p (.lenb (.tmp 15)),none⟩,⟨some 17,.p (.mov (.val (.int .i64 (.ofNat 0)))),none⟩] [] [1,2,9,15,16,17])
 (.block 0 (.loop (.seq (.region [⟨some 18,.p (.bin .lss (.tmp 17) (.tmp 16)),none⟩] [] [1,2,9,15,16,17,18])
 (.seq (.cond (.tmp 18) (.skip)
 (.exit 0))
 (.seq (.block 1 (.seq (.region [⟨some 19,.p (.iaddr 8 (.tmp 15) (.tmp 17)),none⟩,⟨some 20,.loadn 8 (.tmp 19),none⟩,⟨some 11,.a (.new [.int .i64 (.ofNat 0),.int .i64 (.ofNat 0),.int .i64 (.ofNat 0),.bool false,.int .i64 (.ofNat 0),.int .i64 (.ofNat 0),.nilslice,.nilslice]),none⟩,⟨none,.e (.store 8 (.tmp 11) (.tmp 20)),none⟩] [] [1,2,9,11,15,16,17])
 (.seq (.region [⟨some 21,.loadn 8 (.tmp 11),none⟩,⟨some 22,.p (.mov (.tmp 1)),none⟩,⟨some 23,.e (.call (F 65) [(.tmp 21),(.tmp 22)]),none⟩,⟨some 12,.p (.mov (.tmp 23)),none⟩] [] [1,2,9,12,15,16,17])
 (.seq (.region [⟨some 24,.p (.mov (.tmp 12)),none⟩] [] [1,2,9,15,16,17,24])
 (.block 2 (.seq (.region [⟨some 26,.p (.mov (.tmp 2)),none⟩,⟨some 27,.p (.bin .eql (.tmp 24) (.tmp 26)),none⟩,⟨some 25,.p (.mov (.tmp 27)),none⟩] [] [1,2,9,15,16,17,24,25])
 (.cond (.tmp 25) (.seq (.region [⟨some 28,.p (.mov (.tmp 2)),none⟩,⟨some 8,.p (.mov (.tmp 28)),none⟩] [] [8])
 (.ret))
 (.seq (.region [⟨some 30,.p (.bin .eql (.tmp 24) (.val (.int .i64 (.ofNat 3)))),none⟩,⟨some 29,.p (.mov (.tmp 30)),none⟩] [] [1,2,9,15,16,17,29])
 (.cond (.tmp 29) (.region [⟨some 9,.p (.mov (.val (.int .i64 (.ofNat 3)))),none⟩] [] [1,2,9,15,16,17])
 (.skip))))))))))
 (.region [⟨some 31,.p (.bin .add (.tmp 17) (.val (.int .i64 (.ofNat 1)))),none⟩,⟨some 17,.p (.mov (.tmp 31)),none⟩] [] [1,2,9,15,16,17])))))))
 (.seq (.region [⟨some 32,.p (.mov (.tmp 9)),none⟩,⟨some 8,.p (.mov (.tmp 32)),none⟩] [] [8])
 (.ret))))
def M68 (F : Nat → Nat) : Fun := ⟨33,4,(K68 F).erase,[.tmp 8]⟩
theorem ok68 {F : Nat → Nat} : (K68 F).ok = true := rfl
abbrev K69 (_F : Nat → Nat) : KC := .seq (.region [⟨some 2,.p (.mov (.val (.int .i64 (.ofNat 0)))),none⟩] [] [0])
 (.seq (.seq (.region [⟨some 3,.p (.mov (.tmp 0)),none⟩] [] [3])
 (.block 0 (.seq (.region [⟨some 5,.p (.bin .eql (.tmp 3) (.val (.int .i64 (.ofNat 1)))),none⟩,⟨some 4,.p (.mov (.tmp 5)),none⟩] [] [3,4])
 (.cond (.tmp 4) (.seq (.region [⟨some 2,.p (.mov (.val (.int .i64 (.ofNat 2)))),none⟩] [] [2])
 (.ret))
 (.seq (.region [⟨some 7,.p (.bin .eql (.tmp 3) (.val (.int .i64 (.ofNat 2)))),none⟩,⟨some 6,.p (.mov (.tmp 7)),none⟩] [] [6])
 (.cond (.tmp 6) (.seq (.region [⟨some 2,.p (.mov (.val (.int .i64 (.ofNat 1)))),none⟩] [] [2])
 (.ret))
 (.skip)))))))
 (.seq (.region [⟨some 2,.p (.mov (.val (.int .i64 (.ofNat 3)))),none⟩] [] [2])
 (.ret)))
def M69 (F : Nat → Nat) : Fun := ⟨8,1,(K69 F).erase,[.tmp 2]⟩
theorem ok69 {F : Nat → Nat} : (K69 F).ok = true := rfl
end Go.Lib
end

section
namespace Go.Lib
open Go.Vm Go.Dv
set_option maxRecDepth 100000
abbrev K87 (F : Nat → Nat) : KC := .seq (.region [⟨some 2,.a (.box (.tmp 0)),none⟩,⟨some 4,.p (.mov (.val (.int .i64 (.ofNat 0)))),none⟩] [2] [1,2])
 (.seq (.seq (.region [⟨some 9,.p (.faddr 0 (.tmp 2)),none⟩,⟨some 10,.load1 (.tmp 9),none⟩] [] [1,2,10])
 (.block 0 (.seq (.region [⟨some 12,.p (.bin .eql (.tmp 10) (.val (.int .i64 (.ofNat 1)))),none⟩,⟨some 11,.p (.mov (.tmp 12)),none⟩] [] [1,2,10,11])
 (.cond (.tmp 11) (.seq (.region [⟨some 4,.p (.mov (.val (.int .i64 (.ofNat 1)))),none⟩] [] [4])
 (.ret))
 (.seq (.region [⟨some 14,.p (.bin .eql (.tmp 10) (.val (.int .i64 (.ofNat 2)))),none⟩,⟨some 13,.p (.mov (.tmp 14)),none⟩] [] [1,2,10,13])
 (.cond (.tmp 13) (.seq (.seq (.region [⟨some 15,.p (.mov (.tmp 1)),none⟩,⟨some 16,.p (.faddr 1 (.tmp 2)),none⟩,⟨some 17,.load1 (.tmp 16),none⟩,⟨some 18,.p (.iaddr 4 (.tmp 15) (.tmp 17)),none⟩,⟨some 19,.p (.faddr 0 (.tmp 18)),none⟩,⟨some 20,.load1 (.tmp 19),none⟩] [] [1,2,20])
 (.cond (.tmp 20) (.seq (.region [⟨some 4,.p (.mov (.val (.int .i64 (.ofNat 3)))),none⟩] [] [4])
 (.ret))
 (.skip)))
 (.seq (.dregion [⟨⟨some 23,.p (.mov (.tmp 1)),none⟩,0,7⟩,⟨⟨some 24,.p (.faddr 1 (.tmp 2)),none⟩,0,7⟩,⟨⟨some 25,.load1 (.tmp 24),none⟩,0,7⟩,⟨⟨some 26,.p (.iaddr 4 (.tmp 23) (.tmp 25)),none⟩,0,7⟩,⟨⟨some 27,.loadn 4 (.tmp 26),none⟩,0,7⟩,⟨⟨some 28,.p (.faddr 3 (.tmp 2)),none⟩,0,7⟩,⟨⟨some 29,.loadn 4 (.tmp 28),none⟩,0,7⟩,⟨⟨some 30,.e (.call (F 46) [(.tmp 27),(.tmp 29)]),none⟩,0,10⟩,⟨⟨some 21,.p (.faddr 2 (.tmp 2)),none⟩,0,10⟩,⟨⟨some 22,.load1 (.tmp 21),none⟩,0,10⟩,⟨⟨some 31,.e (.call (F 89) [(.tmp 22),(.tmp 30)]),none⟩,8,11⟩,⟨⟨some 32,.e (.call (F 90) [(.tmp 31)]),none⟩,11,13⟩,⟨⟨some 4,.p (.mov (.tmp 32)),none⟩,12,13⟩] [4])
 (.ret)))
 (.seq (.region [⟨some 34,.p (.bin .eql (.tmp 10) (.val (.int .i64 (.ofNat 3)))),none⟩,⟨some 33,.p (.mov (.tmp 34)),none⟩] [] [1,2,10,33])
 (.cond (.tmp 33) (.seq (.region [⟨some 35,.p (.mov (.tmp 1)),none⟩,⟨some 36,.p (.faddr 1 (.tmp 2)),none⟩,⟨some 37,.load1 (.tmp 36),none⟩,⟨some 38,.p (.iaddr 4 (.tmp 35) (.tmp 37)),none⟩,⟨some 39,.p (.faddr 0 (.tmp 38)),none⟩,⟨some 40,.load1 (.tmp 39),none⟩,⟨some 41,.e (.call (F 90) [(.tmp 40)]),none⟩,⟨some 4,.p (.mov (.tmp 41)),none⟩] [] [4])
 (.ret))
 (.seq (.region [⟨some 43,.p (.bin .eql (.tmp 10) (.val (.int .i64 (.ofNat 6)))),none⟩,⟨some 42,.p (.mov (.tmp 43)),none⟩] [] [1,2,42])
 (.cond (.tmp 42) (.seq (.seq (.region [⟨some 44,.p (.faddr 7 (.tmp 2)),none⟩,⟨some 45,.load1 (.tmp 44),none⟩,⟨some 46,.p (.iaddr 8 (.tmp 45) (.val (.int .i64 (.ofNat 0)))),none⟩,⟨some 47,.loadn 8 (.tmp 46),none⟩,⟨some 48,.p (.mov (.tmp 1)),none⟩,⟨some 49,.e (.call (F 87) [(.tmp 47),(.tmp 48)]),none⟩] [] [49])
 (.block 1 (.seq (.region [⟨some 51,.p (.bin .eql (.tmp 49) (.val (.int .i64 (.ofNat 1)))),none⟩,⟨some 50,.p (.mov (.tmp 51)),none⟩] [] [49,50])
 (.cond (.tmp 50) (.seq (.region [⟨some 4,.p (.mov (.val (.int .i64 (.ofNat 2)))),none⟩] [] [4])
 (.ret))
 (.seq (.region [⟨some 53,.p (.bin .eql (.tmp 49) (.val (.int .i64 (.ofNat 2)))),none⟩,⟨some 52,.p (.mov (.tmp 53)),none⟩] [] [52])
 (.cond (.tmp 52) (.seq (.region [⟨some 4,.p (.mov (.val (.int .i64 (.ofNat 1)))),none⟩] [] [4])
 (.ret))
 (.skip)))))))
 (.seq (.region [⟨some 4,.p (.mov (.val (.int .i64 (.ofNat 3)))),none⟩] [] [4])
 (.ret)))
 (.skip)))))))))))
 (.seq (.region [⟨some 5,.p (.mov (.val (.int .i64 (.ofNat 2)))),none⟩,⟨some 6,.p (.mov (.val (.int .i64 (.ofNat 1)))),none⟩] [] [1,2,5,6])
 (.seq (.seq (.region [⟨some 54,.p (.faddr 0 (.tmp 2)),none⟩,⟨some 55,.load1 (.tmp 54),none⟩,⟨some 56,.p (.bin .eql (.tmp 55) (.val (.int .i64 (.ofNat 5)))),none⟩] [] [1,2,5,6,56])
 (.cond (.tmp 56) (.region [⟨some 5,.p (.mov (.val (.int .i64 (.ofNat 1)))),none⟩,⟨some 6,.p (.mov (.val (.int .i64 (.ofNat 2)))),none⟩] [] [1,2,5,6])
 (.skip)))
 (.seq (.seq (.region [⟨some 7,.p (.mov (.val (.int .i64 (.ofNat 0)))),none⟩] [] [1,2,5,6,7])
 (.block 2 (.loop (.seq (.seq (.region [⟨some 57,.p (.mov (.tmp 7)),none⟩,⟨some 58,.p (.faddr 7 (.tmp 2)),none⟩,⟨some 59,.load1 (.tmp 58),none⟩,⟨some 60,.p (.lenb (.tmp 59)),none⟩,⟨some 61,.p (.bin .lss (.tmp 57) (.tmp 60)),none⟩] [] [1,2,5,6,7,61])
 (.cond (.tmp 61) (.skip)
 (.exit 2)))
 (.seq (.block 3 (.seq (.region [⟨some 64,.p (.faddr 7 (.tmp 2)),none⟩,⟨some 65,.load1 (.tmp 64),none⟩,⟨some 66,.p (.mov (.tmp 7)),none⟩,⟨some 67,.p (.iaddr 8 (.tmp 65) (.tmp 66)),none⟩,⟨some 68,.loadn 8 (.tmp 67),none⟩,⟨some 69,.p (.mov (.tmp 1)),none⟩,⟨some 70,.e (.call (F 87) [(.tmp 68),(.tmp 69)]),none⟩,⟨some 8,.p (.mov (.tmp 70)),none⟩] [] [1,2,5,6,7,8])
 (.seq (.seq (.region [⟨some 71,.p (.mov (.tmp 8)),none⟩,⟨some 72,.p (.mov (.tmp 5)),none⟩,⟨some 73,.p (.bin .eql (.tmp 71) (.tmp 72)),none⟩] [] [1,2,5,6,7,8,73])
 (.cond (.tmp 73) (.seq (.region [⟨some 74,.p (.mov (.tmp 5)),none⟩,⟨some 4,.p (.mov (.tmp 74)),none⟩] [] [4])
 (.ret))
 (.skip)))
 (.seq (.region [⟨some 75,.p (.mov (.tmp 8)),none⟩,⟨some 76,.p (.bin .eql (.tmp 75) (.val (.int .i64 (.ofNat 3)))),none⟩] [] [1,2,5,6,7,76])
 (.cond (.tmp 76) (.region [⟨some 6,.p (.mov (.val (.int .i64 (.ofNat 3)))),none⟩] [] [1,2,5,6,7])
 (.skip))))))
 (.region [⟨some 62,.p (.mov (.tmp 7)),none⟩,⟨some 63,.p (.bin .add (.tmp 62) (.val (.int .i64 (.ofNat 1)))),none⟩,⟨some 7,.p (.mov (.tmp 63)),none⟩] [] [1,2,5,6,7]))))))
 (.seq (.region [⟨some 77,.p (.mov (.tmp 6)),none⟩,⟨some 4,.p (.mov (.tmp 77)),none⟩] [] [4])
 (.ret))))))
def M87 (F : Nat → Nat) : Fun := ⟨78,2,(K87 F).erase,[.tmp 4]⟩
abbrev K88 (F : Nat → Nat) : KC := .seq (.region [⟨some 2,.a (.box (.tmp 0)),none⟩,⟨some 4,.p (.mov (.val (.bool false))),none⟩] [2] [1,2])
 (.seq (.seq (.region [⟨some 6,.p (.mov (.tmp 1)),none⟩,⟨some 7,.p (.lenb (.tmp 6)),none⟩,⟨some 8,.p (.faddr 0 (.tmp 2)),none⟩,⟨some 9,.load1 (.tmp 8),none⟩,⟨some 10,.p (.lenb (.tmp 9)),none⟩,⟨some 11,.p (.bin .neq (.tmp 7) (.tmp 10)),none⟩] [] [1,2,11])
 (.cond (.tmp 11) (.seq (.region [⟨some 4,.p (.mov (.val (.bool false))),none⟩] [] [4])
 (.ret))
 (.skip)))
 (.seq (.seq (.region [⟨some 5,.p (.mov (.val (.int .i64 (.ofNat 0)))),none⟩] [] [1,2,5])
 (.block 0 (.loop (.seq (.seq (.region [⟨some 12,.p (.mov (.tmp 5)),none⟩,⟨some 13,.p (.mov (.tmp 1)),none⟩,⟨some 14,.p (.lenb (.tmp 13)),none⟩,⟨some 15,.p (.bin .lss (.tmp 12) (.tmp 14)),none⟩] [] [1,2,5,15])
 (.cond (.tmp 15) (.skip)
 (.exit 0)))
 (.seq (.block 1 (.seq (.dregion [⟨⟨some 18,.p (.faddr 0 (.tmp 2)),none⟩,0,10⟩,⟨⟨some 19,.load1 (.tmp 18),none⟩,0,10⟩,⟨⟨some 20,.p (.mov (.tmp 5)),none⟩,0,10⟩,⟨⟨some 21,.p (.iaddr 3 (.tmp 19) (.tmp 20)),none⟩,0,10⟩,⟨⟨some 22,.p (.faddr 1 (.tmp 21)),none⟩,0,10⟩,⟨⟨some 23,.load1 (.tmp 22),none⟩,0,10⟩,⟨⟨some 24,.p (.mov (.tmp 1)),none⟩,0,10⟩,⟨⟨some 25,.p (.mov (.tmp 5)),none⟩,0,10⟩,⟨⟨some 26,.p (.iaddr 4 (.tmp 24) (.tmp 25)),none⟩,0,10⟩,⟨⟨some 27,.loadn 4 (.tmp 26),none⟩,0,10⟩,⟨⟨some 28,.e (.call (F 91) [(.tmp 23),(.tmp 27)]),none⟩,0,28⟩,⟨⟨some 29,.p (.not (.tmp 28)),none⟩,11,28⟩,⟨⟨some 30,.p (.mov (.tmp 29)),none⟩,11,28⟩,⟨⟨some 31,.p (.mov (.tmp 1)),(some (30,false))⟩,11,28⟩,⟨⟨some 32,.p (.mov (.tmp 5)),(some (30,false))⟩,11,28⟩,⟨⟨some 33,.p (.iaddr 4 (.tmp 31) (.tmp 32)),(some (30,false))⟩,11,28⟩,⟨⟨some 34,.p (.faddr 0 (.tmp 33)),(some (30,false))⟩,11,28⟩,⟨⟨some 35,.load1 (.tmp 34),(some (30,false))⟩,11,28⟩,⟨⟨some 36,.p (.mov (.tmp 35)),(some (30,false))⟩,11,28⟩,⟨⟨some 37,.p (.faddr 0 (.tmp 2)),(some (36,true))⟩,11,28⟩,⟨⟨some 38,.load1 (.tmp 37),(some (36,true))⟩,11,28⟩,⟨⟨some 39,.p (.mov (.tmp 5)),(some (36,true))⟩,11,28⟩,⟨⟨some 40,.p (.iaddr 3 (.tmp 38) (.tmp 39)),(some (36,true))⟩,11,28⟩,⟨⟨some 41,.p (.faddr 2 (.tmp 40)),(some (36,true))⟩,11,28⟩,⟨⟨some 42,.load1 (.tmp 41),(some (36,true))⟩,11,28⟩,⟨⟨some 43,.p (.not (.tmp 42)),(some (36,true))⟩,11,28⟩,⟨⟨some 44,.p (.pick (.tmp 36) (.tmp 43) (.val (.bool false))),(some (30,false))⟩,11,28⟩,⟨⟨some 45,.p (.pick (.tmp 30) (.val (.bool true)) (.tmp 44)),none⟩,11,28⟩] [1,2,5,45])
 (.cond (.tmp 45) (.seq (.region [⟨some 4,.p (.mov (.val (.bool false))),none⟩] [] [4])
 (.ret))
 (.skip))))
 (.region [⟨some 16,.p (.mov (.tmp 5)),none⟩,⟨some 17,.p (.bin .add (.tmp 16) (.val (.int .i64 (.ofNat 1)))),none⟩,⟨some 5,.p (.mov (.tmp 17)),none⟩] [] [1,2,5]))))))
 (.seq (.region [⟨some 4,.p (.mov (.val (.bool true))),none⟩] [] [4])
 (.ret))))
def M88 (F : Nat → Nat) : Fun := ⟨46,2,(K88 F).erase,[.tmp 4]⟩
theorem ok88 {F : Nat → Nat} : (K88 F).ok = true := rfl
abbrev K89 (_F : Nat → Nat) : KC := .seq (.region [⟨some 4,.p (.mov (.val (.bool false))),none⟩] [] [0,1])
 (.seq (.seq (.region [⟨some 5,.p (.mov (.tmp 0)),none⟩] [] [1,5])
 (.block 0 (.seq (.region [⟨some 7,.p (.bin .eql (.tmp 5) (.val (.int .i64 (.ofNat 1)))),none⟩,⟨some 6,.p (.mov (.tmp 7)),none⟩] [] [1,5,6])
 (.cond (.tmp 6) (.seq (.region [⟨some 8,.p (.mov (.tmp 1)),none⟩,⟨some 9,.p (.bin .eql (.tmp 8) (.val (.int .i64 (.ofNat 0)))),none⟩,⟨some 4,.p (.mov (.tmp 9)),none⟩] [] [4])
 (.ret))
 (.seq (.region [⟨some 11,.p (.bin .eql (.tmp 5) (.val (.int .i64 (.ofNat 2)))),none⟩,⟨some 10,.p (.mov (.tmp 11)),none⟩] [] [1,5,10])
 (.cond (.tmp 10) (.seq (.region [⟨some 12,.p (.mov (.tmp 1)),none⟩,⟨some 13,.p (.bin .neq (.tmp 12) (.val (.int .i64 (.ofNat 0)))),none⟩,⟨some 4,.p (.mov (.tmp 13)),none⟩] [] [4])
 (.ret))
 (.seq (.region [⟨some 15,.p (.bin .eql (.tmp 5) (.val (.int .i64 (.ofNat 3)))),none⟩,⟨some 14,.p (.mov (.tmp 15)),none⟩] [] [1,5,14])
 (.cond (.tmp 14) (.seq (.region [⟨some 16,.p (.mov (.tmp 1)),none⟩,⟨some 17,.p (.bin .lss (.tmp 16) (.val (.int .i64 (.ofNat 0)))),none⟩,⟨some 4,.p (.mov (.tmp 17)),none⟩] [] [4])
 (.ret))
 (.seq (.region [⟨some 19,.p (.bin .eql (.tmp 5) (.val (.int .i64 (.ofNat 4)))),none⟩,⟨some 18,.p (.mov (.tmp 19)),none⟩] [] [1,5,18])
 (.cond (.tmp 18) (.seq (.region [⟨some 20,.p (.mov (.tmp 1)),none⟩,⟨some 21,.p (.bin .leq (.tmp 20) (.val (.int .i64 (.ofNat 0)))),none⟩,⟨some 4,.p (.mov (.tmp 21)),none⟩] [] [4])
 (.ret))
 (.seq (.region [⟨some 23,.p (.bin .eql (.tmp 5) (.val (.int .i64 (.ofNat 5)))),none⟩,⟨some 22,.p (.mov (.tmp 23)),none⟩] [] [1,22])
 (.cond (.tmp 22) (.seq (.region [⟨some 24,.p (.mov (.tmp 1)),none⟩,⟨some 25,.p (.bin .gtr (.tmp 24) (.val (.int .i64 (.ofNat 0)))),none⟩,⟨some 4,.p (.mov (.tmp 25)),none⟩] [] [4])
 (.ret))
 (.skip)))))))))))))
 (.seq (.region [⟨some 26,.p (.mov (.tmp 1)),none⟩,⟨some 27,.p (.bin .geq (.tmp 26) (.val (.int .i64 (.ofNat 0)))),none⟩,⟨some 4,.p (.mov (.tmp 27)),none⟩] [] [4])
 (.ret)))
def M89 (F : Nat → Nat) : Fun := ⟨28,2,(K89 F).erase,[.tmp 4]⟩
abbrev K90 (_F : Nat → Nat) : KC := .seq (.region [⟨some 2,.p (.mov (.val (.int .i64 (.ofNat 0)))),none⟩] [] [0])
 (.seq (.seq (.region [⟨some 3,.p (.mov (.tmp 0)),none⟩] [] [3])
 (.cond (.tmp 3) (.seq (.region [⟨some 2,.p (.mov (.val (.int .i64 (.ofNat 1)))),none⟩] [] [2])
 (.ret))
 (.skip)))
 (.seq (.region [⟨some 2,.p (.mov (.val (.int .i64 (.ofNat 2)))),none⟩] [] [2])
 (.ret)))
def M90 (F : Nat → Nat) : Fun := ⟨4,1,(K90 F).erase,[.tmp 2]⟩
abbrev K91 (_F : Nat → Nat) : KC := .seq (.region [⟨some 3,.a (.box (.tmp 1)),none⟩,⟨some 4,.p (.mov (.val (.bool false))),none⟩] [3] [0,3])
 (.seq (.seq (.region [⟨some 5,.p (.faddr 1 (.tmp 3)),none⟩,⟨some 6,.load1 (.tmp 5),none⟩,⟨some 7,.p (.mov (.tmp 0)),none⟩,⟨some 8,.p (.bin .neq (.tmp 6) (.tmp 7)),none⟩,⟨some 9,.p (.mov (.tmp 8)),none⟩,⟨some 10,.p (.faddr 1 (.tmp 3)),(some (9,false))⟩,⟨some 11,.load1 (.tmp 10),(some (9,false))⟩,⟨some 12,.p (.bin .neq (.tmp 11) (.val (.int .i64 (.ofNat 1)))),(some (9,false))⟩,⟨some 13,.p (.mov (.tmp 12)),(some (9,false))⟩,⟨some 14,.p (.faddr 1 (.tmp 3)),(some (13,true))⟩,⟨some 15,.load1 (.tmp 14),(some (13,true))⟩,⟨some 16,.p (.bin .neq (.tmp 15) (.val (.int .i64 (.ofNat 2)))),(some (13,true))⟩,⟨some 17,.p (.pick (.tmp 13) (.tmp 16) (.val (.bool false))),(some (9,false))⟩,⟨some 18,.p (.pick (.tmp 9) (.val (.bool true)) (.tmp 17)),none⟩] [] [3,18])
 (.cond (.tmp 18) (.seq (.region [⟨some 4,.p (.mov (.val (.bool false))),none⟩] [] [4])
 (.ret))
 (.skip)))
 (.seq (.seq (.region [⟨some 19,.p (.faddr 0 (.tmp 3)),none⟩,⟨some 20,.load1 (.tmp 19),none⟩,⟨some 21,.p (.mov (.tmp 20)),none⟩,⟨some 22,.p (.faddr 1 (.tmp 3)),(some (21,false))⟩,⟨some 23,.load1 (.tmp 22),(some (21,false))⟩,⟨some 24,.p (.bin .eql (.tmp 23) (.val (.int .i64 (.ofNat 1)))),(some (21,false))⟩,⟨some 25,.p (.pick (.tmp 21) (.val (.bool true)) (.tmp 24)),none⟩] [] [3,25])
 (.cond (.tmp 25) (.seq (.region [⟨some 26,.p (.faddr 3 (.tmp 3)),none⟩,⟨some 27,.load1 (.tmp 26),none⟩,⟨some 28,.p (.lenb (.tmp 27)),none⟩,⟨some 29,.p (.bin .eql (.tmp 28) (.val (.int .i64 (.ofNat 0)))),none⟩,⟨some 30,.p (.mov (.tmp 29)),none⟩,⟨some 31,.p (.faddr 0 (.tmp 3)),(some (30,true))⟩,⟨some 32,.load1 (.tmp 31),(some (30,true))⟩,⟨some 33,.p (.not (.tmp 32)),(some (30,true))⟩,⟨some 34,.p (.mov (.tmp 33)),(some (30,true))⟩,⟨some 35,.p (.faddr 2 (.tmp 3)),(some (34,false))⟩,⟨some 36,.load1 (.tmp 35),(some (34,false))⟩,⟨some 37,.p (.bin .eql (.tmp 36) (.val (.int .i64 (.ofNat 0)))),(some (34,false))⟩,⟨some 38,.p (.pick (.tmp 34) (.val (.bool true)) (.tmp 37)),(some (30,true))⟩,⟨some 39,.p (.pick (.tmp 30) (.tmp 38) (.val (.bool false))),none⟩,⟨some 4,.p (.mov (.tmp 39)),none⟩] [] [4])
 (.ret))
 (.skip)))
 (.seq (.region [⟨some 40,.p (.faddr 2 (.tmp 3)),none⟩,⟨some 41,.load1 (.tmp 40),none⟩,⟨some 42,.p (.bin .eql (.tmp 41) (.val (.int .i64 (.ofNat 0)))),none⟩,⟨some 43,.p (.mov (.tmp 42)),none⟩,⟨some 44,.p (.faddr 3 (.tmp 3)),(some (43,true))⟩,⟨some 45,.load1 (.tmp 44),(some (43,true))⟩,⟨some 46,.p (.lenb (.tmp 45)),(some (43,true))⟩,⟨some 47,.p (.bin .leq (.tmp 46) (.val (.int .i64 (.ofNat 64)))),(some (43,true))⟩,⟨some 48,.p (.pick (.tmp 43) (.tmp 47) (.val (.bool false))),none⟩,⟨some 4,.p (.mov (.tmp 48)),none⟩] [] [4])
 (.ret))))
def M91 (F : Nat → Nat) : Fun := ⟨49,2,(K91 F).erase,[.tmp 4]⟩
theorem ok91 {F : Nat → Nat} : (K91 F).ok = true := rfl
end Go.Lib
end

section
namespace Go.Lib
open Go.Vm Go.Dv
set_option maxRecDepth 100000
abbrev K53 (F : Nat → Nat) : KC := .seq (.region [⟨some 2,.p (.mov (.val (.nilslice))),none⟩] [] [0])
 (.seq (.region [⟨some 3,.p (.mov (.val (.nilslice))),none⟩] [] [0,3])
 (.seq (.seq (.region [⟨some 4,.p (.mov (.val (.int .i64 (.ofNat 0)))),none⟩] [] [0,3,4])
 (.block 0 (.loop (.seq (.seq (.region [⟨some 6,.p (.mov (.tmp 4)),none⟩,⟨some 7,.p (.mov (.tmp 0)),none⟩,⟨some 8,.p (.lenb (.tmp 7)),none⟩,⟨some 9,.p (.bin .lss (.tmp 6) (.tmp 8)),none⟩] [] [0,3,4,9])
 (.cond (.tmp 9) (.skip)
 (.exit 0)))
 (.seq (.block 1 (.seq (.region [⟨some 12,.p (.mov (.tmp 3)),none⟩,⟨some 13,.p (.lenb (.tmp 12)),none⟩,⟨some 5,.p (.mov (.tmp 13)),none⟩] [] [0,3,4,5])
 (.seq (.block 2 (.loop (.seq (.seq (.dregion [⟨⟨some 14,.p (.mov (.tmp 5)),none⟩,0,12⟩,⟨⟨some 15,.p (.bin .gtr (.tmp 14) (.val (.int .i64 (.ofNat 0)))),none⟩,0,12⟩,⟨⟨some 16,.p (.mov (.tmp 15)),none⟩,0,12⟩,⟨⟨some 17,.p (.mov (.tmp 3)),(some (16,true))⟩,0,12⟩,⟨⟨some 18,.p (.mov (.tmp 5)),(some (16,true))⟩,0,12⟩,⟨⟨some 19,.p (.bin .sub (.tmp 18) (.val (.int .i64 (.ofNat 1)))),(some (16,true))⟩,0,12⟩,⟨⟨some 20,.p (.iaddr 1 (.tmp 17) (.tmp 19)),(some (16,true))⟩,0,12⟩,⟨⟨some 21,.load1 (.tmp 20),(some (16,true))⟩,0,12⟩,⟨⟨some 22,.p (.mov (.tmp 0)),(some (16,true))⟩,0,12⟩,⟨⟨some 23,.p (.mov (.tmp 4)),(some (16,true))⟩,0,12⟩,⟨⟨some 24,.p (.iaddr 1 (.tmp 22) (.tmp 23)),(some (16,true))⟩,0,12⟩,⟨⟨some 25,.load1 (.tmp 24),(some (16,true))⟩,0,12⟩,⟨⟨some 26,.e (.call (F 47) [(.tmp 21),(.tmp 25)]),(some (16,true))⟩,0,15⟩,⟨⟨some 27,.p (.bin .gtr (.tmp 26) (.val (.int .i64 (.ofNat 0)))),(some (16,true))⟩,13,15⟩,⟨⟨some 28,.p (.pick (.tmp 16) (.tmp 27) (.val (.bool false))),none⟩,13,15⟩] [0,3,4,5,28])
 (.cond (.tmp 28) (.skip)
 (.exit 2)))
 (.block 3 (.region [⟨some 29,.p (.mov (.tmp 5)),none⟩,⟨some 30,.p (.bin .sub (.tmp 29) (.val (.int .i64 (.ofNat 1)))),none⟩,⟨some 5,.p (.mov (.tmp 30)),none⟩] [] [0,3,4,5])))))
 (.dregion [⟨⟨some 31,.a (.bslice [] 1 0 []),none⟩,0,4⟩,⟨⟨some 32,.p (.mov (.tmp 3)),none⟩,0,4⟩,⟨⟨some 33,.p (.mov (.tmp 5)),none⟩,0,4⟩,⟨⟨some 34,.p (.slc 1 (.tmp 32) none (some (.tmp 33)) none),none⟩,0,4⟩,⟨⟨some 35,.e (.append 1 24 (.tmp 31) (.tmp 34)),none⟩,0,10⟩,⟨⟨some 36,.p (.mov (.tmp 0)),none⟩,0,10⟩,⟨⟨some 37,.p (.mov (.tmp 4)),none⟩,0,10⟩,⟨⟨some 38,.p (.iaddr 1 (.tmp 36) (.tmp 37)),none⟩,0,10⟩,⟨⟨some 39,.load1 (.tmp 38),none⟩,0,10⟩,⟨⟨some 40,.a (.bslice [.nilslice] 1 1 [(0,1,(.tmp 39))]),none⟩,0,10⟩,⟨⟨some 41,.e (.append 1 24 (.tmp 35) (.tmp 40)),none⟩,5,14⟩,⟨⟨some 42,.p (.mov (.tmp 3)),none⟩,0,14⟩,⟨⟨some 43,.p (.mov (.tmp 5)),none⟩,0,14⟩,⟨⟨some 44,.p (.slc 1 (.tmp 42) (some (.tmp 43)) none none),none⟩,0,14⟩,⟨⟨some 45,.e (.append 1 24 (.tmp 41) (.tmp 44)),none⟩,11,16⟩,⟨⟨some 3,.p (.mov (.tmp 45)),none⟩,15,16⟩] [0,3,4]))))
 (.region [⟨some 10,.p (.mov (.tmp 4)),none⟩,⟨some 11,.p (.bin .add (.tmp 10) (.val (.int .i64 (.ofNat 1)))),none⟩,⟨some 4,.p (.mov (.tmp 11)),none⟩] [] [0,3,4]))))))
 (.seq (.region [⟨some 46,.p (.mov (.tmp 3)),none⟩,⟨some 2,.p (.mov (.tmp 46)),none⟩] [] [2])
 (.ret))))
def M53 (F : Nat → Nat) : Fun := ⟨47,1,(K53 F).erase,[.tmp 2]⟩
abbrev K54 (F : Nat → Nat) : KC := .seq (.region [⟨some 4,.p (.mov (.val (.nilslice))),none⟩] [] [0,1])
 (.seq (.region [⟨some 5,.p (.mov (.val (.nilslice))),none⟩] [] [0,1,5])
 (.seq (.seq (.region [⟨some 6,.p (.mov (.val (.int .i64 (.ofNat 0)))),none⟩] [] [0,1,5,6])
 (.block 0 (.loop (.seq (.seq (.region [⟨some 9,.p (.mov (.tmp 6)),none⟩,⟨some 10,.p (.mov (.tmp 0)),none⟩,⟨some 11,.p (.lenb (.tmp 10)),none⟩,⟨some 12,.p (.bin .lss (.tmp 9) (.tmp 11)),none⟩] [] [0,1,5,6,12])
 (.cond (.tmp 12) (.skip)
 (.exit 0)))
 (.seq (.block 1 (.seq (.region [⟨some 7,.p (.mov (.val (.nilslice))),none⟩] [] [0,1,5,6,7])
 (.seq (.seq (.region [⟨some 8,.p (.mov (.val (.int .i64 (.ofNat 0)))),none⟩] [] [0,1,5,6,7,8])
 (.block 2 (.loop (.seq (.seq (.region [⟨some 15,.p (.mov (.tmp 8)),none⟩,⟨some 16,.p (.mov (.tmp 1)),none⟩,⟨some 17,.p (.lenb (.tmp 16)),none⟩,⟨some 18,.p (.bin .lss (.tmp 15) (.tmp 17)),none⟩] [] [0,1,5,6,7,8,18])
 (.cond (.tmp 18) (.skip)
 (.exit 2)))
 (.seq (.block 3 (.dregion [⟨⟨some 21,.p (.mov (.tmp 7)),none⟩,0,12⟩,⟨⟨some 22,.p (.mov (.tmp 0)),none⟩,0,12⟩,⟨⟨some 23,.p (.mov (.tmp 6)),none⟩,0,12⟩,⟨⟨some 24,.p (.iaddr 1 (.tmp 22) (.tmp 23)),none⟩,0,12⟩,⟨⟨some 25,.load1 (.tmp 24),none⟩,0,12⟩,⟨⟨some 26,.p (.mov (.tmp 1)),none⟩,0,12⟩,⟨⟨some 27,.p (.mov (.tmp 8)),none⟩,0,12⟩,⟨⟨some 28,.p (.iaddr 1 (.tmp 26) (.tmp 27)),none⟩,0,12⟩,⟨⟨some 29,.load1 (.tmp 28),none⟩,0,12⟩,⟨⟨some 30,.p (.iaddr 4 (.tmp 25) (.tmp 29)),none⟩,0,12⟩,⟨⟨some 31,.loadn 4 (.tmp 30),none⟩,0,12⟩,⟨⟨some 32,.a (.bslice [.bool false,.int .i64 (.ofNat 0),.int .i64 (.ofNat 0),.nilslice] 4 1 [(0,4,(.tmp 31))]),none⟩,0,12⟩,⟨⟨some 33,.e (.append 4 48 (.tmp 21) (.tmp 32)),none⟩,0,14⟩,⟨⟨some 7,.p (.mov (.tmp 33)),none⟩,13,14⟩] [0,1,5,6,7,8]))
 (.region [⟨some 19,.p (.mov (.tmp 8)),none⟩,⟨some 20,.p (.bin .add (.tmp 19) (.val (.int .i64 (.ofNat 1)))),none⟩,⟨some 8,.p (.mov (.tmp 20)),none⟩] [] [0,1,5,6,7,8]))))))
 (.region [⟨some 34,.p (.mov (.tmp 5)),none⟩,⟨some 35,.p (.mov (.tmp 7)),none⟩,⟨some 36,.a (.bslice [.nilslice] 1 1 [(0,1,(.tmp 35))]),none⟩,⟨some 37,.e (.append 1 24 (.tmp 34) (.tmp 36)),none⟩,⟨some 5,.p (.mov (.tmp 37)),none⟩] [36] [0,1,5,6]))))
 (.region [⟨some 13,.p (.mov (.tmp 6)),none⟩,⟨some 14,.p (.bin .add (.tmp 13) (.val (.int .i64 (.ofNat 1)))),none⟩,⟨some 6,.p (.mov (.tmp 14)),none⟩] [] [0,1,5,6]))))))
 (.seq (.region [⟨some 38,.p (.mov (.tmp 5)),none⟩,⟨some 39,.e (.call (F 53) [(.tmp 38)]),none⟩,⟨some 4,.p (.mov (.tmp 39)),none⟩] [] [4])
 (.ret))))
def M54 (F : Nat → Nat) : Fun := ⟨40,2,(K54 F).erase,[.tmp 4]⟩
abbrev K55 (F : Nat → Nat) : KC := .seq (.region [⟨some 6,.p (.mov (.val (.nilslice))),none⟩,⟨some 7,.p (.mov (.val (.bool false))),none⟩] [] [0,1,2])
 (.seq (.seq (.region [⟨some 16,.p (.mov (.tmp 1)),none⟩,⟨some 17,.p (.bin .lss (.tmp 16) (.val (.int .i64 (.ofNat 0)))),none⟩] [] [0,1,2,17])
 (.cond (.tmp 17) (.seq (.region [⟨some 19,.p (.mov (.tmp 0)),none⟩,⟨some 20,.p (.mov (.tmp 2)),none⟩,⟨some 21,.e (.call (F 57) [(.tmp 19),(.tmp 20)]),none⟩,⟨some 18,.p (.mov (.tmp 21)),none⟩,⟨some 22,.p (.ext (.tmp 18) 0),none⟩,⟨some 23,.p (.ext (.tmp 18) 1),none⟩,⟨some 8,.p (.mov (.tmp 22)),none⟩,⟨some 9,.p (.mov (.tmp 23)),none⟩] [] [8,9])
 (.seq (.seq (.region [⟨some 24,.p (.mov (.tmp 9)),none⟩,⟨some 25,.p (.not (.tmp 24)),none⟩] [] [8,25])
 (.cond (.tmp 25) (.seq (.region [⟨some 6,.p (.mov (.val (.nilslice))),none⟩,⟨some 7,.p (.mov (.val (.bool false))),none⟩] [] [6,7])
 (.ret))
 (.skip)))
 (.seq (.region [⟨some 26,.p (.mov (.tmp 8)),none⟩,⟨some 27,.a (.bslice [.nilslice] 1 1 [(0,1,(.tmp 26))]),none⟩,⟨some 6,.p (.mov (.tmp 27)),none⟩,⟨some 7,.p (.mov (.val (.bool true))),none⟩] [27] [6,7])
 (.ret))))
 (.skip)))
 (.seq (.region [⟨some 10,.p (.mov (.val (.nilslice))),none⟩] [] [0,1,2,10])
 (.seq (.region [⟨some 28,.p (.mov (.tmp 0)),none⟩,⟨some 29,.p (.mov (.tmp 1)),none⟩,⟨some 30,.e (.call (F 58) [(.tmp 28),(.tmp 29)]),none⟩,⟨some 31,.e (.call (F 53) [(.tmp 30)]),none⟩,⟨some 0,.p (.mov (.tmp 31)),none⟩] [] [0,2,10])
 (.seq (.seq (.region [⟨some 11,.p (.mov (.val (.int .i64 (.ofNat 0)))),none⟩] [] [0,2,10,11])
 (.block 0 (.loop (.seq (.seq (.region [⟨some 32,.p (.mov (.tmp 11)),none⟩,⟨some 33,.p (.mov (.tmp 0)),none⟩,⟨some 34,.p (.lenb (.tmp 33)),none⟩,⟨some 35,.p (.bin .lss (.tmp 32) (.tmp 34)),none⟩] [] [0,2,10,11,35])
 (.cond (.tmp 35) (.skip)
 (.exit 0)))
 (.block 1 (.seq (.region [⟨some 36,.p (.mov (.tmp 11)),none⟩,⟨some 12,.p (.mov (.tmp 36)),none⟩] [] [0,2,10,11,12])
 (.seq (.region [⟨some 13,.p (.mov (.val (.nilslice))),none⟩] [] [0,2,10,11,12,13])
 (.seq (.block 2 (.loop (.seq (.seq (.dregion [⟨⟨some 37,.p (.mov (.tmp 12)),none⟩,0,17⟩,⟨⟨some 38,.p (.mov (.tmp 0)),none⟩,0,17⟩,⟨⟨some 39,.p (.lenb (.tmp 38)),none⟩,0,17⟩,⟨⟨some 40,.p (.bin .lss (.tmp 37) (.tmp 39)),none⟩,0,17⟩,⟨⟨some 41,.p (.mov (.tmp 40)),none⟩,0,17⟩,⟨⟨some 42,.p (.mov (.tmp 0)),(some (41,true))⟩,0,17⟩,⟨⟨some 43,.p (.mov (.tmp 12)),(some (41,true))⟩,0,17⟩,⟨⟨some 44,.p (.iaddr 1 (.tmp 42) (.tmp 43)),(some (41,true))⟩,0,17⟩,⟨⟨some 45,.load1 (.tmp 44),(some (41,true))⟩,0,17⟩,⟨⟨some 46,.p (.iaddr 4 (.tmp 45) (.val (.int .i64 (.ofNat 0)))),(some (41,true))⟩,0,17⟩,⟨⟨some 47,.loadn 4 (.tmp 46),(some (41,true))⟩,0,17⟩,⟨⟨some 48,.p (.mov (.tmp 0)),(some (41,true))⟩,0,17⟩,⟨⟨some 49,.p (.mov (.tmp 11)),(some (41,true))⟩,0,17⟩,⟨⟨some 50,.p (.iaddr 1 (.tmp 48) (.tmp 49)),(some (41,true))⟩,0,17⟩,⟨⟨some 51,.load1 (.tmp 50),(some (41,true))⟩,0,17⟩,⟨⟨some 52,.p (.iaddr 4 (.tmp 51) (.val (.int .i64 (.ofNat 0)))),(some (41,true))⟩,0,17⟩,⟨⟨some 53,.loadn 4 (.tmp 52),(some (41,true))⟩,0,17⟩,⟨⟨some 54,.e (.call (F 50) [(.tmp 47),(.tmp 53)]),(some (41,true))⟩,0,19⟩,⟨⟨some 55,.p (.pick (.tmp 41) (.tmp 54) (.val (.bool false))),none⟩,18,19⟩] [0,2,10,11,12,13,55])
 (.cond (.tmp 55) (.skip)
 (.exit 2)))
 (.block 3 (.seq (.region [⟨some 56,.p (.mov (.tmp 13)),none⟩,⟨some 57,.p (.mov (.tmp 0)),none⟩,⟨some 58,.p (.mov (.tmp 12)),none⟩,⟨some 59,.p (.iaddr 1 (.tmp 57) (.tmp 58)),none⟩,⟨some 60,.load1 (.tmp 59),none⟩,⟨some 61,.p (.slc 4 (.tmp 60) (some (.val (.int .i64 (.ofNat 1)))) none none),none⟩,⟨some 62,.a (.bslice [.nilslice] 1 1 [(0,1,(.tmp 61))]),none⟩,⟨some 63,.e (.append 1 24 (.tmp 56) (.tmp 62)),none⟩,⟨some 13,.p (.mov (.tmp 63)),none⟩] [62] [0,2,10,11,12,13])
 (.region [⟨some 64,.p (.mov (.tmp 12)),none⟩,⟨some 65,.p (.bin .add (.tmp 64) (.val (.int .i64 (.ofNat 1)))),none⟩,⟨some 12,.p (.mov (.tmp 65)),none⟩] [] [0,2,10,11,12,13]))))))
 (.seq (.region [⟨some 67,.p (.mov (.tmp 13)),none⟩,⟨some 68,.p (.mov (.tmp 2)),none⟩,⟨some 69,.e (.call (F 57) [(.tmp 67),(.tmp 68)]),none⟩,⟨some 66,.p (.mov (.tmp 69)),none⟩,⟨some 70,.p (.ext (.tmp 66) 0),none⟩,⟨some 71,.p (.ext (.tmp 66) 1),none⟩,⟨some 14,.p (.mov (.tmp 70)),none⟩,⟨some 15,.p (.mov (.tmp 71)),none⟩] [] [0,2,10,11,12,14,15])
 (.seq (.seq (.region [⟨some 72,.p (.mov (.tmp 15)),none⟩,⟨some 73,.p (.not (.tmp 72)),none⟩] [] [0,2,10,11,12,14,73])
 (.cond (.tmp 73) (.seq (.region [⟨some 6,.p (.mov (.val (.nilslice))),none⟩,⟨some 7,.p (.mov (.val (.bool false))),none⟩] [] [6,7])
 (.ret))
 (.skip)))
 (.seq (.region [⟨some 74,.p (.mov (.tmp 10)),none⟩,⟨some 75,.p (.mov (.tmp 0)),none⟩,⟨some 76,.p (.mov (.tmp 11)),none⟩,⟨some 77,.p (.iaddr 1 (.tmp 75) (.tmp 76)),none⟩,⟨some 78,.load1 (.tmp 77),none⟩,⟨some 79,.p (.iaddr 4 (.tmp 78) (.val (.int .i64 (.ofNat 0)))),none⟩,⟨some 80,.loadn 4 (.tmp 79),none⟩,⟨some 81,.a (.bslice [.bool false,.int .i64 (.ofNat 0),.int .i64 (.ofNat 0),.nilslice] 4 1 [(0,4,(.tmp 80))]),none⟩,⟨some 82,.p (.mov (.tmp 14)),none⟩,⟨some 83,.e (.append 4 48 (.tmp 81) (.tmp 82)),none⟩,⟨some 84,.a (.bslice [.nilslice] 1 1 [(0,1,(.tmp 83))]),none⟩,⟨some 85,.e (.append 1 24 (.tmp 74) (.tmp 84)),none⟩,⟨some 10,.p (.mov (.tmp 85)),none⟩] [84] [0,2,10,12])
 (.region [⟨some 86,.p (.mov (.tmp 12)),none⟩,⟨some 11,.p (.mov (.tmp 86)),none⟩] [] [0,2,10,11]))))))))))))
 (.seq (.region [⟨some 87,.p (.mov (.tmp 10)),none⟩,⟨some 6,.p (.mov (.tmp 87)),none⟩,⟨some 7,.p (.mov (.val (.bool true))),none⟩] [] [6,7])
 (.ret))))))
def M55 (F : Nat → Nat) : Fun := ⟨88,3,(K55 F).erase,[.tmp 6,.tmp 7]⟩
abbrev K56 (F : Nat → Nat) : KC := .seq (.region [⟨some 4,.p (.mov (.val (.nilslice))),none⟩,⟨some 5,.p (.mov (.val (.bool false))),none⟩] [] [0,1])
 (.seq (.region [⟨some 11,.a (.bslice [] 4 0 []),none⟩,⟨some 12,.p (.mov (.tmp 0)),none⟩,⟨some 13,.e (.append 4 48 (.tmp 11) (.tmp 12)),none⟩,⟨some 6,.p (.mov (.tmp 13)),none⟩] [] [1,6])
 (.seq (.seq (.region [⟨some 7,.p (.mov (.val (.int .i64 (.ofNat 0)))),none⟩] [] [1,6,7])
 (.block 0 (.loop (.seq (.seq (.region [⟨some 14,.p (.mov (.tmp 7)),none⟩,⟨some 15,.p (.mov (.tmp 1)),none⟩,⟨some 16,.p (.lenb (.tmp 15)),none⟩,⟨some 17,.p (.bin .lss (.tmp 14) (.tmp 16)),none⟩] [] [1,6,7,17])
 (.cond (.tmp 17) (.skip)
 (.exit 0)))
 (.seq (.block 1 (.seq (.region [⟨some 20,.p (.mov (.tmp 6)),none⟩,⟨some 21,.p (.mov (.tmp 1)),none⟩,⟨some 22,.p (.mov (.tmp 7)),none⟩,⟨some 23,.p (.iaddr 6 (.tmp 21) (.tmp 22)),none⟩,⟨some 24,.p (.faddr 0 (.tmp 23)),none⟩,⟨some 25,.load1 (.tmp 24),none⟩,⟨some 26,.p (.iaddr 4 (.tmp 20) (.tmp 25)),none⟩,⟨some 27,.loadn 4 (.tmp 26),none⟩,⟨some 8,.a (.new [.bool false,.int .i64 (.ofNat 0),.int .i64 (.ofNat 0),.nilslice]),none⟩,⟨none,.e (.store 4 (.tmp 8) (.tmp 27)),none⟩] [] [1,6,7,8])
 (.block 2 (.seq (.region [⟨some 29,.p (.mov (.tmp 1)),none⟩,⟨some 30,.p (.mov (.tmp 7)),none⟩,⟨some 31,.p (.iaddr 6 (.tmp 29) (.tmp 30)),none⟩,⟨some 32,.p (.faddr 1 (.tmp 31)),none⟩,⟨some 33,.load1 (.tmp 32),none⟩,⟨some 34,.p (.not (.tmp 33)),none⟩,⟨some 28,.p (.mov (.tmp 34)),none⟩] [] [1,6,7,8,28])
 (.cond (.tmp 28) (.dregion [⟨⟨some 35,.p (.mov (.tmp 6)),none⟩,0,12⟩,⟨⟨some 36,.p (.mov (.tmp 1)),none⟩,0,12⟩,⟨⟨some 37,.p (.mov (.tmp 7)),none⟩,0,12⟩,⟨⟨some 38,.p (.iaddr 6 (.tmp 36) (.tmp 37)),none⟩,0,12⟩,⟨⟨some 39,.p (.faddr 0 (.tmp 38)),none⟩,0,12⟩,⟨⟨some 40,.load1 (.tmp 39),none⟩,0,12⟩,⟨⟨some 41,.p (.mov (.tmp 1)),none⟩,0,12⟩,⟨⟨some 42,.p (.mov (.tmp 7)),none⟩,0,12⟩,⟨⟨some 43,.p (.iaddr 6 (.tmp 41) (.tmp 42)),none⟩,0,12⟩,⟨⟨some 44,.p (.faddr 2 (.tmp 43)),none⟩,0,12⟩,⟨⟨some 45,.loadn 4 (.tmp 44),none⟩,0,12⟩,⟨⟨some 46,.p (.iaddr 4 (.tmp 35) (.tmp 40)),none⟩,0,12⟩,⟨⟨none,.e (.store 4 (.tmp 46) (.tmp 45)),none⟩,0,13⟩] [1,6,7])
 (.seq (.region [⟨some 48,.p (.faddr 0 (.tmp 8)),none⟩,⟨some 49,.load1 (.tmp 48),none⟩,⟨some 50,.p (.not (.tmp 49)),none⟩,⟨some 47,.p (.mov (.tmp 50)),none⟩] [] [1,6,7,8,47])
 (.cond (.tmp 47) (.seq (.dregion [⟨⟨some 52,.loadn 4 (.tmp 8),none⟩,0,7⟩,⟨⟨some 53,.p (.mov (.tmp 1)),none⟩,0,7⟩,⟨⟨some 54,.p (.mov (.tmp 7)),none⟩,0,7⟩,⟨⟨some 55,.p (.iaddr 6 (.tmp 53) (.tmp 54)),none⟩,0,7⟩,⟨⟨some 56,.p (.faddr 2 (.tmp 55)),none⟩,0,7⟩,⟨⟨some 57,.loadn 4 (.tmp 56),none⟩,0,7⟩,⟨⟨some 58,.a (.bslice [.bool false,.int .i64 (.ofNat 0),.int .i64 (.ofNat 0),.nilslice,.bool false,.int .i64 (.ofNat 0),.int .i64 (.ofNat 0),.nilslice] 4 2 [(0,4,(.tmp 52)),(4,4,(.tmp 57))]),none⟩,0,7⟩,⟨⟨some 59,.e (.call (F 59) [(.tmp 58)]),none⟩,0,13⟩,⟨⟨some 51,.p (.mov (.tmp 59)),none⟩,8,13⟩,⟨⟨some 60,.p (.ext (.tmp 51) 0),none⟩,8,13⟩,⟨⟨some 61,.p (.ext (.tmp 51) 1),none⟩,8,13⟩,⟨⟨some 9,.p (.mov (.tmp 60)),none⟩,8,13⟩,⟨⟨some 10,.p (.mov (.tmp 61)),none⟩,8,13⟩] [1,6,7,8,9,10])
 (.seq (.seq (.region [⟨some 62,.p (.mov (.tmp 10)),none⟩,⟨some 63,.p (.not (.tmp 62)),none⟩] [] [1,6,7,8,9,63])
 (.cond (.tmp 63) (.seq (.region [⟨some 4,.p (.mov (.val (.nilslice))),none⟩,⟨some 5,.p (.mov (.val (.bool false))),none⟩] [] [4,5])
 (.ret))
 (.skip)))
 (.seq (.region [⟨some 64,.p (.mov (.tmp 9)),none⟩,⟨some 65,.p (.faddr 2 (.tmp 8)),none⟩,⟨none,.e (.store 1 (.tmp 65) (.tmp 64)),none⟩] [] [1,6,7,8])
 (.dregion [⟨⟨some 66,.p (.mov (.tmp 6)),none⟩,0,8⟩,⟨⟨some 67,.p (.mov (.tmp 1)),none⟩,0,8⟩,⟨⟨some 68,.p (.mov (.tmp 7)),none⟩,0,8⟩,⟨⟨some 69,.p (.iaddr 6 (.tmp 67) (.tmp 68)),none⟩,0,8⟩,⟨⟨some 70,.p (.faddr 0 (.tmp 69)),none⟩,0,8⟩,⟨⟨some 71,.load1 (.tmp 70),none⟩,0,8⟩,⟨⟨some 72,.loadn 4 (.tmp 8),none⟩,0,8⟩,⟨⟨some 73,.p (.iaddr 4 (.tmp 66) (.tmp 71)),none⟩,0,8⟩,⟨⟨none,.e (.store 4 (.tmp 73) (.tmp 72)),none⟩,0,9⟩] [1,6,7]))))
 (.skip))))))))
 (.region [⟨some 18,.p (.mov (.tmp 7)),none⟩,⟨some 19,.p (.bin .add (.tmp 18) (.val (.int .i64 (.ofNat 1)))),none⟩,⟨some 7,.p (.mov (.tmp 19)),none⟩] [] [1,6,7]))))))
 (.seq (.region [⟨some 74,.p (.mov (.tmp 6)),none⟩,⟨some 4,.p (.mov (.tmp 74)),none⟩,⟨some 5,.p (.mov (.val (.bool true))),none⟩] [] [4,5])
 (.ret))))
def M56 (F : Nat → Nat) : Fun := ⟨75,2,(K56 F).erase,[.tmp 4,.tmp 5]⟩
abbrev K57 (F : Nat → Nat) : KC := .seq (.region [⟨some 4,.p (.mov (.val (.nilslice))),none⟩,⟨some 5,.p (.mov (.val (.bool false))),none⟩] [] [0,1])
 (.seq (.region [⟨some 6,.p (.mov (.val (.nilslice))),none⟩] [] [0,1,6])
 (.seq (.seq (.region [⟨some 7,.p (.mov (.val (.int .i64 (.ofNat 0)))),none⟩] [] [0,1,6,7])
 (.block 0 (.loop (.seq (.seq (.region [⟨some 10,.p (.mov (.tmp 7)),none⟩,⟨some 11,.p (.mov (.tmp 1)),none⟩,⟨some 12,.p (.lenb (.tmp 11)),none⟩,⟨some 13,.p (.bin .lss (.tmp 10) (.tmp 12)),none⟩] [] [0,1,6,7,13])
 (.cond (.tmp 13) (.skip)
 (.exit 0)))
 (.seq (.block 1 (.seq (.region [⟨some 17,.p (.mov (.tmp 0)),none⟩,⟨some 18,.p (.mov (.tmp 1)),none⟩,⟨some 19,.p (.mov (.tmp 7)),none⟩,⟨some 20,.p (.iaddr 2 (.tmp 18) (.tmp 19)),none⟩,⟨some 21,.loadn 2 (.tmp 20),none⟩,⟨some 22,.e (.call (F 60) [(.tmp 17),(.tmp 21)]),none⟩,⟨some 16,.p (.mov (.tmp 22)),none⟩,⟨some 23,.p (.ext (.tmp 16) 0),none⟩,⟨some 24,.p (.ext (.tmp 16) 1),none⟩,⟨some 8,.a (.new [.bool false,.int .i64 (.ofNat 0),.int .i64 (.ofNat 0),.nilslice]),none⟩,⟨none,.e (.store 4 (.tmp 8) (.tmp 23)),none⟩,⟨some 9,.p (.mov (.tmp 24)),none⟩] [] [0,1,6,7,8,9])
 (.seq (.seq (.region [⟨some 25,.p (.mov (.tmp 9)),none⟩,⟨some 26,.p (.not (.tmp 25)),none⟩] [] [0,1,6,7,8,26])
 (.cond (.tmp 26) (.seq (.region [⟨some 4,.p (.mov (.val (.nilslice))),none⟩,⟨some 5,.p (.mov (.val (.bool false))),none⟩] [] [4,5])
 (.ret))
 (.skip)))
 (.region [⟨some 27,.p (.mov (.tmp 6)),none⟩,⟨some 28,.loadn 4 (.tmp 8),none⟩,⟨some 29,.a (.bslice [.bool false,.int .i64 (.ofNat 0),.int .i64 (.ofNat 0),.nilslice] 4 1 [(0,4,(.tmp 28))]),none⟩,⟨some 30,.e (.append 4 48 (.tmp 27) (.tmp 29)),none⟩,⟨some 6,.p (.mov (.tmp 30)),none⟩] [29] [0,1,6,7]))))
 (.region [⟨some 14,.p (.mov (.tmp 7)),none⟩,⟨some 15,.p (.bin .add (.tmp 14) (.val (.int .i64 (.ofNat 1)))),none⟩,⟨some 7,.p (.mov (.tmp 15)),none⟩] [] [0,1,6,7]))))))
 (.seq (.region [⟨some 31,.p (.mov (.tmp 6)),none⟩,⟨some 4,.p (.mov (.tmp 31)),none⟩,⟨some 5,.p (.mov (.val (.bool true))),none⟩] [] [4,5])
 (.ret))))
def M57 (F : Nat → Nat) : Fun := ⟨32,2,(K57 F).erase,[.tmp 4,.tmp 5]⟩
abbrev K58 (_F : Nat → Nat) : KC := .seq (.region [⟨some 4,.p (.mov (.val (.nilslice))),none⟩] [] [0,1])
 (.seq (.region [⟨some 5,.p (.mov (.val (.nilslice))),none⟩] [] [0,1,5])
 (.seq (.seq (.region [⟨some 6,.p (.mov (.val (.int .i64 (.ofNat 0)))),none⟩] [] [0,1,5,6])
 (.block 0 (.loop (.seq (.seq (.region [⟨some 7,.p (.mov (.tmp 6)),none⟩,⟨some 8,.p (.mov (.tmp 0)),none⟩,⟨some 9,.p (.lenb (.tmp 8)),none⟩,⟨some 10,.p (.bin .lss (.tmp 7) (.tmp 9)),none⟩] [] [0,1,5,6,10])
 (.cond (.tmp 10) (.skip)
 (.exit 0)))
 (.seq (.block 1 (.dregion [⟨⟨some 14,.p (.mov (.tmp 0)),none⟩,0,12⟩,⟨⟨some 15,.p (.mov (.tmp 6)),none⟩,0,12⟩,⟨⟨some 16,.p (.iaddr 1 (.tmp 14) (.tmp 15)),none⟩,0,12⟩,⟨⟨some 17,.load1 (.tmp 16),none⟩,0,12⟩,⟨⟨some 18,.p (.mov (.tmp 1)),none⟩,0,12⟩,⟨⟨some 19,.p (.iaddr 4 (.tmp 17) (.tmp 18)),none⟩,0,12⟩,⟨⟨some 20,.loadn 4 (.tmp 19),none⟩,0,12⟩,⟨⟨some 21,.a (.bslice [.bool false,.int .i64 (.ofNat 0),.int .i64 (.ofNat 0),.nilslice] 4 1 [(0,4,(.tmp 20))]),none⟩,0,12⟩,⟨⟨some 22,.p (.mov (.tmp 0)),none⟩,0,12⟩,⟨⟨some 23,.p (.mov (.tmp 6)),none⟩,0,12⟩,⟨⟨some 24,.p (.iaddr 1 (.tmp 22) (.tmp 23)),none⟩,0,12⟩,⟨⟨some 25,.load1 (.tmp 24),none⟩,0,12⟩,⟨⟨some 26,.e (.append 4 48 (.tmp 21) (.tmp 25)),none⟩,0,15⟩,⟨⟨some 13,.p (.mov (.tmp 5)),none⟩,0,15⟩,⟨⟨some 27,.a (.bslice [.nilslice] 1 1 [(0,1,(.tmp 26))]),none⟩,13,15⟩,⟨⟨some 28,.e (.append 1 24 (.tmp 13) (.tmp 27)),none⟩,13,17⟩,⟨⟨some 5,.p (.mov (.tmp 28)),none⟩,16,17⟩] [0,1,5,6]))
 (.region [⟨some 11,.p (.mov (.tmp 6)),none⟩,⟨some 12,.p (.bin .add (.tmp 11) (.val (.int .i64 (.ofNat 1)))),none⟩,⟨some 6,.p (.mov (.tmp 12)),none⟩] [] [0,1,5,6]))))))
 (.seq (.region [⟨some 29,.p (.mov (.tmp 5)),none⟩,⟨some 4,.p (.mov (.tmp 29)),none⟩] [] [4])
 (.ret))))
def M58 (F : Nat → Nat) : Fun := ⟨30,2,(K58 F).erase,[.tmp 4]⟩
abbrev K59 (_F : Nat → Nat) : KC := .seq (.region [⟨some 2,.p (.mov (.val (.int .i64 (.ofNat 0)))),none⟩,⟨some 3,.p (.mov (.val (.bool false))),none⟩] [] [0])
 (.seq (.region [⟨some 4,.p (.mov (.val (.int .i64 (.ofNat 0)))),none⟩,⟨some 5,.p (.mov (.val (.int .u64 (.ofNat 0)))),none⟩] [] [0,4,5])
 (.seq (.seq (.region [⟨some 6,.p (.mov (.val (.int .i64 (.ofNat 0)))),none⟩] [] [0,4,5,6])
 (.block 0 (.loop (.seq (.seq (.region [⟨some 9,.p (.mov (.tmp 6)),none⟩,⟨some 10,.p (.mov (.tmp 0)),none⟩,⟨some 11,.p (.lenb (.tmp 10)),none⟩,⟨some 12,.p (.bin .lss (.tmp 9) (.tmp 11)),none⟩] [] [0,4,5,6,12])
 (.cond (.tmp 12) (.skip)
 (.exit 0)))
 (.seq (.block 1 (.seq (.seq (.region [⟨some 15,.p (.mov (.tmp 0)),none⟩,⟨some 16,.p (.mov (.tmp 6)),none⟩,⟨some 17,.p (.iaddr 4 (.tmp 15) (.tmp 16)),none⟩,⟨some 18,.p (.faddr 0 (.tmp 17)),none⟩,⟨some 19,.load1 (.tmp 18),none⟩] [] [0,4,5,6,19])
 (.cond (.tmp 19) (.exit 1)
 (.skip)))
 (.seq (.region [⟨some 20,.p (.mov (.tmp 0)),none⟩,⟨some 21,.p (.mov (.tmp 6)),none⟩,⟨some 22,.p (.iaddr 4 (.tmp 20) (.tmp 21)),none⟩,⟨some 23,.p (.faddr 2 (.tmp 22)),none⟩,⟨some 24,.load1 (.tmp 23),none⟩,⟨some 25,.p (.conv (.int .u64) (.tmp 24)),none⟩,⟨some 7,.p (.mov (.tmp 25)),none⟩] [] [0,4,5,6,7])
 (.seq (.region [⟨some 26,.p (.mov (.tmp 5)),none⟩,⟨some 8,.p (.mov (.tmp 26)),none⟩] [] [0,4,5,6,7,8])
 (.seq (.region [⟨some 27,.p (.mov (.tmp 5)),none⟩,⟨some 28,.p (.mov (.tmp 7)),none⟩,⟨some 29,.p (.bin .add (.tmp 27) (.tmp 28)),none⟩,⟨some 5,.p (.mov (.tmp 29)),none⟩] [] [0,4,5,6,8])
 (.seq (.seq (.region [⟨some 30,.p (.mov (.tmp 5)),none⟩,⟨some 31,.p (.mov (.tmp 8)),none⟩,⟨some 32,.p (.bin .lss (.tmp 30) (.tmp 31)),none⟩] [] [0,4,5,6,32])
 (.cond (.tmp 32) (.region [⟨some 33,.p (.mov (.tmp 4)),none⟩,⟨some 34,.p (.bin .add (.tmp 33) (.val (.int .i64 (.ofNat 1)))),none⟩,⟨some 4,.p (.mov (.tmp 34)),none⟩] [] [0,4,5,6])
 (.skip)))
 (.seq (.region [⟨some 35,.p (.mov (.tmp 0)),none⟩,⟨some 36,.p (.mov (.tmp 6)),none⟩,⟨some 37,.p (.iaddr 4 (.tmp 35) (.tmp 36)),none⟩,⟨some 38,.p (.faddr 2 (.tmp 37)),none⟩,⟨some 39,.load1 (.tmp 38),none⟩,⟨some 40,.p (.bin .lss (.tmp 39) (.val (.int .i64 (.ofNat 0)))),none⟩] [] [0,4,5,6,40])
 (.cond (.tmp 40) (.region [⟨some 41,.p (.mov (.tmp 4)),none⟩,⟨some 42,.p (.bin .sub (.tmp 41) (.val (.int .i64 (.ofNat 1)))),none⟩,⟨some 4,.p (.mov (.tmp 42)),none⟩] [] [0,4,5,6])
 (.skip)))))))))
 (.region [⟨some 13,.p (.mov (.tmp 6)),none⟩,⟨some 14,.p (.bin .add (.tmp 13) (.val (.int .i64 (.ofNat 1)))),none⟩,⟨some 6,.p (.mov (.tmp 14)),none⟩] [] [0,4,5,6]))))))
 (.seq (.region [⟨some 43,.p (.mov (.tmp 5)),none⟩,⟨some 44,.p (.conv (.int .i64) (.tmp 43)),none⟩,⟨some 45,.p (.mov (.tmp 4)),none⟩,⟨some 46,.p (.bin .eql (.tmp 45) (.val (.int .i64 (.ofNat 0)))),none⟩,⟨some 47,.p (.mov (.tmp 46)),none⟩,⟨some 48,.p (.mov (.tmp 5)),(some (47,true))⟩,⟨some 49,.p (.bin .lss (.tmp 48) (.val (.int .u64 (.ofNat 9223372036854775808)))),(some (47,true))⟩,⟨some 50,.p (.pick (.tmp 47) (.tmp 49) (.val (.bool false))),none⟩,⟨some 51,.p (.mov (.tmp 50)),none⟩,⟨some 52,.p (.mov (.tmp 4)),(some (51,false))⟩,⟨some 53,.p (.bin .eql (.tmp 52) (.val (.int .i64 (.negSucc 0)))),(some (51,false))⟩,⟨some 54,.p (.mov (.tmp 53)),(some (51,false))⟩,⟨some 55,.p (.mov (.tmp 5)),(some (54,true))⟩,⟨some 56,.p (.bin .geq (.tmp 55) (.val (.int .u64 (.ofNat 9223372036854775808)))),(some (54,true))⟩,⟨some 57,.p (.pick (.tmp 54) (.tmp 56) (.val (.bool false))),(some (51,false))⟩,⟨some 58,.p (.pick (.tmp 51) (.val (.bool true)) (.tmp 57)),none⟩,⟨some 2,.p (.mov (.tmp 44)),none⟩,⟨some 3,.p (.mov (.tmp 58)),none⟩] [] [2,3])
 (.ret))))
def M59 (F : Nat → Nat) : Fun := ⟨59,1,(K59 F).erase,[.tmp 2,.tmp 3]⟩
abbrev K60 (F : Nat → Nat) : KC := .seq (.region [⟨some 3,.a (.box (.tmp 1)),none⟩,⟨some 4,.a (.new [.bool false,.int .i64 (.ofNat 0),.int .i64 (.ofNat 0),.nilslice]),none⟩,⟨some 5,.p (.mov (.val (.bool false))),none⟩] [3] [0,3,4])
 (.seq (.region [⟨some 6,.p (.mov (.val (.nilslice))),none⟩] [] [0,3,4,6])
 (.seq (.region [⟨some 14,.p (.build [.bool false,.int .i64 (.ofNat 0),.int .i64 (.ofNat 0),.nilslice] [(0,1,(.val (.bool true)))]),none⟩,⟨some 7,.a (.new [.bool false,.int .i64 (.ofNat 0),.int .i64 (.ofNat 0),.nilslice]),none⟩,⟨none,.e (.store 4 (.tmp 7) (.tmp 14)),none⟩] [] [0,3,4,6,7])
 (.seq (.seq (.region [⟨some 8,.p (.mov (.val (.int .i64 (.ofNat 0)))),none⟩] [] [0,3,4,6,7,8])
 (.block 0 (.loop (.seq (.seq (.region [⟨some 15,.p (.mov (.tmp 8)),none⟩,⟨some 16,.p (.mov (.tmp 0)),none⟩,⟨some 17,.p (.lenb (.tmp 16)),none⟩,⟨some 18,.p (.bin .lss (.tmp 15) (.tmp 17)),none⟩] [] [0,3,4,6,7,8,18])
 (.cond (.tmp 18) (.skip)
 (.exit 0)))
 (.seq (.block 1 (.seq (.dregion [⟨⟨some 21,.p (.mov (.tmp 0)),none⟩,0,9⟩,⟨⟨some 22,.p (.mov (.tmp 8)),none⟩,0,9⟩,⟨⟨some 23,.p (.iaddr 1 (.tmp 21) (.tmp 22)),none⟩,0,9⟩,⟨⟨some 24,.load1 (.tmp 23),none⟩,0,9⟩,⟨⟨some 25,.p (.faddr 1 (.tmp 3)),none⟩,0,9⟩,⟨⟨some 26,.load1 (.tmp 25),none⟩,0,9⟩,⟨⟨some 27,.p (.iaddr 4 (.tmp 24) (.tmp 26)),none⟩,0,9⟩,⟨⟨some 28,.loadn 4 (.tmp 27),none⟩,0,9⟩,⟨⟨some 9,.a (.new [.bool false,.int .i64 (.ofNat 0),.int .i64 (.ofNat 0),.nilslice]),none⟩,0,9⟩,⟨⟨none,.e (.store 4 (.tmp 9) (.tmp 28)),none⟩,0,10⟩] [0,3,4,6,7,8,9])
 (.seq (.region [⟨some 29,.p (.mov (.tmp 6)),none⟩,⟨some 30,.loadn 4 (.tmp 9),none⟩,⟨some 31,.a (.bslice [.bool false,.int .i64 (.ofNat 0),.int .i64 (.ofNat 0),.nilslice] 4 1 [(0,4,(.tmp 30))]),none⟩,⟨some 32,.e (.append 4 48 (.tmp 29) (.tmp 31)),none⟩,⟨some 6,.p (.mov (.tmp 32)),none⟩] [31] [0,3,4,6,7,8,9])
 (.region [⟨some 33,.p (.faddr 1 (.tmp 9)),none⟩,⟨some 34,.load1 (.tmp 33),none⟩,⟨some 35,.p (.faddr 1 (.tmp 7)),none⟩,⟨none,.e (.store 1 (.tmp 35) (.tmp 34)),none⟩] [] [0,3,4,6,7,8]))))
 (.region [⟨some 19,.p (.mov (.tmp 8)),none⟩,⟨some 20,.p (.bin .add (.tmp 19) (.val (.int .i64 (.ofNat 1)))),none⟩,⟨some 8,.p (.mov (.tmp 20)),none⟩] [] [0,3,4,6,7,8]))))))
 (.seq (.seq (.region [⟨some 36,.p (.faddr 0 (.tmp 3)),none⟩,⟨some 37,.load1 (.tmp 36),none⟩] [] [0,3,4,6,7,37])
 (.block 2 (.seq (.region [⟨some 39,.p (.bin .eql (.tmp 37) (.val (.int .i64 (.ofNat 1)))),none⟩,⟨some 38,.p (.mov (.tmp 39)),none⟩] [] [0,3,4,6,7,37,38])
 (.cond (.tmp 38) (.seq (.region [⟨some 40,.p (.mov (.tmp 0)),none⟩,⟨some 41,.p (.lenb (.tmp 40)),none⟩,⟨some 42,.p (.build [.bool false,.int .i64 (.ofNat 0),.int .i64 (.ofNat 0),.nilslice] [(1,1,(.val (.int .i64 (.ofNat 1)))),(2,1,(.tmp 41))]),none⟩,⟨none,.e (.store 4 (.tmp 4) (.tmp 42)),none⟩,⟨some 5,.p (.mov (.val (.bool true))),none⟩] [] [4,5])
 (.ret))
 (.seq (.region [⟨some 44,.p (.bin .eql (.tmp 37) (.val (.int .i64 (.ofNat 2)))),none⟩,⟨some 43,.p (.mov (.tmp 44)),none⟩] [] [3,4,6,7,43])
 (.cond (.tmp 43) (.seq (.region [⟨some 46,.p (.mov (.tmp 6)),none⟩,⟨some 47,.e (.call (F 59) [(.tmp 46)]),none⟩,⟨some 45,.p (.mov (.tmp 47)),none⟩,⟨some 48,.p (.ext (.tmp 45) 0),none⟩,⟨some 49,.p (.ext (.tmp 45) 1),none⟩,⟨some 10,.p (.mov (.tmp 48)),none⟩,⟨some 11,.p (.mov (.tmp 49)),none⟩] [] [4,10,11])
 (.seq (.region [⟨some 50,.p (.mov (.tmp 10)),none⟩,⟨some 51,.p (.build [.bool false,.int .i64 (.ofNat 0),.int .i64 (.ofNat 0),.nilslice] [(1,1,(.val (.int .i64 (.ofNat 1)))),(2,1,(.tmp 50))]),none⟩,⟨some 52,.p (.mov (.tmp 11)),none⟩,⟨none,.e (.store 4 (.tmp 4) (.tmp 51)),none⟩,⟨some 5,.p (.mov (.tmp 52)),none⟩] [] [4,5])
 (.ret)))
 (.skip)))))))
 (.seq (.seq (.region [⟨some 12,.p (.mov (.val (.int .i64 (.ofNat 0)))),none⟩] [] [3,4,6,7,12])
 (.block 3 (.loop (.seq (.seq (.region [⟨some 53,.p (.mov (.tmp 12)),none⟩,⟨some 54,.p (.mov (.tmp 6)),none⟩,⟨some 55,.p (.lenb (.tmp 54)),none⟩,⟨some 56,.p (.bin .lss (.tmp 53) (.tmp 55)),none⟩] [] [3,4,6,7,12,56])
 (.cond (.tmp 56) (.skip)
 (.exit 3)))
 (.seq (.block 4 (.seq (.dregion [⟨⟨some 59,.p (.mov (.tmp 6)),none⟩,0,5⟩,⟨⟨some 60,.p (.mov (.tmp 12)),none⟩,0,5⟩,⟨⟨some 61,.p (.iaddr 4 (.tmp 59) (.tmp 60)),none⟩,0,5⟩,⟨⟨some 62,.loadn 4 (.tmp 61),none⟩,0,5⟩,⟨⟨some 63,.loadn 4 (.tmp 7),none⟩,0,5⟩,⟨⟨some 64,.e (.call (F 46) [(.tmp 62),(.tmp 63)]),none⟩,0,7⟩,⟨⟨some 13,.p (.mov (.tmp 64)),none⟩,6,7⟩] [3,4,6,7,12,13])
 (.seq (.region [⟨some 65,.p (.mov (.tmp 6)),none⟩,⟨some 66,.p (.mov (.tmp 12)),none⟩,⟨some 67,.p (.iaddr 4 (.tmp 65) (.tmp 66)),none⟩,⟨some 68,.p (.faddr 0 (.tmp 67)),none⟩,⟨some 69,.load1 (.tmp 68),none⟩,⟨some 70,.p (.not (.tmp 69)),none⟩,⟨some 71,.p (.mov (.tmp 70)),none⟩,⟨some 72,.p (.faddr 0 (.tmp 7)),(some (71,true))⟩,⟨some 73,.load1 (.tmp 72),(some (71,true))⟩,⟨some 74,.p (.mov (.tmp 73)),(some (71,true))⟩,⟨some 75,.p (.faddr 0 (.tmp 3)),(some (74,false))⟩,⟨some 76,.load1 (.tmp 75),(some (74,false))⟩,⟨some 77,.p (.bin .eql (.tmp 76) (.val (.int .i64 (.ofNat 3)))),(some (74,false))⟩,⟨some 78,.p (.mov (.tmp 77)),(some (74,false))⟩,⟨some 79,.p (.mov (.tmp 13)),(some (78,true))⟩,⟨some 80,.p (.bin .lss (.tmp 79) (.val (.int .i64 (.ofNat 0)))),(some (78,true))⟩,⟨some 81,.p (.pick (.tmp 78) (.tmp 80) (.val (.bool false))),(some (74,false))⟩,⟨some 82,.p (.pick (.tmp 74) (.val (.bool true)) (.tmp 81)),(some (71,true))⟩,⟨some 83,.p (.mov (.tmp 82)),(some (71,true))⟩,⟨some 84,.p (.faddr 0 (.tmp 3)),(some (83,false))⟩,⟨some 85,.load1 (.tmp 84),(some (83,false))⟩,⟨some 86,.p (.bin .eql (.tmp 85) (.val (.int .i64 (.ofNat 4)))),(some (83,false))⟩,⟨some 87,.p (.mov (.tmp 86)),(some (83,false))⟩,⟨some 88,.p (.mov (.tmp 13)),(some (87,true))⟩,⟨some 89,.p (.bin .gtr (.tmp 88) (.val (.int .i64 (.ofNat 0)))),(some (87,true))⟩,⟨some 90,.p (.pick (.tmp 87) (.tmp 89) (.val (.bool false))),(some (83,false))⟩,⟨some 91,.p (.pick (.tmp 83) (.val (.bool true)) (.tmp 90)),(some (71,true))⟩,⟨some 92,.p (.pick (.tmp 71) (.tmp 91) (.val (.bool false))),none⟩] [] [3,4,6,7,12,92])
 (.cond (.tmp 92) (.region [⟨some 93,.p (.mov (.tmp 6)),none⟩,⟨some 94,.p (.mov (.tmp 12)),none⟩,⟨some 95,.p (.iaddr 4 (.tmp 93) (.tmp 94)),none⟩,⟨some 96,.loadn 4 (.tmp 95),none⟩,⟨none,.e (.store 4 (.tmp 7) (.tmp 96)),none⟩] [] [3,4,6,7,12])
 (.skip)))))
 (.region [⟨some 57,.p (.mov (.tmp 12)),none⟩,⟨some 58,.p (.bin .add (.tmp 57) (.val (.int .i64 (.ofNat 1)))),none⟩,⟨some 12,.p (.mov (.tmp 58)),none⟩] [] [3,4,6,7,12]))))))
 (.seq (.region [⟨some 97,.loadn 4 (.tmp 7),none⟩,⟨none,.e (.store 4 (.tmp 4) (.tmp 97)),none⟩,⟨some 5,.p (.mov (.val (.bool true))),none⟩] [] [4,5])
 (.ret)))))))
def M60 (F : Nat → Nat) : Fun := ⟨98,2,(K60 F).erase,[.celln 4 4,.tmp 5]⟩
end Go.Lib
end

section
namespace Go.Lib
open Go.Vm Go.Dv
set_option maxRecDepth 100000
abbrev K46 (_F : Nat → Nat) : KC := .seq (.region [⟨some 2,.a (.box (.tmp 0)),none⟩,⟨some 3,.a (.box (.tmp 1)),none⟩,⟨some 4,.p (.mov (.val (.int .i64 (.ofNat 0)))),none⟩] [2,3] [2,3])
 (.seq (.block 0 (.seq (.region [⟨some 6,.p (.faddr 0 (.tmp 2)),none⟩,⟨some 7,.load1 (.tmp 6),none⟩,⟨some 8,.p (.mov (.tmp 7)),none⟩,⟨some 9,.p (.faddr 0 (.tmp 3)),(some (8,false))⟩,⟨some 10,.load1 (.tmp 9),(some (8,false))⟩,⟨some 11,.p (.pick (.tmp 8) (.val (.bool true)) (.tmp 10)),none⟩,⟨some 5,.p (.mov (.tmp 11)),none⟩] [] [2,3,5])
 (.cond (.tmp 5) (.seq (.seq (.region [⟨some 12,.p (.faddr 0 (.tmp 2)),none⟩,⟨some 13,.load1 (.tmp 12),none⟩,⟨some 14,.p (.faddr 0 (.tmp 3)),none⟩,⟨some 15,.load1 (.tmp 14),none⟩,⟨some 16,.p (.eq .bool false (.tmp 13) (.tmp 15)),none⟩] [] [2,16])
 (.cond (.tmp 16) (.seq (.region [⟨some 4,.p (.mov (.val (.int .i64 (.ofNat 0)))),none⟩] [] [4])
 (.ret))
 (.skip)))
 (.seq (.seq (.region [⟨some 17,.p (.faddr 0 (.tmp 2)),none⟩,⟨some 18,.load1 (.tmp 17),none⟩] [] [18])
 (.cond (.tmp 18) (.seq (.region [⟨some 4,.p (.mov (.val (.int .i64 (.negSucc 0)))),none⟩] [] [4])
 (.ret))
 (.skip)))
 (.seq (.region [⟨some 4,.p (.mov (.val (.int .i64 (.ofNat 1)))),none⟩] [] [4])
 (.ret))))
 (.seq (.region [⟨some 20,.p (.faddr 1 (.tmp 2)),none⟩,⟨some 21,.load1 (.tmp 20),none⟩,⟨some 22,.p (.bin .eql (.tmp 21) (.val (.int .i64 (.ofNat 1)))),none⟩,⟨some 23,.p (.mov (.tmp 22)),none⟩,⟨some 24,.p (.faddr 2 (.tmp 2)),(some (23,true))⟩,⟨some 25,.load1 (.tmp 24),(some (23,true))⟩,⟨some 26,.p (.faddr 2 (.tmp 3)),(some (23,true))⟩,⟨some 27,.load1 (.tmp 26),(some (23,true))⟩,⟨some 28,.p (.bin .neq (.tmp 25) (.tmp 27)),(some (23,true))⟩,⟨some 29,.p (.pick (.tmp 23) (.tmp 28) (.val (.bool false))),none⟩,⟨some 19,.p (.mov (.tmp 29)),none⟩] [] [2,3,19])
 (.cond (.tmp 19) (.seq (.seq (.region [⟨some 30,.p (.faddr 2 (.tmp 2)),none⟩,⟨some 31,.load1 (.tmp 30),none⟩,⟨some 32,.p (.faddr 2 (.tmp 3)),none⟩,⟨some 33,.load1 (.tmp 32),none⟩,⟨some 34,.p (.bin .lss (.tmp 31) (.tmp 33)),none⟩] [] [34])
 (.cond (.tmp 34) (.seq (.region [⟨some 4,.p (.mov (.val (.int .i64 (.negSucc 0)))),none⟩] [] [4])
 (.ret))
 (.skip)))
 (.seq (.region [⟨some 4,.p (.mov (.val (.int .i64 (.ofNat 1)))),none⟩] [] [4])
 (.ret)))
 (.seq (.region [⟨some 36,.p (.faddr 1 (.tmp 2)),none⟩,⟨some 37,.load1 (.tmp 36),none⟩,⟨some 38,.p (.bin .eql (.tmp 37) (.val (.int .i64 (.ofNat 2)))),none⟩,⟨some 39,.p (.mov (.tmp 38)),none⟩,⟨some 40,.p (.faddr 3 (.tmp 2)),(some (39,true))⟩,⟨some 41,.load1 (.tmp 40),(some (39,true))⟩,⟨some 42,.e (.text (.tmp 41)),(some (39,true))⟩,⟨some 43,.p (.faddr 3 (.tmp 3)),(some (39,true))⟩,⟨some 44,.load1 (.tmp 43),(some (39,true))⟩,⟨some 45,.e (.text (.tmp 44)),(some (39,true))⟩,⟨some 46,.p (.bin .neq (.tmp 42) (.tmp 45)),(some (39,true))⟩,⟨some 47,.p (.pick (.tmp 39) (.tmp 46) (.val (.bool false))),none⟩,⟨some 35,.p (.mov (.tmp 47)),none⟩] [] [2,3,35])
 (.cond (.tmp 35) (.seq (.seq (.region [⟨some 48,.p (.faddr 3 (.tmp 2)),none⟩,⟨some 49,.load1 (.tmp 48),none⟩,⟨some 50,.e (.text (.tmp 49)),none⟩,⟨some 51,.p (.faddr 3 (.tmp 3)),none⟩,⟨some 52,.load1 (.tmp 51),none⟩,⟨some 53,.e (.text (.tmp 52)),none⟩,⟨some 54,.p (.bin .lss (.tmp 50) (.tmp 53)),none⟩] [] [54])
 (.cond (.tmp 54) (.seq (.region [⟨some 4,.p (.mov (.val (.int .i64 (.negSucc 0)))),none⟩] [] [4])
 (.ret))
 (.skip)))
 (.seq (.region [⟨some 4,.p (.mov (.val (.int .i64 (.ofNat 1)))),none⟩] [] [4])
 (.ret)))
 (.skip))))))))
 (.seq (.region [⟨some 4,.p (.mov (.val (.int .i64 (.ofNat 0)))),none⟩] [] [4])
 (.ret)))
def M46 (F : Nat → Nat) : Fun := ⟨55,2,(K46 F).erase,[.tmp 4]⟩
abbrev K47 (F : Nat → Nat) : KC := .seq (.region [⟨some 4,.p (.mov (.val (.int .i64 (.ofNat 0)))),none⟩] [] [0,1])
 (.seq (.seq (.region [⟨some 5,.p (.mov (.val (.int .i64 (.ofNat 0)))),none⟩] [] [0,1,5])
 (.block 0 (.loop (.seq (.seq (.region [⟨some 7,.p (.mov (.tmp 5)),none⟩,⟨some 8,.p (.mov (.tmp 0)),none⟩,⟨some 9,.p (.lenb (.tmp 8)),none⟩,⟨some 10,.p (.bin .lss (.tmp 7) (.tmp 9)),none⟩,⟨some 11,.p (.mov (.tmp 10)),none⟩,⟨some 12,.p (.mov (.tmp 5)),(some (11,true))⟩,⟨some 13,.p (.mov (.tmp 1)),(some (11,true))⟩,⟨some 14,.p (.lenb (.tmp 13)),(some (11,true))⟩,⟨some 15,.p (.bin .lss (.tmp 12) (.tmp 14)),(some (11,true))⟩,⟨some 16,.p (.pick (.tmp 11) (.tmp 15) (.val (.bool false))),none⟩] [] [0,1,5,16])
 (.cond (.tmp 16) (.skip)
 (.exit 0)))
 (.seq (.block 1 (.seq (.dregion [⟨⟨some 19,.p (.mov (.tmp 0)),none⟩,0,8⟩,⟨⟨some 20,.p (.mov (.tmp 5)),none⟩,0,8⟩,⟨⟨some 21,.p (.iaddr 4 (.tmp 19) (.tmp 20)),none⟩,0,8⟩,⟨⟨some 22,.loadn 4 (.tmp 21),none⟩,0,8⟩,⟨⟨some 23,.p (.mov (.tmp 1)),none⟩,0,8⟩,⟨⟨some 24,.p (.mov (.tmp 5)),none⟩,0,8⟩,⟨⟨some 25,.p (.iaddr 4 (.tmp 23) (.tmp 24)),none⟩,0,8⟩,⟨⟨some 26,.loadn 4 (.tmp 25),none⟩,0,8⟩,⟨⟨some 27,.e (.call (F 46) [(.tmp 22),(.tmp 26)]),none⟩,0,10⟩,⟨⟨some 6,.p (.mov (.tmp 27)),none⟩,9,10⟩] [0,1,5,6])
 (.seq (.region [⟨some 28,.p (.mov (.tmp 6)),none⟩,⟨some 29,.p (.bin .neq (.tmp 28) (.val (.int .i64 (.ofNat 0)))),none⟩] [] [0,1,5,6,29])
 (.cond (.tmp 29) (.seq (.region [⟨some 30,.p (.mov (.tmp 6)),none⟩,⟨some 4,.p (.mov (.tmp 30)),none⟩] [] [4])
 (.ret))
 (.skip)))))
 (.region [⟨some 17,.p (.mov (.tmp 5)),none⟩,⟨some 18,.p (.bin .add (.tmp 17) (.val (.int .i64 (.ofNat 1)))),none⟩,⟨some 5,.p (.mov (.tmp 18)),none⟩] [] [0,1,5]))))))
 (.seq (.region [⟨some 31,.p (.mov (.tmp 0)),none⟩,⟨some 32,.p (.lenb (.tmp 31)),none⟩,⟨some 33,.p (.mov (.tmp 1)),none⟩,⟨some 34,.p (.lenb (.tmp 33)),none⟩,⟨some 35,.p (.bin .sub (.tmp 32) (.tmp 34)),none⟩,⟨some 36,.p (.max [(.tmp 35),(.val (.int .i64 (.negSucc 0)))]),none⟩,⟨some 37,.p (.min [(.tmp 36),(.val (.int .i64 (.ofNat 1)))]),none⟩,⟨some 4,.p (.mov (.tmp 37)),none⟩] [] [4])
 (.ret)))
def M47 (F : Nat → Nat) : Fun := ⟨38,2,(K47 F).erase,[.tmp 4]⟩
abbrev K48 (F : Nat → Nat) : KC := .seq (.region [⟨some 4,.p (.mov (.val (.bool false))),none⟩] [] [0,1])
 (.seq (.seq (.region [⟨some 6,.p (.mov (.tmp 0)),none⟩,⟨some 7,.p (.lenb (.tmp 6)),none⟩,⟨some 8,.p (.mov (.tmp 1)),none⟩,⟨some 9,.p (.lenb (.tmp 8)),none⟩,⟨some 10,.p (.bin .neq (.tmp 7) (.tmp 9)),none⟩] [] [0,1,10])
 (.cond (.tmp 10) (.seq (.region [⟨some 4,.p (.mov (.val (.bool false))),none⟩] [] [4])
 (.ret))
 (.skip)))
 (.seq (.seq (.region [⟨some 5,.p (.mov (.val (.int .i64 (.ofNat 0)))),none⟩] [] [0,1,5])
 (.block 0 (.loop (.seq (.seq (.region [⟨some 11,.p (.mov (.tmp 5)),none⟩,⟨some 12,.p (.mov (.tmp 0)),none⟩,⟨some 13,.p (.lenb (.tmp 12)),none⟩,⟨some 14,.p (.bin .lss (.tmp 11) (.tmp 13)),none⟩] [] [0,1,5,14])
 (.cond (.tmp 14) (.skip)
 (.exit 0)))
 (.seq (.block 1 (.seq (.dregion [⟨⟨some 17,.p (.mov (.tmp 0)),none⟩,0,8⟩,⟨⟨some 18,.p (.mov (.tmp 5)),none⟩,0,8⟩,⟨⟨some 19,.p (.iaddr 1 (.tmp 17) (.tmp 18)),none⟩,0,8⟩,⟨⟨some 20,.load1 (.tmp 19),none⟩,0,8⟩,⟨⟨some 21,.p (.mov (.tmp 1)),none⟩,0,8⟩,⟨⟨some 22,.p (.mov (.tmp 5)),none⟩,0,8⟩,⟨⟨some 23,.p (.iaddr 1 (.tmp 21) (.tmp 22)),none⟩,0,8⟩,⟨⟨some 24,.load1 (.tmp 23),none⟩,0,8⟩,⟨⟨some 25,.e (.call (F 49) [(.tmp 20),(.tmp 24)]),none⟩,0,10⟩,⟨⟨some 26,.p (.not (.tmp 25)),none⟩,9,10⟩] [0,1,5,26])
 (.cond (.tmp 26) (.seq (.region [⟨some 4,.p (.mov (.val (.bool false))),none⟩] [] [4])
 (.ret))
 (.skip))))
 (.region [⟨some 15,.p (.mov (.tmp 5)),none⟩,⟨some 16,.p (.bin .add (.tmp 15) (.val (.int .i64 (.ofNat 1)))),none⟩,⟨some 5,.p (.mov (.tmp 16)),none⟩] [] [0,1,5]))))))
 (.seq (.region [⟨some 4,.p (.mov (.val (.bool true))),none⟩] [] [4])
 (.ret))))
def M48 (F : Nat → Nat) : Fun := ⟨27,2,(K48 F).erase,[.tmp 4]⟩
theorem ok48 {F : Nat → Nat} : (K48 F).ok = true := rfl
abbrev K49 (F : Nat → Nat) : KC := .seq (.region [⟨some 4,.p (.mov (.val (.bool false))),none⟩] [] [0,1])
 (.seq (.seq (.region [⟨some 6,.p (.mov (.tmp 0)),none⟩,⟨some 7,.p (.lenb (.tmp 6)),none⟩,⟨some 8,.p (.mov (.tmp 1)),none⟩,⟨some 9,.p (.lenb (.tmp 8)),none⟩,⟨some 10,.p (.bin .neq (.tmp 7) (.tmp 9)),none⟩] [] [0,1,10])
 (.cond (.tmp 10) (.seq (.region [⟨some 4,.p (.mov (.val (.bool false))),none⟩] [] [4])
 (.ret))
 (.skip)))
 (.seq (.seq (.region [⟨some 5,.p (.mov (.val (.int .i64 (.ofNat 0)))),none⟩] [] [0,1,5])
 (.block 0 (.loop (.seq (.seq (.region [⟨some 11,.p (.mov (.tmp 5)),none⟩,⟨some 12,.p (.mov (.tmp 0)),none⟩,⟨some 13,.p (.lenb (.tmp 12)),none⟩,⟨some 14,.p (.bin .lss (.tmp 11) (.tmp 13)),none⟩] [] [0,1,5,14])
 (.cond (.tmp 14) (.skip)
 (.exit 0)))
 (.seq (.block 1 (.seq (.dregion [⟨⟨some 17,.p (.mov (.tmp 0)),none⟩,0,8⟩,⟨⟨some 18,.p (.mov (.tmp 5)),none⟩,0,8⟩,⟨⟨some 19,.p (.iaddr 4 (.tmp 17) (.tmp 18)),none⟩,0,8⟩,⟨⟨some 20,.loadn 4 (.tmp 19),none⟩,0,8⟩,⟨⟨some 21,.p (.mov (.tmp 1)),none⟩,0,8⟩,⟨⟨some 22,.p (.mov (.tmp 5)),none⟩,0,8⟩,⟨⟨some 23,.p (.iaddr 4 (.tmp 21) (.tmp 22)),none⟩,0,8⟩,⟨⟨some 24,.loadn 4 (.tmp 23),none⟩,0,8⟩,⟨⟨some 25,.e (.call (F 50) [(.tmp 20),(.tmp 24)]),none⟩,0,10⟩,⟨⟨some 26,.p (.not (.tmp 25)),none⟩,9,10⟩] [0,1,5,26])
 (.cond (.tmp 26) (.seq (.region [⟨some 4,.p (.mov (.val (.bool false))),none⟩] [] [4])
 (.ret))
 (.skip))))
 (.region [⟨some 15,.p (.mov (.tmp 5)),none⟩,⟨some 16,.p (.bin .add (.tmp 15) (.val (.int .i64 (.ofNat 1)))),none⟩,⟨some 5,.p (.mov (.tmp 16)),none⟩] [] [0,1,5]))))))
 (.seq (.region [⟨some 4,.p (.mov (.val (.bool true))),none⟩] [] [4])
 (.ret))))
def M49 (F : Nat → Nat) : Fun := ⟨27,2,(K49 F).erase,[.tmp 4]⟩
theorem ok49 {F : Nat → Nat} : (K49 F).ok = true := rfl
abbrev K50 (_F : Nat → Nat) : KC := .seq (.region [⟨some 2,.a (.box (.tmp 0)),none⟩,⟨some 3,.a (.box (.tmp 1)),none⟩,⟨some 4,.p (.mov (.val (.bool false))),none⟩] [2,3] [2,3])
 (.seq (.region [⟨some 5,.p (.faddr 0 (.tmp 2)),none⟩,⟨some 6,.load1 (.tmp 5),none⟩,⟨some 7,.p (.faddr 0 (.tmp 3)),none⟩,⟨some 8,.load1 (.tmp 7),none⟩,⟨some 9,.p (.eq .bool false (.tmp 6) (.tmp 8)),none⟩,⟨some 10,.p (.mov (.tmp 9)),none⟩,⟨some 11,.p (.faddr 1 (.tmp 2)),(some (10,true))⟩,⟨some 12,.load1 (.tmp 11),(some (10,true))⟩,⟨some 13,.p (.faddr 1 (.tmp 3)),(some (10,true))⟩,⟨some 14,.load1 (.tmp 13),(some (10,true))⟩,⟨some 15,.p (.bin .eql (.tmp 12) (.tmp 14)),(some (10,true))⟩,⟨some 16,.p (.pick (.tmp 10) (.tmp 15) (.val (.bool false))),none⟩,⟨some 17,.p (.mov (.tmp 16)),none⟩,⟨some 18,.p (.faddr 2 (.tmp 2)),(some (17,true))⟩,⟨some 19,.load1 (.tmp 18),(some (17,true))⟩,⟨some 20,.p (.faddr 2 (.tmp 3)),(some (17,true))⟩,⟨some 21,.load1 (.tmp 20),(some (17,true))⟩,⟨some 22,.p (.bin .eql (.tmp 19) (.tmp 21)),(some (17,true))⟩,⟨some 23,.p (.pick (.tmp 17) (.tmp 22) (.val (.bool false))),none⟩,⟨some 24,.p (.mov (.tmp 23)),none⟩,⟨some 25,.p (.faddr 3 (.tmp 2)),(some (24,true))⟩,⟨some 26,.load1 (.tmp 25),(some (24,true))⟩,⟨some 27,.e (.text (.tmp 26)),(some (24,true))⟩,⟨some 28,.p (.faddr 3 (.tmp 3)),(some (24,true))⟩,⟨some 29,.load1 (.tmp 28),(some (24,true))⟩,⟨some 30,.e (.text (.tmp 29)),(some (24,true))⟩,⟨some 31,.p (.bin .eql (.tmp 27) (.tmp 30)),(some (24,true))⟩,⟨some 32,.p (.pick (.tmp 24) (.tmp 31) (.val (.bool false))),none⟩,⟨some 4,.p (.mov (.tmp 32)),none⟩] [] [4])
 (.ret))
def M50 (F : Nat → Nat) : Fun := ⟨33,2,(K50 F).erase,[.tmp 4]⟩
theorem ok50 {F : Nat → Nat} : (K50 F).ok = true := rfl
end Go.Lib
end

section
set_option maxRecDepth 10000
namespace Go.Lib
open Go.Vm Go.Dv
variable {p : Prog} {ext : Ext} {F : Nat → Nat}
structure HRef6 (p : Prog) (ext : Ext) (F : Nat → Nat) : Prop where
  h46 : Has p ext F 46 M46
  h47 : Has p ext F 47 M47
  h48 : Has p ext F 48 M48
  h49 : Has p ext F 49 M49
  h50 : Has p ext F 50 M50
end Go.Lib
end
