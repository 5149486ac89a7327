/-
 Texts that the claim's last one rests on, joined.
-/
import Derived.Test.YtkgnhidkfdoimaaGreatBWorkFullf
import Derived.Test.YtkgnhidkfdoimaaGreatBWorkFullc

section
namespace Go.Lib
open Go.Vm Go.Dv
set_option maxRecDepth 100000
abbrev K303 (F : Nat → Nat) : KC := .seq (.region [⟨some 3,.a (.box (.tmp 0)),none⟩,⟨some 6,.p (.mov (.val (.nilptr))),none⟩,⟨some 7,.p (.mov (.val (.bool false))),none⟩] [] [1,2,3])
 (.seq (.seq (.region [ln 8 1 3,⟨some 9,.e (.call (F 255) [(.tmp 8)]),none⟩,⟨some 10,.p (.not (.tmp 9)),none⟩] [] [1,2,3,10])
 (.cond (.tmp 10) (.seq (.region [⟨some 6,.p (.mov (.val (.nilptr))),none⟩,⟨some 7,.p (.mov (.val (.bool false))),none⟩] [] [6,7])
 (.ret))
 (.skip)))
 (.seq (.region [fa 11 0 3,l1 12 11,⟨some 13,.e (.call (F 314) [(.tmp 12)]),none⟩,fa 14 0 3,⟨none,.e (.store 1 (.tmp 14) (.tmp 13)),none⟩] [] [1,2,3])
 (.seq (.dregion [⟨mv 16 1,0,1⟩,⟨⟨some 17,.e (.call (F 315) [(.tmp 16)]),none⟩,0,10⟩,⟨ln 15 1 3,0,10⟩,⟨mv 18 2,0,10⟩,⟨⟨some 19,.p (.max [(.tmp 18),(.val (.int .i64 (.ofNat 0)))]),none⟩,0,10⟩,⟨⟨some 20,.p (.min [(.tmp 19),(.val (.int .i64 (.ofNat 100)))]),none⟩,0,10⟩,⟨⟨some 21,.p (.build [.nilslice,.nilptr,.nilslice,.int .i64 (.ofNat 0),.int .i64 (.ofNat 0)] [(0,1,(.tmp 15)),(1,1,(.tmp 17)),(3,1,(.tmp 20))]),none⟩,2,10⟩,⟨⟨some 22,.a (.box (.tmp 21)),none⟩,2,10⟩,⟨mv 6 22,2,10⟩,⟨⟨some 7,.p (.mov (.val (.bool true))),none⟩,2,10⟩] [6,7])
 (.ret))))
def M303 (F : Nat → Nat) : Fun := ⟨23,3,(K303 F).erase,[.tmp 6,.tmp 7]⟩
theorem ok303 {F : Nat → Nat} : (K303 F).ok = true := by kernel_rfl
abbrev K304 (F : Nat → Nat) : KC := .seq (.region [⟨some 5,.a (.box (.tmp 2)),none⟩,mi 6 0,⟨some 7,.p (.mov (.val (.bool false))),none⟩] [5] [0,1,5])
 (.seq (.seq (.dregion [⟨mv 8 0,0,5⟩,⟨⟨some 9,.p (.nilchk (.tmp 8)),none⟩,0,5⟩,⟨fa 10 0 9,0,5⟩,⟨ln 11 1 10,0,5⟩,⟨mv 12 1,0,5⟩,⟨⟨some 13,.e (.call (F 268) [(.tmp 11),(.tmp 12)]),none⟩,0,20⟩,⟨⟨some 14,.p (.not (.tmp 13)),none⟩,6,20⟩,⟨mv 15 14,6,20⟩,⟨⟨some 16,.p (.mov (.tmp 0)),(some (15,false))⟩,6,20⟩,⟨⟨some 17,.p (.nilchk (.tmp 16)),(some (15,false))⟩,6,20⟩,⟨⟨some 18,.p (.faddr 1 (.tmp 17)),(some (15,false))⟩,6,20⟩,⟨⟨some 19,.load1 (.tmp 18),(some (15,false))⟩,6,20⟩,⟨⟨some 20,.p (.mov (.tmp 0)),(some (15,false))⟩,6,20⟩,⟨⟨some 21,.p (.nilchk (.tmp 20)),(some (15,false))⟩,6,20⟩,⟨⟨some 22,.p (.faddr 4 (.tmp 21)),(some (15,false))⟩,6,20⟩,⟨⟨some 23,.load1 (.tmp 22),(some (15,false))⟩,6,20⟩,⟨⟨some 24,.p (.bin .add (.tmp 23) (.val (.int .i64 (.ofNat 1)))),(some (15,false))⟩,6,20⟩,⟨⟨some 25,.p (.mov (.tmp 1)),(some (15,false))⟩,6,20⟩,⟨⟨some 26,.loadn 4 (.tmp 5),(some (15,false))⟩,6,20⟩,⟨⟨some 27,.p (.build [.int .i64 (.ofNat 0),.nilslice,.int .i64 (.ofNat 0),.int .i64 (.ofNat 0),.int .i64 (.ofNat 0),.int .i64 (.ofNat 0)] [(0,1,(.tmp 24)),(1,1,(.tmp 25)),(2,4,(.tmp 26))]),(some (15,false))⟩,6,20⟩,⟨⟨some 28,.e (.call (F 316) [(.tmp 19),(.tmp 27)]),(some (15,false))⟩,6,23⟩,⟨⟨some 29,.p (.not (.tmp 28)),(some (15,false))⟩,21,23⟩,⟨⟨some 30,.p (.pick (.tmp 15) (.val (.bool true)) (.tmp 29)),none⟩,21,23⟩] [0,30])
 (.cond (.tmp 30) (.seq (.region [mi 6 0,⟨some 7,.p (.mov (.val (.bool false))),none⟩] [] [6,7])
 (.ret))
 (.skip)))
 (.seq (.region [mv 31 0,⟨some 32,.p (.nilchk (.tmp 31)),none⟩,fa 33 4 32,l1 34 33,bi 35 .add 34 1,⟨some 36,.p (.nilchk (.tmp 31)),none⟩,fa 37 4 36,⟨none,.e (.store 1 (.tmp 37) (.tmp 35)),none⟩] [] [0])
 (.seq (.region [mv 38 0,⟨some 39,.p (.nilchk (.tmp 38)),none⟩,fa 40 4 39,l1 41 40,mv 6 41,⟨some 7,.p (.mov (.val (.bool true))),none⟩] [] [6,7])
 (.ret))))
def M304 (F : Nat → Nat) : Fun := ⟨42,3,(K304 F).erase,[.tmp 6,.tmp 7]⟩
theorem ok304 {F : Nat → Nat} : (K304 F).ok = true := by kernel_rfl
abbrev K306 (F : Nat → Nat) : KC := .seq (.region [⟨some 4,.a (.new [.int .i64 (.ofNat 0),.nilslice,.int .i64 (.ofNat 0),.int .i64 (.ofNat 0),.int .i64 (.ofNat 0),.int .i64 (.ofNat 0)]),none⟩,⟨some 5,.p (.mov (.val (.bool false))),none⟩] [] [0,1,4])
 (.seq (.seq (.region [mv 9 0,mv 10 1,⟨some 11,.e (.call (F 317) [(.tmp 9),(.tmp 10)]),none⟩,mv 8 11,et 12 8 0,et 13 8 1,mv 6 12,mv 7 13] [] [0,1,4,6,7])
 (.seq (.region [mv 14 6,⟨some 15,.p (.eq .ptr true (.tmp 14) (.val (.nilptr))),none⟩] [] [0,1,4,6,7,15])
 (.cond (.tmp 15) (.seq (.region [mv 16 6,mv 17 7,⟨some 18,.e (.call (F 328) [(.tmp 16),(.tmp 17)]),none⟩,et 19 18 0,et 20 18 1,⟨none,.e (.store 6 (.tmp 4) (.tmp 19)),none⟩,mv 5 20] [] [4,5])
 (.ret))
 (.skip))))
 (.seq (.region [mv 21 0,⟨some 22,.p (.nilchk (.tmp 21)),none⟩,fa 23 1 22,l1 24 23,mv 25 1,⟨some 26,.e (.call (F 318) [(.tmp 24),(.tmp 25)]),none⟩,et 27 26 0,et 28 26 1,⟨none,.e (.store 6 (.tmp 4) (.tmp 27)),none⟩,mv 5 28] [] [4,5])
 (.ret)))
def M306 (F : Nat → Nat) : Fun := ⟨29,2,(K306 F).erase,[.celln 6 4,.tmp 5]⟩
theorem ok306 {F : Nat → Nat} : (K306 F).ok = true := by kernel_rfl
abbrev K308 (F : Nat → Nat) : KC := .seq (.region [⟨some 5,.a (.box (.tmp 2)),none⟩,⟨some 6,.p (.mov (.val (.bool false))),none⟩] [5] [0,1,5])
 (.seq (.seq (.region [mv 10 0,mv 11 1,⟨some 12,.e (.call (F 317) [(.tmp 10),(.tmp 11)]),none⟩,mv 9 12,et 13 9 0,et 14 9 1,mv 7 13,mv 8 14] [] [0,1,5,7,8])
 (.seq (.region [mv 15 7,⟨some 16,.p (.eq .ptr true (.tmp 15) (.val (.nilptr))),none⟩] [] [0,1,5,7,8,16])
 (.cond (.tmp 16) (.seq (.region [mv 17 7,mv 18 8,ln 19 4 5,⟨some 20,.e (.call (F 329) [(.tmp 17),(.tmp 18),(.tmp 19)]),none⟩,mv 6 20] [] [6])
 (.ret))
 (.skip))))
 (.seq (.dregion [⟨mv 21 0,0,6⟩,⟨⟨some 22,.p (.nilchk (.tmp 21)),none⟩,0,6⟩,⟨fa 23 1 22,0,6⟩,⟨l1 24 23,0,6⟩,⟨mv 25 1,0,6⟩,⟨ln 26 4 5,0,6⟩,⟨⟨some 27,.e (.call (F 320) [(.tmp 24),(.tmp 25),(.tmp 26)]),none⟩,0,8⟩,⟨mv 6 27,7,8⟩] [6])
 (.ret)))
def M308 (F : Nat → Nat) : Fun := ⟨28,3,(K308 F).erase,[.tmp 6]⟩
theorem ok308 {F : Nat → Nat} : (K308 F).ok = true := by kernel_rfl
abbrev K309 (F : Nat → Nat) : KC := .seq (.region [⟨some 4,.p (.mov (.val (.bool false))),none⟩] [] [0,1])
 (.seq (.region [mv 5 0,⟨some 6,.p (.nilchk (.tmp 5)),none⟩,fa 7 1 6,l1 8 7,mv 9 1,⟨some 10,.e (.call (F 321) [(.tmp 8),(.tmp 9)]),none⟩,mv 4 10] [] [4])
 (.ret))
def M309 (F : Nat → Nat) : Fun := ⟨11,2,(K309 F).erase,[.tmp 4]⟩
theorem ok309 {F : Nat → Nat} : (K309 F).ok = true := by kernel_rfl
abbrev K310 (F : Nat → Nat) : KC := .seq (.region [⟨some 2,.p (.mov (.val (.nilslice))),none⟩] [] [0])
 (.seq (.region [mv 6 0,⟨some 7,.p (.nilchk (.tmp 6)),none⟩,fa 8 1 7,l1 9 8,⟨some 10,.e (.call (F 322) [(.tmp 9)]),none⟩,mv 3 10] [] [0,3])
 (.seq (.seq (.region [mv 11 0,⟨some 12,.p (.nilchk (.tmp 11)),none⟩,fa 13 2 12,l1 14 13,lb 15 14,mi 16 0] [] [3,14,15,16])
 (.block 0 (.loop (.seq (.region [bt 17 .lss 16 15] [] [3,14,15,16,17])
 (.seq (.cond (.tmp 17) (.skip)
 (.exit 0))
 (.seq (.block 1 (.seq (.region [ix 18 1 14 16,l1 19 18,mv 5 19] [] [3,5,14,15,16])
 (.region [mv 20 3,mv 21 5,⟨some 22,.e (.call (F 330) [(.tmp 21)]),none⟩,⟨some 23,.e (.append 1 8 (.tmp 20) (.tmp 22)),none⟩,mv 3 23] [] [3,14,15,16])))
 (.region [bi 24 .add 16 1,mv 16 24] [] [3,14,15,16])))))))
 (.seq (.region [mv 25 3,⟨some 26,.e (.call (F 331) [(.tmp 25)]),none⟩] [] [3])
 (.seq (.region [mv 27 3,⟨some 28,.e (.call (F 323) [(.tmp 27)]),none⟩,mv 2 28] [] [2])
 (.ret)))))
def M310 (F : Nat → Nat) : Fun := ⟨29,1,(K310 F).erase,[.tmp 2]⟩
theorem ok310 {F : Nat → Nat} : (K310 F).ok = true := by kernel_rfl
abbrev K311 (F : Nat → Nat) : KC := .seq (.region [⟨some 3,.a (.box (.tmp 1)),none⟩,⟨some 4,.p (.mov (.val (.nilslice))),none⟩] [3] [0,3])
 (.seq (.region [⟨some 6,.p (.mkfunc (F 324) [] [(.tmp 3)]),none⟩,mv 5 6] [] [0,3,5])
 (.seq (.region [mv 7 0,mv 8 5,⟨some 9,.p (.mkfunc (F 325) [] [(.tmp 3)]),none⟩,⟨some 10,.e (.call (F 326) [(.tmp 7),(.tmp 8),(.tmp 9)]),none⟩,mv 4 10] [] [4])
 (.ret)))
def M311 (F : Nat → Nat) : Fun := ⟨11,2,(K311 F).erase,[.tmp 4]⟩
theorem ok311 {F : Nat → Nat} : (K311 F).ok = true := by kernel_rfl
abbrev K312 (F : Nat → Nat) : KC := .seq (.region [⟨some 4,.p (.mov (.val (.nilslice))),none⟩] [] [0,1])
 (.seq (.region [mv 5 0,mv 6 1,⟨some 7,.p (.build [.bool false,.int .i64 (.ofNat 0),.int .i64 (.ofNat 0),.nilslice] [(1,1,(.val (.int .i64 (.ofNat 1)))),(2,1,(.tmp 6))]),none⟩,⟨some 8,.p (.build [.int .i64 (.ofNat 0),.int .i64 (.ofNat 0),.int .i64 (.ofNat 0),.bool false,.int .i64 (.ofNat 0),.int .i64 (.ofNat 0),.nilslice,.nilslice] [(0,1,(.val (.int .i64 (.ofNat 2)))),(2,1,(.val (.int .i64 (.ofNat 1)))),(3,4,(.tmp 7))]),none⟩,⟨some 9,.e (.call (F 311) [(.tmp 5),(.tmp 8)]),none⟩,mv 4 9] [] [4])
 (.ret))
def M312 (F : Nat → Nat) : Fun := ⟨10,2,(K312 F).erase,[.tmp 4]⟩
theorem ok312 {F : Nat → Nat} : (K312 F).ok = true := by kernel_rfl
abbrev K314 (_F : Nat → Nat) : KC := .seq (.region [⟨some 2,.p (.mov (.val (.nilslice))),none⟩] [] [0])
 (.seq (.seq (.region [mv 3 0,⟨some 4,.p (.eq .slice false (.tmp 3) (.val (.nilslice))),none⟩] [] [0,4])
 (.cond (.tmp 4) (.seq (.region [⟨some 2,.p (.mov (.val (.nilslice))),none⟩] [] [2])
 (.ret))
 (.skip)))
 (.seq (.region [⟨some 5,.a (.bslice [] 3 0 []),none⟩,mv 6 0,⟨some 7,.e (.append 3 32 (.tmp 5) (.tmp 6)),none⟩,mv 2 7] [] [2])
 (.ret)))
def M314 (F : Nat → Nat) : Fun := ⟨8,1,(K314 F).erase,[.tmp 2]⟩
theorem ok314 {F : Nat → Nat} : (K314 F).ok = true := by kernel_rfl
abbrev K315 (_F : Nat → Nat) : KC := .seq (.region [⟨some 2,.p (.mov (.val (.nilptr))),none⟩] [] [0])
 (.seq (.region [mv 3 0,⟨some 4,.p (.max [(.tmp 3),(.val (.int .i64 (.ofNat 1)))]),none⟩,⟨some 5,.p (.min [(.tmp 4),(.val (.int .i64 (.ofNat 1000)))]),none⟩,⟨some 6,.a (.mkmap (some .i64)),none⟩,⟨some 7,.p (.build [.int .i64 (.ofNat 0),.nilmap] [(0,1,(.tmp 5)),(1,1,(.tmp 6))]),none⟩,⟨some 8,.a (.box (.tmp 7)),none⟩,mv 2 8] [] [2])
 (.ret))
def M315 (F : Nat → Nat) : Fun := ⟨9,1,(K315 F).erase,[.tmp 2]⟩
theorem ok315 {F : Nat → Nat} : (K315 F).ok = true := by kernel_rfl
abbrev K316 (F : Nat → Nat) : KC := .seq (.region [⟨some 3,.a (.box (.tmp 1)),none⟩,⟨some 4,.p (.mov (.val (.bool false))),none⟩] [3] [0,3])
 (.seq (.seq (.dregion [⟨mv 8 0,0,6⟩,⟨⟨some 9,.p (.nilchk (.tmp 8)),none⟩,0,6⟩,⟨fa 10 1 9,0,6⟩,⟨l1 11 10,0,6⟩,⟨fa 12 0 3,0,6⟩,⟨l1 13 12,0,6⟩,⟨⟨some 14,.e (.lookup false (.agg [.int .i64 (.ofNat 0),.nilslice,.int .i64 (.ofNat 0),.int .i64 (.ofNat 0),.int .i64 (.ofNat 0),.int .i64 (.ofNat 0)]) true (.tmp 11) (.tmp 13)),none⟩,0,10⟩,⟨mv 7 14,7,10⟩,⟨et 15 7 0,7,10⟩,⟨⟨some 5,.a (.new [.int .i64 (.ofNat 0),.nilslice,.int .i64 (.ofNat 0),.int .i64 (.ofNat 0),.int .i64 (.ofNat 0),.int .i64 (.ofNat 0)]),none⟩,0,10⟩,⟨⟨none,.e (.store 6 (.tmp 5) (.tmp 15)),none⟩,7,13⟩,⟨et 16 7 1,7,13⟩,⟨mv 6 16,11,13⟩] [0,3,6])
 (.seq (.dregion [⟨mv 17 6,0,6⟩,⟨mv 18 17,0,6⟩,⟨⟨some 19,.p (.mov (.tmp 0)),(some (18,false))⟩,0,6⟩,⟨⟨some 20,.p (.nilchk (.tmp 19)),(some (18,false))⟩,0,6⟩,⟨⟨some 21,.p (.faddr 1 (.tmp 20)),(some (18,false))⟩,0,6⟩,⟨⟨some 22,.load1 (.tmp 21),(some (18,false))⟩,0,6⟩,⟨⟨some 23,.e (.lenm (.tmp 22)),(some (18,false))⟩,0,13⟩,⟨⟨some 24,.p (.mov (.tmp 0)),(some (18,false))⟩,0,13⟩,⟨⟨some 25,.p (.nilchk (.tmp 24)),(some (18,false))⟩,0,13⟩,⟨⟨some 26,.p (.faddr 0 (.tmp 25)),(some (18,false))⟩,0,13⟩,⟨⟨some 27,.load1 (.tmp 26),(some (18,false))⟩,0,13⟩,⟨⟨some 28,.p (.bin .geq (.tmp 23) (.tmp 27)),(some (18,false))⟩,7,13⟩,⟨⟨some 29,.p (.pick (.tmp 18) (.val (.bool true)) (.tmp 28)),none⟩,7,13⟩] [0,3,29])
 (.cond (.tmp 29) (.seq (.region [⟨some 4,.p (.mov (.val (.bool false))),none⟩] [] [4])
 (.ret))
 (.skip))))
 (.seq (.dregion [⟨ln 36 6 3,0,1⟩,⟨⟨some 37,.e (.call (F 327) [(.tmp 36)]),none⟩,0,8⟩,⟨mv 30 0,0,8⟩,⟨⟨some 31,.p (.nilchk (.tmp 30)),none⟩,0,8⟩,⟨fa 32 1 31,0,8⟩,⟨l1 33 32,0,8⟩,⟨fa 34 0 3,0,8⟩,⟨l1 35 34,0,8⟩,⟨⟨none,.e (.mapput false (.tmp 33) (.tmp 35) (.tmp 37)),none⟩,2,9⟩] [])
 (.seq (.region [⟨some 4,.p (.mov (.val (.bool true))),none⟩] [] [4])
 (.ret))))
def M316 (F : Nat → Nat) : Fun := ⟨38,2,(K316 F).erase,[.tmp 4]⟩
theorem ok316 {F : Nat → Nat} : (K316 F).ok = true := by kernel_rfl
abbrev K317 (F : Nat → Nat) : KC := .seq (.region [⟨some 4,.p (.mov (.val (.nilptr))),none⟩,mi 5 0] [] [0,1])
 (.seq (.seq (.region [mv 9 0,⟨some 10,.p (.nilchk (.tmp 9)),none⟩,fa 11 2 10,l1 12 11,lb 13 12,mi 14 0] [] [1,12,13,14])
 (.block 0 (.loop (.seq (.region [bt 15 .lss 14 13] [] [1,12,13,14,15])
 (.seq (.cond (.tmp 15) (.skip)
 (.exit 0))
 (.seq (.block 1 (.seq (.region [ix 16 1 12 14,l1 17 16,mv 7 17] [] [1,7,12,13,14])
 (.seq (.region [mv 18 7,mv 19 1,⟨some 20,.e (.call (F 332) [(.tmp 18),(.tmp 19)]),none⟩,mv 8 20] [] [1,7,8,12,13,14])
 (.seq (.region [mv 21 8,bi 22 .geq 21 0] [] [1,7,8,12,13,14,22])
 (.cond (.tmp 22) (.seq (.region [mv 23 7,mv 24 8,mv 4 23,mv 5 24] [] [4,5])
 (.ret))
 (.skip))))))
 (.region [bi 25 .add 14 1,mv 14 25] [] [1,12,13,14])))))))
 (.seq (.region [⟨some 4,.p (.mov (.val (.nilptr))),none⟩,⟨some 5,.p (.mov (.val (.int .i64 (.negSucc 0)))),none⟩] [] [4,5])
 (.ret)))
def M317 (F : Nat → Nat) : Fun := ⟨26,2,(K317 F).erase,[.tmp 4,.tmp 5]⟩
theorem ok317 {F : Nat → Nat} : (K317 F).ok = true := by kernel_rfl
abbrev K318 (F : Nat → Nat) : KC := .seq (.region [⟨some 4,.a (.new [.int .i64 (.ofNat 0),.nilslice,.int .i64 (.ofNat 0),.int .i64 (.ofNat 0),.int .i64 (.ofNat 0),.int .i64 (.ofNat 0)]),none⟩,⟨some 5,.p (.mov (.val (.bool false))),none⟩] [] [0,1,4])
 (.seq (.region [mv 9 0,⟨some 10,.p (.nilchk (.tmp 9)),none⟩,fa 11 1 10,l1 12 11,mv 13 1,⟨some 14,.e (.lookup false (.agg [.int .i64 (.ofNat 0),.nilslice,.int .i64 (.ofNat 0),.int .i64 (.ofNat 0),.int .i64 (.ofNat 0),.int .i64 (.ofNat 0)]) true (.tmp 12) (.tmp 13)),none⟩,mv 8 14,et 15 8 0,et 16 8 1,⟨some 6,.a (.new [.int .i64 (.ofNat 0),.nilslice,.int .i64 (.ofNat 0),.int .i64 (.ofNat 0),.int .i64 (.ofNat 0),.int .i64 (.ofNat 0)]),none⟩,⟨none,.e (.store 6 (.tmp 6) (.tmp 15)),none⟩,mv 7 16] [] [4,6,7])
 (.seq (.region [ln 17 6 6,⟨some 18,.e (.call (F 327) [(.tmp 17)]),none⟩,mv 19 7,⟨none,.e (.store 6 (.tmp 4) (.tmp 18)),none⟩,mv 5 19] [] [4,5])
 (.ret)))
def M318 (F : Nat → Nat) : Fun := ⟨20,2,(K318 F).erase,[.celln 6 4,.tmp 5]⟩
theorem ok318 {F : Nat → Nat} : (K318 F).ok = true := by kernel_rfl
abbrev K320 (_F : Nat → Nat) : KC := .seq (.region [⟨some 5,.a (.box (.tmp 2)),none⟩,⟨some 6,.p (.mov (.val (.bool false))),none⟩] [5] [0,1,5])
 (.seq (.region [mv 10 0,⟨some 11,.p (.nilchk (.tmp 10)),none⟩,fa 12 1 11,l1 13 12,mv 14 1,⟨some 15,.e (.lookup false (.agg [.int .i64 (.ofNat 0),.nilslice,.int .i64 (.ofNat 0),.int .i64 (.ofNat 0),.int .i64 (.ofNat 0),.int .i64 (.ofNat 0)]) true (.tmp 13) (.tmp 14)),none⟩,mv 9 15,et 16 9 0,et 17 9 1,⟨some 7,.a (.new [.int .i64 (.ofNat 0),.nilslice,.int .i64 (.ofNat 0),.int .i64 (.ofNat 0),.int .i64 (.ofNat 0),.int .i64 (.ofNat 0)]),none⟩,⟨none,.e (.store 6 (.tmp 7) (.tmp 16)),none⟩,mv 8 17] [] [0,1,5,7,8])
 (.seq (.seq (.region [mv 18 8,⟨some 19,.p (.not (.tmp 18)),none⟩] [] [0,1,5,7,19])
 (.cond (.tmp 19) (.seq (.region [⟨some 6,.p (.mov (.val (.bool false))),none⟩] [] [6])
 (.ret))
 (.skip)))
 (.seq (.region [ln 20 4 5,fa 21 2 7,⟨none,.e (.store 4 (.tmp 21) (.tmp 20)),none⟩] [] [0,1,7])
 (.seq (.dregion [⟨mv 22 0,0,6⟩,⟨⟨some 23,.p (.nilchk (.tmp 22)),none⟩,0,6⟩,⟨fa 24 1 23,0,6⟩,⟨l1 25 24,0,6⟩,⟨mv 26 1,0,6⟩,⟨ln 27 6 7,0,6⟩,⟨⟨none,.e (.mapput false (.tmp 25) (.tmp 26) (.tmp 27)),none⟩,0,7⟩] [])
 (.seq (.region [⟨some 6,.p (.mov (.val (.bool true))),none⟩] [] [6])
 (.ret))))))
def M320 (F : Nat → Nat) : Fun := ⟨28,3,(K320 F).erase,[.tmp 6]⟩
theorem ok320 {F : Nat → Nat} : (K320 F).ok = true := by kernel_rfl
abbrev K321 (_F : Nat → Nat) : KC := .seq (.region [⟨some 4,.p (.mov (.val (.bool false))),none⟩] [] [0,1])
 (.seq (.region [mv 8 0,⟨some 9,.p (.nilchk (.tmp 8)),none⟩,fa 10 1 9,l1 11 10,mv 12 1,⟨some 13,.e (.lookup false (.agg [.int .i64 (.ofNat 0),.nilslice,.int .i64 (.ofNat 0),.int .i64 (.ofNat 0),.int .i64 (.ofNat 0),.int .i64 (.ofNat 0)]) true (.tmp 11) (.tmp 12)),none⟩,mv 7 13,et 14 7 0,et 15 7 1,⟨some 5,.a (.new [.int .i64 (.ofNat 0),.nilslice,.int .i64 (.ofNat 0),.int .i64 (.ofNat 0),.int .i64 (.ofNat 0),.int .i64 (.ofNat 0)]),none⟩,⟨none,.e (.store 6 (.tmp 5) (.tmp 14)),none⟩,mv 6 15] [] [0,1,6])
 (.seq (.region [mv 16 0,⟨some 17,.p (.nilchk (.tmp 16)),none⟩,fa 18 1 17,l1 19 18,mv 20 1,⟨none,.e (.delete false (.tmp 19) (.tmp 20)),none⟩] [] [6])
 (.seq (.region [mv 21 6,mv 4 21] [] [4])
 (.ret))))
def M321 (F : Nat → Nat) : Fun := ⟨22,2,(K321 F).erase,[.tmp 4]⟩
theorem ok321 {F : Nat → Nat} : (K321 F).ok = true := by kernel_rfl
abbrev K322 (F : Nat → Nat) : KC := .seq (.region [⟨some 2,.p (.mov (.val (.nilslice))),none⟩] [] [0])
 (.seq (.region [mv 3 0,⟨some 4,.p (.nilchk (.tmp 3)),none⟩,fa 5 1 4,l1 6 5,⟨some 7,.e (.call (F 333) [(.tmp 6)]),none⟩,⟨some 8,.e (.call (F 334) [(.tmp 7)]),none⟩,mv 2 8] [] [2])
 (.ret))
def M322 (F : Nat → Nat) : Fun := ⟨9,1,(K322 F).erase,[.tmp 2]⟩
theorem ok322 {F : Nat → Nat} : (K322 F).ok = true := by kernel_rfl
abbrev K323 (_F : Nat → Nat) : KC := .seq (.region [⟨some 2,.p (.mov (.val (.nilslice))),none⟩] [] [0])
 (.seq (.region [mv 3 0,mv 4 0,lb 5 4,mv 6 0,lb 7 6,⟨some 8,.p (.slc 1 (.tmp 3) none (some (.tmp 5)) (some (.tmp 7))),none⟩,mv 2 8] [] [2])
 (.ret))
def M323 (F : Nat → Nat) : Fun := ⟨9,1,(K323 F).erase,[.tmp 2]⟩
theorem ok323 {F : Nat → Nat} : (K323 F).ok = true := by kernel_rfl
abbrev K325 (F : Nat → Nat) : KC := .seq (.region [⟨some 3,.p (.mov (.val (.bool false))),none⟩] [] [0,1])
 (.seq (.region [ln 4 8 1,mv 5 0,⟨some 6,.e (.call (F 65) [(.tmp 4),(.tmp 5)]),none⟩,bi 7 .eql 6 1,mv 3 7] [] [3])
 (.ret))
def M325 (F : Nat → Nat) : Fun := ⟨8,2,(K325 F).erase,[.tmp 3]⟩
theorem ok325 {F : Nat → Nat} : (K325 F).ok = true := by kernel_rfl
abbrev K326 (F : Nat → Nat) : KC := .seq (.region [⟨some 6,.p (.mov (.val (.nilslice))),none⟩] [] [0,1,2])
 (.seq (.region [⟨some 7,.p (.mov (.val (.nilslice))),none⟩] [] [0,1,2,7])
 (.seq (.seq (.region [mv 17 0,⟨some 18,.p (.nilchk (.tmp 17)),none⟩,fa 19 1 18,l1 20 19,⟨some 21,.e (.call (F 322) [(.tmp 20)]),none⟩,lb 22 21,mi 23 0] [] [0,1,2,7,21,22,23])
 (.block 0 (.loop (.seq (.region [bt 24 .lss 23 22] [] [0,1,2,7,21,22,23,24])
 (.seq (.cond (.tmp 24) (.skip)
 (.exit 0))
 (.seq (.block 1 (.seq (.region [ix 25 1 21 23,l1 26 25,mv 9 26] [] [0,1,2,7,9,21,22,23])
 (.seq (.region [mv 28 0,⟨some 29,.p (.nilchk (.tmp 28)),none⟩,fa 30 1 29,l1 31 30,mv 32 9,⟨some 33,.e (.call (F 318) [(.tmp 31),(.tmp 32)]),none⟩,mv 27 33,et 34 27 0,et 35 27 1,⟨some 10,.a (.new [.int .i64 (.ofNat 0),.nilslice,.int .i64 (.ofNat 0),.int .i64 (.ofNat 0),.int .i64 (.ofNat 0),.int .i64 (.ofNat 0)]),none⟩,⟨none,.e (.store 6 (.tmp 10) (.tmp 34)),none⟩,mv 11 35] [] [0,1,2,7,9,10,11,21,22,23])
 (.seq (.region [mv 36 11,mv 37 36,⟨some 38,.p (.mov (.tmp 2)),(some (37,true))⟩,⟨some 39,.p (.faddr 1 (.tmp 10)),(some (37,true))⟩,⟨some 40,.load1 (.tmp 39),(some (37,true))⟩,⟨some 41,.e (.callv (.tmp 38) [(.tmp 40)]),(some (37,true))⟩,⟨some 42,.p (.pick (.tmp 37) (.tmp 41) (.val (.bool false))),none⟩] [] [0,1,2,7,9,21,22,23,42])
 (.cond (.tmp 42) (.region [mv 43 7,mv 44 9,⟨some 45,.a (.bslice [.int .i64 (.ofNat 0)] 1 1 [(0,1,(.tmp 44))]),none⟩,⟨some 46,.e (.append 1 8 (.tmp 43) (.tmp 45)),none⟩,mv 7 46] [45] [0,1,2,7,21,22,23])
 (.skip))))))
 (.region [bi 47 .add 23 1,mv 23 47] [] [0,1,2,7,21,22,23])))))))
 (.seq (.seq (.region [mv 48 0,⟨some 49,.p (.nilchk (.tmp 48)),none⟩,fa 50 2 49,l1 51 50,lb 52 51,mi 53 0] [] [1,7,51,52,53])
 (.block 2 (.loop (.seq (.region [bt 54 .lss 53 52] [] [1,7,51,52,53,54])
 (.seq (.cond (.tmp 54) (.skip)
 (.exit 2))
 (.seq (.block 3 (.seq (.region [ix 55 1 51 53,l1 56 55,mv 13 56] [] [1,7,13,51,52,53])
 (.seq (.region [mv 57 13,⟨some 58,.e (.call (F 330) [(.tmp 57)]),none⟩,mv 14 58] [] [1,7,13,14,51,52,53])
 (.seq (.region [mv 59 1,mv 60 13,⟨some 61,.e (.callv (.tmp 59) [(.tmp 60)]),none⟩,lb 62 61,mi 63 0] [] [1,7,14,51,52,53,61,62,63])
 (.block 4 (.loop (.seq (.region [bt 64 .lss 63 62] [] [1,7,14,51,52,53,61,62,63,64])
 (.seq (.cond (.tmp 64) (.skip)
 (.exit 4))
 (.seq (.block 5 (.seq (.region [ix 65 1 61 63,l1 66 65,mv 16 66] [] [1,7,14,16,51,52,53,61,62,63])
 (.region [mv 67 7,mv 68 14,mv 69 16,ix 70 1 68 69,l1 71 70,⟨some 72,.a (.bslice [.int .i64 (.ofNat 0)] 1 1 [(0,1,(.tmp 71))]),none⟩,⟨some 73,.e (.append 1 8 (.tmp 67) (.tmp 72)),none⟩,mv 7 73] [72] [1,7,14,51,52,53,61,62,63])))
 (.region [bi 74 .add 63 1,mv 63 74] [] [1,7,14,51,52,53,61,62,63]))))))))))
 (.region [bi 75 .add 53 1,mv 53 75] [] [1,7,51,52,53])))))))
 (.seq (.region [mv 76 7,⟨some 77,.e (.call (F 331) [(.tmp 76)]),none⟩] [] [7])
 (.seq (.region [mv 78 7,⟨some 79,.e (.call (F 323) [(.tmp 78)]),none⟩,mv 6 79] [] [6])
 (.ret))))))
def M326 (F : Nat → Nat) : Fun := ⟨80,3,(K326 F).erase,[.tmp 6]⟩
theorem ok326 {F : Nat → Nat} : (K326 F).ok = true := by kernel_rfl
abbrev K327 (F : Nat → Nat) : KC := .seq (.region [⟨some 1,.a (.box (.tmp 0)),none⟩,⟨some 2,.a (.new [.int .i64 (.ofNat 0),.nilslice,.int .i64 (.ofNat 0),.int .i64 (.ofNat 0),.int .i64 (.ofNat 0),.int .i64 (.ofNat 0)]),none⟩] [] [1,2])
 (.seq (.region [fa 3 1 1,l1 4 3,⟨some 5,.e (.call (F 4) [(.tmp 4)]),none⟩,fa 6 1 1,⟨none,.e (.store 1 (.tmp 6) (.tmp 5)),none⟩] [] [1,2])
 (.seq (.region [ln 7 6 1,⟨none,.e (.store 6 (.tmp 2) (.tmp 7)),none⟩] [] [2])
 (.ret)))
def M327 (F : Nat → Nat) : Fun := ⟨8,1,(K327 F).erase,[.celln 6 2]⟩
theorem ok327 {F : Nat → Nat} : (K327 F).ok = true := by kernel_rfl
abbrev K333 (F : Nat → Nat) : KC := .seq (.region [⟨some 1,.a (.box (.tmp 0)),none⟩,⟨some 2,.p (.mov (.val (.nilfunc))),none⟩] [1] [1])
 (.seq (.region [⟨some 3,.p (.mkfunc (F 336) [] [(.tmp 1)]),none⟩,mv 2 3] [] [2])
 (.ret))
def M333 (F : Nat → Nat) : Fun := ⟨4,1,(K333 F).erase,[.tmp 2]⟩
theorem ok333 {F : Nat → Nat} : (K333 F).ok = true := by kernel_rfl
end Go.Lib
end

section
namespace Go.Lib
open Go.Vm Go.Dv
set_option maxRecDepth 100000
abbrev K255 (F : Nat → Nat) : KC := .seq (.region [⟨some 1,.a (.box (.tmp 0)),none⟩,⟨some 2,.p (.mov (.val (.bool false))),none⟩] [1] [1])
 (.seq (.seq (.region [fa 7 0 1,l1 8 7,lb 9 8,mi 10 0] [] [1,8,9,10])
 (.block 0 (.loop (.seq (.region [bt 11 .lss 10 9] [] [1,8,9,10,11])
 (.seq (.cond (.tmp 11) (.skip)
 (.exit 0))
 (.seq (.block 1 (.seq (.region [mv 12 10,ix 13 3 8 10,ln 14 3 13,⟨some 4,.a (.new [.str [],.int .i64 (.ofNat 0),.bool false]),none⟩,mv 3 12,⟨none,.e (.store 3 (.tmp 4) (.tmp 14)),none⟩] [] [1,3,4,8,9,10])
 (.seq (.region [⟨some 15,.p (.mkfunc (F 264) [] [(.tmp 4)]),none⟩,mv 5 15] [] [1,3,4,5,8,9,10])
 (.seq (.region [fa 16 0 4,l1 17 16,⟨some 18,.e (.call (F 265) [(.tmp 17)]),none⟩,⟨some 19,.p (.not (.tmp 18)),none⟩,mv 20 19,⟨some 21,.p (.faddr 0 (.tmp 1)),(some (20,false))⟩,⟨some 22,.load1 (.tmp 21),(some (20,false))⟩,⟨some 23,.p (.mov (.tmp 3)),(some (20,false))⟩,⟨some 24,.p (.slc 3 (.tmp 22) none (some (.tmp 23)) none),(some (20,false))⟩,⟨some 25,.p (.mov (.tmp 5)),(some (20,false))⟩,⟨some 26,.e (.call (F 266) [(.tmp 24),(.tmp 25)]),(some (20,false))⟩,⟨some 27,.p (.pick (.tmp 20) (.val (.bool true)) (.tmp 26)),none⟩,mv 28 27,⟨some 29,.p (.faddr 1 (.tmp 4)),(some (28,false))⟩,⟨some 30,.load1 (.tmp 29),(some (28,false))⟩,⟨some 31,.p (.bin .neq (.tmp 30) (.val (.int .i64 (.ofNat 1)))),(some (28,false))⟩,⟨some 32,.p (.mov (.tmp 31)),(some (28,false))⟩,⟨some 33,.p (.faddr 1 (.tmp 4)),(some (32,true))⟩,⟨some 34,.load1 (.tmp 33),(some (32,true))⟩,⟨some 35,.p (.bin .neq (.tmp 34) (.val (.int .i64 (.ofNat 2)))),(some (32,true))⟩,⟨some 36,.p (.pick (.tmp 32) (.tmp 35) (.val (.bool false))),(some (28,false))⟩,⟨some 37,.p (.pick (.tmp 28) (.val (.bool true)) (.tmp 36)),none⟩] [] [1,8,9,10,37])
 (.cond (.tmp 37) (.seq (.region [⟨some 2,.p (.mov (.val (.bool false))),none⟩] [] [2])
 (.ret))
 (.skip))))))
 (.region [bi 38 .add 10 1,mv 10 38] [] [1,8,9,10])))))))
 (.seq (.region [fa 39 0 1,l1 40 39,lb 41 40,mv 6 41] [] [1,6])
 (.seq (.region [mv 42 6,bi 43 .geq 42 1,mv 44 43,⟨some 45,.p (.mov (.tmp 6)),(some (44,true))⟩,⟨some 46,.p (.bin .leq (.tmp 45) (.val (.int .i64 (.ofNat 6)))),(some (44,true))⟩,⟨some 47,.p (.pick (.tmp 44) (.tmp 46) (.val (.bool false))),none⟩,mv 48 47,⟨some 49,.p (.faddr 0 (.tmp 1)),(some (48,true))⟩,⟨some 50,.load1 (.tmp 49),(some (48,true))⟩,⟨some 51,.p (.iaddr 3 (.tmp 50) (.val (.int .i64 (.ofNat 0)))),(some (48,true))⟩,⟨some 52,.p (.faddr 1 (.tmp 51)),(some (48,true))⟩,⟨some 53,.load1 (.tmp 52),(some (48,true))⟩,⟨some 54,.p (.bin .eql (.tmp 53) (.val (.int .i64 (.ofNat 1)))),(some (48,true))⟩,⟨some 55,.p (.pick (.tmp 48) (.tmp 54) (.val (.bool false))),none⟩,mv 56 55,⟨some 57,.p (.faddr 0 (.tmp 1)),(some (56,true))⟩,⟨some 58,.load1 (.tmp 57),(some (56,true))⟩,⟨some 59,.p (.iaddr 3 (.tmp 58) (.val (.int .i64 (.ofNat 0)))),(some (56,true))⟩,⟨some 60,.p (.faddr 2 (.tmp 59)),(some (56,true))⟩,⟨some 61,.load1 (.tmp 60),(some (56,true))⟩,⟨some 62,.p (.not (.tmp 61)),(some (56,true))⟩,⟨some 63,.p (.pick (.tmp 56) (.tmp 62) (.val (.bool false))),none⟩,mv 2 63] [] [2])
 (.ret))))
def M255 (F : Nat → Nat) : Fun := ⟨64,1,(K255 F).erase,[.tmp 2]⟩
theorem ok255 {F : Nat → Nat} : (K255 F).ok = true := by kernel_rfl
abbrev K264 (_F : Nat → Nat) : KC := .seq (.region [⟨some 2,.a (.box (.tmp 0)),none⟩,⟨some 3,.p (.mov (.val (.bool false))),none⟩] [2] [1,2])
 (.seq (.region [fa 4 0 2,l1 5 4,fa 6 0 1,l1 7 6,bt 8 .eql 5 7,mv 3 8] [] [3])
 (.ret))
def M264 (F : Nat → Nat) : Fun := ⟨9,2,(K264 F).erase,[.tmp 3]⟩
theorem ok264 {F : Nat → Nat} : (K264 F).ok = true := by kernel_rfl
abbrev K265 (_F : Nat → Nat) : KC := .seq (.region [⟨some 2,.p (.mov (.val (.bool false))),none⟩] [] [0])
 (.seq (.seq (.region [mv 4 0,⟨some 5,.p (.lens (.tmp 4)),none⟩,mi 6 0] [] [0,5,6])
 (.block 0 (.loop (.seq (.region [bt 7 .lss 6 5] [] [0,5,6,7])
 (.seq (.cond (.tmp 7) (.skip)
 (.exit 0))
 (.seq (.block 1 (.seq (.region [mv 8 6,mv 3 8] [] [0,3,5,6])
 (.seq (.region [mv 9 0,mv 10 3,⟨some 11,.p (.idxs (.tmp 9) (.tmp 10)),none⟩,⟨some 12,.p (.bin .lss (.tmp 11) (.val (.int .u8 (.ofNat 97)))),none⟩,mv 13 12,⟨some 14,.p (.mov (.tmp 0)),(some (13,false))⟩,⟨some 15,.p (.mov (.tmp 3)),(some (13,false))⟩,⟨some 16,.p (.idxs (.tmp 14) (.tmp 15)),(some (13,false))⟩,⟨some 17,.p (.bin .gtr (.tmp 16) (.val (.int .u8 (.ofNat 122)))),(some (13,false))⟩,⟨some 18,.p (.pick (.tmp 13) (.val (.bool true)) (.tmp 17)),none⟩] [] [0,5,6,18])
 (.cond (.tmp 18) (.seq (.region [⟨some 2,.p (.mov (.val (.bool false))),none⟩] [] [2])
 (.ret))
 (.skip)))))
 (.region [bi 19 .add 6 1,mv 6 19] [] [0,5,6])))))))
 (.seq (.region [mv 20 0,⟨some 21,.p (.lens (.tmp 20)),none⟩,bi 22 .geq 21 1,mv 23 22,⟨some 24,.p (.mov (.tmp 0)),(some (23,true))⟩,⟨some 25,.p (.lens (.tmp 24)),(some (23,true))⟩,⟨some 26,.p (.bin .leq (.tmp 25) (.val (.int .i64 (.ofNat 8)))),(some (23,true))⟩,⟨some 27,.p (.pick (.tmp 23) (.tmp 26) (.val (.bool false))),none⟩,mv 2 27] [] [2])
 (.ret)))
def M265 (F : Nat → Nat) : Fun := ⟨28,1,(K265 F).erase,[.tmp 2]⟩
theorem ok265 {F : Nat → Nat} : (K265 F).ok = true := by kernel_rfl
abbrev K266 (F : Nat → Nat) : KC := .seq (.region [⟨some 4,.p (.mov (.val (.bool false))),none⟩] [] [0,1])
 (.seq (.region [mv 5 0,mv 6 1,⟨some 7,.e (.call (F 239) [(.tmp 5),(.tmp 6)]),none⟩,bi 8 .geq 7 0,mv 4 8] [] [4])
 (.ret))
def M266 (F : Nat → Nat) : Fun := ⟨9,2,(K266 F).erase,[.tmp 4]⟩
theorem ok266 {F : Nat → Nat} : (K266 F).ok = true := by kernel_rfl
abbrev K268 (F : Nat → Nat) : KC := .seq (.region [⟨some 2,.a (.box (.tmp 0)),none⟩,⟨some 4,.p (.mov (.val (.bool false))),none⟩] [2] [1,2])
 (.seq (.seq (.region [mv 7 1,lb 8 7,fa 9 0 2,l1 10 9,lb 11 10,bt 12 .neq 8 11] [] [1,2,12])
 (.cond (.tmp 12) (.seq (.region [⟨some 4,.p (.mov (.val (.bool false))),none⟩] [] [4])
 (.ret))
 (.skip)))
 (.seq (.seq (.region [fa 13 0 2,l1 14 13,lb 15 14,mi 16 0] [] [1,14,15,16])
 (.block 0 (.loop (.seq (.region [bt 17 .lss 16 15] [] [1,14,15,16,17])
 (.seq (.cond (.tmp 17) (.skip)
 (.exit 0))
 (.seq (.block 1 (.seq (.region [mv 18 16,ix 19 3 14 16,ln 20 3 19,⟨some 6,.a (.new [.str [],.int .i64 (.ofNat 0),.bool false]),none⟩,mv 5 18,⟨none,.e (.store 3 (.tmp 6) (.tmp 20)),none⟩] [] [1,5,6,14,15,16])
 (.seq (.dregion [⟨ln 21 3 6,0,5⟩,⟨mv 22 1,0,5⟩,⟨mv 23 5,0,5⟩,⟨ix 24 4 22 23,0,5⟩,⟨ln 25 4 24,0,5⟩,⟨⟨some 26,.e (.call (F 279) [(.tmp 21),(.tmp 25)]),none⟩,0,7⟩,⟨⟨some 27,.p (.not (.tmp 26)),none⟩,6,7⟩] [1,14,15,16,27])
 (.cond (.tmp 27) (.seq (.region [⟨some 4,.p (.mov (.val (.bool false))),none⟩] [] [4])
 (.ret))
 (.skip)))))
 (.region [bi 28 .add 16 1,mv 16 28] [] [1,14,15,16])))))))
 (.seq (.region [⟨some 4,.p (.mov (.val (.bool true))),none⟩] [] [4])
 (.ret))))
def M268 (F : Nat → Nat) : Fun := ⟨29,2,(K268 F).erase,[.tmp 4]⟩
theorem ok268 {F : Nat → Nat} : (K268 F).ok = true := by kernel_rfl
abbrev K279 (F : Nat → Nat) : KC := .seq (.region [⟨some 2,.a (.box (.tmp 0)),none⟩,⟨some 3,.a (.box (.tmp 1)),none⟩,⟨some 4,.p (.mov (.val (.bool false))),none⟩] [2,3] [2,3])
 (.seq (.region [ln 5 4 3,⟨some 6,.e (.call (F 220) [(.tmp 5)]),none⟩,mv 7 6,⟨some 8,.p (.faddr 1 (.tmp 3)),(some (7,true))⟩,⟨some 9,.load1 (.tmp 8),(some (7,true))⟩,⟨some 10,.p (.faddr 1 (.tmp 2)),(some (7,true))⟩,⟨some 11,.load1 (.tmp 10),(some (7,true))⟩,⟨some 12,.p (.bin .eql (.tmp 9) (.tmp 11)),(some (7,true))⟩,⟨some 13,.p (.pick (.tmp 7) (.tmp 12) (.val (.bool false))),none⟩,mv 14 13,⟨some 15,.p (.faddr 2 (.tmp 2)),(some (14,true))⟩,⟨some 16,.load1 (.tmp 15),(some (14,true))⟩,⟨some 17,.p (.mov (.tmp 16)),(some (14,true))⟩,⟨some 18,.p (.faddr 0 (.tmp 3)),(some (17,false))⟩,⟨some 19,.load1 (.tmp 18),(some (17,false))⟩,⟨some 20,.p (.not (.tmp 19)),(some (17,false))⟩,⟨some 21,.p (.pick (.tmp 17) (.val (.bool true)) (.tmp 20)),(some (14,true))⟩,⟨some 22,.p (.pick (.tmp 14) (.tmp 21) (.val (.bool false))),none⟩,mv 4 22] [] [4])
 (.ret))
def M279 (F : Nat → Nat) : Fun := ⟨23,2,(K279 F).erase,[.tmp 4]⟩
theorem ok279 {F : Nat → Nat} : (K279 F).ok = true := by kernel_rfl
end Go.Lib
end

section
namespace Go.Lib
open Go.Vm Go.Dv
set_option maxRecDepth 100000
abbrev K220 (_F : Nat → Nat) : KC := .seq (.region [⟨some 1,.a (.box (.tmp 0)),none⟩,⟨some 2,.p (.mov (.val (.bool false))),none⟩] [1] [1])
 (.seq (.block 0 (.seq (.region [fa 4 1 1,l1 5 4,bi 6 .neq 5 1,mv 7 6,⟨some 8,.p (.faddr 1 (.tmp 1)),(some (7,true))⟩,⟨some 9,.load1 (.tmp 8),(some (7,true))⟩,⟨some 10,.p (.bin .neq (.tmp 9) (.val (.int .i64 (.ofNat 2)))),(some (7,true))⟩,⟨some 11,.p (.pick (.tmp 7) (.tmp 10) (.val (.bool false))),none⟩,mv 3 11] [] [1,3])
 (.cond (.tmp 3) (.seq (.region [⟨some 2,.p (.mov (.val (.bool false))),none⟩] [] [2])
 (.ret))
 (.seq (.region [fa 13 0 1,l1 14 13,mv 12 14] [] [1,12])
 (.cond (.tmp 12) (.seq (.region [fa 15 2 1,l1 16 15,bi 17 .eql 16 0,mv 18 17,⟨some 19,.p (.faddr 3 (.tmp 1)),(some (18,true))⟩,⟨some 20,.load1 (.tmp 19),(some (18,true))⟩,⟨some 21,.p (.lenb (.tmp 20)),(some (18,true))⟩,⟨some 22,.p (.bin .eql (.tmp 21) (.val (.int .i64 (.ofNat 0)))),(some (18,true))⟩,⟨some 23,.p (.pick (.tmp 18) (.tmp 22) (.val (.bool false))),none⟩,mv 2 23] [] [2])
 (.ret))
 (.seq (.region [fa 25 1 1,l1 26 25,bi 27 .eql 26 1,mv 24 27] [] [1,24])
 (.cond (.tmp 24) (.seq (.region [fa 28 3 1,l1 29 28,lb 30 29,bi 31 .eql 30 0,mv 2 31] [] [2])
 (.ret))
 (.skip))))))))
 (.seq (.region [fa 32 2 1,l1 33 32,bi 34 .eql 33 0,mv 35 34,⟨some 36,.p (.faddr 3 (.tmp 1)),(some (35,true))⟩,⟨some 37,.load1 (.tmp 36),(some (35,true))⟩,⟨some 38,.p (.lenb (.tmp 37)),(some (35,true))⟩,⟨some 39,.p (.bin .leq (.tmp 38) (.val (.int .i64 (.ofNat 64)))),(some (35,true))⟩,⟨some 40,.p (.pick (.tmp 35) (.tmp 39) (.val (.bool false))),none⟩,mv 2 40] [] [2])
 (.ret)))
def M220 (F : Nat → Nat) : Fun := ⟨41,1,(K220 F).erase,[.tmp 2]⟩
theorem ok220 {F : Nat → Nat} : (K220 F).ok = true := by kernel_rfl
end Go.Lib
end

section
namespace Go.Lib
open Go.Vm Go.Dv
set_option maxRecDepth 100000
abbrev K239 (_F : Nat → Nat) : KC := .seq (.region [mi 4 0] [] [0,1])
 (.seq (.seq (.region [mv 6 0,lb 7 6,mi 8 0] [] [0,1,7,8])
 (.block 0 (.loop (.seq (.region [bt 9 .lss 8 7] [] [0,1,7,8,9])
 (.seq (.cond (.tmp 9) (.skip)
 (.exit 0))
 (.seq (.block 1 (.seq (.region [mv 10 8,mv 5 10] [] [0,1,5,7,8])
 (.seq (.region [mv 11 1,mv 12 0,mv 13 5,ix 14 3 12 13,ln 15 3 14,⟨some 16,.e (.callv (.tmp 11) [(.tmp 15)]),none⟩] [] [0,1,5,7,8,16])
 (.cond (.tmp 16) (.seq (.region [mv 17 5,mv 4 17] [] [4])
 (.ret))
 (.skip)))))
 (.region [bi 18 .add 8 1,mv 8 18] [] [0,1,7,8])))))))
 (.seq (.region [⟨some 4,.p (.mov (.val (.int .i64 (.negSucc 0)))),none⟩] [] [4])
 (.ret)))
def M239 (F : Nat → Nat) : Fun := ⟨19,2,(K239 F).erase,[.tmp 4]⟩
theorem ok239 {F : Nat → Nat} : (K239 F).ok = true := by kernel_rfl
end Go.Lib
end

section
namespace Go.Dv
open Go.Vm
variable {p : Prog} {ext : Ext} {F : Nat → Nat}
structure Has (p : Prog) (ext : Ext) (F : Nat → Nat) (i : Nat) (M : (Nat → Nat) → Fun) : Prop where
 get : p.funs.get (F i) = some (M F)
 ext : ∀ args h, ext (F i) args h = none
def Fin (H : HpD) (d : D) (d' : D) (H' : HpD) : Prop := ∃ H2, WeakV d' H' d H2 ∧ Sub H H2 ∧ d.under H.next
theorem Fin.same {H : HpD} {d : D} (hu : d.under H.next) : Fin H d d H := ⟨H, .refl, .refl, hu⟩
theorem Fin.le {H H' : HpD} {d d' : D} (hs : Sub H H') (hl : D.le d' d) (hu : d.under H.next) : Fin H d d' H' := ⟨H', .le hl, hs, hu⟩
theorem fn_of {i : Nat} {M : (Nat → Nat) → Fun} (hh : Has p ext F i M) {kc : KC} (hb : (M F).body = kc.erase) (hk : kc.ok = true) {args : List D} {d : D} (hn : args.length = (M F).nargs)
  (hs : ∀ H, Sem p ext (endD (M F).results (Fin H d)) (.code kc [] .mk (argsD 0 args) H)) : FnD p ext (F i) args d := by
 intro H;refine WcD.drop (WcD.mono (enterD hh.ext hh.get hb hk hn (hs H)) ?_);rintro d' H' ⟨H2, w, s, u⟩;exact ⟨d, H2, w, s, u, rfl, rfl⟩
theorem wc_of {i : Nat} {M : (Nat → Nat) → Fun} (hh : Has p ext F i M) {kc : KC} (hb : (M F).body = kc.erase) (hk : kc.ok = true) {args : List D} {H : HpD} {R : D → HpD → Prop} (hn : args.length = (M F).nargs)
  (hs : Sem p ext (endD (M F).results R) (.code kc [] .mk (argsD 0 args) H)) : WcD p ext (F i) args H R := enterD hh.ext hh.get hb hk hn hs
theorem underss_map {α : Type} {n : Nat} {f : α → List D} (h : ∀ x, D.unders n (f x)) : ∀ l : List α, D.underss n (l.map f)
 | [] => trivial
 | x :: l => ⟨h x, underss_map h l⟩
end Go.Dv
end

section
namespace Go.Dv
open Go.Vm
variable {p : Prog} {ext : Ext} {Q : ResD → Prop}
def D.hasB (x : Nat) : D → Prop
 | .slice b _ _ _ _ _ => x = b
 | _ => False
structure Gr (H0 H : HpD) (sz : Nat) (s : D) (el : List (List D)) : Prop where
 sub : Sub H0 H
 len : ∀ e, e ∈ el → e.length = sz
 at_ : (s = .lit .nilslice ∧ el = []) ∨ ∃ b ex el0, s = .slice b 0 sz el.length el.length ex ∧ H0.next ≤ b ∧ b < H.next ∧ H.blk b = .cells el0.flatten false ∧ D.less el0 el
section
variable {H0 H H1 : HpD} {sz : Nat} {s : D} {el : List (List D)}
theorem Gr.nil (hs : Sub H0 H) : Gr H0 H sz (.lit .nilslice) [] := ⟨hs, fun _ h => (by cases h), .inl ⟨rfl, rfl⟩⟩
theorem Gr.lit (hs : Sub H0 H) {ex : Bool} (he : ∀ e, e ∈ el → e.length = sz) {c : List D} (hc : c = el.flatten) {n : Nat} (hn : n = el.length) : Gr H0 (H.new (.cells c false)) sz (.slice H.next 0 sz n n ex) el :=
 ⟨hs.new, he, .inr ⟨H.next, ex, el, by rw [hn], hs.next, by simp [new_next], by simp [new_blk, hc], D.less_refl _⟩⟩
theorem Gr.start : Gr H H sz (.lit .nilslice) [] := .nil .refl
theorem Gr.mono (g : Gr H0 H sz s el) (h : Sub H H1) : Gr H0 H1 sz s el := by
 refine ⟨g.sub.trans h, g.len, ?_⟩;rcases g.at_ with k | ⟨b, ex, el0, rfl, h1, h2, h3, h4⟩
 ·exact .inl k
 ·exact .inr ⟨b, ex, el0, rfl, h1, Nat.lt_of_lt_of_le h2 h.next, (h.blk b h2).trans h3, h4⟩
theorem Gr.keep (g : Gr H0 H sz s el) (hs : Sub H0 H1) (hn : H.next ≤ H1.next) (hk : ∀ x, s.hasB x → H1.blk x = H.blk x) : Gr H0 H1 sz s el := by
 refine ⟨hs, g.len, ?_⟩;rcases g.at_ with k | ⟨b, ex, el0, rfl, h1, h2, h3, h4⟩
 ·exact .inl k
 ·exact .inr ⟨b, ex, el0, rfl, h1, Nat.lt_of_lt_of_le h2 hn, (hk b rfl).trans h3, h4⟩
theorem Gr.lenb (g : Gr H0 H sz s el) : lenbD s = some (.lit (.int .i64 (el.length : Int))) := by
 rcases g.at_ with ⟨rfl, rfl⟩ | ⟨b, ex, el0, rfl, _⟩ <;> rfl
theorem flatten_len {sz : Nat} : ∀ {el : List (List D)}, (∀ e, e ∈ el → e.length = sz) → el.flatten.length = el.length * sz
 | [], _ => by simp
 | e :: l, h => by
  rw [List.flatten_cons, List.length_append, flatten_len fun x hx => h x (List.mem_cons_of_mem _ hx), h e (List.mem_cons_self ..), List.length_cons, Nat.succ_mul, Nat.add_comm]
theorem flatsD_flatten : ∀ {l : List (List D)}, (∀ e, e ∈ l → flatsD e = true) → flatsD l.flatten = true
 | [], _ => rfl
 | e :: l, h => by
  have key : ∀ (a b : List D), flatsD (a ++ b) = (flatsD a && flatsD b) := by
   intro a b
   induction a with
   | nil => simp [flatsD]
   | cons d a ih => simp [flatsD, ih, Bool.and_assoc]
  rw [List.flatten_cons, key, h e (List.mem_cons_self ..), flatsD_flatten fun x hx => h x (List.mem_cons_of_mem _ hx)];rfl
theorem roomyD {by_ n : Nat} (h : by_ * n ≤ 1099511627776) (h2 : n ≤ 1099511627776) : roomy by_ n = true := roomy_of h h2
theorem less_append : ∀ {a a' b b' : List (List D)}, D.less a a' → D.less b b' → D.less (a ++ b) (a' ++ b')
 | [], [], _, _, _, k => k
 | x :: a, y :: a', b, b', k, k2 => by
  simp only [D.less, List.cons_append] at k ⊢;exact ⟨k.1, less_append k.2 k2⟩
 | [], _ :: _, _, _, k, _ => by simp [D.less] at k
 | _ :: _, [], _, _, k, _ => by simp [D.less] at k
theorem less_sz : ∀ {a a' : List (List D)} {sz : Nat}, D.less a a' → (∀ e, e ∈ a' → e.length = sz) → ∀ e, e ∈ a → e.length = sz
 | [], _, _, _, _, e, he => by cases he
 | x :: a, y :: a', sz, k, h, e, he => by
  simp only [D.less] at k;rcases List.mem_cons.1 he with rfl | he
  ·rw [les_length k.1]; exact h y (List.mem_cons_self ..)
  ·exact less_sz k.2 (fun z hz => h z (List.mem_cons_of_mem _ hz)) e he
 | _ :: _, [], _, k, _, _, _ => by simp [D.less] at k
theorem Gr.grow (g : Gr H0 H sz s el) {by_ n : Nat} {new0 new : List (List D)} (hle : D.less new0 new) (hn : new.length = n) (h0 : 0 < n) (he : ∀ e, e ∈ new → e.length = sz) (hr : roomy by_ (el.length + n) = true) :
  ∃ s' H', appendCD sz by_ H s n new0.flatten = some (s', H') ∧ Gr H0 H' sz s' (el ++ new) ∧ (∀ x, x < H.next → ¬ s.hasB x → H'.blk x = H.blk x) ∧ H.next < H'.next ∧ s' = .slice H.next 0 sz (el ++ new).length (el ++ new).length false := by
 have hlen : ∀ e, e ∈ el ++ new → e.length = sz := fun e h => by
  rcases List.mem_append.1 h with h | h
  ·exact g.len e h
  ·exact he e h
 rcases g.at_ with ⟨rfl, rfl⟩ | ⟨b, ex, el0, rfl, h1, h2, h3, h4⟩
 ·simp only [List.length_nil, Nat.zero_add] at hr;refine ⟨_, _, by simp only [appendCD, hr, cond_true]; rfl, ⟨g.sub.new, hlen, .inr ⟨H.next, false, new0, by simp [hn], g.sub.next, by simp [new_next], by simp [new_blk], by simpa using hle⟩⟩, fun x hx _ => by rw [new_blk, if_neg (by omega)], Nat.lt_succ_self _, by simp [hn]⟩
 ·have hel := less_length h4;have hf := flatten_len (less_sz h4 g.len)
  have hrd : readD H b 0 (el.length * sz) = some el0.flatten := by
   rw [readD_eq, h3, ← hel, ← hf];simp only [Nat.zero_add, Nat.le_refl, if_true, List.drop_zero, List.take_length]
  have hnew : D.less (el0 ++ new0) (el ++ new) := less_append h4 hle
  cases ex with
  | false =>
   refine ⟨.slice H.next 0 sz (el.length + n) (el.length + n) false, (H.put b .gone).new (.cells (el0.flatten ++ new0.flatten) false), ?_, ⟨(g.sub.put h1).new, hlen, .inr ⟨H.next, false, el0 ++ new0, by simp [hn], g.sub.next, by simp [new_next, put_next], by simp [new_blk, put_next], hnew⟩⟩, fun x hx hx2 => ?_, by simp [new_next, put_next], by simp [hn]⟩
   ·simp only [appendCD, hr, hrd, h3, growD];rw [show Nat.beq sz sz = true from nbeq.2 rfl, show Nat.ble (el.length + n) el.length = false from by rw [nble_d]; exact decide_eq_false (by omega)];rfl
   ·rw [new_blk, put_next, if_neg (by omega), put_blk, if_neg];exact hx2
  | true =>
   refine ⟨.slice H.next 0 sz (el.length + n) (el.length + n) false, H.new (.cells (el0.flatten ++ new0.flatten) false), ?_, ⟨g.sub.new, hlen, .inr ⟨H.next, false, el0 ++ new0, by simp [hn], g.sub.next, by simp [new_next], by simp [new_blk], hnew⟩⟩, fun x hx hx2 => ?_, by simp [new_next], by simp [hn]⟩
   ·simp only [appendCD, hr, hrd, growD];rw [show Nat.beq sz sz = true from nbeq.2 rfl, show Nat.ble (el.length + n) el.length = false from by rw [nble_d]; exact decide_eq_false (by omega)];rfl
   ·rw [new_blk, if_neg (by omega)]
theorem Gr.app' (g : Gr H0 H sz s el) {by_ : Nat} {m : Md} {new0 new : List (List D)} (hle : D.less new0 new) (he : ∀ e, e ∈ new → e.length = sz) (hf : ∀ e, e ∈ new0 → flatsD e = true) (hr : roomy by_ (el.length + new.length) = true) :
  ∃ s' H', appendD sz by_ H s (.row sz m new0) = some (s', H') ∧ Gr H0 H' sz s' (el ++ new) ∧ (∀ x, x < H.next → ¬ s.hasB x → H'.blk x = H.blk x) ∧ H.next ≤ H'.next := by
 have hln := less_length hle
 cases hn : new0 with
 | nil =>
  have : new = [] := (by rw [hn] at hln; exact List.eq_nil_of_length_eq_zero hln.symm);subst this;refine ⟨s, H, ?_, by rw [List.append_nil]; exact g, fun _ _ _ => rfl, Nat.le_refl _⟩;simp only [appendD, lenD, List.length_nil];rcases g.at_ with ⟨rfl, rfl⟩ | ⟨b, ex, el0, rfl, _⟩
  ·rfl
  ·simp only [sameD];rw [show Nat.beq sz sz = true from nbeq.2 rfl];rfl
 | cons e l =>
  rw [← hn];have h0 : 0 < new.length := (by rw [← hln, hn]; simp);obtain ⟨s', H', e1, g', k, n, _⟩ := g.grow (by_ := by_) hle rfl h0 he hr;refine ⟨s', H', ?_, g', k, Nat.le_of_lt n⟩;simp only [appendD, lenD];obtain ⟨k, hk⟩ : ∃ k, new.length = k + 1 := ⟨new.length - 1, by omega⟩;rw [hln, hk];simp only
  have hm : srcD H sz (k + 1) (.row sz m new0) = some new0.flatten := by
   simp only [srcD];rw [show Nat.beq sz sz = true from nbeq.2 rfl, show Nat.ble (k + 1) new0.length = true from nble.2 (by omega)];rw [show new0.take (k + 1) = new0 from List.take_of_length_le (by omega)];cases m <;> rfl
  rw [hm];simp only [appendN, flatsD_flatten hf, cond_true];rw [← hk]; exact e1
theorem Gr.app (g : Gr H0 H sz s el) {by_ : Nat} {m : Md} {new : List (List D)} (he : ∀ e, e ∈ new → e.length = sz) (hf : ∀ e, e ∈ new → flatsD e = true) (hr : roomy by_ (el.length + new.length) = true) :
  ∃ s' H', appendD sz by_ H s (.row sz m new) = some (s', H') ∧ Gr H0 H' sz s' (el ++ new) ∧ (∀ x, x < H.next → ¬ s.hasB x → H'.blk x = H.blk x) ∧ H.next ≤ H'.next := g.app' (D.less_refl _) he hf hr
theorem Gr.push (g : Gr H0 H sz s el) {by_ : Nat} {m : Md} {e : List D} (e' : List D) (hle : D.les e e') (he : e'.length = sz) (hf : flatsD e = true) (hr : roomy by_ (el.length + 1) = true) :
  ∃ s' H', appendD sz by_ H s (.row sz m [e]) = some (s', H') ∧ Gr H0 H' sz s' (el ++ [e']) ∧ (∀ x, x < H.next → ¬ s.hasB x → H'.blk x = H.blk x) ∧ H.next ≤ H'.next ∧ s' = .slice H.next 0 sz (el.length + 1) (el.length + 1) false := by
 obtain ⟨s', H', e1, g', k, n, e2⟩ := g.grow (by_ := by_) (n := 1) (new0 := [e]) (new := [e']) (by simp only [D.less]; exact ⟨hle, trivial⟩) rfl (by omega) (by simp [he]) hr;refine ⟨s', H', ?_, g', k, Nat.le_of_lt n, by simpa using e2⟩;simp only [appendD, lenD, List.length_singleton]
 have hm : srcD H sz (0 + 1) (.row sz m [e]) = some [e].flatten := by
  simp only [srcD];rw [show Nat.beq sz sz = true from nbeq.2 rfl];cases m <;> rfl
 rw [hm];simp only [appendN];rw [show flatsD [e].flatten = true from by simpa using hf];exact e1
theorem appendD_slice1 {by_ b o cap : Nat} {ex ro : Bool} {cs : List D} (hb : H.blk b = .cells cs ro) (ho : o + sz ≤ cs.length) : appendD sz by_ H s (.slice b o sz 1 cap ex) = appendD sz by_ H s (.row sz .p [(cs.drop o).take sz]) := by
 simp only [appendD, lenD, List.length_singleton]
 have h1 : srcD H sz (0 + 1) (.slice b o sz 1 cap ex) = some ((cs.drop o).take sz) := by
  simp only [srcD];rw [show Nat.beq sz sz = true from nbeq.2 rfl, readD_eq, hb];simp [ho]
 have h2 : srcD H sz (0 + 1) (.row sz .p [(cs.drop o).take sz]) = some ((cs.drop o).take sz) := by
  simp only [srcD];rw [show Nat.beq sz sz = true from nbeq.2 rfl];simp
 rw [h1, h2]
theorem Gr.fin (g : Gr H0 H sz s el) (hu : D.underss H0.next el) {m : Md} (hm : m = .p ∨ m = .w) : Fin H0 (.row sz m el) s H := by
 have hm' := hm;rcases g.at_ with ⟨rfl, rfl⟩ | ⟨b, ex, el0, rfl, h1, h2, h3, h4⟩
 ·exact ⟨H, .le (by simp [D.le]), g.sub, by simp [D.under]⟩
 ·have hel := less_length h4;refine ⟨H.put b .gone, (WeakV.freeze h3 (less_sz h4 g.len)).trans (.le ?_), g.sub.put h1, by simpa [D.under] using hu⟩;simp only [frz];rw [if_pos ⟨trivial, trivial, trivial, hel.symm, by omega⟩];simp only [D.le, h4, and_true, true_and]
  by_cases hx : el.length = el0.length ∧ ex = true
  ·rcases hm' with rfl | rfl <;> simp [hx]
  ·rcases hm' with rfl | rfl <;> simp [hx]
theorem Gr.slot (g : Gr H0 H sz s el) {t : Nat} {fr : FrD} {args : List D} (ht : lk fr t = s) {m : Md} (hm : m = .p ∨ m = .w) :
  ∃ H', Weak args fr H args ((t, .row sz m el) :: fr) H' ∧ Sub H0 H' ∧ (∀ x, ¬ s.hasB x → H'.blk x = H.blk x) ∧ H'.next = H.next := by
 have hm' := hm
 have put : ∀ {ψ : Nat → Option Nat} {S : Fz} {h : Hp} {fv : Fr} {d : D}, FrR h ψ S fr fv → VD h ψ S d (ev fv (.tmp t)) → FrR h ψ S ((t, d) :: fr) fv := by
  intro ψ S h fv d k kd u;rw [lk_cons];split
  ·rename_i e; subst e; exact kd
  ·exact k u
 rcases g.at_ with ⟨rfl, rfl⟩ | ⟨b, ex, el0, rfl, h1, h2, h3, h4⟩
 ·refine ⟨H, ?_, g.sub, fun _ _ => rfl, rfl⟩;intro G ψ S h fv vs sr kf kv;refine ⟨ψ, S, .refl, sr, put kf (VD.le (.lit .nilslice) _ (by simp [D.le]) ?_), kv⟩;have := kf t
  rwa [ht] at this
 ·refine ⟨H.put b .gone, ?_, g.sub.put h1, fun x hx => by rw [put_blk, if_neg]; exact hx, put_next⟩;intro G ψ S h fv vs sr kf kv;have hel := less_length h4;obtain ⟨c, hc, hr⟩ := frz_row sr h3 (less_sz h4 g.len);obtain ⟨x0, s0⟩ := sr.freeze hc;refine ⟨ψ, _, x0, s0, put (kf.mono x0) ?_, VDl.mono x0 _ kv⟩;have := kf t;rw [ht] at this;simp only [VD] at this;obtain ⟨c', e, e2⟩ := this;rw [hc] at e; cases e;rw [e2];rw [← hel];refine VD.le _ _ ?_ (hr _ _ (Nat.le_refl _));simp only [D.le, h4, and_true, true_and];rcases hm' with rfl | rfl <;> simp
theorem VDl.setD {h : Hp} {ψ : Nat → Option Nat} {S : Fz} {args : List D} {vs : List V} {j : Nat} {d d' : D} (k : VDl h ψ S args vs) (hj : args[j]? = some d) (hd : ∀ v, VD h ψ S d v → VD h ψ S d' v) : VDl h ψ S (args.set j d') vs := by
 obtain ⟨v, e, kv⟩ := VDl.get k hj;have := VDl.set j k (hd v kv)
 have he : vs.set j v = vs := by
  obtain ⟨hl, rfl⟩ := List.getElem?_eq_some_iff.1 e;exact List.set_getElem_self hl
 rwa [he] at this
theorem Gr.arg (g : Gr H0 H sz s el) (j : Nat) {fr : FrD} {args : List D} (ht : args[j]? = some s) {m : Md} (hm : m = .p ∨ m = .w) :
  ∃ H', Weak args fr H (args.set j (.row sz m el)) fr H' ∧ Sub H0 H' ∧ (∀ x, ¬ s.hasB x → H'.blk x = H.blk x) ∧ H'.next = H.next := by
 have hm' := hm;rcases g.at_ with ⟨rfl, rfl⟩ | ⟨b, ex, el0, rfl, h1, h2, h3, h4⟩
 ·refine ⟨H, ?_, g.sub, fun _ _ => rfl, rfl⟩;intro G ψ S h fv vs sr kf kv;exact ⟨ψ, S, .refl, sr, kf, kv.setD ht fun v hv => VD.le (.lit .nilslice) _ (by simp [D.le]) hv⟩
 ·refine ⟨H.put b .gone, ?_, g.sub.put h1, fun x hx => by rw [put_blk, if_neg]; exact hx, put_next⟩;intro G ψ S h fv vs sr kf kv;have hel := less_length h4;obtain ⟨c, hc, hr⟩ := frz_row sr h3 (less_sz h4 g.len);obtain ⟨x0, s0⟩ := sr.freeze hc;refine ⟨ψ, _, x0, s0, kf.mono x0, (VDl.mono x0 _ kv).setD ht fun v hv => ?_⟩;simp only [VD] at hv;obtain ⟨c', e, e2⟩ := hv;rw [hc] at e; cases e;rw [e2];rw [← hel];refine VD.le _ _ ?_ (hr _ _ (Nat.le_refl _));simp only [D.le, h4, and_true, true_and];rcases hm' with rfl | rfl <;> simp
theorem sem_push_le {by_ : Nat} {m : Md} {e : List D} (e' : List D) {k : D → HpD → Cfg} (g : Gr H0 H sz s el) (hle : D.les e e') (he : e'.length = sz) (hf : flatsD e = true) (hr : roomy by_ (el.length + 1) = true)
  (hk : ∀ s' H', Gr H0 H' sz s' (el ++ [e']) → (∀ x, x < H.next → ¬ s.hasB x → H'.blk x = H.blk x) → (H.next ≤ H'.next ∧ s' = .slice H.next 0 sz (el.length + 1) (el.length + 1) false) → Sem p ext Q (k s' H')) : Sem p ext Q (optH (appendD sz by_ H s (.row sz m [e])) k) := by
 obtain ⟨s', H', e1, g', k1, n1⟩ := g.push (m := m) e' hle he hf hr;rw [e1];exact hk s' H' g' k1 n1
theorem sem_push {by_ : Nat} {m : Md} {e : List D} {k : D → HpD → Cfg} (g : Gr H0 H sz s el) (he : e.length = sz) (hf : flatsD e = true) (hr : roomy by_ (el.length + 1) = true)
  (hk : ∀ s' H', Gr H0 H' sz s' (el ++ [e]) → (∀ x, x < H.next → ¬ s.hasB x → H'.blk x = H.blk x) → (H.next ≤ H'.next ∧ s' = .slice H.next 0 sz (el.length + 1) (el.length + 1) false) → Sem p ext Q (k s' H')) : Sem p ext Q (optH (appendD sz by_ H s (.row sz m [e])) k) :=
 sem_push_le e g (D.les_refl _) he hf hr hk
theorem sem_row (g : Gr H0 H sz s el) (j : Nat) {f : Nat} {args : List D} {dst : Option Nat} {l : List MO} {fz lv : List Nat} {K : List KD} {fr : FrD} (ht : args[j]? = some s)
  (hs : ∀ H', Sub H0 H' → (∀ x, ¬ s.hasB x → H'.blk x = H.blk x) → H'.next = H.next → Sem p ext Q (.call f (args.set j (.row sz .p el)) dst l fz lv K .mk fr H')) : Sem p ext Q (.call f args dst l fz lv K .mk fr H) := by
 obtain ⟨H', w, s', k, n⟩ := g.arg j (fr := fr) ht (m := .p) (by simp);exact sem_weak_call w (hs H' s' k n)
theorem sem_turn (g : Gr H0 H sz s el) (t : Nat) {c : KC} {K : List KD} {fr : FrD} (ht : lk fr t = s)
  (hs : ∀ H', Sub H0 H' → (∀ x, ¬ s.hasB x → H'.blk x = H.blk x) → H'.next = H.next → Sem p ext Q (.code c K .mk ((t, .row sz .p el) :: fr) H')) : Sem p ext Q (.code c K .mk fr H) := by
 obtain ⟨H', w, s', k, n⟩ := g.slot (args := []) ht (m := .p) (by simp);exact sem_weak w (hs H' s' k n)
theorem spliceD_flatten {sz j : Nat} {x : D} : ∀ {el : List (List D)} {i : Nat} {e : List D}, (∀ e, e ∈ el → e.length = sz) → el[i]? = some e → j < sz → spliceD el.flatten (i * sz + j) [x] = (el.set i (e.set j x)).flatten
 | [], _, _, _, he, _ => by simp at he
 | a :: l, 0, e, hs, he, hj => by
  simp at he;subst he;have ha := hs a (List.mem_cons_self ..);simp only [Nat.zero_mul, Nat.zero_add, List.flatten_cons, List.set_cons_zero]
  have key : ∀ (a m : List D) (j : Nat), j < a.length → spliceD (a ++ m) j [x] = a.set j x ++ m := by
   intro a
   induction a with
   | nil => intro m j h; simp at h
   | cons d a ih =>
    intro m j h
    cases j with
    | zero => simp [spliceD_zero]
    | succ j => simp only [List.cons_append, spliceD_succ, List.set_cons_succ]; rw [ih m j (by simpa using h)]
  exact key a _ j (by omega)
 | a :: l, i + 1, e, hs, he, hj => by
  have ha := hs a (List.mem_cons_self ..);have ih := spliceD_flatten (j := j) (x := x) (el := l) (i := i) (e := e) (fun y hy => hs y (List.mem_cons_of_mem _ hy)) (by simpa using he) hj;simp only [List.flatten_cons, List.set_cons_succ]
  have key : ∀ (a m : List D) (k : Nat), spliceD (a ++ m) (a.length + k) [x] = a ++ spliceD m k [x] := by
   intro a
   induction a with
   | nil => intro m k; simp
   | cons d a ih2 =>
    intro m k;rw [List.cons_append, List.length_cons, show a.length + 1 + k = (a.length + k) + 1 from by omega, spliceD_succ, ih2]; rfl
  rw [show (i + 1) * sz + j = a.length + (i * sz + j) from by rw [ha, Nat.succ_mul]; omega, key, ih]
end
theorem sR {A B : HpD} (h : Sub A B := by repeat (first | exact Sub.refl | apply Sub.new | refine Sub.put ?_ (by first | omega | (simp only [put_next, new_next]; omega)))) : Sub A B := h
theorem sB {A B C : HpD} (s : Sub A B) (h : Sub A B → A.next ≤ B.next → Sub A C := by intro _ _; repeat (first | assumption | apply Sub.new | refine Sub.put ?_ (by first | omega | (simp only [put_next, new_next]; omega)))) : Sub A C := h s s.next
theorem sf {p : Prog} {ext : Ext} {Q : ResD → Prop} {f : Nat} {args args' : List D} {d : D} (hf : FnD p ext f args' d) {dst : Option Nat} {l : List MO} {fz lv : List Nat} {K : List KD} {fr : FrD} {H : HpD}
  (hs : Sem p ext Q (run p.env 9000 (.ops l fz lv K .mk (putD fr dst d) H))) (ha : D.les args args' := by first | exact D.les_refl _ | simp) : Sem p ext Q (.call f args dst l fz lv K .mk fr H) := sem_fn hf ha (sem_run 9000 _ hs)
end Go.Dv
end

section
set_option maxRecDepth 10000
namespace Go.Dv
open Go.Vm
variable {p : Prog} {ext : Ext} {Q : ResD → Prop} {H0 H : HpD} {sz : Nat} {s : D} {el : List (List D)}
theorem les_append : ∀ {a a' b b' : List D}, D.les a a' → D.les b b' → D.les (a ++ b) (a' ++ b')
 | [], [], _, _, _, h => h
 | d :: a, d' :: a', _, _, k, h => by
  simp only [D.les, List.cons_append] at k ⊢;exact ⟨k.1, les_append k.2 h⟩
 | [], _ :: _, _, _, k, _ => by simp [D.les] at k
 | _ :: _, [], _, _, k, _ => by simp [D.les] at k
theorem les_flat : ∀ {l l' : List (List D)}, D.less l l' → D.les l.flatten l'.flatten
 | [], [], _ => by simp
 | e :: l, e' :: l', k => by
  simp only [D.less] at k;simp only [List.flatten_cons];exact les_append k.1 (les_flat k.2)
 | [], _ :: _, k => by simp [D.less] at k
 | _ :: _, [], k => by simp [D.less] at k
theorem SR.tell {G : Nat → Option (Blk → Prop)} {ψ : Nat → Option Nat} {S : Fz} {h : Hp} {b : Nat} {cs cs' : List D} {ro : Bool} (s : SR G ψ S H h) (hb : H.blk b = .cells cs ro) (hl : D.les cs cs') : SR G ψ S (H.put b (.cells cs' ro)) h :=
 ⟨s.inj, s.dom, s.frz, fun b' hg => by
  rw [put_blk] at hg ⊢
  by_cases e : b' = b
  ·subst e;obtain ⟨c, h1, h2, h3⟩ := s.live b' (by rw [hb]; rfl);rw [hb] at h3;obtain ⟨l', e1, k⟩ := h3;refine ⟨c, h1, h2, ?_⟩;rw [if_pos rfl];exact ⟨l', e1, VDl.le _ _ hl k⟩
  ·rw [if_neg e] at hg ⊢
   exact s.live b' hg, s.gl, s.low⟩
theorem Weak.tell {a : List D} {fr : FrD} {b : Nat} {cs cs' : List D} {ro : Bool} (hb : H.blk b = .cells cs ro) (hl : D.les cs cs') : Weak a fr H a fr (H.put b (.cells cs' ro)) :=
 fun _ ψ S _ _ _ s k kv => ⟨ψ, S, .refl, s.tell hb hl, k, kv⟩
structure GrX (H0 H : HpD) (sz : Nat) (s : D) (el : List (List D)) : Prop where
 gr : Gr H0 H sz s el
 at_ : (s = .lit .nilslice ∧ el = []) ∨ ∃ b ex, s = .slice b 0 sz el.length el.length ex ∧ H0.next ≤ b ∧ b < H.next ∧ H.blk b = .cells el.flatten false
theorem Gr.exact (g : Gr H0 H sz s el) : ∃ H', (∀ a fr, Weak a fr H a fr H') ∧ GrX H0 H' sz s el ∧ (∀ x, ¬ s.hasB x → H'.blk x = H.blk x) ∧ H'.next = H.next := by
 rcases g.at_ with ⟨rfl, rfl⟩ | ⟨b, ex, el0, rfl, h1, h2, h3, h4⟩
 ·exact ⟨H, fun _ _ => .refl, ⟨g, .inl ⟨rfl, rfl⟩⟩, fun _ _ => rfl, rfl⟩
 ·refine ⟨H.put b (.cells el.flatten false), fun _ _ => Weak.tell h3 (les_flat h4), ⟨⟨g.sub.put h1, g.len, .inr ⟨b, ex, el, rfl, h1, h2, by simp, D.less_refl _⟩⟩, .inr ⟨b, ex, rfl, h1, h2, by simp⟩⟩, fun x hx => ?_, rfl⟩;rw [put_blk, if_neg];rintro rfl;exact hx rfl
theorem Weak.box {a : List D} {fr : FrD} {b t : Nat} {cs : List D} {ro : Bool} (hb : H.blk b = .cells cs ro) (ht : lk fr t = .ptr b 0) : Weak a fr H a ((t, .rptr cs 0) :: fr) (H.put b .gone) := by
 intro G ψ S h fv vs sr kf kv;obtain ⟨c, hc, h2, h3⟩ := sr.live b (by rw [hb]; rfl);rw [hb] at h3;obtain ⟨l', e1, k⟩ := h3;obtain ⟨x0, s0⟩ := sr.freeze hc;refine ⟨ψ, _, x0, s0, ?_, VDl.mono x0 _ kv⟩;intro u;rw [lk_cons];split
 ·rename_i e; subst e;have := kf t;rw [ht] at this;simp only [VD] at this ⊢;obtain ⟨c', e, e2⟩ := this;rw [hc] at e; cases e;exact ⟨c, 0, l', ro, .inr rfl, by rw [e2], e1, by have := VDp.of (us := []) (VDl.mono x0 _ k); simpa using this⟩
 ·exact kf.mono x0 u
theorem sem_box {b : Nat} {cs : List D} {ro : Bool} (t : Nat) {c : KC} {K : List KD} {fr : FrD} (hb : H.blk b = .cells cs ro) (ht : lk fr t = .ptr b 0)
  (hs : Sem p ext Q (.code c K .mk ((t, .rptr cs 0) :: fr) (H.put b .gone))) : Sem p ext Q (.code c K .mk fr H) := sem_weak (Weak.box hb ht) hs
end Go.Dv
end

section
namespace Go.Lib
open Go.Vm Go.Dv
set_option maxRecDepth 100000
end Go.Lib
end

section
namespace Go.Lib
open Go.Vm Go.Dv
set_option maxRecDepth 100000
abbrev K1 (F : Nat → Nat) : KC := .seq (.region [⟨some 2,.a (.box (.tmp 0)),none⟩,⟨some 3,.a (.box (.tmp 1)),none⟩,mi 4 0] [2,3] [2,3])
 (.seq (.seq (.dregion [⟨ln 6 4 2,0,1⟩,⟨⟨some 7,.e (.call (F 8) [(.tmp 6)]),none⟩,0,3⟩,⟨ln 8 4 3,0,3⟩,⟨⟨some 9,.e (.call (F 8) [(.tmp 8)]),none⟩,2,4⟩,⟨⟨some 10,.e (.call (F 9) [(.tmp 7),(.tmp 9)]),none⟩,4,6⟩,⟨mv 5 10,5,6⟩] [2,3,5])
 (.seq (.region [mv 11 5,bi 12 .neq 11 0,mv 13 12,⟨some 14,.p (.faddr 0 (.tmp 2)),(some (13,false))⟩,⟨some 15,.load1 (.tmp 14),(some (13,false))⟩,⟨some 16,.p (.pick (.tmp 13) (.val (.bool true)) (.tmp 15)),none⟩] [] [2,3,5,16])
 (.cond (.tmp 16) (.seq (.region [mv 17 5,mv 4 17] [] [4])
 (.ret))
 (.skip))))
 (.seq (.seq (.region [fa 18 1 2,l1 19 18] [] [2,3,19])
 (.block 0 (.seq (.region [bi 21 .eql 19 1,mv 20 21] [] [2,3,19,20])
 (.cond (.tmp 20) (.seq (.region [fa 22 2 2,l1 23 22,fa 24 2 3,l1 25 24,⟨some 26,.e (.call (F 10) [(.tmp 23),(.tmp 25)]),none⟩,mv 4 26] [] [4])
 (.ret))
 (.seq (.region [bi 28 .eql 19 2,mv 27 28] [] [2,3,27])
 (.cond (.tmp 27) (.seq (.region [fa 29 3 2,l1 30 29,fa 31 3 3,l1 32 31,⟨some 33,.e (.call (F 11) [(.tmp 30),(.tmp 32)]),none⟩,mv 4 33] [] [4])
 (.ret))
 (.skip)))))))
 (.seq (.region [mi 4 0] [] [4])
 (.ret))))
def M1 (F : Nat → Nat) : Fun := ⟨34,2,(K1 F).erase,[.tmp 4]⟩
theorem ok1 {F : Nat → Nat} : (K1 F).ok = true := rfl
abbrev K2 (F : Nat → Nat) : KC := .seq (.region [mi 4 0] [] [0,1])
 (.seq (.region [mv 5 0,mv 6 1,⟨some 7,.e (.call (F 12) [(.tmp 5),(.tmp 6),(.val (.func (F 1) [] []))]),none⟩,mv 4 7] [] [4])
 (.ret))
def M2 (F : Nat → Nat) : Fun := ⟨8,2,(K2 F).erase,[.tmp 4]⟩
abbrev K3 (F : Nat → Nat) : KC := .seq (.region [⟨some 4,.a (.new [.bool false,.int .i64 (.ofNat 0),.int .i64 (.ofNat 0),.nilslice]),none⟩] [] [0,1,4])
 (.seq (.seq (.region [mv 5 1,bi 6 .lss 5 0,mv 7 6,⟨some 8,.p (.mov (.tmp 1)),(some (7,false))⟩,⟨some 9,.p (.mov (.tmp 0)),(some (7,false))⟩,⟨some 10,.p (.lenb (.tmp 9)),(some (7,false))⟩,⟨some 11,.p (.bin .geq (.tmp 8) (.tmp 10)),(some (7,false))⟩,⟨some 12,.p (.pick (.tmp 7) (.val (.bool true)) (.tmp 11)),none⟩] [] [0,1,4,12])
 (.cond (.tmp 12) (.seq (.region [⟨some 13,.p (.build [.bool false,.int .i64 (.ofNat 0),.int .i64 (.ofNat 0),.nilslice] []),none⟩,⟨none,.e (.store 4 (.tmp 4) (.tmp 13)),none⟩] [] [4])
 (.ret))
 (.skip)))
 (.seq (.region [mv 14 0,mv 15 1,ix 16 4 14 15,ln 17 4 16,⟨some 18,.e (.call (F 5) [(.tmp 17)]),none⟩,⟨none,.e (.store 4 (.tmp 4) (.tmp 18)),none⟩] [] [4])
 (.ret)))
def M3 (F : Nat → Nat) : Fun := ⟨19,2,(K3 F).erase,[.celln 4 4]⟩
theorem ok3 {F : Nat → Nat} : (K3 F).ok = true := rfl
abbrev K4 (F : Nat → Nat) : KC := .seq (.region [⟨some 2,.p (.mov (.val (.nilslice))),none⟩] [] [0])
 (.seq (.region [⟨some 3,.p (.mov (.val (.nilslice))),none⟩] [] [0,3])
 (.seq (.seq (.region [mv 6 0,lb 7 6,mi 8 0] [] [3,6,7,8])
 (.block 0 (.loop (.seq (.region [bt 9 .lss 8 7] [] [3,6,7,8,9])
 (.seq (.cond (.tmp 9) (.skip)
 (.exit 0))
 (.seq (.block 1 (.seq (.region [ix 10 4 6 8,ln 11 4 10,⟨some 5,.a (.new [.bool false,.int .i64 (.ofNat 0),.int .i64 (.ofNat 0),.nilslice]),none⟩,⟨none,.e (.store 4 (.tmp 5) (.tmp 11)),none⟩] [] [3,5,6,7,8])
 (.region [mv 12 3,ln 13 4 5,⟨some 14,.e (.call (F 5) [(.tmp 13)]),none⟩,⟨some 15,.a (.bslice [.bool false,.int .i64 (.ofNat 0),.int .i64 (.ofNat 0),.nilslice] 4 1 [(0,4,(.tmp 14))]),none⟩,⟨some 16,.e (.append 4 48 (.tmp 12) (.tmp 15)),none⟩,mv 3 16] [15] [3,6,7,8])))
 (.region [bi 17 .add 8 1,mv 8 17] [] [3,6,7,8])))))))
 (.seq (.region [mv 18 3,⟨some 19,.e (.call (F 13) [(.tmp 18)]),none⟩,mv 2 19] [] [2])
 (.ret))))
def M4 (F : Nat → Nat) : Fun := ⟨20,1,(K4 F).erase,[.tmp 2]⟩
theorem ok4 {F : Nat → Nat} : (K4 F).ok = true := rfl
abbrev K5 (F : Nat → Nat) : KC := .seq (.region [⟨some 1,.a (.box (.tmp 0)),none⟩,⟨some 2,.a (.new [.bool false,.int .i64 (.ofNat 0),.int .i64 (.ofNat 0),.nilslice]),none⟩] [] [1,2])
 (.seq (.region [fa 3 3 1,l1 4 3,⟨some 5,.e (.call (F 14) [(.tmp 4)]),none⟩,fa 6 3 1,⟨none,.e (.store 1 (.tmp 6) (.tmp 5)),none⟩] [] [1,2])
 (.seq (.region [ln 7 4 1,⟨none,.e (.store 4 (.tmp 2) (.tmp 7)),none⟩] [] [2])
 (.ret)))
def M5 (F : Nat → Nat) : Fun := ⟨8,1,(K5 F).erase,[.celln 4 2]⟩
theorem ok5 {F : Nat → Nat} : (K5 F).ok = true := rfl
abbrev K8 (_F : Nat → Nat) : KC := .seq (.region [⟨some 1,.a (.box (.tmp 0)),none⟩,mi 2 0] [1] [1])
 (.seq (.seq (.region [fa 3 0 1,l1 4 3] [] [4])
 (.cond (.tmp 4) (.seq (.region [mi 2 0] [] [2])
 (.ret))
 (.skip)))
 (.seq (.region [mi 2 1] [] [2])
 (.ret)))
def M8 (F : Nat → Nat) : Fun := ⟨5,1,(K8 F).erase,[.tmp 2]⟩
theorem ok8 {F : Nat → Nat} : (K8 F).ok = true := rfl
abbrev K9 (F : Nat → Nat) : KC := .seq (.region [mi 4 0] [] [0,1])
 (.seq (.region [mv 7 0,⟨some 8,.e (.call (F 18) [(.tmp 7)]),none⟩,mv 5 8] [] [0,1,5])
 (.seq (.region [mv 9 1,⟨some 10,.e (.call (F 18) [(.tmp 9)]),none⟩,mv 6 10] [] [0,1,5,6])
 (.seq (.seq (.region [mv 11 5] [] [0,1,6,11])
 (.cond (.tmp 11) (.seq (.seq (.region [mv 12 6] [] [12])
 (.cond (.tmp 12) (.seq (.region [mi 4 0] [] [4])
 (.ret))
 (.skip)))
 (.seq (.region [⟨some 4,.p (.mov (.val (.int .i64 (.negSucc 0)))),none⟩] [] [4])
 (.ret)))
 (.skip)))
 (.seq (.seq (.region [mv 13 6] [] [0,1,13])
 (.cond (.tmp 13) (.seq (.region [mi 4 1] [] [4])
 (.ret))
 (.skip)))
 (.seq (.seq (.region [mv 14 0,mv 15 1,bt 16 .lss 14 15] [] [0,1,16])
 (.cond (.tmp 16) (.seq (.region [⟨some 4,.p (.mov (.val (.int .i64 (.negSucc 0)))),none⟩] [] [4])
 (.ret))
 (.skip)))
 (.seq (.seq (.region [mv 17 0,mv 18 1,bt 19 .gtr 17 18] [] [19])
 (.cond (.tmp 19) (.seq (.region [mi 4 1] [] [4])
 (.ret))
 (.skip)))
 (.seq (.region [mi 4 0] [] [4])
 (.ret))))))))
def M9 (F : Nat → Nat) : Fun := ⟨20,2,(K9 F).erase,[.tmp 4]⟩
theorem ok9 {F : Nat → Nat} : (K9 F).ok = true := rfl
abbrev K10 (F : Nat → Nat) : KC := .seq (.region [mi 4 0] [] [0,1])
 (.seq (.region [mv 7 0,⟨some 8,.e (.call (F 19) [(.tmp 7)]),none⟩,mv 5 8] [] [0,1,5])
 (.seq (.region [mv 9 1,⟨some 10,.e (.call (F 19) [(.tmp 9)]),none⟩,mv 6 10] [] [0,1,5,6])
 (.seq (.seq (.region [mv 11 5] [] [0,1,6,11])
 (.cond (.tmp 11) (.seq (.seq (.region [mv 12 6] [] [12])
 (.cond (.tmp 12) (.seq (.region [mi 4 0] [] [4])
 (.ret))
 (.skip)))
 (.seq (.region [⟨some 4,.p (.mov (.val (.int .i64 (.negSucc 0)))),none⟩] [] [4])
 (.ret)))
 (.skip)))
 (.seq (.seq (.region [mv 13 6] [] [0,1,13])
 (.cond (.tmp 13) (.seq (.region [mi 4 1] [] [4])
 (.ret))
 (.skip)))
 (.seq (.seq (.region [mv 14 0,mv 15 1,bt 16 .lss 14 15] [] [0,1,16])
 (.cond (.tmp 16) (.seq (.region [⟨some 4,.p (.mov (.val (.int .i64 (.negSucc 0)))),none⟩] [] [4])
 (.ret))
 (.skip)))
 (.seq (.seq (.region [mv 17 0,mv 18 1,bt 19 .gtr 17 18] [] [19])
 (.cond (.tmp 19) (.seq (.region [mi 4 1] [] [4])
 (.ret))
 (.skip)))
 (.seq (.region [mi 4 0] [] [4])
 (.ret))))))))
def M10 (F : Nat → Nat) : Fun := ⟨20,2,(K10 F).erase,[.tmp 4]⟩
theorem ok10 {F : Nat → Nat} : (K10 F).ok = true := rfl
abbrev K11 (F : Nat → Nat) : KC := .seq (.region [mi 4 0] [] [0,1])
 (.seq (.region [mv 5 0,mv 6 1,⟨some 7,.e (.extern (F 20) [(.tmp 5),(.tmp 6)]),none⟩,mv 4 7] [] [4])
 (.ret))
def M11 (F : Nat → Nat) : Fun := ⟨8,2,(K11 F).erase,[.tmp 4]⟩
theorem ok11 {F : Nat → Nat} : (K11 F).ok = true := rfl
abbrev K12 (_F : Nat → Nat) : KC := .seq (.region [mi 6 0] [] [0,1,2])
 (.seq (.seq (.region [mv 11 0,lb 12 11,mi 13 0] [] [0,1,2,11,12,13])
 (.block 0 (.loop (.seq (.region [bt 14 .lss 13 12] [] [0,1,2,11,12,13,14])
 (.seq (.cond (.tmp 14) (.skip)
 (.exit 0))
 (.seq (.block 1 (.seq (.region [mv 15 13,ix 16 4 11 13,ln 17 4 16,⟨some 8,.a (.new [.bool false,.int .i64 (.ofNat 0),.int .i64 (.ofNat 0),.nilslice]),none⟩,mv 7 15,⟨none,.e (.store 4 (.tmp 8) (.tmp 17)),none⟩] [] [0,1,2,7,8,11,12,13])
 (.seq (.seq (.region [mv 18 7,mv 19 1,lb 20 19,bt 21 .geq 18 20] [] [0,1,2,7,8,11,12,13,21])
 (.cond (.tmp 21) (.seq (.region [mi 6 1] [] [6])
 (.ret))
 (.skip)))
 (.seq (.region [mv 22 1,mv 23 7,ix 24 4 22 23,ln 25 4 24,⟨some 9,.a (.new [.bool false,.int .i64 (.ofNat 0),.int .i64 (.ofNat 0),.nilslice]),none⟩,⟨none,.e (.store 4 (.tmp 9) (.tmp 25)),none⟩] [] [0,1,2,8,9,11,12,13])
 (.seq (.region [mv 26 2,ln 27 4 8,ln 28 4 9,⟨some 29,.e (.callv (.tmp 26) [(.tmp 27),(.tmp 28)]),none⟩,mv 10 29] [] [0,1,2,10,11,12,13])
 (.seq (.region [mv 30 10,bi 31 .neq 30 0] [] [0,1,2,10,11,12,13,31])
 (.cond (.tmp 31) (.seq (.region [mv 32 10,mv 6 32] [] [6])
 (.ret))
 (.skip))))))))
 (.region [bi 33 .add 13 1,mv 13 33] [] [0,1,2,11,12,13])))))))
 (.seq (.seq (.region [mv 34 0,lb 35 34,mv 36 1,lb 37 36,bt 38 .lss 35 37] [] [38])
 (.cond (.tmp 38) (.seq (.region [⟨some 6,.p (.mov (.val (.int .i64 (.negSucc 0)))),none⟩] [] [6])
 (.ret))
 (.skip)))
 (.seq (.region [mi 6 0] [] [6])
 (.ret))))
def M12 (F : Nat → Nat) : Fun := ⟨39,3,(K12 F).erase,[.tmp 6]⟩
abbrev K13 (_F : Nat → Nat) : KC := .seq (.region [⟨some 2,.p (.mov (.val (.nilslice))),none⟩] [] [0])
 (.seq (.region [mv 3 0,mv 4 0,lb 5 4,mv 6 0,lb 7 6,⟨some 8,.p (.slc 4 (.tmp 3) none (some (.tmp 5)) (some (.tmp 7))),none⟩,mv 2 8] [] [2])
 (.ret))
def M13 (F : Nat → Nat) : Fun := ⟨9,1,(K13 F).erase,[.tmp 2]⟩
theorem ok13 {F : Nat → Nat} : (K13 F).ok = true := rfl
abbrev K14 (_F : Nat → Nat) : KC := .seq (.region [⟨some 2,.p (.mov (.val (.nilslice))),none⟩] [] [0])
 (.seq (.seq (.region [mv 3 0,⟨some 4,.p (.eq .slice false (.tmp 3) (.val (.nilslice))),none⟩] [] [0,4])
 (.cond (.tmp 4) (.seq (.region [⟨some 2,.p (.mov (.val (.nilslice))),none⟩] [] [2])
 (.ret))
 (.skip)))
 (.seq (.region [⟨some 5,.a (.bslice [] 1 0 []),none⟩,mv 6 0,⟨some 7,.e (.append 1 1 (.tmp 5) (.tmp 6)),none⟩,mv 2 7] [] [2])
 (.ret)))
def M14 (F : Nat → Nat) : Fun := ⟨8,1,(K14 F).erase,[.tmp 2]⟩
theorem ok14 {F : Nat → Nat} : (K14 F).ok = true := rfl
abbrev K18 (_F : Nat → Nat) : KC := .seq (.region [⟨some 2,.p (.mov (.val (.bool false))),none⟩] [] [0])
 (.seq (.region [mv 3 0,mv 4 0,bt 5 .neq 3 4,mv 2 5] [] [2])
 (.ret))
def M18 (F : Nat → Nat) : Fun := ⟨6,1,(K18 F).erase,[.tmp 2]⟩
theorem ok18 {F : Nat → Nat} : (K18 F).ok = true := rfl
abbrev K19 (_F : Nat → Nat) : KC := .seq (.region [⟨some 2,.p (.mov (.val (.bool false))),none⟩] [] [0])
 (.seq (.region [mv 3 0,mv 4 0,bt 5 .neq 3 4,mv 2 5] [] [2])
 (.ret))
def M19 (F : Nat → Nat) : Fun := ⟨6,1,(K19 F).erase,[.tmp 2]⟩
theorem ok19 {F : Nat → Nat} : (K19 F).ok = true := rfl
end Go.Lib
end

section
namespace Go.Lib
open Go.Vm Go.Dv
abbrev By := Fin 256
structure Vl where
 null : Bool
 kind : Int
 n : Int
 bytes : List By
 small : bytes.length < 1000000
def byE (b : List By) : List (List D) := b.map fun c => [.lit (.int .u8 (c.val : Int))]
def byD (b : List By) : D := .row 1 .p (byE b)
def Vl.c (v : Vl) : List D := [.lit (.bool v.null), .lit (.int .i64 v.kind), .lit (.int .i64 v.n), byD v.bytes]
abbrev Row := List Vl
def rowE (r : Row) : List (List D) := r.map Vl.c
def rowD (r : Row) : D := .row 4 .p (rowE r)
def rowsE (l : List Row) : List (List D) := l.map fun r => [rowD r]
def rowsD (l : List Row) : D := .row 1 .p (rowsE l)
theorem by_under {n : Nat} {b : List By} : (byD b).under n := by
 simp only [byD, D.under]; exact underss_map (fun _ => by simp) _
theorem vl_unders {n : Nat} {v : Vl} : D.unders n v.c := by simp [Vl.c, by_under]
theorem row_under {n : Nat} {r : Row} : (rowD r).under n := by
 simp only [rowD, D.under]; exact underss_map (fun _ => vl_unders) _
theorem rows_under {n : Nat} {l : List Row} : (rowsD l).under n := by
 simp only [rowsD, D.under]; exact underss_map (fun _ => by simp [row_under]) _
theorem by_underss {n : Nat} {b : List By} : D.underss n (byE b) := underss_map (fun _ => by simp) _
theorem row_underss {n : Nat} {r : Row} : D.underss n (rowE r) := underss_map (fun _ => vl_unders) _
theorem rows_underss {n : Nat} {l : List Row} : D.underss n (rowsE l) := underss_map (fun _ => by simp [row_under]) _
theorem by_flat {b : List By} : flatD (byD b) = true := rfl
theorem row_flat {r : Row} : flatD (rowD r) = true := rfl
theorem rows_flat {l : List Row} : flatD (rowsD l) = true := rfl
theorem vl_len {v : Vl} : v.c.length = 4 := rfl
theorem vl_flats {v : Vl} : flatsD v.c = true := rfl
theorem vl_0 {v : Vl} : v.c[0]? = some (.lit (.bool v.null)) := rfl
theorem vl_1 {v : Vl} : v.c[1]? = some (.lit (.int .i64 v.kind)) := rfl
theorem vl_2 {v : Vl} : v.c[2]? = some (.lit (.int .i64 v.n)) := rfl
theorem vl_3 {v : Vl} : v.c[3]? = some (byD v.bytes) := rfl
theorem vl_take {v : Vl} : v.c.take 4 = v.c := rfl
theorem vl_drop {v : Vl} : v.c.drop 4 = [] := rfl
theorem by_len {b : List By} : (byE b).length = b.length := by simp [byE]
theorem row_len {r : Row} : (rowE r).length = r.length := by simp [rowE]
theorem rows_len {l : List Row} : (rowsE l).length = l.length := by simp [rowsE]
theorem lenb_by {b : List By} : lenbD (byD b) = some (.lit (.int .i64 (b.length : Int))) := by simp [byD, by_len]
theorem lenb_row {r : Row} : lenbD (rowD r) = some (.lit (.int .i64 (r.length : Int))) := by simp [rowD, row_len]
theorem lenb_rows {l : List Row} : lenbD (rowsD l) = some (.lit (.int .i64 (l.length : Int))) := by simp [rowsD, rows_len]
theorem cellsD_by {b : List By} : cellsD (byD b) = some [byD b] := rfl
theorem cellsD_rowD {r : Row} : cellsD (rowD r) = some [rowD r] := rfl
theorem cellsD_rowsD {l : List Row} : cellsD (rowsD l) = some [rowsD l] := rfl
def bys (b : List By) : List Nat := b.map fun c => c.val
theorem bys_inj {a b : List By} : bys a = bys b ↔ a = b := by
 constructor
 ·intro h
  induction a generalizing b with
  | nil => cases b with
   | nil => rfl
   | cons y b => simp [bys] at h
  | cons x a ih => cases b with
   | nil => simp [bys] at h
   | cons y b =>
    simp only [bys, List.map_cons, List.cons.injEq] at h;rw [Fin.ext h.1, ih h.2]
 ·rintro rfl; rfl
theorem toVs_by : ∀ b : List By, toVs (byE b).flatten = some (b.map fun c => V.int .u8 (c.val : Int))
 | [] => rfl
 | c :: b => by
  have := toVs_by b;simp only [byE] at this;simp only [byE, List.map_cons, List.flatten_cons, List.singleton_append, toVs, toV, this]
theorem bytesOf_by : ∀ b : List By, eV.bytesOf (b.map fun c => V.int .u8 (c.val : Int)) = some (bys b)
 | [] => rfl
 | c :: b => by
  show cond (Nat.blt c.val 256) _ none = _;rw [show Nat.blt c.val 256 = true from nblt.2 c.isLt, cond_true, bytesOf_by b]; rfl
theorem neqs_iff : ∀ {a b : List Nat}, neqs a b = true ↔ a = b
 | [], [] => by simp [neqs]
 | [], _ :: _ => by simp [neqs]
 | _ :: _, [] => by simp [neqs]
 | x :: a, y :: b => by
  simp only [neqs, cond_eq_ite]
  by_cases h : Nat.beq x y = true
  ·rw [if_pos h, neqs_iff]; rw [nbeq] at h; simp [h]
  ·rw [if_neg h]; rw [nbeq] at h; simp [h]
theorem str_eql {tab : Tab} {a b : List Nat} : binV tab .eql (.str a) (.str b) = some (.bool (neqs a b)) := rfl
theorem str_neq {tab : Tab} {a b : List Nat} : binV tab .neq (.str a) (.str b) = some (.bool (!neqs a b)) := rfl
theorem str_lss {tab : Tab} {a b : List Nat} : binV tab .lss (.str a) (.str b) = some (.bool (slt a b)) := rfl
theorem bytesV_by {h : Hp} {ψ : Nat → Option Nat} {S : Fz} {b : List By} {v : V} (k : VD h ψ S (byD b) v) : bytesV h v = some (bys b) := by
 simp only [byD, VD] at k;rcases k with ⟨rfl, hb⟩ | ⟨c, o, cp, ex, rfl, h1, h2, k⟩
 ·cases b with
  | nil => rfl
  | cons x b => simp [byE] at hb
 ·rcases k with ⟨hm, _⟩ | ⟨cs, ro, hs, hb, hp⟩
  ·cases hm
  ·obtain ⟨us, e1, k1⟩ := VDss.cells hp;rw [Nat.mul_one] at e1;have := toVs_ok _ (toVs_by b) k1;subst this;have hr : h.read c o (byE b).length = some (b.map fun c => V.int .u8 (c.val : Int)) := (by unfold Hp.read; rw [hb]; exact e1);simp only [bytesV, hr];exact bytesOf_by b
theorem vl_set3 {v : Vl} : spliceD v.c 3 [byD v.bytes] = v.c := rfl
theorem by_one {b : List By} : ∀ e, e ∈ byE b → e.length = 1 := by simp [byE]
theorem by_flats {b : List By} : ∀ e, e ∈ byE b → flatsD e = true := by simp [byE]
theorem at_row {r : Row} {n : Nat} : atO 4 (rowD r) (some n) = elemD (r[n]?.map Vl.c) := by simp [rowD, rowE]
theorem at_rows {l : List Row} {n : Nat} : atO 1 (rowsD l) (some n) = elemD (l[n]?.map fun r => [rowD r]) := by simp [rowsD, rowsE]
theorem rowE_snoc {r : Row} {i : Nat} {x : Vl} (hx : r[i]? = some x) : rowE (r.take i) ++ [x.c] = rowE (r.take (i + 1)) := by
 rw [List.take_add_one, hx]; simp [rowE]
attribute [simp] at_row at_rows
def zv : Vl := ⟨false, 0, 0, [], by simp⟩
theorem zv_le : D.le (.agg [.lit (.bool false), .lit (.int .i64 0), .lit (.int .i64 0), .lit .nilslice]) (.agg zv.c) := by
 simp [Vl.c, zv, byD, byE, D.le]
attribute [simp] vl_set3 vl_0 vl_1 vl_2 vl_3 vl_take vl_drop by_len row_len rows_len lenb_by lenb_row lenb_rows cellsD_by cellsD_rowD cellsD_rowsD str_eql str_neq str_lss
attribute [simp] by_underss row_underss rows_underss by_under vl_unders row_under rows_under by_flat row_flat rows_flat vl_len vl_flats
end Go.Lib
end

section
set_option maxRecDepth 10000
namespace Go.Lib
open Go.Vm Go.Dv
variable {p : Prog} {ext : Ext} {F : Nat → Nat}
structure HSchmC (p : Prog) (ext : Ext) (F : Nat → Nat) : Prop where
 h1 : Has p ext F 1 M1
 h2 : Has p ext F 2 M2
 h3 : Has p ext F 3 M3
 h4 : Has p ext F 4 M4
 h5 : Has p ext F 5 M5
 h8 : Has p ext F 8 M8
 h9 : Has p ext F 9 M9
 h10 : Has p ext F 10 M10
 h11 : Has p ext F 11 M11
 h12 : Has p ext F 12 M12
 h13 : Has p ext F 13 M13
 h14 : Has p ext F 14 M14
 h18 : Has p ext F 18 M18
 h19 : Has p ext F 19 M19
 x20 : ∀ args h, ext (F 20) args h = extV .cmp args h
structure HSchmR (p : Prog) (ext : Ext) (F : Nat → Nat) : Prop where
 h4 : Has p ext F 4 M4
 h5 : Has p ext F 5 M5
 h13 : Has p ext F 13 M13
 h14 : Has p ext F 14 M14
structure HSchmK (p : Prog) (ext : Ext) (F : Nat → Nat) : Prop extends HSchmR p ext F where
 h1 : Has p ext F 1 M1
 h3 : Has p ext F 3 M3
 h8 : Has p ext F 8 M8
 h9 : Has p ext F 9 M9
 h10 : Has p ext F 10 M10
 h11 : Has p ext F 11 M11
 h18 : Has p ext F 18 M18
 h19 : Has p ext F 19 M19
 x20 : ∀ args h, ext (F 20) args h = extV .cmp args h
instance : Coe (HSchmC p ext F) (HSchmK p ext F) := ⟨fun L => ⟨⟨L.h4, L.h5, L.h13, L.h14⟩, L.h1, L.h3, L.h8, L.h9, L.h10, L.h11, L.h18, L.h19, L.x20⟩⟩
instance : Coe (HSchmK p ext F) (HSchmR p ext F) := ⟨HSchmK.toHSchmR⟩
instance : Coe (HSchmC p ext F) (HSchmR p ext F) := ⟨fun L => ⟨L.h4, L.h5, L.h13, L.h14⟩⟩
theorem isNaN_int (L : HSchmK p ext F) {n : Int} : FnD p ext (F 18) [.lit (.int .i64 n)] (.lit (.bool false)) := by
 refine fn_of L.h18 (M := M18) rfl ok18 rfl fun H => sem_run 9000 _ ?_;simp;refine sem_ret ?_;simp [M18];exact .same (by simp)
theorem isNaN_int64 (L : HSchmK p ext F) {n : Int} : FnD p ext (F 19) [.lit (.int .i64 n)] (.lit (.bool false)) := by
 refine fn_of L.h19 (M := M19) rfl ok19 rfl fun H => sem_run 9000 _ ?_;simp;refine sem_ret ?_;simp [M19];exact .same (by simp)
def cmpI (a b : Int) : Int := if a < b then -1 else if b < a then 1 else 0
theorem compare_int (L : HSchmK p ext F) {a b : Int} : FnD p ext (F 9) [.lit (.int .i64 a), .lit (.int .i64 b)] (.lit (.int .i64 (cmpI a b))) := by
 refine fn_of L.h9 (M := M9) rfl ok9 rfl fun H => sem_run 9000 _ ?_;simp;refine sf (isNaN_int L) ?_;simp;refine sf (isNaN_int L) ?_;simp;refine sem_if (fun h => ?_) fun h => ?_
 ·simp;refine sem_ret ?_;simp [M9, cmpI, h];exact .same (by simp)
 ·simp;refine sem_if (fun h2 => ?_) fun h2 => ?_
  ·simp;refine sem_ret ?_;simp [M9, cmpI, h, h2];exact .same (by simp)
  ·simp;refine sem_ret ?_;simp [M9, cmpI, h, h2];exact .same (by simp)
theorem compare_int64 (L : HSchmK p ext F) {a b : Int} : FnD p ext (F 10) [.lit (.int .i64 a), .lit (.int .i64 b)] (.lit (.int .i64 (cmpI a b))) := by
 refine fn_of L.h10 (M := M10) rfl ok10 rfl fun H => sem_run 9000 _ ?_;simp;refine sf (isNaN_int64 L) ?_;simp;refine sf (isNaN_int64 L) ?_;simp;refine sem_if (fun h => ?_) fun h => ?_
 ·simp;refine sem_ret ?_;simp [M10, cmpI, h];exact .same (by simp)
 ·simp;refine sem_if (fun h2 => ?_) fun h2 => ?_
  ·simp;refine sem_ret ?_;simp [M10, cmpI, h, h2];exact .same (by simp)
  ·simp;refine sem_ret ?_;simp [M10, cmpI, h, h2];exact .same (by simp)
def rankV (v : Vl) : Int := if v.null then 0 else 1
theorem rank (L : HSchmK p ext F) {v : Vl} : FnD p ext (F 8) [.agg v.c] (.lit (.int .i64 (rankV v))) := by
 refine fn_of L.h8 (M := M8) rfl ok8 rfl fun H => sem_run 9000 _ ?_;simp [Vl.c];refine sem_br (fun h => ?_) fun h => ?_
 ·simp;refine sem_ret ?_;simp [M8, rankV, h];exact .same (by simp)
 ·simp;refine sem_ret ?_;simp [M8, rankV, h];exact .same (by simp)
def cmpB (a b : List By) : Int := cmpLs (bys a) (bys b)
theorem cmp_ext (L : HSchmK p ext F) {a b : List By} : FnD p ext (F 20) [byD a, byD b] (.lit (.int .i64 (cmpB a b))) := by
 intro H ψ S h vs s k;simp only [VDl] at k;obtain ⟨v, r, rfl, k1, w, r2, rfl, k2, rfl⟩ := k;refine wpc_ext (v := .int .i64 (cmpB a b)) (h' := h) ?_ ⟨ψ, S, _, H, .refl, s, ?_, rfl, rfl⟩
 ·rw [L.x20];simp only [extV, bytesV_by k1, bytesV_by k2];rfl
 ·simp [VD, atomV]
theorem bytes_compare (L : HSchmK p ext F) {a b : List By} : FnD p ext (F 11) [byD a, byD b] (.lit (.int .i64 (cmpB a b))) := by
 refine fn_of L.h11 (M := M11) rfl ok11 rfl fun H => sem_run 9000 _ ?_;simp;refine sf (cmp_ext L) ?_;simp;refine sem_ret ?_;simp [M11];exact .same (by simp)
def cmpV (a b : Vl) : Int := if cmpI (rankV a) (rankV b) ≠ 0 ∨ a.null = true then cmpI (rankV a) (rankV b) else if a.kind = 1 then cmpI a.n b.n else if a.kind = 2 then cmpB a.bytes b.bytes else 0
theorem schm_compare (L : HSchmK p ext F) {a b : Vl} : FnD p ext (F 1) [.agg a.c, .agg b.c] (.lit (.int .i64 (cmpV a b))) := by
 refine fn_of L.h1 (M := M1) rfl ok1 rfl fun H => sem_run 9000 _ ?_;simp;refine sem_dfn (rank L) (by first | exact D.les_refl _ | simp) (sem_run 9000 _ ?_);simp;refine sem_dfn (rank L) (by first | exact D.les_refl _ | simp) (sem_run 9000 _ ?_);simp;refine sem_dfn (compare_int L) (by first | exact D.les_refl _ | simp) (sem_run 9000 _ ?_);simp
 by_cases h1 : cmpI (rankV a) (rankV b) = 0
 ·cases h2 : a.null
  ·by_cases h3 : a.kind = 1
   ·simp [h1, h2, h3];refine sf (compare_int64 L) ?_;simp;refine sem_ret ?_;simp [M1, cmpV, h1, h2, h3];exact .same (by simp)
   ·by_cases h4 : a.kind = 2
    ·simp [h1, h2, h4];refine sf (bytes_compare L) ?_;simp;refine sem_ret ?_;simp [M1, cmpV, h1, h2, h4];exact .same (by simp)
    ·simp [h1, h2, h3, h4];refine sem_ret ?_;simp [M1, cmpV, h1, h2, h3, h4];exact .same (by simp)
  ·simp [h1, h2];refine sem_ret ?_;simp [M1, cmpV, h1, h2];exact .same (by simp)
 ·simp [h1];refine sem_ret ?_;simp [M1, cmpV, h1];exact .same (by simp)
theorem slcRow_eq {sz : Nat} {m : Md} {l : List (List D)} {lo hi mx : Option V} : slcD sz (.row sz m l) (lo.map .lit) (hi.map .lit) (mx.map .lit) = cond (needH hi mx) (slcRow sz m l lo hi mx) none := by
 cases lo <;> cases hi <;> cases mx <;> simp only [slcD, Option.map, bndD, beq_d, decide_true, cond_true]
theorem slc_clip {sz : Nat} {m : Md} {l : List (List D)} (hm : m = .p ∨ m = .c) : slcD sz (.row sz m l) none (some (.lit (.int .i64 (l.length : Int)))) (some (.lit (.int .i64 (l.length : Int)))) = some (.row sz .c l) := by
 have := slcRow_eq (sz := sz) (m := m) (l := l) (lo := none) (hi := some (.int .i64 (l.length : Int))) (mx := some (.int .i64 (l.length : Int)));simp only [Option.map] at this;rw [this];simp only [needH, cond_true, slcRow, boundM, natOf_cast, ble_d, Nat.le_refl, decide_true, boundH, boundL, cutMd, beq_d];cases m <;> simp at hm ⊢
theorem clip_val (L : HSchmR p ext F) {r : Row} : FnD p ext (F 13) [rowD r] (rowD r) := by
 refine fn_of L.h13 (M := M13) rfl ok13 rfl fun H => sem_run 9000 _ ?_;simp [rowD];have := slc_clip (sz := 4) (m := .p) (l := rowE r) (by simp);simp only [row_len] at this;simp [this];refine sem_ret ?_;simp [M13];exact .le .refl (by simp [D.le]) (by simp)
theorem clone_by (L : HSchmR p ext F) {b : List By} (hb : b.length < 1000000) : FnD p ext (F 14) [byD b] (byD b) := by
 refine fn_of L.h14 (M := M14) rfl ok14 rfl fun H => sem_run 9000 _ ?_;simp [byD];refine ⟨?_, ?_⟩
 ·intro h0;refine sem_ret ?_;simp [M14];exact .le .refl (by rw [h0]; simp [D.le]) (by simp)
 ·obtain ⟨s', H', e, g, _⟩ := (Gr.lit (el := []) (sz := 1) (H := H) (ex := true) (c := []) (n := 0) Sub.refl (by simp) rfl rfl).app (by_ := 1) (m := .p) (new := byE b) by_one by_flats (roomyD (by simp; omega) (by simp; omega));simp [e];refine sem_ret ?_;simp [M14];exact g.fin (by simp) (by simp)
theorem schm_val (L : HSchmR p ext F) {v : Vl} : FnD p ext (F 5) [.agg v.c] (.agg v.c) := by
 refine fn_of L.h5 (M := M5) rfl ok5 rfl fun H => sem_run 9000 _ ?_;simp;refine sf (clone_by L v.small) ?_;simp;refine sem_ret ?_;simp [M5, Vl.c];exact .le sR (by simp) (by simp)
def RowI (H0 : HpD) (r : Row) (k : Nat) (fr : FrD) (H : HpD) : Prop :=
 ∃ (i : Nat) (s : D), k = r.length - i ∧ i ≤ r.length ∧ fr = [(3, s), (6, rowD r), (7, .lit (.int .i64 (r.length : Int))), (8, .lit (.int .i64 (i : Int)))] ∧ Gr H0 H 4 s (rowE (r.take i))
theorem schm_row (L : HSchmR p ext F) {r : Row} (hr : r.length < 1000000) : FnD p ext (F 4) [rowD r] (rowD r) := by
 refine fn_of L.h4 (M := M4) rfl ok4 rfl fun H => sem_run 9000 _ ?_;simp;refine sem_loop (RowI H r) ?_ (k := r.length) ⟨0, .lit .nilslice, by simp, by simp, rfl, by simpa [rowE] using Gr.start⟩;rintro k fr H' ⟨i, s, rfl, hi, rfl, g⟩;refine sem_run 9000 _ ?_;simp
 by_cases c : i < r.length
 ·have hx : r[i]? = some r[i] := (by simp);simp [c];refine sf (schm_val L) ?_;simp;refine sem_push (g.mono sR) rfl rfl (roomyD (by simp; omega) (by simp; omega)) fun s' H1 g1 _ _ => ?_;simp;refine sem_ok ?_;have hw : wr .i64 ((i : Int) + 1) = ((i + 1 : Nat) : Int) := (by rw [wr_of] <;> omega);rw [rowE_snoc hx] at g1;exact ⟨_, by omega, i + 1, s', rfl, by omega, by rw [hw], g1⟩
 ·simp [c];refine sem_exit (sem_run 9000 _ ?_);have : i = r.length := (by omega);subst this;rw [List.take_length] at g;simp;refine sem_row g 0 rfl fun H2 s2 _ _ => ?_;refine sf (clip_val L) ?_;simp;refine sem_ret ?_;simp [M4];exact .le s2 (D.le_refl _) (by simp)
def atV (r : Row) (c : Int) : Vl := if c < 0 then zv else (r[c.toNat]?).getD zv
theorem schm_at (L : HSchmK p ext F) {r : Row} {c : Int} : FnD p ext (F 3) [rowD r, .lit (.int .i64 c)] (.agg (atV r c).c) := by
 refine fn_of L.h3 (M := M3) rfl ok3 rfl fun H => sem_run 9000 _ ?_;simp
 by_cases h1 : c < 0
 ·simp [h1];refine sem_ret ?_;simp [M3];exact .le sR (by rw [atV, if_pos h1]; exact zv_le) (by simp)
 ·obtain ⟨n, rfl⟩ : ∃ n : Nat, c = n := ⟨c.toNat, by omega⟩
  by_cases h2 : r.length ≤ n
  ·simp [h1, h2];refine sem_ret ?_;simp [M3];exact .le sR (by rw [atV, if_neg h1]; simp [h2]; exact zv_le) (by simp)
  ·have h3 : n < r.length := (by omega);simp [h1, h2, h3];refine sf (schm_val L) ?_;simp;refine sem_ret ?_;simp [M3];exact .le sR (by rw [atV, if_neg h1]; simp [h3]) (by simp)
theorem vl_ext {a b : Vl} : a = b ↔ a.null = b.null ∧ a.kind = b.kind ∧ a.n = b.n ∧ a.bytes = b.bytes := by
 cases a; cases b; simp
instance : DecidableEq Vl := fun _a _b => decidable_of_iff _ vl_ext.symm
end Go.Lib
end

section
set_option maxRecDepth 10000
namespace Go.Lib
open Go.Vm Go.Dv
variable {p : Prog} {ext : Ext} {F : Nat → Nat}
structure Cl where
 name : List Nat
 kind : Int
 null : Bool
def Cl.c (c : Cl) : List D := [.lit (.str c.name), .lit (.int .i64 c.kind), .lit (.bool c.null)]
abbrev Sch := List Cl
def schE (s : Sch) : List (List D) := s.map Cl.c
def schR (s : Sch) : D := .row 3 .p (schE s)
def schD (s : Sch) : D := .agg [schR s]
theorem cl_unders {n : Nat} {c : Cl} : D.unders n c.c := by simp [Cl.c]
theorem sch_underss {n : Nat} {s : Sch} : D.underss n (schE s) := underss_map (fun _ => cl_unders) _
theorem schR_under {n : Nat} {s : Sch} : (schR s).under n := sch_underss
theorem sch_len {s : Sch} : (schE s).length = s.length := by simp [schE]
theorem lenb_sch {s : Sch} : lenbD (schR s) = some (.lit (.int .i64 (s.length : Int))) := by simp [schR, sch_len]
theorem at_sch {s : Sch} {n : Nat} : atO 3 (schR s) (some n) = elemD (s[n]?.map Cl.c) := by simp [schR, schE]
theorem cl_0 {v : Cl} : v.c[0]? = some (.lit (.str v.name)) := rfl
theorem cl_1 {v : Cl} : v.c[1]? = some (.lit (.int .i64 v.kind)) := rfl
theorem cl_2 {v : Cl} : v.c[2]? = some (.lit (.bool v.null)) := rfl
theorem cl_len {v : Cl} : v.c.length = 3 := rfl
theorem cl_take {v : Cl} : v.c.take 3 = v.c := rfl
theorem cl_drop {v : Cl} : v.c.drop 3 = [] := rfl
theorem cl_flats {v : Cl} : flatsD v.c = true := rfl
theorem cellsD_schR {s : Sch} : cellsD (schR s) = some [schR s] := rfl
theorem flatD_schR {s : Sch} : flatD (schR s) = true := rfl
theorem cellsD_schD {s : Sch} : cellsD (schD s) = some [schR s] := rfl
attribute [simp] cl_unders sch_underss schR_under sch_len lenb_sch at_sch cl_0 cl_1 cl_2 cl_len cl_take cl_drop cl_flats cellsD_schR flatD_schR cellsD_schD
def andI (a m : Int) : Int := wr .i64 (.ofNat (Nat.land (toU .i64 a) (toU .i64 m)))
theorem bin_andI {tab : Tab} {a b : Int} : binV tab .and (.int .i64 a) (.int .i64 b) = some (.int .i64 (andI a b)) := bin_and
theorem andI_small {a : Int} {m : Nat} (hm : m < 65536) : ∃ q : Nat, andI a (m : Int) = q ∧ q ≤ m := and_range hm
attribute [-simp] bin_and
attribute [simp] bin_andI
def intsD (m : Md) (l : List Int) : D := .row 1 m (l.map fun n => [.lit (.int .i64 n)])
theorem lenb_ints {m : Md} {l : List Int} : lenbD (intsD m l) = some (.lit (.int .i64 (l.length : Int))) := by simp [intsD]
theorem at_ints {m : Md} {l : List Int} {n : Nat} : atO 1 (intsD m l) (some n) = elemD (l[n]?.map fun x => [.lit (.int .i64 x)]) := by simp [intsD]
theorem ints_under {m : Md} {l : List Int} {n : Nat} : (intsD m l).under n := by simp only [intsD, D.under]; exact underss_map (fun _ => by simp) _
theorem cellsD_ints {m : Md} {l : List Int} : cellsD (intsD m l) = some [intsD m l] := rfl
attribute [simp] lenb_ints at_ints ints_under cellsD_ints
end Go.Lib
end

section
set_option maxRecDepth 10000
namespace Go.Lib
open Go.Vm Go.Dv
def isB (v : Vl) : Bool := decide ((v.kind = 1 ∨ v.kind = 2) ∧ (if v.null = true then v.n = 0 ∧ v.bytes = [] else if v.kind = 1 then v.bytes = [] else v.n = 0 ∧ v.bytes.length ≤ 64))
theorem neqs_dec : ∀ {a b : List Nat}, neqs a b = decide (a = b)
 | [], [] => by simp [neqs]
 | [], _ :: _ => by simp [neqs]
 | _ :: _, [] => by simp [neqs]
 | a :: x, b :: y => by
  simp only [neqs, nbeq_d, neqs_dec (a := x) (b := y), List.cons.injEq]
  by_cases h : a = b <;> simp [h]
theorem idxs_at {s : List Nat} {n : Int} {i a : Nat} (hn : n = (i : Int)) (h : s[i]? = some a) : idxsV (.str s) (.int .i64 n) = some (.int .u8 (a : Int)) := by
 subst hn;simp only [idxsV, natOf_cast, Go.Dv.getX_eq, h];rfl
def NameOk (x : List Nat) : Prop := 1 ≤ x.length ∧ x.length ≤ 8 ∧ ∀ c, c ∈ x → 97 ≤ c ∧ c ≤ 122
structure OkS (s : Sch) : Prop where
 names : ∀ c, c ∈ s → NameOk c.name
 inj : ∀ (i j : Nat) (c c' : Cl), s[i]? = some c → s[j]? = some c' → c.name = c'.name → i = j
 kinds : ∀ c, c ∈ s → c.kind = 1 ∨ c.kind = 2
 len : 1 ≤ s.length ∧ s.length ≤ 6
 key : ∃ c, s[0]? = some c ∧ c.kind = 1 ∧ c.null = false
def holdsB (c : Cl) (v : Vl) : Bool := isB v && decide (v.kind = c.kind) && (c.null || !v.null)
def fitsB : Sch → Row → Bool
 | [], [] => true
 | c :: s, v :: r => holdsB c v && fitsB s r
 | _, _ => false
theorem fitsB_len : ∀ {s : Sch} {r : Row}, fitsB s r = true → r.length = s.length
 | [], [], _ => rfl
 | c :: s, v :: r, h => by
  unfold fitsB at h;rw [Bool.and_eq_true] at h;have := fitsB_len h.2;simp [this]
 | [], v :: r, h => by cases h
 | c :: s, [], h => by cases h
theorem fitsB_ne {s : Sch} {r : Row} (h : r.length ≠ s.length) : fitsB s r = false := by
 rw [Bool.eq_false_iff]; exact fun e => h (fitsB_len e)
end Go.Lib
end

section
set_option maxRecDepth 10000
namespace Go.Lib
open Go.Vm Go.Dv
variable {p : Prog} {ext : Ext} {F : Nat → Nat}
attribute [-simp] bin_and
structure HIs (p : Prog) (ext : Ext) (F : Nat → Nat) : Prop where
 h220 : Has p ext F 220 M220
theorem schm_is0 (L : HIs p ext F) {v : Vl} (hn : v.null = false) : FnD p ext (F 220) [.agg v.c] (.lit (.bool (isB v))) := by
 refine fn_of L.h220 (M := M220) rfl ok220 rfl fun H => sem_run 9000 _ ?_;simp
 by_cases h1 : v.kind = 1
 ·simp [h1, hn];refine sem_ret ?_;simp [M220, isB, h1, hn];exact .same (by simp)
 ·by_cases h2 : v.kind = 2
  ·simp [h2, hn]
   by_cases h3 : v.n = 0
   ·by_cases h4 : v.bytes.length ≤ 64
    ·have h4' : (v.bytes.length : Int) ≤ 64 := (by omega);simp [h3, h4'];refine sem_ret ?_;simp [M220, isB, h2, h3, h4, hn];exact .same (by simp)
    ·have h4' : ¬ (v.bytes.length : Int) ≤ 64 := (by omega);simp [h3, h4'];refine sem_ret ?_;simp [M220, isB, h2, h3, h4, hn];exact .same (by simp)
   ·simp [h3];refine sem_ret ?_;simp [M220, isB, h2, h3, hn];exact .same (by simp)
  ·simp [h1, h2];refine sem_ret ?_;simp [M220, isB, h1, h2, hn];exact .same (by simp)
theorem schm_is1 (L : HIs p ext F) {v : Vl} (hn : v.null = true) : FnD p ext (F 220) [.agg v.c] (.lit (.bool (isB v))) := by
 refine fn_of L.h220 (M := M220) rfl ok220 rfl fun H => sem_run 9000 _ ?_;simp
 by_cases h1 : v.kind = 1
 ·by_cases h3 : v.n = 0
  ·simp [h1, hn, h3];refine sem_ret ?_;simp [M220, isB, h1, hn, h3];exact .same (by simp)
  ·simp [h1, hn, h3];refine sem_ret ?_;simp [M220, isB, h1, hn, h3];exact .same (by simp)
 ·by_cases h2 : v.kind = 2
  ·by_cases h3 : v.n = 0
   ·simp [h2, hn, h3];refine sem_ret ?_;simp [M220, isB, h2, hn, h3];exact .same (by simp)
   ·simp [h2, hn, h3];refine sem_ret ?_;simp [M220, isB, h2, hn, h3];exact .same (by simp)
  ·simp [h1, h2];refine sem_ret ?_;simp [M220, isB, h1, h2, hn];exact .same (by simp)
theorem schm_isF (h : Has p ext F 220 M220) {v : Vl} : FnD p ext (F 220) [.agg v.c] (.lit (.bool (isB v))) := by
 cases e : v.null with
 | true => exact schm_is1 ⟨h⟩ e
 | false => exact schm_is0 ⟨h⟩ e
def idxF {α : Type} (f : α → Bool) (l : List α) : Int := match l.findIdx? f with
 | some i => i
 | none => -1
theorem idxF_at {α : Type} {f : α → Bool} {l : List α} {i : Nat} {y : α} (h1 : ∀ (j : Nat) z, j < i → l[j]? = some z → f z = false) (h2 : l[i]? = some y) (h3 : f y = true) : idxF f l = i := by
 obtain ⟨hi, h4⟩ := List.getElem?_eq_some_iff.1 h2
 have : l.findIdx? f = some i := by
  rw [List.findIdx?_eq_some_iff_getElem];exact ⟨hi, by rw [h4]; exact h3, fun j hj => by rw [h1 j _ hj (List.getElem?_eq_getElem (by omega))]; simp⟩
 unfold idxF; rw [this]
theorem idxF_no {α : Type} {f : α → Bool} {l : List α} (h : ∀ (j : Nat) z, j < l.length → l[j]? = some z → f z = false) : idxF f l = -1 := by
 have : l.findIdx? f = none := by
  rw [List.findIdx?_eq_none_iff];intro y hy;obtain ⟨j, hj, e⟩ := List.getElem_of_mem hy;exact h j y hj (by rw [List.getElem?_eq_getElem hj, e])
 unfold idxF; rw [this]
theorem idxF_any {α : Type} {f : α → Bool} {l : List α} : decide (0 ≤ idxF f l) = l.any f := by
 unfold idxF
 cases h : l.findIdx? f with
 | none =>
  rw [List.findIdx?_eq_none_iff] at h;have : l.any f = false := (by rw [List.any_eq_false]; intro x hx; rw [h x hx]; simp);rw [this]; rfl
 | some i =>
  obtain ⟨hi, h1, _⟩ := List.findIdx?_eq_some_iff_getElem.1 h;have : l.any f = true := List.any_eq_true.2 ⟨l[i], List.getElem_mem hi, h1⟩;rw [this];exact decide_eq_true (by show (0 : Int) ≤ (i : Int); omega)
def IxIC (H0 : HpD) (f : Cl → Bool) (l : List Cl) (fv : D) (w : Nat) (fr : FrD) (H : HpD) : Prop :=
 ∃ i : Nat, w = l.length - i ∧ i ≤ l.length ∧ (∀ (j : Nat) z, j < i → l[j]? = some z → f z = false) ∧ fr = [(0, schR l), (1, fv), (7, .lit (.int .i64 (l.length : Int))), (8, .lit (.int .i64 (i : Int)))] ∧ Sub H0 H
theorem ixC (L : Has p ext F 239 M239) {g : Nat} {cap : D} {f : Cl → Bool} {l : List Cl} (hl : l.length < 1000000) (hf : ∀ y, FnD p ext g [.agg y.c, cap] (.lit (.bool (f y)))) : FnD p ext (F 239) [schR l, .func g [] [cap]] (.lit (.int .i64 (idxF f l))) := by
 refine fn_of L (M := M239) rfl ok239 rfl fun H => sem_run 9000 _ ?_;simp;refine sem_loop (IxIC H f l (.func g [] [cap])) ?_ (k := l.length) ⟨0, by simp, by simp, by simp, rfl, sR⟩;rintro w fr H' ⟨i, rfl, hi, hn, rfl, sb⟩
 by_cases c : i < l.length
 ·obtain ⟨y, hy⟩ : ∃ y, l[i]? = some y := ⟨_, List.getElem?_eq_getElem c⟩;have hyi : l[i] = y := (by rw [List.getElem?_eq_getElem c] at hy; exact Option.some.inj hy);refine sem_run 9000 _ ?_;simp;simp [c, hyi];refine sf (hf y) ?_
  cases e : f y with
  | true =>
   simp;refine sem_ret ?_;simp [M239];refine sem_ret ?_;simp;rw [idxF_at hn hy e];exact .le sb (D.le_refl _) (by simp)
  | false =>
   simp;refine sem_ok ?_;have hw : wr .i64 ((i : Int) + 1) = ((i + 1 : Nat) : Int) := (by rw [wr_of] <;> omega);refine ⟨_, by omega, i + 1, rfl, by omega, fun j z hj hz => ?_, by rw [hw], sb⟩;rcases (by omega : j < i ∨ j = i) with h | rfl
   ·exact hn j z h hz
   ·rw [hy] at hz; cases hz; exact e
 ·have : i = l.length := (by omega);subst this;refine sem_run 9000 _ ?_;simp;refine sem_exit (sem_run 9000 _ ?_);simp;refine sem_ret ?_;simp [M239];rw [idxF_no hn];exact .le sb (D.le_refl _) (by simp)
theorem conC (L : Has p ext F 239 M239) (L2 : Has p ext F 266 M266) {g : Nat} {cap : D} {f : Cl → Bool} {l : List Cl} (hl : l.length < 1000000) (hf : ∀ y, FnD p ext g [.agg y.c, cap] (.lit (.bool (f y)))) : FnD p ext (F 266) [schR l, .func g [] [cap]] (.lit (.bool (l.any f))) := by
 refine fn_of L2 (M := M266) rfl ok266 rfl fun H => sem_run 9000 _ ?_;simp;refine sf (ixC L hl hf) ?_;simp;refine sem_ret ?_;simp [M266];rw [idxF_any];exact .le sR (D.le_refl _) (by simp)
structure HFit (p : Prog) (ext : Ext) (F : Nat → Nat) : Prop where
 h220 : Has p ext F 220 M220
 h239 : Has p ext F 239 M239
 h255 : Has p ext F 255 M255
 h264 : Has p ext F 264 M264
 h265 : Has p ext F 265 M265
 h266 : Has p ext F 266 M266
 h268 : Has p ext F 268 M268
 h279 : Has p ext F 279 M279
def NmI (H0 : HpD) (x : List Nat) (w : Nat) (fr : FrD) (H : HpD) : Prop :=
 ∃ i : Nat, w = x.length - i ∧ i ≤ x.length ∧ fr = [(0, .lit (.str x)), (5, .lit (.int .i64 (x.length : Int))), (6, .lit (.int .i64 (i : Int)))] ∧ Sub H0 H
theorem schm_named (L : HFit p ext F) {x : List Nat} (h : NameOk x) : FnD p ext (F 265) [.lit (.str x)] (.lit (.bool true)) := by
 refine fn_of L.h265 (M := M265) rfl ok265 rfl fun H => sem_run 9000 _ ?_;simp;obtain ⟨l1, l2, hc⟩ := h;refine sem_loop (NmI H x) ?_ (k := x.length) ⟨0, by simp, by simp, rfl, sR⟩;rintro w fr H' ⟨i, rfl, hi, rfl, sb⟩
 by_cases c : i < x.length
 ·obtain ⟨y, hy⟩ : ∃ y, x[i]? = some y := ⟨_, List.getElem?_eq_getElem c⟩;obtain ⟨y1, y2⟩ := hc y (List.mem_of_getElem? hy);have z1 : ¬ (y : Int) < 97 := (by omega);have z2 : ¬ 122 < (y : Int) := (by omega);have hw : wr .i64 ((i : Int) + 1) = ((i + 1 : Nat) : Int) := (by rw [wr_of] <;> omega);refine sem_run 9000 _ ?_;simp;simp [c];rw [idxs_at (i := i) rfl hy];simp [z1];rw [idxs_at (i := i) rfl hy];simp [z2];refine sem_ok ?_;exact ⟨_, by omega, i + 1, rfl, by omega, by rw [hw], sb⟩
 ·have : i = x.length := (by omega);subst this;have z1 : (1 : Int) ≤ (x.length : Int) := (by omega);have z2 : (x.length : Int) ≤ 8 := (by omega);refine sem_run 9000 _ ?_;simp;refine sem_exit (sem_run 9000 _ ?_);simp [z1, z2];refine sem_ret ?_;simp [M265];exact .le sb (D.le_refl _) (by simp)
theorem ok_same (L : HFit p ext F) {y c : Cl} : FnD p ext (F 264) [.agg y.c, .rptr c.c 0] (.lit (.bool (decide (y.name = c.name)))) := by
 refine fn_of L.h264 (M := M264) rfl ok264 rfl fun H => sem_run 9000 _ ?_;simp;simp [neqs_dec];refine sem_ret ?_;simp [M264];exact .le sR (D.le_refl _) (by simp)
theorem slc_schR {s : Sch} {i : Nat} (h : i ≤ s.length) : slcD 3 (schR s) none (some (.lit (.int .i64 (i : Int)))) none = some (schR (s.take i)) := by
 simp [schR, schE, slcD, bndD, slcRow, needH, boundM, boundH, boundL, ble_d, h, List.map_take, cutMd]
def OkI (H0 : HpD) (s : Sch) (w : Nat) (fr : FrD) (H : HpD) : Prop :=
 ∃ i : Nat, w = s.length - i ∧ i ≤ s.length ∧ fr = [(1, .rptr [schR s] 0), (8, schR s), (9, .lit (.int .i64 (s.length : Int))), (10, .lit (.int .i64 (i : Int)))] ∧ Sub H0 H
theorem schm_ok (L : HFit p ext F) {s : Sch} (h : OkS s) : FnD p ext (F 255) [schD s] (.lit (.bool true)) := by
 refine fn_of L.h255 (M := M255) rfl ok255 rfl fun H => sem_run 9000 _ ?_;simp;obtain ⟨l1, l2⟩ := h.len;refine sem_loop (OkI H s) ?_ (k := s.length) ⟨0, by simp, by simp, rfl, sR⟩;rintro w fr H' ⟨i, rfl, hi, rfl, sb⟩
 by_cases c : i < s.length
 ·obtain ⟨y, hy⟩ : ∃ y, s[i]? = some y := ⟨_, List.getElem?_eq_getElem c⟩;have hyi : s[i] = y := (by rw [List.getElem?_eq_getElem c] at hy; exact Option.some.inj hy)
  have hw : wr .i64 ((i : Int) + 1) = ((i + 1 : Nat) : Int) := by rw [wr_of] <;> omega
  have hany : (s.take i).any (fun z => decide (z.name = y.name)) = false := by
   rw [List.any_eq_false];intro z hz;obtain ⟨j, hj, e⟩ := List.getElem_of_mem hz;have hj1 : j < i := (by rw [List.length_take] at hj; omega);simp only [decide_eq_true_eq];intro e2;have hzj : s[j]? = some z := (by rw [List.getElem_take] at e; rw [List.getElem?_eq_getElem (by omega), e]);have := h.inj j i z y hzj hy e2;omega
  have hk := h.kinds y (List.mem_of_getElem? hy);have hcon := conC L.h239 L.h266 (g := F 264) (cap := .rptr y.c 0) (f := fun z => decide (z.name = y.name)) (l := s.take i) (by rw [List.length_take]; omega) (fun z => ok_same L);rw [hany] at hcon;refine sem_run 21 _ ?_;simp [c, hyi];refine sem_box (b := H'.next) (cs := y.c) (ro := false) 4 (by simp) (by simp) ?_;refine sem_run 9000 _ ?_;simp;refine sf (schm_named L (h.names y (List.mem_of_getElem? hy))) ?_;simp;rw [slc_schR (by omega)];simp;refine sf hcon ?_;rcases hk with k | k
  ·simp [k];refine sem_ok ?_;exact ⟨_, by omega, i + 1, rfl, by omega, by rw [hw], (sB sb)⟩
  ·simp [k];refine sem_ok ?_;exact ⟨_, by omega, i + 1, rfl, by omega, by rw [hw], (sB sb)⟩
 ·have : i = s.length := (by omega);subst this;obtain ⟨c0, k0, k1, k2⟩ := h.key;have z1 : (1 : Int) ≤ (s.length : Int) := (by omega);have z2 : (s.length : Int) ≤ 6 := (by omega);have z3 : (0 : Nat) < s.length := (by omega);have k0' : s[0] = c0 := (by rw [List.getElem?_eq_getElem z3] at k0; exact Option.some.inj k0);refine sem_run 9000 _ ?_;simp;refine sem_exit (sem_run 9000 _ ?_);simp [z1, z2, z3, k0', k1, k2];refine sem_ret ?_;simp [M255];exact .le sb (D.le_refl _) (by simp)
theorem schm_holds (L : HFit p ext F) {c : Cl} {v : Vl} : FnD p ext (F 279) [.agg c.c, .agg v.c] (.lit (.bool (holdsB c v))) := by
 refine fn_of L.h279 (M := M279) rfl ok279 rfl fun H => sem_run 9000 _ ?_;simp;refine sf (schm_isF L.h220) ?_;simp
 cases is : isB v with
 | false =>
  simp;refine sem_ret ?_;simp [M279, holdsB, is];exact .same (by simp)
 | true =>
  by_cases k : v.kind = c.kind
  ·cases cn : c.null with
   | true =>
    simp [Cl.c, k, cn];refine sem_ret ?_;simp [M279, holdsB, is, k, cn];exact .same (by simp)
   | false =>
    simp [Cl.c, k, cn];refine sem_ret ?_;simp [M279, holdsB, is, k, cn];exact .same (by simp)
  ·simp [Cl.c, k];refine sem_ret ?_;simp [M279, holdsB, is, k];exact .same (by simp)
def FtI (H0 : HpD) (s : Sch) (r : Row) (w : Nat) (fr : FrD) (H : HpD) : Prop :=
 ∃ i : Nat, w = s.length - i ∧ i ≤ s.length ∧ fitsB s r = fitsB (s.drop i) (r.drop i) ∧ fr = [(1, rowD r), (14, schR s), (15, .lit (.int .i64 (s.length : Int))), (16, .lit (.int .i64 (i : Int)))] ∧ Sub H0 H
theorem schm_fits (L : HFit p ext F) {s : Sch} {r : Row} (hs : s.length < 1000000) : FnD p ext (F 268) [schD s, rowD r] (.lit (.bool (fitsB s r))) := by
 refine fn_of L.h268 (M := M268) rfl ok268 rfl fun H => sem_run 9000 _ ?_;simp
 by_cases hl : r.length = s.length
 ·simp [hl];refine sem_loop (FtI H s r) ?_ (k := s.length) ⟨0, by simp, by simp, by simp, rfl, sR⟩;rintro w fr H' ⟨i, rfl, hi, hf, rfl, sb⟩
  by_cases c : i < s.length
  ·obtain ⟨y, hy⟩ : ∃ y, s[i]? = some y := ⟨_, List.getElem?_eq_getElem c⟩;have hyi : s[i] = y := (by rw [List.getElem?_eq_getElem c] at hy; exact Option.some.inj hy);obtain ⟨v, hv⟩ : ∃ v, r[i]? = some v := ⟨_, List.getElem?_eq_getElem (by omega)⟩;have hvi : r[i] = v := (by rw [List.getElem?_eq_getElem (by omega)] at hv; exact Option.some.inj hv);have hw : wr .i64 ((i : Int) + 1) = ((i + 1 : Nat) : Int) := (by rw [wr_of] <;> omega);have d1 : s.drop i = y :: s.drop (i + 1) := (by rw [List.drop_eq_getElem_cons c, hyi]);have d2 : r.drop i = v :: r.drop (i + 1) := (by rw [List.drop_eq_getElem_cons (by omega), hvi])
   rw [d1, d2, fitsB] at hf;have hir : i < r.length := (by omega);refine sem_run 9000 _ ?_;simp;simp [c, hyi, hvi, hir];refine sem_dfn (schm_holds L (c := y) (v := v)) (by first | exact D.les_refl _ | simp) (sem_run 9000 _ ?_)
   cases hb : holdsB y v with
   | true =>
    simp;refine sem_ok ?_;rw [hb, Bool.true_and] at hf;exact ⟨_, by omega, i + 1, rfl, by omega, hf, by rw [hw], (sB sb)⟩
   | false =>
    simp;refine sem_ret ?_;simp [M268];refine sem_ret ?_;simp;rw [hf, hb, Bool.false_and];exact .le (sB sb) (D.le_refl _) (by simp)
  ·have : i = s.length := (by omega);subst this;rw [List.drop_length, List.drop_of_length_le (by omega), fitsB] at hf;refine sem_run 9000 _ ?_;simp;refine sem_exit (sem_run 9000 _ ?_);simp;refine sem_ret ?_;simp [M268];rw [hf];exact .le sb (D.le_refl _) (by simp)
 ·have hl' : ¬ (r.length : Int) = (s.length : Int) := (by omega);simp [hl'];refine sem_ret ?_;simp [M268];rw [fitsB_ne hl];exact .le sR (D.le_refl _) (by simp)
end Go.Lib
end

section
namespace Go.Dv
open Go.Vm
variable {p : Prog} {ext : Ext} {Q : ResD → Prop} {H0 H : HpD} {sz : Nat} {s : D} {el : List (List D)}
def FrLe (fr : FrD) : FrD → Prop
 | [] => True
 | (t, d) :: r => D.le (lk fr t) d ∧ FrLe fr r
theorem frLe_nil {fr : FrD} : FrLe fr [] = True := rfl
theorem frLe_cons {fr r : FrD} {t : Nat} {d : D} : FrLe fr ((t, d) :: r) = (D.le (lk fr t) d ∧ FrLe fr r) := rfl
theorem FrLe.lk {fr : FrD} : ∀ {fr' : FrD}, FrLe fr fr' → ∀ u, D.le (lk fr u) (lk fr' u)
 | [], _, u => by simp [Dv.lk, D.le]
 | (t, d) :: r, h, u => by
  rw [lk_cons];split
  ·rename_i e; subst e; exact h.1
  ·exact FrLe.lk h.2 u
theorem Weak.as {a : List D} {fr fr' : FrD} (h : FrLe fr fr') : Weak a fr H a fr' H :=
 fun _ ψ S _ _ _ s k kv => ⟨ψ, S, .refl, s, fun t => VD.le _ _ (h.lk t) (k t), kv⟩
theorem get1_0 {d : D} : [d][0]? = some d := rfl
theorem get2_0 {d e : D} : [d, e][0]? = some d := rfl
theorem get2_1 {d e : D} : [d, e][1]? = some e := rfl
attribute [simp] frLe_nil frLe_cons get1_0 get2_0 get2_1
theorem sem_as (fr' : FrD) {fr : FrD} {c : KC} {K : List KD} (h : FrLe fr fr') (hs : Sem p ext Q (.code c K .mk fr' H)) : Sem p ext Q (.code c K .mk fr H) := sem_weak (Weak.as h) hs
theorem sem_as_ok (fr' : FrD) {fr : FrD} {K : List KD} (h : FrLe fr fr') (hs : Sem p ext Q (.res (.ok fr' H) K .mk)) : Sem p ext Q (.res (.ok fr H) K .mk) := sem_weak_ok (Weak.as h) hs
theorem sem_turn_as (fr' : FrD) (g : Gr H0 H sz s el) (t : Nat) {c : KC} {K : List KD} {fr : FrD} (ht : lk fr t = s) (hf : FrLe ((t, .row sz .p el) :: fr) fr')
  (hs : ∀ H', Sub H0 H' → (∀ x, ¬ s.hasB x → H'.blk x = H.blk x) → H'.next = H.next → Sem p ext Q (.code c K .mk fr' H')) : Sem p ext Q (.code c K .mk fr H) :=
 sem_turn g t ht fun H' a b c => sem_as fr' hf (hs H' a b c)
theorem splice_left {x : List D} : ∀ (a m : List D) (k : Nat), spliceD (a ++ m) (a.length + k) x = a ++ spliceD m k x
 | [], m, k => by simp
 | d :: a, m, k => by
  rw [List.cons_append, List.length_cons, show a.length + 1 + k = (a.length + k) + 1 from by omega, spliceD_succ, splice_left a m k]; rfl
theorem splice_whole {x : List D} (hx : x.length = sz) : ∀ {el : List (List D)} {i : Nat} {e : List D}, (∀ e, e ∈ el → e.length = sz) → el[i]? = some e → spliceD el.flatten (i * sz) x = (el.set i x).flatten
 | [], _, _, _, he => by simp at he
 | a :: l, 0, e, hs, he => by
  have ha := hs a (List.mem_cons_self ..);simp [spliceD_zero, hx, ← ha]
 | a :: l, i + 1, e, hs, he => by
  have ha := hs a (List.mem_cons_self ..);have ih := splice_whole hx (el := l) (i := i) (e := e) (fun y hy => hs y (List.mem_cons_of_mem _ hy)) (by simpa using he);simp only [List.flatten_cons, List.set_cons_succ];rw [show (i + 1) * sz = a.length + i * sz from by rw [ha, Nat.succ_mul]; omega, splice_left, ih]
theorem flat_get {j : Nat} : ∀ {el : List (List D)} {i : Nat} {e : List D}, (∀ e, e ∈ el → e.length = sz) → el[i]? = some e → j < sz → el.flatten[i * sz + j]? = e[j]?
 | [], _, _, _, he, _ => by simp at he
 | a :: l, 0, e, hs, he, hj => by
  have ha := hs a (List.mem_cons_self ..);simp at he; subst he;simp only [List.flatten_cons, Nat.zero_mul, Nat.zero_add];rw [List.getElem?_append_left (by omega)]
 | a :: l, i + 1, e, hs, he, hj => by
  have ha := hs a (List.mem_cons_self ..);have ih := flat_get (el := l) (i := i) (e := e) (fun y hy => hs y (List.mem_cons_of_mem _ hy)) (by simpa using he) hj;simp only [List.flatten_cons];rw [show (i + 1) * sz + j = a.length + (i * sz + j) from by rw [ha, Nat.succ_mul]; omega, List.getElem?_append_right (by omega), Nat.add_sub_cancel_left, ih]
theorem sem_exact {c : KC} {K : List KD} {fr : FrD} (g : Gr H0 H sz s el) (hs : ∀ H', GrX H0 H' sz s el → (∀ x, ¬ s.hasB x → H'.blk x = H.blk x) → H'.next = H.next → Sem p ext Q (.code c K .mk fr H')) : Sem p ext Q (.code c K .mk fr H) := by
 obtain ⟨H', w, g', k, n⟩ := g.exact;exact sem_weak (w _ _) (hs H' g' k n)
theorem GrX.keep {H1 : HpD} (g : GrX H0 H sz s el) (hs : Sub H H1) (hk : ∀ x, s.hasB x → H1.blk x = H.blk x) : GrX H0 H1 sz s el := by
 refine ⟨g.gr.mono hs, ?_⟩;rcases g.at_ with h | ⟨b, ex, rfl, h1, h2, h3⟩
 ·exact .inl h
 ·exact .inr ⟨b, ex, rfl, h1, by have := hs.next; omega, by rw [hk b rfl, h3]⟩
theorem GrX.whole {e x : List D} {i b : Nat} {ex : Bool} (g : GrX H0 H sz (.slice b 0 sz el.length el.length ex) el) (he : el[i]? = some e) (hx : x.length = sz) (h1 : H0.next ≤ b) (h2 : b < H.next) : GrX H0 (H.put b (.cells (spliceD el.flatten (i * sz) x) false)) sz (.slice b 0 sz el.length el.length ex) (el.set i x) := by
 rw [splice_whole hx g.gr.len he];refine ⟨⟨g.gr.sub.put h1, fun y hy => ?_, .inr ⟨b, ex, el.set i x, by simp, h1, h2, by simp, D.less_refl _⟩⟩, .inr ⟨b, ex, by simp, h1, h2, by simp⟩⟩;rcases List.mem_or_eq_of_mem_set hy with hy | rfl
 ·exact g.gr.len y hy
 ·exact hx
theorem GrX.cell {e : List D} {x : D} {i j b : Nat} {ex : Bool} (g : GrX H0 H sz (.slice b 0 sz el.length el.length ex) el) (he : el[i]? = some e) (hj : j < sz) (h1 : H0.next ≤ b) (h2 : b < H.next) : GrX H0 (H.put b (.cells (spliceD el.flatten (i * sz + j) [x]) false)) sz (.slice b 0 sz el.length el.length ex) (el.set i (e.set j x)) := by
 rw [spliceD_flatten g.gr.len he hj];refine ⟨⟨g.gr.sub.put h1, fun y hy => ?_, .inr ⟨b, ex, el.set i (e.set j x), by simp, h1, h2, by simp, D.less_refl _⟩⟩, .inr ⟨b, ex, by simp, h1, h2, by simp⟩⟩;rcases List.mem_or_eq_of_mem_set hy with hy | rfl
 ·exact g.gr.len y hy
 ·rw [List.length_set]; exact g.gr.len e (List.mem_of_getElem? he)
theorem SR.tellV {G : Nat → Option (Blk → Prop)} {ψ : Nat → Option Nat} {S : Fz} {h : Hp} {b : Nat} {cs cs' : List D} {ro : Bool} (s : SR G ψ S H h) (hb : H.blk b = .cells cs ro) (hl : ∀ l', VDl h ψ S cs l' → VDl h ψ S cs' l') : SR G ψ S (H.put b (.cells cs' ro)) h :=
 ⟨s.inj, s.dom, s.frz, fun b' hg => by
  rw [put_blk] at hg ⊢
  by_cases e : b' = b
  ·subst e;obtain ⟨c, h1, h2, h3⟩ := s.live b' (by rw [hb]; rfl);rw [hb] at h3;obtain ⟨l', e1, k⟩ := h3;refine ⟨c, h1, h2, ?_⟩;rw [if_pos rfl];exact ⟨l', e1, hl l' k⟩
  ·rw [if_neg e] at hg ⊢
   exact s.live b' hg, s.gl, s.low⟩
theorem Gr.incell (g : Gr H0 H sz s el) {b2 j : Nat} {cs : List D} {ro : Bool} (hb2 : H.blk b2 = .cells cs ro) (hj : cs[j]? = some s) (hne : ¬ s.hasB b2) :
  ∃ H', (∀ a fr, Weak a fr H a fr H') ∧ H'.blk b2 = .cells (cs.set j (.row sz .p el)) ro ∧ (∀ x, x ≠ b2 → ¬ s.hasB x → H'.blk x = H.blk x) ∧ H'.next = H.next ∧ ∀ H1, Sub H1 H → H1.next ≤ H0.next → H1.next ≤ b2 → Sub H1 H' := by
 rcases g.at_ with ⟨rfl, rfl⟩ | ⟨b, ex, el0, rfl, h1, h2, h3, h4⟩
 ·refine ⟨H.put b2 (.cells (cs.set j (.row sz .p [])) ro), fun a fr => ?_, by simp, fun x hx _ => by rw [put_blk, if_neg hx], by simp, fun H1 hs _ h2 => hs.put h2⟩;intro G ψ S h fv vs sr kf kv;exact ⟨ψ, S, .refl, sr.tellV hb2 fun l' k => k.setD hj fun v hv => VD.le (.lit .nilslice) _ (by simp [D.le]) hv, kf, kv⟩
 ·have hb : b2 ≠ b := fun e => hne (by simp only [D.hasB]; omega);refine ⟨(H.put b .gone).put b2 (.cells (cs.set j (.row sz .p el)) ro), fun a fr => ?_, by simp, fun x hx hx2 => ?_, by simp, fun H1 hs h0 h2 => (hs.put (by omega)).put h2⟩
  ·intro G ψ S h fv vs sr kf kv;have hel := less_length h4;obtain ⟨c, hc, hr⟩ := frz_row sr h3 (less_sz h4 g.len);obtain ⟨x0, s0⟩ := sr.freeze hc;refine ⟨ψ, _, x0, s0.tellV (cs := cs) (by rw [put_blk, if_neg hb]; exact hb2) fun l' k => k.setD hj fun v hv => ?_, kf.mono x0, VDl.mono x0 _ kv⟩;simp only [VD] at hv;obtain ⟨c', e, e2⟩ := hv;rw [hc] at e; cases e;rw [e2];rw [← hel];refine VD.le _ _ ?_ (hr _ _ (Nat.le_refl _));simp [D.le, h4]
  ·rw [put_blk, if_neg hx, put_blk, if_neg];exact fun e => hx2 (by simp only [D.hasB]; omega)
theorem Gr.base {H1 : HpD} (g : Gr H1 H sz s el) (h : Sub H0 H1) : Gr H0 H sz s el := by
 refine ⟨h.trans g.sub, g.len, ?_⟩;rcases g.at_ with h2 | ⟨b, ex, el0, rfl, h1, h2, h3, h4⟩
 ·exact .inl h2
 ·exact .inr ⟨b, ex, el0, rfl, Nat.le_trans h.next h1, h2, h3, h4⟩
theorem WcD.via {f : Nat} {args args' : List D} {H' : HpD} {R : D → HpD → Prop} (w : Weak args [] H args' [] H') (hw : WcD p ext f args' H' R) : WcD p ext f args H R := by
 intro ψ S h vs s k;obtain ⟨ψ1, S1, x1, s1, _, k1⟩ := w _ ψ S h (.leaf) vs s (fun t => by simp [Dv.lk, VD]) k;refine (hw ψ1 S1 h vs s1 k1).mono fun v h' ⟨ψ', S', d, H2, a, b, c, e⟩ => ⟨ψ', S', d, H2, x1.trans a, b, c, e⟩
theorem wc_own {f : Nat} {d : D} (g : Gr H0 H sz s el) (hf : FnD p ext f [.row sz .p el] d) : WcD p ext f [s] H fun d' H' => d' = d ∧ Sub H0 H' ∧ (∀ x, ¬ s.hasB x → H'.blk x = H.blk x) ∧ H'.next = H.next := by
 obtain ⟨H', w, s', k, n⟩ := g.arg 0 (args := [s]) (fr := []) rfl (m := .p) (by simp);refine WcD.via w ((hf H').mono ?_);rintro d' H2 ⟨rfl, rfl⟩;exact ⟨rfl, s', k, n⟩
theorem flat_slice : ∀ {el : List (List D)} {i : Nat} {e : List D}, (∀ e, e ∈ el → e.length = sz) → el[i]? = some e → (el.flatten.drop (i * sz)).take sz = e
 | [], _, _, _, he => by simp at he
 | a :: l, 0, e, hs, he => by
  have ha := hs a (List.mem_cons_self ..);simp at he; subst he;simp only [List.flatten_cons, Nat.zero_mul, List.drop_zero, ← ha, List.take_left]
 | a :: l, i + 1, e, hs, he => by
  have ha := hs a (List.mem_cons_self ..);have ih := flat_slice (el := l) (i := i) (e := e) (fun y hy => hs y (List.mem_cons_of_mem _ hy)) (by simpa using he);simp only [List.flatten_cons];rw [show (i + 1) * sz = a.length + i * sz from by rw [ha, Nat.succ_mul]; omega, ← List.drop_drop, List.drop_left, ih]
structure Part (H0 H : HpD) (sz : Nat) (s : D) (el : List (List D)) : Prop where
 sub : Sub H0 H
 len : ∀ e, e ∈ el → e.length = sz
 at_ : (s = .lit .nilslice ∧ el = []) ∨ ∃ b o cap ex cs, s = .slice b o sz el.length cap ex ∧ el.length ≤ cap ∧ H0.next ≤ b ∧ b < H.next ∧ H.blk b = .cells cs false ∧ (cs.drop o).take (el.length * sz) = el.flatten
theorem wc_own_at {f : Nat} {d : D} {args : List D} (g : Gr H0 H sz s el) (j : Nat) (ht : args[j]? = some s) (hf : FnD p ext f (args.set j (.row sz .p el)) d) : WcD p ext f args H fun d' H' => d' = d ∧ Sub H0 H' ∧ (∀ x, ¬ s.hasB x → H'.blk x = H.blk x) ∧ H'.next = H.next := by
 obtain ⟨H', w, s', k, n⟩ := g.arg j (args := args) (fr := []) ht (m := .p) (by simp);refine WcD.via w ((hf H').mono ?_);rintro d' H2 ⟨rfl, rfl⟩;exact ⟨rfl, s', k, n⟩
end Go.Dv
end

section
namespace Go.Dv
open Go.Vm
variable {p : Prog} {ext : Ext} {Q : ResD → Prop} {F : Nat → Nat}
def Td (p : Prog) (ext : Ext) (f : Nat) (args : List D) (H : HpD) (d : D) (H3 : HpD) : Prop := WcD p ext f args H fun d' H' => d' = d ∧ H' = H3
def FinW (H3 : HpD) (d : D) (d' : D) (H' : HpD) : Prop := ∃ H2, WeakV d' H' d H2 ∧ Sub H3 H2 ∧ d.under H3.next
theorem FinW.le {H3 H' : HpD} {d d' : D} (hs : Sub H3 H') (hl : D.le d' d) (hu : d.under H3.next) : FinW H3 d d' H' := ⟨H', .le hl, hs, hu⟩
theorem td_of {i : Nat} {M : (Nat → Nat) → Fun} (hh : Has p ext F i M) {kc : KC} (hb : (M F).body = kc.erase) (hk : kc.ok = true) {args : List D} {d : D} {H H3 : HpD} (hn : args.length = (M F).nargs) (hle : H.next ≤ H3.next) (hneat : Neat H → Neat H3)
  (hs : Sem p ext (endD (M F).results (FinW H3 d)) (.code kc [] .mk (argsD 0 args) H)) : Td p ext (F i) args H d H3 := by
 refine WcD.cut (WcD.mono (enterD hh.ext hh.get hb hk hn hs) ?_);rintro d' H' ⟨H2, w, s, u⟩;exact ⟨d, H2, H3, w, s, hle, hneat, u, rfl, rfl⟩
theorem sem_td {f : Nat} {args args' : List D} {d : D} {H H3 : HpD} (hf : Td p ext f args' H d H3) {dst : Option Nat} {l : List MO} {fz lv : List Nat} {K : List KD} {fr : FrD} (ha : D.les args args') (hs : Sem p ext Q (.ops l fz lv K .mk (putD fr dst d) H3)) : Sem p ext Q (.call f args dst l fz lv K .mk fr H) :=
 sem_call (WcD.args hf ha) fun _ _ ⟨e1, e2⟩ => by rw [e1, e2]; exact hs
theorem sem_dtd {f : Nat} {args args' : List D} {d : D} {H H3 : HpD} (hf : Td p ext f args' H d H3) {dst : Option Nat} {l : List DO} {lv : List Nat} {K : List KD} {i : Nat} {cs : List (Nat × List Nat)} {ws : List (Nat × Nat)} {pst : List (Nat × HpD)} {fr : FrD} (ha : D.les args args')
  (hs : Sem p ext Q (.dops l lv K ((i + 1, []) :: dirtyN dst cs) ws .mk (i + 1) H3.next ((i + 1, H3) :: pst) (putD fr dst d) H3)) : Sem p ext Q (.dcall f args dst l lv K cs ws .mk i pst fr H) :=
 sem_dcall (WcD.args hf ha) fun _ _ ⟨e1, e2⟩ => by rw [e1, e2]; exact hs
theorem Neat.put {H : HpD} (h : Neat H) {b : Nat} {x : BD} (hb : b < H.next) (hx : x.under H.next) : Neat (H.put b x) := by
 refine ⟨fun c hc => ?_, fun c => ?_⟩
 ·rw [put_next] at hc;rw [put_blk, if_neg (by omega)]; exact h.gone c hc
 ·rw [put_blk, put_next];split
  ·exact hx
  ·exact h.under c
theorem D.under_le {n m : Nat} (h : n ≤ m) : ∀ {d : D}, d.under n → d.under m := by
 have key : ∀ (k : Nat), (∀ d : D, SizeOf.sizeOf d < k → d.under n → d.under m) ∧ (∀ l : List D, SizeOf.sizeOf l < k → D.unders n l → D.unders m l) ∧ (∀ l : List (List D), SizeOf.sizeOf l < k → D.underss n l → D.underss m l) := by
  intro k
  induction k with
  | zero => exact ⟨fun _ h => by omega, fun _ h => by omega, fun _ h => by omega⟩
  | succ k ih =>
   refine ⟨fun d hd hu => ?_, fun l hl hu => ?_, fun l hl hu => ?_⟩
   ·cases d <;> simp only [D.under] at hu ⊢ <;> simp at hd
    ·omega
    ·exact ih.2.1 _ (by omega) hu
    ·omega
    ·exact ih.2.2 _ (by omega) hu
    ·omega
    ·exact ⟨ih.2.1 _ (by omega) hu.1, ih.2.1 _ (by omega) hu.2⟩
    ·exact ih.1 _ (by omega) hu
    ·exact ih.2.1 _ (by omega) hu
    ·exact ih.2.1 _ (by omega) hu
   ·cases l with
    | nil => trivial
    | cons d l => simp at hl; simp only [D.unders] at hu ⊢; exact ⟨ih.1 _ (by omega) hu.1, ih.2.1 _ (by omega) hu.2⟩
   ·cases l with
    | nil => trivial
    | cons d l => simp at hl; simp only [D.underss] at hu ⊢; exact ⟨ih.2.1 _ (by omega) hu.1, ih.2.2 _ (by omega) hu.2⟩
 exact fun {d} => (key (SizeOf.sizeOf d + 1)).1 d (by omega)
theorem D.unders_le {n m : Nat} (h : n ≤ m) : ∀ {l : List D}, D.unders n l → D.unders m l
 | [], _ => trivial
 | _ :: _, k => ⟨D.under_le h k.1, D.unders_le h k.2⟩
theorem BD.under_le {n m : Nat} (h : n ≤ m) : ∀ {x : BD}, x.under n → x.under m
 | .cells _ _, k => D.unders_le h k
 | .map _ _, k => fun a d hm => D.under_le h (k a d hm)
 | .gone, _ => trivial
theorem Neat.new {H : HpD} (h : Neat H) {x : BD} (hx : x.under (H.next + 1)) : Neat (H.new x) := by
 refine ⟨fun c hc => ?_, fun c => ?_⟩
 ·rw [new_next] at hc;rw [new_blk, if_neg (by omega)]; exact h.gone c (by omega)
 ·rw [new_blk, new_next];split
  ·exact hx
  ·exact BD.under_le (by omega) (h.under c)
theorem Sub.put2 {A B : HpD} (s : Sub A B) {b : Nat} {x : BD} (_ : b < A.next) : Sub (A.put b x) (B.put b x) :=
 ⟨s.next, fun c hc => by
  rw [put_blk, put_blk];split
  ·rfl
  ·exact s.blk c hc⟩
theorem Sub.same {A B : HpD} (s : Sub A B) {b : Nat} {x : BD} (h : A.blk b = x) : Sub (A.put b x) B :=
 ⟨s.next, fun c hc => by
  rw [put_blk];split
  ·rename_i e; subst e; rw [← h]; exact s.blk c hc
  ·exact s.blk c hc⟩
theorem sW {A B : HpD} (h : Sub A B := by repeat (first | exact Sub.refl | apply Sub.new | refine Sub.put ?_ (by first | omega | (simp only [put_next, new_next]; omega)) | refine Sub.put2 ?_ (by first | assumption | omega | (simp only [put_next, new_next]; omega)))) : Sub A B := h
theorem ltn {b n : Nat} (h : b < n) : (b < n ∧ b < n + 1 ∧ b < n + 1 + 1 ∧ b < n + 1 + 1 + 1 ∧ b < n + 1 + 1 + 1 + 1) ∧ (b ≠ n ∧ b ≠ n + 1 ∧ b ≠ n + 1 + 1 ∧ b ≠ n + 1 + 1 + 1 ∧ b ≠ n + 1 + 1 + 1 + 1) ∧ n ≠ b ∧ n + 1 ≠ b ∧ n + 1 + 1 ≠ b ∧ n + 1 + 1 + 1 ≠ b ∧ n + 1 + 1 + 1 + 1 ≠ b := by omega
theorem rigid_lit {v : V} : rigid (.lit v) = true := rfl
theorem rigid_ptr {b o : Nat} : rigid (.ptr b o) = true := rfl
theorem rigid_map {b : Nat} : rigid (.map b) = true := rfl
theorem rigid_slice {b o sz len cap : Nat} {ex : Bool} : rigid (.slice b o sz len cap ex) = true := rfl
attribute [simp] rigid_lit rigid_ptr rigid_map rigid_slice
end Go.Dv
end

section
namespace Go.Dv
open Go.Vm
variable {p : Prog} {ext : Ext} {Q : ResD → Prop} {H0 H : HpD} {sz : Nat} {s : D} {el : List (List D)}
theorem sem_unfz {l : List MO} {fz lv : List Nat} {K : List KD} {fr : FrD} (hs : Sem p ext Q (.ops l [] lv K .mk fr H)) : Sem p ext Q (.ops l fz lv K .mk fr H) := hs
section
variable {h : Hp} {ψ ψ2 : Nat → Option Nat} {S S2 : Fz}
end
end Go.Dv
end

section
namespace Go.Lib
open Go.Vm Go.Dv
def byN (b : List By) : D := .row 1 .n (byE b)
def Vl.cN (v : Vl) : List D := [.lit (.bool v.null), .lit (.int .i64 v.kind), .lit (.int .i64 v.n), byN v.bytes]
def rowEN (r : Row) : List (List D) := r.map Vl.cN
def rowDN (r : Row) : D := .row 4 .n (rowEN r)
def rowsEN (l : List Row) : List (List D) := l.map fun r => [rowDN r]
def rowsDN (l : List Row) : D := .row 1 .n (rowsEN l)
theorem byN_flat {b : List By} : flatD (byN b) = true := rfl
theorem rowN_flat {r : Row} : flatD (rowDN r) = true := rfl
theorem rowsN_flat {l : List Row} : flatD (rowsDN l) = true := rfl
theorem vlN_len {v : Vl} : v.cN.length = 4 := rfl
theorem vlN_flats {v : Vl} : flatsD v.cN = true := rfl
theorem vlN_0 {v : Vl} : v.cN[0]? = some (.lit (.bool v.null)) := rfl
theorem vlN_1 {v : Vl} : v.cN[1]? = some (.lit (.int .i64 v.kind)) := rfl
theorem vlN_2 {v : Vl} : v.cN[2]? = some (.lit (.int .i64 v.n)) := rfl
theorem vlN_3 {v : Vl} : v.cN[3]? = some (byN v.bytes) := rfl
theorem vlN_take {v : Vl} : v.cN.take 4 = v.cN := rfl
theorem vlN_drop {v : Vl} : v.cN.drop 4 = [] := rfl
theorem cellsD_byN {b : List By} : cellsD (byN b) = some [byN b] := rfl
theorem cellsD_rowDN {r : Row} : cellsD (rowDN r) = some [rowDN r] := rfl
theorem cellsD_rowsDN {l : List Row} : cellsD (rowsDN l) = some [rowsDN l] := rfl
theorem vlN_set3 {v : Vl} : spliceD v.c 3 [byN v.bytes] = v.cN := rfl
attribute [simp] vlN_set3 vlN_0 vlN_1 vlN_2 vlN_3 vlN_take vlN_drop cellsD_byN cellsD_rowDN cellsD_rowsDN
attribute [simp] byN_flat rowN_flat rowsN_flat vlN_len vlN_flats
end Go.Lib
end

section
namespace Go.Lib
open Go.Vm Go.Dv
set_option maxRecDepth 100000
end Go.Lib
end

section
namespace Go.Lib
open Go.Vm Go.Dv
set_option maxRecDepth 100000
end Go.Lib
end

section
set_option maxRecDepth 10000
namespace Go.Lib
open Go.Vm Go.Dv
variable {α : Type}
structure Ord3 (G : α → Prop) (cmp : α → α → Int) : Prop where
 sym : ∀ x y, G x → G y → cmp x y = - cmp y x
 tr : ∀ x y z, G x → G y → G z → cmp x y ≤ 0 → cmp y z ≤ 0 → cmp x z ≤ 0
namespace Ord3
variable {G : α → Prop} {cmp : α → α → Int}
theorem lt_le (o : Ord3 G cmp) {x y z : α} (hx : G x) (hy : G y) (hz : G z) (h1 : cmp x y < 0) (h2 : cmp y z ≤ 0) : cmp x z < 0 := by
 have h3 := o.tr x y z hx hy hz (by omega) h2;rcases Int.lt_or_eq_of_le h3 with h | h
 ·exact h
 ·have := o.sym x z hx hz;have h4 := o.tr y z x hy hz hx h2 (by omega);have := o.sym x y hx hy;omega
theorem le_lt (o : Ord3 G cmp) {x y z : α} (hx : G x) (hy : G y) (hz : G z) (h1 : cmp x y ≤ 0) (h2 : cmp y z < 0) : cmp x z < 0 := by
 have h3 := o.tr x y z hx hy hz h1 (by omega);rcases Int.lt_or_eq_of_le h3 with h | h
 ·exact h
 ·have := o.sym x z hx hz;have h4 := o.tr z x y hz hx hy (by omega) h1;have := o.sym y z hy hz;omega
theorem eq_eq (o : Ord3 G cmp) {x y z : α} (hx : G x) (hy : G y) (hz : G z) (h1 : cmp x y = 0) (h2 : cmp y z = 0) : cmp x z = 0 := by
 have h3 := o.tr x y z hx hy hz (by omega) (by omega);have e1 := o.sym x y hx hy;have e2 := o.sym y z hy hz;have e3 := o.sym x z hx hz;have h4 := o.tr z y x hz hy hx (by omega) (by omega);omega
theorem anti (o : Ord3 G cmp) : ∀ x y, G x → G y → cmp x y < 0 → ¬ cmp y x < 0 := fun x y hx hy h => by
 have := o.sym x y hx hy; omega
theorem trans (o : Ord3 G cmp) : ∀ x y z, G x → G y → G z → ¬ cmp y x < 0 → ¬ cmp z y < 0 → ¬ cmp z x < 0 := fun x y z hx hy hz h1 h2 => by
 have e1 := o.sym x y hx hy;have e2 := o.sym y z hy hz;have e3 := o.sym x z hx hz;have := o.tr x y z hx hy hz (by omega) (by omega);omega
end Ord3
theorem cmpI_ord : Ord3 (fun _ => True) cmpI :=
 ⟨fun x y _ _ => by unfold cmpI; repeat' split <;> omega, fun x y z _ _ _ h1 h2 => by unfold cmpI at *; split at h1 <;> split at h2 <;> (repeat' split) <;> omega⟩
theorem cmpLs_cons {a b : Nat} {x y : List Nat} : cmpLs (a :: x) (b :: y) = if cmpI a b ≠ 0 then cmpI a b else cmpLs x y := by
 simp only [cmpLs, cmpI, cond_eq_ite, nblt]
 repeat' split
 all_goals first | rfl | omega
theorem cmpLs_ord : Ord3 (fun _ => True) cmpLs := by
 refine ⟨fun x y _ _ => ?_, fun x y z _ _ _ => ?_⟩
 ·induction x generalizing y with
  | nil => cases y <;> rfl
  | cons a x ih => cases y with
   | nil => rfl
   | cons b y =>
    rw [cmpLs_cons, cmpLs_cons];have := cmpI_ord.sym (a : Int) b trivial trivial;have := ih y;split <;> split <;> omega
 ·induction x generalizing y z with
  | nil => intro _ _; cases z <;> simp [cmpLs]
  | cons a x ih => cases y with
   | nil => intro h; simp [cmpLs] at h
   | cons b y => cases z with
    | nil => intro _ h; simp [cmpLs] at h
    | cons c z =>
     rw [cmpLs_cons, cmpLs_cons, cmpLs_cons];intro h1 h2;have ih := ih y z;have o := cmpI_ord;have t := o.tr (a : Int) b c trivial trivial trivial;have t1 := o.lt_le (x := (a : Int)) (y := b) (z := c) trivial trivial trivial;have t2 := o.le_lt (x := (a : Int)) (y := b) (z := c) trivial trivial trivial;have t3 := o.eq_eq (x := (a : Int)) (y := b) (z := c) trivial trivial trivial
     split at h1 <;> split at h2 <;> split <;> first | omega | (exact ih (by omega) (by omega)) | skip
theorem cmpB_ord : Ord3 (fun _ => True) cmpB := ⟨fun _ _ _ _ => cmpLs_ord.sym _ _ trivial trivial, fun _ _ _ _ _ _ h1 h2 => cmpLs_ord.tr _ _ _ trivial trivial trivial h1 h2⟩
theorem cmpV_null {a b : Vl} : cmpV a b = if a.null = true then (if b.null = true then 0 else -1) else if b.null = true then 1 else if a.kind = 1 then cmpI a.n b.n else if a.kind = 2 then cmpB a.bytes b.bytes else 0 := by
 unfold cmpV rankV cmpI;cases a.null <;> cases b.null <;> simp
theorem cmpV_ord {k : Int} : Ord3 (fun v : Vl => v.kind = k) cmpV := by
 refine ⟨fun x y hx hy => ?_, fun x y z hx hy hz h1 h2 => ?_⟩
 ·rw [cmpV_null, cmpV_null, hx, hy];have := cmpI_ord.sym x.n y.n trivial trivial;have := cmpB_ord.sym x.bytes y.bytes trivial trivial
  repeat' split
  all_goals omega
 ·rw [cmpV_null] at *;rw [hx] at *;rw [hy] at h2;have := cmpI_ord.tr x.n y.n z.n trivial trivial trivial;have := cmpB_ord.tr x.bytes y.bytes z.bytes trivial trivial trivial;cases hx0 : x.null <;> cases hy0 : y.null <;> cases hz0 : z.null <;> simp [hx0, hy0, hz0] at h1 h2 ⊢;split at h1
  ·rename_i e;simp only [e] at h2 ⊢;simp at h2 ⊢; omega
  ·rename_i e;simp only [e] at h2 ⊢;split at h1
   ·rename_i e2;simp [e2] at h2 ⊢; omega
   ·rename_i e2;simp [e2]
def Kin (ks : List Int) (r : Row) : Prop := r.map Vl.kind = ks
end Go.Lib
end

section
set_option maxRecDepth 10000
namespace Go.Lib
open Go.Vm Go.Dv
variable {p : Prog} {ext : Ext} {F : Nat → Nat}
end Go.Lib
end
