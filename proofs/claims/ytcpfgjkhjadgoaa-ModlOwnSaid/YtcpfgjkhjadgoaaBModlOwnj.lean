/-
  Texts that the claim's last one rests on, joined.
-/
import Derived.Test.YtcpfgjkhjadgoaaBModlOwnf
import Derived.Test.YtcpfgjkhjadgoaaBModlOwni
import Derived.Test.YtcpfgjkhjadgoaaBModlOwnh

section
namespace Go.Lib
open Go.Vm Go.Dv
set_option maxRecDepth 100000
abbrev K87 (F : Nat → Nat) : KC := .seq (.region [⟨(some 2),(.a (.box (.tmp 0))),none⟩,mi 4 0] [2] [1,2])
 (.seq (.seq (.region [fa 9 0 2,l1 10 9] [] [1,2,10])
 (.block 0 (.seq (.region [bi 12 .eql 10 1,mv 11 12] [] [1,2,10,11])
 (.cond (.tmp 11) (.seq (.region [mi 4 1] [] [4])
 (.ret))
 (.seq (.region [bi 14 .eql 10 2,mv 13 14] [] [1,2,10,13])
 (.cond (.tmp 13) (.seq (.seq (.region [mv 15 1,fa 16 1 2,l1 17 16,ix 18 4 15 17,fa 19 0 18,l1 20 19] [] [1,2,20])
 (.cond (.tmp 20) (.seq (.region [mi 4 3] [] [4])
 (.ret))
 (.skip)))
 (.seq (.dregion [⟨mv 23 1,0,7⟩,⟨fa 24 1 2,0,7⟩,⟨l1 25 24,0,7⟩,⟨ix 26 4 23 25,0,7⟩,⟨ln 27 4 26,0,7⟩,⟨fa 28 3 2,0,7⟩,⟨ln 29 4 28,0,7⟩,⟨⟨(some 30),(.e (.call (F 46) [(.tmp 27),(.tmp 29)])),none⟩,0,10⟩,⟨fa 21 2 2,0,10⟩,⟨l1 22 21,0,10⟩,⟨⟨(some 31),(.e (.call (F 89) [(.tmp 22),(.tmp 30)])),none⟩,8,11⟩,⟨⟨(some 32),(.e (.call (F 90) [(.tmp 31)])),none⟩,11,13⟩,⟨mv 4 32,12,13⟩] [4])
 (.ret)))
 (.seq (.region [bi 34 .eql 10 3,mv 33 34] [] [1,2,10,33])
 (.cond (.tmp 33) (.seq (.region [mv 35 1,fa 36 1 2,l1 37 36,ix 38 4 35 37,fa 39 0 38,l1 40 39,⟨(some 41),(.e (.call (F 90) [(.tmp 40)])),none⟩,mv 4 41] [] [4])
 (.ret))
 (.seq (.region [bi 43 .eql 10 6,mv 42 43] [] [1,2,42])
 (.cond (.tmp 42) (.seq (.seq (.region [fa 44 7 2,l1 45 44,⟨(some 46),(.p (.iaddr 8 (.tmp 45) (.val (.int .i64 (.ofNat 0))))),none⟩,ln 47 8 46,mv 48 1,⟨(some 49),(.e (.call (F 87) [(.tmp 47),(.tmp 48)])),none⟩] [] [49])
 (.block 1 (.seq (.region [bi 51 .eql 49 1,mv 50 51] [] [49,50])
 (.cond (.tmp 50) (.seq (.region [mi 4 2] [] [4])
 (.ret))
 (.seq (.region [bi 53 .eql 49 2,mv 52 53] [] [52])
 (.cond (.tmp 52) (.seq (.region [mi 4 1] [] [4])
 (.ret))
 (.skip)))))))
 (.seq (.region [mi 4 3] [] [4])
 (.ret)))
 (.skip)))))))))))
 (.seq (.region [mi 5 2,mi 6 1] [] [1,2,5,6])
 (.seq (.seq (.region [fa 54 0 2,l1 55 54,bi 56 .eql 55 5] [] [1,2,5,6,56])
 (.cond (.tmp 56) (.region [mi 5 1,mi 6 2] [] [1,2,5,6])
 (.skip)))
 (.seq (.seq (.region [mi 7 0] [] [1,2,5,6,7])
 (.block 2 (.loop (.seq (.seq (.region [mv 57 7,fa 58 7 2,l1 59 58,lb 60 59,bt 61 .lss 57 60] [] [1,2,5,6,7,61])
 (.cond (.tmp 61) (.skip)
 (.exit 2)))
 (.seq (.block 3 (.seq (.region [fa 64 7 2,l1 65 64,mv 66 7,ix 67 8 65 66,ln 68 8 67,mv 69 1,⟨(some 70),(.e (.call (F 87) [(.tmp 68),(.tmp 69)])),none⟩,mv 8 70] [] [1,2,5,6,7,8])
 (.seq (.seq (.region [mv 71 8,mv 72 5,bt 73 .eql 71 72] [] [1,2,5,6,7,8,73])
 (.cond (.tmp 73) (.seq (.region [mv 74 5,mv 4 74] [] [4])
 (.ret))
 (.skip)))
 (.seq (.region [mv 75 8,bi 76 .eql 75 3] [] [1,2,5,6,7,76])
 (.cond (.tmp 76) (.region [mi 6 3] [] [1,2,5,6,7])
 (.skip))))))
 (.region [mv 62 7,bi 63 .add 62 1,mv 7 63] [] [1,2,5,6,7]))))))
 (.seq (.region [mv 77 6,mv 4 77] [] [4])
 (.ret))))))
def M87 (F : Nat → Nat) : Fun := ⟨78,2,(K87 F).erase,[.tmp 4]⟩
abbrev K88 (F : Nat → Nat) : KC := .seq (.region [⟨(some 2),(.a (.box (.tmp 0))),none⟩,⟨(some 4),(.p (.mov (.val (.bool false)))),none⟩] [2] [1,2])
 (.seq (.seq (.region [mv 6 1,lb 7 6,fa 8 0 2,l1 9 8,lb 10 9,bt 11 .neq 7 10] [] [1,2,11])
 (.cond (.tmp 11) (.seq (.region [⟨(some 4),(.p (.mov (.val (.bool false)))),none⟩] [] [4])
 (.ret))
 (.skip)))
 (.seq (.seq (.region [mi 5 0] [] [1,2,5])
 (.block 0 (.loop (.seq (.seq (.region [mv 12 5,mv 13 1,lb 14 13,bt 15 .lss 12 14] [] [1,2,5,15])
 (.cond (.tmp 15) (.skip)
 (.exit 0)))
 (.seq (.block 1 (.seq (.dregion [⟨fa 18 0 2,0,10⟩,⟨l1 19 18,0,10⟩,⟨mv 20 5,0,10⟩,⟨ix 21 3 19 20,0,10⟩,⟨fa 22 1 21,0,10⟩,⟨l1 23 22,0,10⟩,⟨mv 24 1,0,10⟩,⟨mv 25 5,0,10⟩,⟨ix 26 4 24 25,0,10⟩,⟨ln 27 4 26,0,10⟩,⟨⟨(some 28),(.e (.call (F 91) [(.tmp 23),(.tmp 27)])),none⟩,0,28⟩,⟨⟨(some 29),(.p (.not (.tmp 28))),none⟩,11,28⟩,⟨mv 30 29,11,28⟩,⟨⟨(some 31),(.p (.mov (.tmp 1))),(some (30,false))⟩,11,28⟩,⟨⟨(some 32),(.p (.mov (.tmp 5))),(some (30,false))⟩,11,28⟩,⟨⟨(some 33),(.p (.iaddr 4 (.tmp 31) (.tmp 32))),(some (30,false))⟩,11,28⟩,⟨⟨(some 34),(.p (.faddr 0 (.tmp 33))),(some (30,false))⟩,11,28⟩,⟨⟨(some 35),(.load1 (.tmp 34)),(some (30,false))⟩,11,28⟩,⟨⟨(some 36),(.p (.mov (.tmp 35))),(some (30,false))⟩,11,28⟩,⟨⟨(some 37),(.p (.faddr 0 (.tmp 2))),(some (36,true))⟩,11,28⟩,⟨⟨(some 38),(.load1 (.tmp 37)),(some (36,true))⟩,11,28⟩,⟨⟨(some 39),(.p (.mov (.tmp 5))),(some (36,true))⟩,11,28⟩,⟨⟨(some 40),(.p (.iaddr 3 (.tmp 38) (.tmp 39))),(some (36,true))⟩,11,28⟩,⟨⟨(some 41),(.p (.faddr 2 (.tmp 40))),(some (36,true))⟩,11,28⟩,⟨⟨(some 42),(.load1 (.tmp 41)),(some (36,true))⟩,11,28⟩,⟨⟨(some 43),(.p (.not (.tmp 42))),(some (36,true))⟩,11,28⟩,⟨⟨(some 44),(.p (.pick (.tmp 36) (.tmp 43) (.val (.bool false)))),(some (30,false))⟩,11,28⟩,⟨⟨(some 45),(.p (.pick (.tmp 30) (.val (.bool true)) (.tmp 44))),none⟩,11,28⟩] [1,2,5,45])
 (.cond (.tmp 45) (.seq (.region [⟨(some 4),(.p (.mov (.val (.bool false)))),none⟩] [] [4])
 (.ret))
 (.skip))))
 (.region [mv 16 5,bi 17 .add 16 1,mv 5 17] [] [1,2,5]))))))
 (.seq (.region [⟨(some 4),(.p (.mov (.val (.bool true)))),none⟩] [] [4])
 (.ret))))
def M88 (F : Nat → Nat) : Fun := ⟨46,2,(K88 F).erase,[.tmp 4]⟩
abbrev K89 (_F : Nat → Nat) : KC := .seq (.region [⟨(some 4),(.p (.mov (.val (.bool false)))),none⟩] [] [0,1])
 (.seq (.seq (.region [mv 5 0] [] [1,5])
 (.block 0 (.seq (.region [bi 7 .eql 5 1,mv 6 7] [] [1,5,6])
 (.cond (.tmp 6) (.seq (.region [mv 8 1,bi 9 .eql 8 0,mv 4 9] [] [4])
 (.ret))
 (.seq (.region [bi 11 .eql 5 2,mv 10 11] [] [1,5,10])
 (.cond (.tmp 10) (.seq (.region [mv 12 1,bi 13 .neq 12 0,mv 4 13] [] [4])
 (.ret))
 (.seq (.region [bi 15 .eql 5 3,mv 14 15] [] [1,5,14])
 (.cond (.tmp 14) (.seq (.region [mv 16 1,bi 17 .lss 16 0,mv 4 17] [] [4])
 (.ret))
 (.seq (.region [bi 19 .eql 5 4,mv 18 19] [] [1,5,18])
 (.cond (.tmp 18) (.seq (.region [mv 20 1,bi 21 .leq 20 0,mv 4 21] [] [4])
 (.ret))
 (.seq (.region [bi 23 .eql 5 5,mv 22 23] [] [1,22])
 (.cond (.tmp 22) (.seq (.region [mv 24 1,bi 25 .gtr 24 0,mv 4 25] [] [4])
 (.ret))
 (.skip)))))))))))))
 (.seq (.region [mv 26 1,bi 27 .geq 26 0,mv 4 27] [] [4])
 (.ret)))
def M89 (F : Nat → Nat) : Fun := ⟨28,2,(K89 F).erase,[.tmp 4]⟩
abbrev K90 (_F : Nat → Nat) : KC := .seq (.region [mi 2 0] [] [0])
 (.seq (.seq (.region [mv 3 0] [] [3])
 (.cond (.tmp 3) (.seq (.region [mi 2 1] [] [2])
 (.ret))
 (.skip)))
 (.seq (.region [mi 2 2] [] [2])
 (.ret)))
def M90 (F : Nat → Nat) : Fun := ⟨4,1,(K90 F).erase,[.tmp 2]⟩
abbrev K91 (_F : Nat → Nat) : KC := .seq (.region [⟨(some 3),(.a (.box (.tmp 1))),none⟩,⟨(some 4),(.p (.mov (.val (.bool false)))),none⟩] [3] [0,3])
 (.seq (.seq (.region [fa 5 1 3,l1 6 5,mv 7 0,bt 8 .neq 6 7,mv 9 8,⟨(some 10),(.p (.faddr 1 (.tmp 3))),(some (9,false))⟩,⟨(some 11),(.load1 (.tmp 10)),(some (9,false))⟩,⟨(some 12),(.p (.bin .neq (.tmp 11) (.val (.int .i64 (.ofNat 1))))),(some (9,false))⟩,⟨(some 13),(.p (.mov (.tmp 12))),(some (9,false))⟩,⟨(some 14),(.p (.faddr 1 (.tmp 3))),(some (13,true))⟩,⟨(some 15),(.load1 (.tmp 14)),(some (13,true))⟩,⟨(some 16),(.p (.bin .neq (.tmp 15) (.val (.int .i64 (.ofNat 2))))),(some (13,true))⟩,⟨(some 17),(.p (.pick (.tmp 13) (.tmp 16) (.val (.bool false)))),(some (9,false))⟩,⟨(some 18),(.p (.pick (.tmp 9) (.val (.bool true)) (.tmp 17))),none⟩] [] [3,18])
 (.cond (.tmp 18) (.seq (.region [⟨(some 4),(.p (.mov (.val (.bool false)))),none⟩] [] [4])
 (.ret))
 (.skip)))
 (.seq (.seq (.region [fa 19 0 3,l1 20 19,mv 21 20,⟨(some 22),(.p (.faddr 1 (.tmp 3))),(some (21,false))⟩,⟨(some 23),(.load1 (.tmp 22)),(some (21,false))⟩,⟨(some 24),(.p (.bin .eql (.tmp 23) (.val (.int .i64 (.ofNat 1))))),(some (21,false))⟩,⟨(some 25),(.p (.pick (.tmp 21) (.val (.bool true)) (.tmp 24))),none⟩] [] [3,25])
 (.cond (.tmp 25) (.seq (.region [fa 26 3 3,l1 27 26,lb 28 27,bi 29 .eql 28 0,mv 30 29,⟨(some 31),(.p (.faddr 0 (.tmp 3))),(some (30,true))⟩,⟨(some 32),(.load1 (.tmp 31)),(some (30,true))⟩,⟨(some 33),(.p (.not (.tmp 32))),(some (30,true))⟩,⟨(some 34),(.p (.mov (.tmp 33))),(some (30,true))⟩,⟨(some 35),(.p (.faddr 2 (.tmp 3))),(some (34,false))⟩,⟨(some 36),(.load1 (.tmp 35)),(some (34,false))⟩,⟨(some 37),(.p (.bin .eql (.tmp 36) (.val (.int .i64 (.ofNat 0))))),(some (34,false))⟩,⟨(some 38),(.p (.pick (.tmp 34) (.val (.bool true)) (.tmp 37))),(some (30,true))⟩,⟨(some 39),(.p (.pick (.tmp 30) (.tmp 38) (.val (.bool false)))),none⟩,mv 4 39] [] [4])
 (.ret))
 (.skip)))
 (.seq (.region [fa 40 2 3,l1 41 40,bi 42 .eql 41 0,mv 43 42,⟨(some 44),(.p (.faddr 3 (.tmp 3))),(some (43,true))⟩,⟨(some 45),(.load1 (.tmp 44)),(some (43,true))⟩,⟨(some 46),(.p (.lenb (.tmp 45))),(some (43,true))⟩,⟨(some 47),(.p (.bin .leq (.tmp 46) (.val (.int .i64 (.ofNat 64))))),(some (43,true))⟩,⟨(some 48),(.p (.pick (.tmp 43) (.tmp 47) (.val (.bool false)))),none⟩,mv 4 48] [] [4])
 (.ret))))
def M91 (F : Nat → Nat) : Fun := ⟨49,2,(K91 F).erase,[.tmp 4]⟩
end Go.Lib
end

section
set_option maxRecDepth 10000
namespace Go.Lib
open Go.Vm Go.Dv Go.Srt
attribute [-simp] bin_and bin_xor
def keyV (i : Nat) (x : Int) : Vl := ⟨false, 1, 3 * (i : Int) + andI x 1, [], by simp⟩
theorem row9_eq {k0 : Cl} {s : Sch} {i : Nat} {x : Int} : row9F (k0 :: s) i x = keyV i x :: s.mapIdx fun j => cellF x (j + 1) := by
  simp [row9F, rowF, cellF, List.mapIdx_cons, keyV]
theorem valF_kind {c : Cl} {n : Int} : (valF c n).kind = c.kind := by
  unfold valF; split
  · rfl
  · split <;> rfl
theorem rows9_mem {s : Sch} {l : List Int} {r : Row} (h : r ∈ rows9F s l) : ∃ i x, i < 40 ∧ r = row9F s i x := by
  unfold rows9F at h
  rw [List.mem_mapIdx] at h
  obtain ⟨i, hi, rfl⟩ := h
  exact ⟨i, _, by simp at hi; omega, rfl⟩
theorem row9_len {s : Sch} {i : Nat} {x : Int} : (row9F s i x).length = s.length := by
  cases s with
  | nil => rfl
  | cons k0 s => rw [row9_eq]; simp
theorem rows9_fine {s : Sch} {l : List Int} (hs : s.length < 1000) : Fine (rows9F s l) :=
  ⟨by have := rows9F_len (s := s) (l := l); omega, fun r hr => by obtain ⟨i, x, _, rfl⟩ := rows9_mem hr; rw [row9_len]; omega⟩
def ksF (s : Sch) : List Int := s.map Cl.kind
def GoodS (s : Sch) : Prop := ∀ c, c ∈ s → c.kind = 1 ∨ c.kind = 2
theorem in64_wr {n : Int} : In64 (wr .i64 n) := by
  rw [wr_eq]
  have : IntKind.wrap .i64 n = if (decide (n % 18446744073709551616 ≥ 9223372036854775808)) = true then n % 18446744073709551616 - 18446744073709551616 else n % 18446744073709551616 := rfl
  rw [this]
  unfold In64
  by_cases h : n % 18446744073709551616 ≥ 9223372036854775808
  · rw [if_pos (by simpa using h)]; omega
  · rw [if_neg (by simpa using h)]; omega
theorem in64_and {n : Int} {m : Nat} (hm : m < 65536) : In64 (andI n (m : Int)) := by
  obtain ⟨q, hq, h1⟩ := andI_small (a := n) hm
  rw [hq]; unfold In64; omega
theorem valF_good {c : Cl} (hc : c.kind = 1 ∨ c.kind = 2) {n : Int} : (valF c n).Good := by
  unfold valF
  split
  · exact ⟨fun _ => ⟨rfl, rfl⟩, by rcases hc with h | h <;> simp [h], by unfold In64; simp⟩
  · split
    · rename_i h
      refine ⟨fun h2 => by simp at h2, .inl ⟨h, rfl⟩, ?_⟩
      show In64 (if _ then _ else _)
      split
      · exact in64_wr
      · split
        · exact in64_wr
        · split
          · exact in64_wr
          · exact in64_and (m := 7) (by simp)
    · rename_i h
      exact ⟨fun h2 => by simp at h2, .inr ⟨by rcases hc with k | k; exact absurd k h; exact k, rfl⟩, by show In64 0; unfold In64; simp⟩
theorem schF_kinds {n : Int} : GoodS (schF n) := by
  intro c hc
  rcases List.mem_cons.1 hc with rfl | hc
  · exact .inl rfl
  · obtain ⟨i, _, rfl⟩ := List.mem_map.1 hc
    have := bitI_01 (n := n) (k := 8 + 2 * i)
    show bitI n (8 + 2 * i) + 1 = 1 ∨ bitI n (8 + 2 * i) + 1 = 2
    omega
theorem schF_cons {n : Int} : schF n = keyC :: (List.range (moreF n)).map (colF n) := rfl
theorem keyV_good {i : Nat} {x : Int} (hi : i < 1000000) : (keyV i x).Good := by
  obtain ⟨q, hq, h1⟩ := andI_small (a := x) (m := 1) (by simp)
  have hq' : andI x 1 = q := hq
  refine ⟨fun h => by simp [keyV] at h, .inl ⟨rfl, rfl⟩, ?_⟩
  show In64 (3 * (i : Int) + andI x 1)
  rw [hq']; unfold In64; omega
theorem cells_good {s : Sch} (hs : GoodS s) {x : Int} : GoodR (ksF s) (s.mapIdx fun j => cellF x (j + 1)) := by
  refine ⟨?_, fun v hv => ?_⟩
  · unfold Kin ksF
    apply List.ext_getElem
    · simp
    · intro i h1 h2
      simp [cellF, valF_kind]
  · rw [List.mem_mapIdx] at hv
    obtain ⟨i, hi, rfl⟩ := hv
    exact valF_good (hs _ (by simp))
theorem GoodR.cons {k : Int} {ks : List Int} {v : Vl} {r : Row} (h1 : v.kind = k) (h2 : v.Good) (h : GoodR ks r) : GoodR (k :: ks) (v :: r) :=
  ⟨by have := h.kin; unfold Kin at this ⊢; simp [h1, this], fun w hw => by
    rcases List.mem_cons.1 hw with rfl | hw
    · exact h2
    · exact h.good w hw⟩
theorem rows9_good {n : Int} {l : List Int} : GoodRs (ksF (schF n)) (rows9F (schF n) l) := by
  intro r hr
  rw [schF_cons] at hr
  obtain ⟨i, x, hi, rfl⟩ := rows9_mem hr
  rw [row9_eq]
  exact GoodR.cons rfl (keyV_good (by omega)) (cells_good fun c hc => schF_kinds (n := n) c (by rw [schF_cons]; exact List.mem_cons_of_mem _ hc))
theorem row6_good {n x : Int} : GoodR (ksF (schF n)) (rowF (schF n) x) := by
  have e : rowF (schF n) x = ⟨false, 1, andI x 15, [], by simp⟩ :: ((List.range (moreF n)).map (colF n)).mapIdx fun j => cellF x (j + 1) := by
    rw [schF_cons, rowF, List.mapIdx_cons]; rfl
  rw [e]
  exact GoodR.cons rfl ⟨fun h => by simp at h, .inl ⟨rfl, rfl⟩, in64_and (m := 15) (by simp)⟩ (cells_good fun c hc => schF_kinds (n := n) c (by rw [schF_cons]; exact List.mem_cons_of_mem _ hc))
theorem ksF_len {s : Sch} : (ksF s).length = s.length := by simp [ksF]
theorem inK_0 {n : Int} : InK (ksF (schF n)) 0 := ⟨by omega, by rw [ksF_len, schF_len]; omega⟩
end Go.Lib
end

section
set_option maxRecDepth 10000
namespace Go.Lib
open Go.Vm Go.Dv Go.Srt
variable {p : Prog} {ext : Ext} {F : Nat → Nat}
theorem AgOk.good {ks : List Int} {l : List Row} {a : Ag} (hg : GoodRs ks l) (ha : InK ks a.col) : AgOk l a := fun _ r hr => ((hg r hr).at_ ha).2.int
theorem runG_len {c : Int} {ags : List Ag} : ∀ (w : Nat) (l : List Row), (runG c ags w l).1.length ≤ l.length
  | w, [] => by cases w <;> simp [runG]
  | 0, _ :: _ => by simp [runG]
  | w + 1, r :: t => by
    have ih := runG_len (c := c) (ags := ags) w ((r :: t).drop (cnt c r t))
    have hc1 : 1 ≤ cnt c r t := by unfold cnt; omega
    rw [List.length_drop] at ih
    unfold runG
    split
    · split
      · rename_i x e
        rw [e] at ih
        simp only [List.length_cons] at ih ⊢; omega
      · simp
    · simp
theorem grpsF_len {c : Int} {ags : List Ag} {l : List Row} (hc : ¬ c < 0) : (grpsF c ags l).1.length ≤ l.length := by
  unfold grpsF grpF
  rw [if_neg hc]
  have := runG_len (c := c) (ags := ags) l.length (sortL (cmpC c) l)
  rw [sortL_perm.length_eq] at this
  exact this
theorem runG_fine {c : Int} {ags : List Ag} : ∀ (w : Nat) (l : List Row) (r : Row), r ∈ (runG c ags w l).1 → r.length = ags.length + 1
  | w, [], r, h => by cases w <;> simp [runG] at h
  | 0, _ :: _, r, h => by simp [runG] at h
  | w + 1, r0 :: t, r, h => by
    unfold runG at h
    split at h
    · split at h
      · rename_i x e
        rcases List.mem_cons.1 h with rfl | h
        · simp [vals]
        · exact runG_fine w _ r (by rw [e]; exact h)
      · simp at h
    · simp at h
theorem grpsF_fine {c : Int} {ags : List Ag} {l : List Row} (hl : Fine l) (hb : ags.length < 1000) : Fine (grpsF c ags l).1 := by
  by_cases hc : c < 0
  · unfold grpsF; rw [if_pos hc]
    split
    · exact ⟨by simp, fun r hr => by simp at hr; subst hr; simp [vals]; omega⟩
    · exact ⟨by simp, fun r hr => by simp at hr⟩
  · refine ⟨Nat.lt_of_le_of_lt (grpsF_len hc) hl.1, fun r hr => ?_⟩
    unfold grpsF grpF at hr
    rw [if_neg hc] at hr
    rw [runG_fine _ _ r hr]; omega
theorem sort_fine {l : List Row} (hl : Fine l) : Fine (sortL cmpR l) := ⟨by rw [sortL_perm.length_eq]; exact hl.1, fun r hr => hl.2 r (sortL_perm.mem_iff.1 hr)⟩
theorem Fine.perm {l l' : List Row} (hp : l'.Perm l) (hl : Fine l) : Fine l' := ⟨by rw [hp.length_eq]; exact hl.1, fun r hr => hl.2 r (hp.mem_iff.1 hr)⟩
end Go.Lib
end

section
set_option maxRecDepth 10000
namespace Go.Lib
open Go.Vm Go.Dv Go.Srt
variable {p : Prog} {ext : Ext} {F : Nat → Nat}
inductive Pr where
  | mk (kind col op : Int) (v : Vl) (l : List Pr)
def Pr.kind : Pr → Int | .mk k _ _ _ _ => k
def Pr.col : Pr → Int | .mk _ c _ _ _ => c
def Pr.op : Pr → Int | .mk _ _ o _ _ => o
def Pr.v : Pr → Vl | .mk _ _ _ v _ => v
def Pr.l : Pr → List Pr | .mk _ _ _ _ l => l
mutual
def Pr.c : Pr → List D
  | .mk k c o v l => [.lit (.int .i64 k), .lit (.int .i64 c), .lit (.int .i64 o), .lit (.bool v.null), .lit (.int .i64 v.kind), .lit (.int .i64 v.n), byD v.bytes, .row 8 .p (Pr.cs l)]
def Pr.cs : List Pr → List (List D)
  | [] => []
  | p :: l => p.c :: Pr.cs l
end
theorem Pr.cs_map : ∀ {l : List Pr}, Pr.cs l = l.map Pr.c
  | [] => by simp [Pr.cs]
  | p :: l => by simp [Pr.cs, Pr.cs_map (l := l)]
def prsD (l : List Pr) : D := .row 8 .p (l.map Pr.c)
theorem pr_c {q : Pr} : q.c = [.lit (.int .i64 q.kind), .lit (.int .i64 q.col), .lit (.int .i64 q.op), .lit (.bool q.v.null), .lit (.int .i64 q.v.kind), .lit (.int .i64 q.v.n), byD q.v.bytes, prsD q.l] := by
  cases q; simp [Pr.c, Pr.kind, Pr.col, Pr.op, Pr.v, Pr.l, prsD, Pr.cs_map]
theorem pr_0 {q : Pr} : q.c[0]? = some (.lit (.int .i64 q.kind)) := by rw [pr_c]; rfl
theorem pr_1 {q : Pr} : q.c[1]? = some (.lit (.int .i64 q.col)) := by rw [pr_c]; rfl
theorem pr_2 {q : Pr} : q.c[2]? = some (.lit (.int .i64 q.op)) := by rw [pr_c]; rfl
theorem pr_7 {q : Pr} : q.c[7]? = some (prsD q.l) := by rw [pr_c]; rfl
theorem pr_len {q : Pr} : q.c.length = 8 := by rw [pr_c]; rfl
theorem pr_g {q : Pr} {i : Nat} {d : D} (h : q.c[i]? = some d) (hi : i < q.c.length) : q.c[i] = d := (List.getElem?_eq_some_iff.1 h).2
theorem pr_g0 {q : Pr} (h : 0 < q.c.length) : q.c[0] = .lit (.int .i64 q.kind) := pr_g pr_0 h
theorem pr_g1 {q : Pr} (h : 1 < q.c.length) : q.c[1] = .lit (.int .i64 q.col) := pr_g pr_1 h
theorem pr_g2 {q : Pr} (h : 2 < q.c.length) : q.c[2] = .lit (.int .i64 q.op) := pr_g pr_2 h
theorem pr_g7 {q : Pr} (h : 7 < q.c.length) : q.c[7] = prsD q.l := pr_g pr_7 h
theorem pr_v {q : Pr} : (q.c.drop 3).take 4 = q.v.c := by rw [pr_c]; rfl
theorem pr_take {q : Pr} : q.c.take 8 = q.c := List.take_of_length_le (by rw [pr_len]; exact Nat.le_refl _)
theorem pr_drop {q : Pr} : q.c.drop 8 = [] := List.drop_eq_nil_of_le (by rw [pr_len]; exact Nat.le_refl _)
theorem pr_flats {q : Pr} : flatsD q.c = true := by rw [pr_c]; rfl
theorem prs_len {l : List Pr} : lenbD (prsD l) = some (.lit (.int .i64 (l.length : Int))) := by simp [prsD]
theorem at_prs {l : List Pr} {n : Nat} : atO 8 (prsD l) (some n) = elemD (l[n]?.map Pr.c) := by simp [prsD]
theorem pr_unders {n : Nat} : ∀ q : Pr, D.unders n q.c := by
  have key : ∀ (k : Nat) (q : Pr), SizeOf.sizeOf q < k → D.unders n q.c := by
    intro k
    induction k with
    | zero => intro q h; omega
    | succ k ih =>
      intro q h
      cases q with
      | mk kd c o v l =>
        simp only [Pr.c, Pr.cs_map, D.unders, D.under, by_under, true_and, and_true]
        have : ∀ l' : List Pr, (∀ q, q ∈ l' → D.unders n q.c) → D.underss n (l'.map Pr.c) := by
          intro l'
          induction l' with
          | nil => intro _; simp [D.underss]
          | cons q l' ih2 => intro h; simp only [List.map_cons, D.underss]; exact ⟨h q (by simp), ih2 fun x hx => h x (by simp [hx])⟩
        refine this l fun q hq => ih q ?_
        have := List.sizeOf_lt_of_mem hq
        simp at h; omega
  exact fun q => key (SizeOf.sizeOf q + 1) q (by omega)
theorem prs_under {n : Nat} {l : List Pr} : (prsD l).under n := by simp only [prsD, D.under]; exact underss_map (fun q => pr_unders q) _
theorem cellsD_prs {l : List Pr} : cellsD (prsD l) = some [prsD l] := rfl
theorem prs_flat {l : List Pr} : flatD (prsD l) = true := rfl
attribute [simp] pr_g0 pr_g1 pr_g2 pr_g7 pr_0 pr_1 pr_2 pr_7 pr_len pr_v pr_take pr_drop pr_flats prs_len at_prs pr_unders prs_under cellsD_prs prs_flat
def truthF (b : Bool) : Int := if b then 1 else 2
def notF (n : Int) : Int := if n = 1 then 2 else if n = 2 then 1 else 3
def holdsF (o c : Int) : Bool := if o = 1 then decide (c = 0) else if o = 2 then decide (¬ c = 0) else if o = 3 then decide (c < 0) else if o = 4 then decide (c ≤ 0) else if o = 5 then decide (0 < c) else if o = 6 then decide (0 ≤ c) else false
mutual
def evalF : Pr → Row → Int
  | .mk k c o v l, r => if k = 1 then 1 else if k = 2 then (if (atV r c).null = true then 3 else truthF (holdsF o (cmpV (atV r c) v))) else if k = 3 then truthF (atV r c).null
      else if k = 4 then listF l r 2 1 else if k = 5 then listF l r 1 2 else if k = 6 then headF l r else 3
def headF : List Pr → Row → Int
  | [], _ => 3
  | p :: _, r => notF (evalF p r)
def listF : List Pr → Row → Int → Int → Int
  | [], _, _, cur => cur
  | p :: l, r, d, cur => if evalF p r = d then d else listF l r d (if evalF p r = 3 then 3 else cur)
end
theorem evalF_eq {q : Pr} {r : Row} : evalF q r = if q.kind = 1 then 1 else if q.kind = 2 then (if (atV r q.col).null = true then 3 else truthF (holdsF q.op (cmpV (atV r q.col) q.v))) else if q.kind = 3 then truthF (atV r q.col).null
      else if q.kind = 4 then listF q.l r 2 1 else if q.kind = 5 then listF q.l r 1 2 else if q.kind = 6 then headF q.l r else 3 := by
  cases q; simp only [evalF, Pr.kind, Pr.col, Pr.op, Pr.v, Pr.l]; rfl
structure HPred (p : Prog) (ext : Ext) (F : Nat → Nat) : Prop where
  schm : HSchmC p ext F
  h65 : Has p ext F 65 M65
  h66 : Has p ext F 66 M66
  h67 : Has p ext F 67 M67
  h68 : Has p ext F 68 M68
  h69 : Has p ext F 69 M69
theorem pred_truth (L : HPred p ext F) {b : Bool} : FnD p ext (F 67) [.lit (.bool b)] (.lit (.int .i64 (truthF b))) := by
  refine fn_of L.h67 (M := M67) rfl ok67 rfl fun H => sem_run 9000 _ ?_
  simp
  cases b with
  | true =>
    simp
    refine sem_ret ?_
    simp [M67, truthF]
    exact .same (by simp)
  | false =>
    simp
    refine sem_ret ?_
    simp [M67, truthF]
    exact .same (by simp)
theorem pred_not (L : HPred p ext F) {n : Int} : FnD p ext (F 69) [.lit (.int .i64 n)] (.lit (.int .i64 (notF n))) := by
  refine fn_of L.h69 (M := M69) rfl ok69 rfl fun H => sem_run 9000 _ ?_
  simp
  by_cases h1 : n = 1
  · simp [h1]
    refine sem_ret ?_
    simp [M69, notF]
    exact .same (by simp)
  · by_cases h2 : n = 2
    · simp [h2]
      refine sem_ret ?_
      simp [M69, notF]
      exact .same (by simp)
    · simp [h1, h2]
      refine sem_ret ?_
      simp [M69, notF, h1, h2]
      exact .same (by simp)
theorem pred_holds (L : HPred p ext F) {o c : Int} : FnD p ext (F 66) [.lit (.int .i64 o), .lit (.int .i64 c)] (.lit (.bool (holdsF o c))) := by
  refine fn_of L.h66 (M := M66) rfl ok66 rfl fun H => sem_run 9000 _ ?_
  simp
  by_cases h1 : o = 1
  · simp [h1]
    refine sem_ret ?_
    simp [M66, holdsF]
    exact .same (by simp)
  · by_cases h2 : o = 2
    · simp [h2]
      refine sem_ret ?_
      simp [M66, holdsF]
      exact .same (by simp)
    · by_cases h3 : o = 3
      · simp [h3]
        refine sem_ret ?_
        simp [M66, holdsF]
        exact .same (by simp)
      · by_cases h4 : o = 4
        · simp [h4]
          refine sem_ret ?_
          simp [M66, holdsF]
          exact .same (by simp)
        · by_cases h5 : o = 5
          · simp [h5]
            refine sem_ret ?_
            simp [M66, holdsF]
            exact .same (by simp)
          · by_cases h6 : o = 6
            · simp [h6]
              refine sem_ret ?_
              simp [M66, holdsF]
              exact .same (by simp)
            · simp [h1, h2, h3, h4, h5, h6]
              refine sem_ret ?_
              simp [M66, holdsF, h1, h2, h3, h4, h5, h6]
              exact .same (by simp)
def PListI (H0 : HpD) (r : Row) (l : List Pr) (d oth : Int) (k : Nat) (fr : FrD) (H : HpD) : Prop :=
  ∃ (i : Nat) (cur : Int), k = l.length - i ∧ i ≤ l.length ∧ listF l r d oth = listF (l.drop i) r d cur ∧ fr = [(1, rowD r), (2, .lit (.int .i64 d)), (9, .lit (.int .i64 cur)), (15, prsD l), (16, .lit (.int .i64 (l.length : Int))), (17, .lit (.int .i64 (i : Int)))] ∧ Sub H0 H
theorem pred_list (L : HPred p ext F) {q : Pr} {r : Row} {d oth : Int} (hl : q.l.length < 1000) (ih : ∀ x, x ∈ q.l → FnD p ext (F 65) [.agg x.c, rowD r] (.lit (.int .i64 (evalF x r)))) : FnD p ext (F 68) [.agg q.c, rowD r, .lit (.int .i64 d), .lit (.int .i64 oth)] (.lit (.int .i64 (listF q.l r d oth))) := by
  refine fn_of L.h68 (M := M68) rfl ok68 rfl fun H => sem_run 9000 _ ?_
  simp
  refine sem_loop (PListI H r q.l d oth) ?_ (k := q.l.length) ⟨0, oth, by simp, by simp, by simp, rfl, sR⟩
  rintro k fr H' ⟨i, cur, rfl, hi, hc, rfl, hs⟩
  refine sem_run 9000 _ ?_
  simp
  by_cases c : i < q.l.length
  · obtain ⟨x, hx⟩ : ∃ x, q.l[i]? = some x := ⟨q.l[i], by simp⟩
    have hdrop : q.l.drop i = x :: q.l.drop (i + 1) := by
      rw [List.drop_eq_getElem_cons c]; congr; exact (List.getElem?_eq_some_iff.1 hx).2
    rw [hdrop] at hc
    have wi : wr .i64 ((i : Int) + 1) = ((i + 1 : Nat) : Int) := by rw [wr_of] <;> omega
    simp [c, hx, -getElem?_pos]
    refine sf (ih x (List.mem_of_getElem? hx)) ?_
    by_cases c1 : evalF x r = d
    · simp [c1]
      refine sem_ret ?_
      simp
      refine sem_ret ?_
      simp [M68]
      exact .le (sB hs) (by rw [hc, listF, if_pos c1]; exact D.le_refl _) trivial
    · by_cases c2 : evalF x r = 3
      · have c1' : ¬ 3 = d := c2 ▸ c1
        simp [c1', c2]
        refine sem_ok ?_
        exact ⟨q.l.length - (i + 1), by omega, i + 1, 3, rfl, by omega, by rw [hc, listF, if_neg c1, if_pos c2], by rw [wi], (sB hs)⟩
      · simp [c1, c2]
        refine sem_ok ?_
        exact ⟨q.l.length - (i + 1), by omega, i + 1, cur, rfl, by omega, by rw [hc, listF, if_neg c1, if_neg c2], by rw [wi], (sB hs)⟩
  · have : i = q.l.length := by omega
    subst this
    simp
    refine sem_exit (sem_run 9000 _ ?_)
    simp
    refine sem_ret ?_
    simp [M68]
    exact .le (sB hs) (by rw [hc, List.drop_length, listF]; exact D.le_refl _) trivial
def PrS : Nat → Pr → Prop
  | 0, _ => False
  | n + 1, q => q.l.length < 1000 ∧ ∀ x, x ∈ q.l → PrS n x
theorem pred_eval1 (L : HPred p ext F) {q : Pr} {r : Row} (hl : q.l.length < 1000) (ih : ∀ x, x ∈ q.l → FnD p ext (F 65) [.agg x.c, rowD r] (.lit (.int .i64 (evalF x r)))) : FnD p ext (F 65) [.agg q.c, rowD r] (.lit (.int .i64 (evalF q r))) := by
  refine fn_of L.h65 (M := M65) rfl ok65 rfl fun H => sem_run 9000 _ ?_
  simp
  rw [evalF_eq]
  by_cases h1 : q.kind = 1
  · simp [h1]
    refine sem_ret ?_
    simp [M65]
    exact .same (by simp)
  · by_cases h2 : q.kind = 2
    · simp [h2]
      refine sf (schm_at L.schm) ?_
      simp
      cases hn : (atV r q.col).null with
      | true =>
        simp
        refine sem_ret ?_
        simp [M65]
        exact .le sR (by simp) (by simp)
      | false =>
        simp
        refine sem_dfn (schm_compare L.schm) (by first | exact D.les_refl _ | simp) (sem_run 9000 _ ?_)
        simp
        refine sem_dfn (pred_holds L) (by first | exact D.les_refl _ | simp) (sem_run 9000 _ ?_)
        simp
        refine sem_dfn (pred_truth L) (by first | exact D.les_refl _ | simp) (sem_run 9000 _ ?_)
        simp
        refine sem_ret ?_
        simp [M65]
        exact .le sR (by simp) (by simp)
    · by_cases h3 : q.kind = 3
      · simp [h3]
        refine sf (schm_at L.schm) ?_
        simp
        refine sf (pred_truth L) ?_
        simp
        refine sem_ret ?_
        simp [M65]
        exact .same (by simp)
      · by_cases h4 : q.kind = 4
        · simp [h4]
          refine sf (pred_list L hl ih) ?_
          simp
          refine sem_ret ?_
          simp [M65]
          exact .same (by simp)
        · by_cases h5 : q.kind = 5
          · simp [h5]
            refine sf (pred_list L hl ih) ?_
            simp
            refine sem_ret ?_
            simp [M65]
            exact .same (by simp)
          · by_cases h6 : q.kind = 6
            · cases hq : q.l with
              | nil =>
                simp [h6, hq]
                refine sem_ret ?_
                simp [M65, headF]
                exact .same (by simp)
              | cons x l =>
                have hx : q.l[0]? = some x := by rw [hq]; rfl
                simp [h6, hq]
                refine sf (ih x (by rw [hq]; simp)) ?_
                simp
                refine sf (pred_not L) ?_
                simp
                refine sem_ret ?_
                simp [M65, headF]
                exact .same (by simp)
            · simp [h1, h2, h3, h4, h5, h6]
              refine sem_ret ?_
              simp [M65]
              exact .same (by simp)
theorem pred_eval (L : HPred p ext F) : ∀ (n : Nat) (q : Pr), PrS n q → ∀ r : Row, FnD p ext (F 65) [.agg q.c, rowD r] (.lit (.int .i64 (evalF q r)))
  | 0, _, h, _ => h.elim
  | n + 1, _, h, r => pred_eval1 L h.1 fun x hx => pred_eval L n x (h.2 x hx) r
end Go.Lib
end

section
set_option maxRecDepth 10000
namespace Go.Lib
open Go.Vm Go.Dv Go.Srt
variable {p : Prog} {ext : Ext} {F : Nat → Nat}
theorem clip_tight (L : HAggr p ext F) {H0 H : HpD} {s : D} {el : List (List D)} (g : Gr H0 H 1 s el) : WcD p ext (F 39) [s] H (fun d H' => Gr H0 H' 1 d el ∧ ∀ b o z n c, ¬ d = .slice b o z n c false) := by
  refine wc_of L.h39 (M := M39) rfl ok39 rfl (sem_run 9000 _ ?_)
  rcases g.at_ with ⟨rfl, rfl⟩ | ⟨b, ex, el0, rfl, h1, h2, h3, h4⟩
  · simp [slc_nil]
    refine sem_ret ?_
    simp [M39]
    exact g
  · simp [slc_own]
    refine sem_ret ?_
    simp [M39]
    exact ⟨g.sub, g.len, .inr ⟨b, true, el0, rfl, h1, h2, h3, h4⟩⟩
structure HModl (p : Prog) (ext : Ext) (F : Nat → Nat) : Prop where
  aggr : HAggr p ext F
  pred : HPred p ext F
  x45 : ∀ args h, ext (F 45) args h = extV .add64 args h
  h70 : Has p ext F 70 M70
  h71 : Has p ext F 71 M71
  h72 : Has p ext F 72 M72
  h73 : Has p ext F 73 M73
  h74 : Has p ext F 74 M74
  h75 : Has p ext F 75 M75
  h76 : Has p ext F 76 M76
  h77 : Has p ext F 77 M77
  h78 : Has p ext F 78 M78
  h79 : Has p ext F 79 M79
  h80 : Has p ext F 80 M80
  h81 : Has p ext F 81 M81
  h82 : Has p ext F 82 M82
structure GrT (H0 H : HpD) (s : D) (R : List Row) : Prop where
  x : GrX H0 H 1 s (rowsE R)
  tight : ∀ b o z n c, ¬ s = .slice b o z n c false
theorem GrT.at_ {H0 H : HpD} {s : D} {R : List Row} (g : GrT H0 H s R) : (s = .lit .nilslice ∧ R = []) ∨ ∃ b, s = .slice b 0 1 R.length R.length true ∧ H0.next ≤ b ∧ b < H.next ∧ H.blk b = .cells (rowsE R).flatten false := by
  rcases g.x.at_ with ⟨h, h'⟩ | ⟨b, ex, rfl, h1, h2, h3⟩
  · exact .inl ⟨h, by simpa [rowsE] using h'⟩
  · have : ex = true := by
      cases ex with
      | true => rfl
      | false => exact absurd rfl (g.tight _ _ _ _ _)
    subst this
    exact .inr ⟨b, by simp, h1, h2, h3⟩
theorem GrT.keep {H0 H H1 : HpD} {s : D} {R : List Row} (g : GrT H0 H s R) (hs : Sub H H1) (hk : ∀ x, s.hasB x → H1.blk x = H.blk x) : GrT H0 H1 s R := ⟨g.x.keep hs hk, g.tight⟩
theorem GrT.far {H0 H H1 : HpD} {s : D} {R : List Row} (g : GrT H0 H s R) (hs : Sub H H1) : GrT H0 H1 s R := g.keep hs fun x hx => hs.blk x (g.x.gr.far hx).2
def keyF (r : Row) : Int := (atV r 0).n
theorem modl_key (L : HModl p ext F) {r : Row} : FnD p ext (F 78) [rowD r] (.lit (.int .i64 (keyF r))) := by
  refine fn_of L.h78 (M := M78) rfl ok78 rfl fun H => sem_run 9000 _ ?_
  simp
  refine sf (schm_at L.aggr.schm) ?_
  simp
  refine sem_ret ?_
  simp [M78, keyF]
  exact .same (by simp)
theorem modl_insert1 (L : HModl p ext F) {r : Row} {k : Int} : FnD p ext (F 80) [rowD r, .lit (.int .i64 k)] (.lit (.int .i64 (cmpI (keyF r) k))) := by
  refine fn_of L.h80 (M := M80) rfl ok80 rfl fun H => sem_run 9000 _ ?_
  simp
  refine sf (modl_key L) ?_
  simp
  refine sf (compare_int64 L.aggr.schm) ?_
  simp
  refine sem_ret ?_
  simp [M80]
  exact .same (by simp)
def KeyRise (R : List Row) : Prop := R.Pairwise fun a b => keyF a < keyF b
theorem shr1 {n : Int} : shrI .u64 n 1 = n / 2 := by
  rw [shr_eq, Int.fdiv_eq_ediv_of_nonneg _ (by decide)]
  rfl
def KeyAt (R : List Row) (k : Int) (i : Nat) : Prop := i ≤ R.length ∧ (∀ q r, q < i → R[q]? = some r → keyF r < k) ∧ ∀ q r, i ≤ q → R[q]? = some r → k ≤ keyF r
def BsI (s : D) (R : List Row) (k : Int) (cv : D) (w : Nat) (fr : FrD) (H' : HpD) (H : HpD) : Prop :=
  ∃ i j : Nat, w = j - i ∧ i ≤ j ∧ j ≤ R.length ∧ (∀ q r, q < i → R[q]? = some r → keyF r < k) ∧ (∀ q r, j ≤ q → R[q]? = some r → k ≤ keyF r) ∧
    fr = [(0, s), (1, .lit (.int .i64 k)), (2, cv), (8, .lit (.int .i64 (R.length : Int))), (9, .lit (.int .i64 (i : Int))), (10, .lit (.int .i64 (j : Int)))] ∧ H' = H
def hasK (R : List Row) (k : Int) (i : Nat) : Bool := match R[i]? with
  | some r => decide (keyF r = k)
  | none => false
theorem slc_from {sz b o n cap i : Nat} {ex : Bool} (h : i ≤ n) : slcD sz (.slice b o sz n cap ex) (some (.lit (.int .i64 (i : Int)))) none none = some (.slice b (o + i * sz) sz (n - i) (cap - i) ex) := by
  simp [slcD, bndD, slcV, sliceO, needH, boundM, boundH, boundL, ble_d, h]
theorem slc_to {sz b o n cap i : Nat} {ex : Bool} (h : i ≤ cap) : slcD sz (.slice b o sz n cap ex) none (some (.lit (.int .i64 (i : Int)))) none = some (.slice b o sz i cap ex) := by
  simp [slcD, bndD, slcV, sliceO, needH, boundM, boundH, boundL, ble_d, h]
theorem slc_nil0 {sz : Nat} : slcD sz (.lit .nilslice) (some (.lit (.int .i64 0))) none none = some (.lit .nilslice) := rfl
theorem caps_slice {b o sz n c : Nat} : capsD (.slice b o sz n c true) = some (.lit (.int .i64 (c : Int))) := rfl
theorem rep_nil {m : Nat} : repD (dVs [.nilslice]) m = List.replicate m (.lit .nilslice) := by
  induction m with
  | zero => rfl
  | succ m ih => rw [repD, ih]; rfl
theorem appz {H : HpD} {b n i m : Nat} {cs : List D} {ro : Bool} (hb : H.blk b = .cells cs ro) (hcs : cs.length = n) (hi : i ≤ n) (hm : n < i + m) (hl : i + m < 1000000000) :
    appendZD [.nilslice] 1 24 H (.slice b 0 1 i n true) (.lit (.int .i64 (m : Int))) = some (.slice H.next 0 1 (i + m) (i + m) false, H.new (.cells (cs.take i ++ List.replicate m (.lit .nilslice)) false)) := by
  obtain ⟨m', rfl⟩ : ∃ m', m = m' + 1 := ⟨m - 1, by omega⟩
  have hr1 : roomy 24 (m' + 1) = true := roomyD (by omega) (by omega)
  have hr2 : roomy 24 (i + (m' + 1)) = true := roomyD (by omega) (by omega)
  have h1 : readD H b 0 (i * 1) = some (cs.take i) := by
    rw [readD_eq, hb]; simp; omega
  have h2 : ¬ i + (m' + 1) ≤ n := by omega
  unfold appendZD
  simp only [natD_cast]
  simp only [hr1, cond_true]
  show appendCD 1 24 H (.slice b 0 1 i n true) (m' + 1) (repD (dVs [.nilslice]) (m' + 1)) = _
  rw [rep_nil]
  unfold appendCD
  simp only [beq_d, decide_true, cond_true, ble_d, h2, decide_false, cond_false, hr2, h1, growD]
theorem copy_row {H : HpD} {nb o len cap : Nat} {ex : Bool} {m : Md} {d : D} {cs : List D} (hb : H.blk nb = .cells cs false) (h1 : 1 ≤ len) (h2 : o + 1 ≤ cs.length) (hf : flatD d = true) :
    copyD H 1 (.slice nb o 1 len cap ex) (.row 1 m [[d]]) = some (.lit (.int .i64 1), H.put nb (.cells (spliceD cs o [d]) false)) := by
  have hmin : minN 1 len = 1 := by unfold minN; rw [ble_d]; simp [h1]
  have hw : writeD H nb o [d] = some (H.put nb (.cells (spliceD cs o [d]) false)) := by
    rw [writeD_eq, hb, writeBD_cells, if_pos ⟨h2, by simp [flatsD, hf]⟩]; rfl
  show cond (Nat.beq 1 1) (copyC H (minN 1 len) nb o (srcD H 1 (minN 1 len) (.row 1 m [[d]]))) none = _
  rw [hmin]
  have hs : srcD H 1 1 (.row 1 m [[d]]) = some [d] := by cases m <;> rfl
  rw [hs]
  show (match writeD H nb o [d] with | some H' => some (D.lit (.int .i64 1), H') | none => none) = _
  rw [hw]
theorem copy_slice {H : HpD} {nb o len cap b o2 cap2 : Nat} {ex ex2 : Bool} {cs cs2 : List D} {ro : Bool} (hb : H.blk nb = .cells cs false) (hb2 : H.blk b = .cells cs2 ro) (h1 : 1 ≤ len) (h2 : o + len ≤ cs.length) (h3 : o2 + len ≤ cs2.length) (hf : flatsD ((cs2.drop o2).take len) = true) :
    copyD H 1 (.slice nb o 1 len cap ex) (.slice b o2 1 len cap2 ex2) = some (.lit (.int .i64 (len : Int)), H.put nb (.cells (spliceD cs o ((cs2.drop o2).take len)) false)) := by
  have hmin : minN len len = len := by unfold minN; rw [ble_d]; simp
  have hlen : ((cs2.drop o2).take len).length = len := by simp; omega
  have hw : writeD H nb o ((cs2.drop o2).take len) = some (H.put nb (.cells (spliceD cs o ((cs2.drop o2).take len)) false)) := by
    rw [writeD_eq, hb, writeBD_cells, if_pos ⟨by rw [hlen]; exact h2, hf⟩]; rfl
  show cond (Nat.beq 1 1) (copyC H (minN len len) nb o (srcD H 1 (minN len len) (.slice b o2 1 len cap2 ex2))) none = _
  rw [hmin]
  have hs : srcD H 1 len (.slice b o2 1 len cap2 ex2) = some ((cs2.drop o2).take len) := by
    show cond (Nat.beq 1 1) (cond (Nat.ble len len) (readD H b o2 (len * 1)) none) none = _
    rw [ble_d, readD_eq, hb2]; simp [h3]
  rw [hs]
  generalize hL : (cs2.drop o2).take len = L at *
  cases L with
  | nil => simp at hlen; omega
  | cons x L =>
    show (match writeD H nb o (x :: L) with | some H' => some (D.lit (.int .i64 (len : Int)), H') | none => none) = _
    rw [hw]
def putAt (R : List Row) (i : Nat) (r : Row) : List Row := R.take i ++ r :: R.drop i
theorem put_cells {A D0 M : List D} {x : D} (hm : M.length = D0.length + 1) : spliceD (spliceD (A ++ M) A.length [x]) (A.length + 1) D0 = A ++ x :: D0 := by
  have e1 : spliceD (A ++ M) A.length [x] = (A ++ [x]) ++ M.drop 1 := by
    have := splice_left (x := [x]) A M 0
    rw [Nat.add_zero] at this
    rw [this, spliceD_zero]; simp
  have e2 : A.length + 1 = (A ++ [x]).length + 0 := by simp
  rw [e1, e2, splice_left, spliceD_zero]
  have : (M.drop 1).drop D0.length = [] := List.drop_eq_nil_of_le (by simp; omega)
  rw [this]; simp
structure Rs where
  err : Int
  n : Int
  rows : List Row
def Rs.c (x : Rs) : List D := [.lit (.int .i64 x.err), .lit (.int .i64 x.n), rowsD x.rows]
theorem rs_unders {n : Nat} {x : Rs} : D.unders n x.c := by simp [Rs.c, rows_under]
attribute [simp] rs_unders
def IxI (s : D) (R : List Row) (pf : Row → Bool) (cv : D) (w : Nat) (fr : FrD) (H' : HpD) (H : HpD) : Prop :=
  ∃ i : Nat, w = R.length - i ∧ i ≤ R.length ∧ (∀ q r, q < i → R[q]? = some r → pf r = false) ∧
    fr = [(0, s), (1, cv), (7, .lit (.int .i64 (R.length : Int))), (8, .lit (.int .i64 (i : Int)))] ∧ H' = H
def IxR (R : List Row) (pf : Row → Bool) (n : Int) : Prop := (n = -1 ∧ ∀ r, r ∈ R → pf r = false) ∨ ∃ i : Nat, n = i ∧ i < R.length ∧ (∀ q r, q < i → R[q]? = some r → pf r = false) ∧ ∀ r, R[i]? = some r → pf r = true
theorem clear_slice {H : HpD} {b o n c : Nat} {ex : Bool} {cs : List D} (hb : H.blk b = .cells cs false) (h : o + n ≤ cs.length) :
    ∃ H' cs', clearD H [.nilslice] (.slice b o 1 n c ex) = some (.tup [], H') ∧ H'.next = H.next ∧ (∀ x, x ≠ b → H'.blk x = H.blk x) ∧ H'.blk b = .cells cs' false ∧ cs'.take o = cs.take o := by
  cases n with
  | zero => exact ⟨H, cs, rfl, rfl, fun _ _ => rfl, hb, rfl⟩
  | succ n =>
    refine ⟨H.put b (.cells (spliceD cs o (List.replicate (n + 1) (.lit .nilslice))) false), spliceD cs o (List.replicate (n + 1) (.lit .nilslice)), ?_, by simp, fun x hx => by rw [put_blk, if_neg hx], by simp, splice_take (by omega)⟩
    have hf : ∀ m, flatsD (List.replicate m (D.lit .nilslice)) = true := by
      intro m
      induction m with
      | zero => rfl
      | succ m ih => simp [List.replicate_succ, flatsD, ih]
    show cond (Nat.beq 1 1) (tupO (writeD H b o (repD (dVs [.nilslice]) (n + 1)))) none = _
    rw [rep_nil, writeD_eq, hb, writeBD_cells, if_pos ⟨by simpa using h, hf _⟩]
    rfl
def keepF (pf : Row → Bool) (R : List Row) : List Row := R.filter fun r => !pf r
structure Op where
  kind : Int
  row : Row
  pred : Pr
  sets : List Sx
  cols : List Int
  group : Int
  aggs : List Ag
def Op.c (o : Op) : List D := [.lit (.int .i64 o.kind), rowD o.row] ++ o.pred.c ++ [sxsD o.sets, intsD .p o.cols, .lit (.int .i64 o.group), agsD o.aggs]
theorem op_c {o : Op} : o.c = [.lit (.int .i64 o.kind), rowD o.row, .lit (.int .i64 o.pred.kind), .lit (.int .i64 o.pred.col), .lit (.int .i64 o.pred.op), .lit (.bool o.pred.v.null), .lit (.int .i64 o.pred.v.kind), .lit (.int .i64 o.pred.v.n), byD o.pred.v.bytes, prsD o.pred.l, sxsD o.sets, intsD .p o.cols, .lit (.int .i64 o.group), agsD o.aggs] := by
  rw [Op.c, pr_c]; rfl
theorem op_0 {o : Op} : o.c[0]? = some (.lit (.int .i64 o.kind)) := by rw [op_c]; rfl
theorem op_1 {o : Op} : o.c[1]? = some (rowD o.row) := by rw [op_c]; rfl
theorem op_10 {o : Op} : o.c[10]? = some (sxsD o.sets) := by rw [op_c]; rfl
theorem op_11 {o : Op} : o.c[11]? = some (intsD .p o.cols) := by rw [op_c]; rfl
theorem op_12 {o : Op} : o.c[12]? = some (.lit (.int .i64 o.group)) := by rw [op_c]; rfl
theorem op_13 {o : Op} : o.c[13]? = some (agsD o.aggs) := by rw [op_c]; rfl
theorem op_len {o : Op} : o.c.length = 14 := by rw [op_c]; rfl
theorem op_pred {o : Op} : (o.c.drop 2).take 8 = o.pred.c := by rw [op_c, pr_c]; rfl
theorem op_g {q : Op} {i : Nat} {d : D} (h : q.c[i]? = some d) (hi : i < q.c.length) : q.c[i] = d := (List.getElem?_eq_some_iff.1 h).2
theorem op_g0 {q : Op} (h : 0 < q.c.length) : q.c[0] = .lit (.int .i64 q.kind) := op_g op_0 h
theorem op_g1 {q : Op} (h : 1 < q.c.length) : q.c[1] = rowD q.row := op_g op_1 h
theorem op_g10 {q : Op} (h : 10 < q.c.length) : q.c[10] = sxsD q.sets := op_g op_10 h
theorem op_g11 {q : Op} (h : 11 < q.c.length) : q.c[11] = intsD .p q.cols := op_g op_11 h
theorem op_g12 {q : Op} (h : 12 < q.c.length) : q.c[12] = .lit (.int .i64 q.group) := op_g op_12 h
theorem op_g13 {q : Op} (h : 13 < q.c.length) : q.c[13] = agsD q.aggs := op_g op_13 h
theorem op_take {q : Op} : q.c.take 14 = q.c := List.take_of_length_le (by rw [op_len]; exact Nat.le_refl _)
theorem op_drop {q : Op} : q.c.drop 14 = [] := List.drop_eq_nil_of_le (by rw [op_len]; exact Nat.le_refl _)
theorem op_flats {q : Op} : flatsD q.c = true := by rw [op_c]; rfl
attribute [simp] op_0 op_1 op_10 op_11 op_12 op_13 op_len op_pred op_g0 op_g1 op_g10 op_g11 op_g12 op_g13 op_take op_drop op_flats
def pickF (o : Op) (r : Row) : Bool := decide (evalF o.pred r = 1)
theorem modl_do1 (L : HModl p ext F) {o : Op} {r : Row} {n : Nat} (hq : PrS n o.pred) : FnD p ext (F 73) [rowD r, .rptr o.c 0] (.lit (.bool (pickF o r))) := by
  refine fn_of L.h73 (M := M73) rfl ok73 rfl fun H => sem_run 9000 _ ?_
  simp
  refine sf (pred_eval L.pred n o.pred hq r) ?_
  simp
  refine sem_ret ?_
  simp [M73, pickF]
  exact .same (by simp)
def updF (o : Op) : List Row → Option (List Row)
  | [] => some []
  | r :: R => if pickF o r then match setF r o.sets with
      | some r' => (updF o R).map (r' :: ·)
      | none => none
    else (updF o R).map (r :: ·)
def cntF (o : Op) (R : List Row) : Nat := (R.filter (pickF o)).length
theorem updF_snoc {o : Op} : ∀ {R : List Row} {i : Nat} {r : Row} {M : List Row}, R[i]? = some r → updF o (R.take i) = some M → updF o (R.take (i + 1)) = if pickF o r then (setF r o.sets).map (M ++ [·]) else some (M ++ [r])
  | [], i, r, M, h, _ => by simp at h
  | x :: R, 0, r, M, h, e => by
    simp at h; subst h
    simp [updF] at e; subst e
    simp only [List.take_succ_cons, List.take_zero, updF]
    cases pickF o x <;> simp
    cases setF x o.sets <;> simp
  | x :: R, i + 1, r, M, h, e => by
    simp at h
    simp only [List.take_succ_cons, updF] at e ⊢
    cases hp : pickF o x with
    | true =>
      simp only [hp, if_true] at e ⊢
      cases hs : setF x o.sets with
      | none => simp [hs] at e
      | some x' =>
        simp only [hs, Option.map_eq_some_iff] at e
        obtain ⟨M', e1, rfl⟩ := e
        rw [updF_snoc h e1]
        cases pickF o r <;> simp
        cases setF r o.sets <;> simp
    | false =>
      simp only [hp, Bool.false_eq_true, if_false, Option.map_eq_some_iff] at e ⊢
      obtain ⟨M', e1, rfl⟩ := e
      rw [updF_snoc h e1]
      cases pickF o r <;> simp
      cases setF r o.sets <;> simp
end Go.Lib
end

section
set_option maxRecDepth 10000
namespace Go.Lib
open Go.Vm Go.Dv Go.Srt
variable {p : Prog} {ext : Ext} {F : Nat → Nat}
theorem updF_len {o : Op} : ∀ {R M : List Row}, updF o R = some M → M.length = R.length
  | [], M, h => by simp [updF] at h; subst h; rfl
  | r :: R, M, h => by
    unfold updF at h
    split at h
    · split at h
      · simp only [Option.map_eq_some_iff] at h
        obtain ⟨M', e, rfl⟩ := h
        simp [updF_len e]
      · cases h
    · simp only [Option.map_eq_some_iff] at h
      obtain ⟨M', e, rfl⟩ := h
      simp [updF_len e]
theorem updF_none {o : Op} : ∀ {R : List Row} {i : Nat}, updF o (R.take i) = none → updF o R = none
  | [], i, h => by simpa using h
  | r :: R, 0, h => by simp [updF] at h
  | r :: R, i + 1, h => by
    simp only [List.take_succ_cons, updF] at h ⊢
    split at h
    · split at h
      · rw [Option.map_eq_none_iff] at h
        simp [updF_none h, *]
      · simp [*]
    · rw [Option.map_eq_none_iff] at h
      simp [updF_none h, *]
theorem cntF_snoc {o : Op} {R : List Row} {i : Nat} {r : Row} (h : R[i]? = some r) : cntF o (R.take (i + 1)) = cntF o (R.take i) + if pickF o r then 1 else 0 := by
  unfold cntF
  rw [List.take_add_one, h]
  cases hp : pickF o r <;> simp [hp]
theorem cntF_le {o : Op} {R : List Row} : cntF o R ≤ R.length := List.length_filter_le _ _
structure OpS (n : Nat) (o : Op) : Prop where
  pred : PrS n o.pred
  sets : o.sets.length < 1000
  vals : ∀ x, x ∈ o.sets → In64 x.v.n
structure RowsS (R : List Row) : Prop where
  len : R.length < 1000000
  rows : ∀ r, r ∈ R → r.length < 1000
  vals : ∀ r, r ∈ R → ∀ v, v ∈ r → In64 v.n
theorem RowsS.fine {R : List Row} (h : RowsS R) : Fine R := ⟨h.len, fun r hr => by have := h.rows r hr; omega⟩
end Go.Lib
end

section
set_option maxRecDepth 10000
namespace Go.Lib
open Go.Vm Go.Dv Go.Srt
variable {p : Prog} {ext : Ext} {F : Nat → Nat}
def insK (R : List Row) (r : Row) : List Row := R.takeWhile (fun x => decide (keyF x < keyF r)) ++ r :: R.dropWhile (fun x => decide (keyF x < keyF r))
def hasR (R : List Row) (k : Int) : Bool := R.any fun x => decide (keyF x = k)
theorem KeyAt.len {R : List Row} {k : Int} {i : Nat} (h : KeyAt R k i) : (R.takeWhile (fun x => decide (keyF x < k))).length = i := by
  obtain ⟨h1, h2, h3⟩ := h
  refine takeWhile_len h1 (fun q x hq hx => by simpa using h2 q x hq hx) ?_
  by_cases e : i = R.length
  · exact .inl e
  · refine .inr ⟨R[i]'(by omega), by simp, ?_⟩
    have := h3 i (R[i]'(by omega)) (Nat.le_refl _) (by simp)
    simpa using this
theorem KeyAt.put {R : List Row} {r : Row} {i : Nat} (h : KeyAt R (keyF r) i) : putAt R i r = insK R r := by
  have e := h.len
  unfold putAt insK
  rw [← e, take_tw, drop_tw]
theorem KeyAt.has {R : List Row} {k : Int} {i : Nat} (h : KeyAt R k i) (hk : KeyRise R) : hasK R k i = hasR R k := by
  obtain ⟨h1, h2, h3⟩ := h
  unfold hasK hasR
  rw [Bool.eq_iff_iff]
  constructor
  · intro e
    split at e
    · rename_i r hr
      exact List.any_eq_true.2 ⟨r, List.mem_of_getElem? hr, e⟩
    · cases e
  · intro e
    obtain ⟨x, hx, hxk⟩ := List.any_eq_true.1 e
    have hxk : keyF x = k := by simpa using hxk
    obtain ⟨q, hq⟩ := List.mem_iff_getElem?.1 hx
    have hqi : i ≤ q := by
      by_cases hlt : q < i
      · have := h2 q x hlt hq; omega
      · omega
    have hql := (List.getElem?_eq_some_iff.1 hq).1
    have hi : R[i]? = some (R[i]'(by omega)) := by simp
    rw [hi]
    by_cases e2 : i = q
    · subst e2
      have e3 := Option.some.inj (hi.symm.trans hq)
      simpa [e3] using hxk
    · have := List.pairwise_iff_getElem.1 hk i q (by omega) hql (by omega)
      obtain ⟨_, e3⟩ := List.getElem?_eq_some_iff.1 hq
      have h4 := h3 i (R[i]'(by omega)) (Nat.le_refl _) hi
      rw [e3] at this
      omega
def doF (R : List Row) (o : Op) : List Row × Rs :=
  if o.kind = 1 then (if hasR R (keyF o.row) then (R, ⟨1, 0, []⟩) else (insK R o.row, ⟨0, 1, []⟩))
  else if o.kind = 2 then (match updF o R with
    | some M => (M, ⟨0, cntF o R, []⟩)
    | none => (R, ⟨2, 0, []⟩))
  else if o.kind = 3 then (keepF (pickF o) R, ⟨0, cntF o R, []⟩)
  else if o.kind = 4 then (R, ⟨0, 0, sortL cmpR (colsF o.cols (R.filter (pickF o)))⟩)
  else if o.kind = 5 then (if (grpsF o.group o.aggs (R.filter (pickF o))).2 then (R, ⟨0, 0, (grpsF o.group o.aggs (R.filter (pickF o))).1⟩) else (R, ⟨2, 0, []⟩))
  else if o.kind = 6 then (R, ⟨3, 0, []⟩) else (R, ⟨0, 0, []⟩)
theorem WeakV.tupA {d d2 : D} {H H2 : HpD} {cs cs2 : List D} (k : WeakV d H d2 H2) (h : D.les cs cs2) : WeakV (.tup [d, .agg cs]) H (.tup [d2, .agg cs2]) H2 := by
  intro G ψ S hp v s kv
  simp only [VD, VDl] at kv
  obtain ⟨l', rfl, x, r, rfl, kx, y, r2, rfl, ⟨ly, rfl, ky⟩, rfl⟩ := kv
  obtain ⟨ψ', S', x1, s1, k1⟩ := k _ ψ S hp x s kx
  refine ⟨ψ', S', x1, s1, ?_⟩
  simp only [VD, VDl]
  exact ⟨_, rfl, x, _, rfl, k1, _, _, rfl, ⟨ly, rfl, VDl.le _ _ h (VDl.mono x1 _ ky)⟩, rfl⟩
theorem clip_part (L : HAggr p ext F) {H : HpD} {b m n : Nat} (hm : m ≤ n) : WcD p ext (F 39) [.slice b 0 1 m n true] H (fun d H' => d = .slice b 0 1 m m true ∧ H' = H) := by
  refine wc_of L.h39 (M := M39) rfl ok39 rfl (sem_run 9000 _ ?_)
  have e : slcD 1 (.slice b 0 1 m n true) none (some (.lit (.int .i64 (m : Int)))) (some (.lit (.int .i64 (m : Int)))) = some (.slice b 0 1 m m true) := by
    simp [slcD, bndD, slcV, sliceO, needH, boundM, boundH, boundL, ble_d, hm]
  simp [e]
  refine sem_ret ?_
  simp [M39]
theorem clip_nil (L : HAggr p ext F) {H : HpD} : WcD p ext (F 39) [.lit .nilslice] H (fun d H' => d = .lit .nilslice ∧ H' = H) := by
  refine wc_of L.h39 (M := M39) rfl ok39 rfl (sem_run 9000 _ ?_)
  simp [slc_nil]
  refine sem_ret ?_
  simp [M39]
structure DoOk (ks : List Int) (n : Nat) (R : List Row) (o : Op) : Prop where
  rows : RowsS R
  good : GoodRs ks R
  rise : KeyRise R
  op : OpS n o
  row : o.row.length < 1000
  cols : o.kind = 4 → o.cols.length < 1000 ∧ ∀ c, c ∈ o.cols → InK ks c
  aggs : o.kind = 5 → o.group < ks.length ∧ o.aggs.length < 900 ∧ ∀ a, a ∈ o.aggs → InK ks a.col
end Go.Lib
end

section
set_option maxRecDepth 10000
namespace Go.Lib
open Go.Vm Go.Dv Go.Srt
variable {p : Prog} {ext : Ext} {F : Nat → Nat}
structure GrTN (H0 H : HpD) (s : D) (R : List Row) : Prop where
  x : GrX H0 H 1 s (rowsEN R)
  tight : ∀ b o z n c, ¬ s = .slice b o z n c false
theorem GrTN.at_ {H0 H : HpD} {s : D} {R : List Row} (g : GrTN H0 H s R) : (s = .lit .nilslice ∧ R = []) ∨ ∃ b, s = .slice b 0 1 R.length R.length true ∧ H0.next ≤ b ∧ b < H.next ∧ H.blk b = .cells (rowsEN R).flatten false := by
  rcases g.x.at_ with ⟨h, h'⟩ | ⟨b, ex, rfl, h1, h2, h3⟩
  · exact .inl ⟨h, by simpa [rowsEN] using h'⟩
  · have : ex = true := by
      cases ex with
      | true => rfl
      | false => exact absurd rfl (g.tight _ _ _ _ _)
    subst this
    exact .inr ⟨b, by simp, h1, h2, h3⟩
theorem GrTN.keep {H0 H H1 : HpD} {s : D} {R : List Row} (g : GrTN H0 H s R) (hs : Sub H H1) (hk : ∀ x, s.hasB x → H1.blk x = H.blk x) : GrTN H0 H1 s R := ⟨g.x.keep hs hk, g.tight⟩
theorem GrTN.far {H0 H H1 : HpD} {s : D} {R : List Row} (g : GrTN H0 H s R) (hs : Sub H H1) : GrTN H0 H1 s R := g.keep hs fun x hx => hs.blk x (g.x.gr.far hx).2
theorem mstill_ownN (L : HModl p ext F) {l : List Row} {H : HpD} (hl : Fine l) : WcD p ext (F 72) [rowsD l] H (fun d H' => Gr H H' 1 d (rowsEN l) ∧ ∀ b o z n c, ¬ d = .slice b o z n c false) := by
  refine wc_of L.h72 (M := M72) rfl ok72 rfl (sem_run 9000 _ ?_)
  simp
  refine sem_loop (StillIN H l) ?_ (k := l.length) ⟨0, .lit .nilslice, by simp, by simp, rfl, by simpa [rowsEN] using Gr.start⟩
  rintro k fr H' ⟨i, s, rfl, hi, rfl, g⟩
  refine sem_run 9000 _ ?_
  simp
  have hl1 := hl.1
  by_cases c : i < l.length
  · have hx : l[i]? = some l[i] := by simp
    have hr := hl.2 l[i] (by simp)
    simp [c]
    refine sf (schm_rowN L.aggr.schm hr) ?_
    simp
    refine sem_push (g.mono sR) rfl rfl (roomyD (by simp; omega) (by simp; omega)) fun s' H1 g1 _ _ => ?_
    simp
    refine sem_ok ?_
    have hw : wr .i64 ((i : Int) + 1) = ((i + 1 : Nat) : Int) := by rw [wr_of] <;> omega
    rw [rowsEN_snoc hx] at g1
    exact ⟨_, by omega, i + 1, s', rfl, by omega, by rw [hw], g1⟩
  · simp [c]
    refine sem_exit (sem_run 9000 _ ?_)
    have : i = l.length := by omega
    subst this
    rw [List.take_length] at g
    simp
    refine sem_call (clip_tight L.aggr g) fun d H2 g2 => ?_
    refine sem_run 9000 _ ?_
    simp
    refine sem_ret ?_
    simp [M72]
    exact g2
theorem cell_rowN {R : List Row} {h : Nat} {r : Row} (hr : R[h]? = some r) : (rowsEN R).flatten[h]? = some (rowDN r) := by
  have e : (rowsEN R)[h]? = some [rowDN r] := by simp [rowsEN, hr]
  simpa using flat_get (j := 0) rowsN_one e (by omega)
theorem bsearchN (L : HModl p ext F) {H0 H : HpD} {s : D} {R : List Row} {k : Int} (g : GrTN H0 H s R) (hl : R.length < 1000000) (hk : KeyRise R) : WcD p ext (F 79) [s, .lit (.int .i64 k), .func (F 80) [] []] H (fun d H' => H' = H ∧ ∃ i, KeyAt R k i ∧ d = .tup [.lit (.int .i64 (i : Int)), .lit (.bool (hasK R k i))]) := by
  refine wc_of L.h79 (M := M79) rfl ok79 rfl (sem_run 9000 _ ?_)
  simp
  have hlen : lenbD s = some (.lit (.int .i64 (R.length : Int))) := by rw [g.x.gr.lenb, rowsEN_len]
  simp [hlen]
  refine sem_loop (fun w fr H' => BsI s R k (.func (F 80) [] []) w fr H' H) ?_ (k := R.length) ⟨0, R.length, by simp, by simp, by simp, fun q r h => by omega, fun q r h1 h2 => by have := (List.getElem?_eq_some_iff.1 h2).1; omega, rfl, rfl⟩
  rintro w fr H' ⟨i, j, rfl, hij, hj, hlo, hhi, rfl, rfl⟩
  refine sem_run 9000 _ ?_
  simp
  by_cases c : i < j
  · rcases g.at_ with ⟨rfl, rfl⟩ | ⟨b, rfl, h1, h2, h3⟩
    · simp at hj; omega
    · obtain ⟨m, hm⟩ : ∃ m, m = (i + j) / 2 := ⟨_, rfl⟩
      obtain ⟨r, hr⟩ : ∃ r, R[m]? = some r := ⟨R[m]'(by omega), by simp⟩
      have w1 : wr .i64 ((i : Int) + j) = (i : Int) + j := by rw [wr_of] <;> omega
      have w2 : wr .u64 ((i : Int) + j) = (i : Int) + j := by rw [wr_u64m]; omega
      have w3 : shrI .u64 ((i : Int) + j) 1 = (m : Int) := by rw [shr1]; omega
      have w4 : wr .i64 (m : Int) = (m : Int) := by rw [wr_of] <;> omega
      have w5 : wr .i64 ((m : Int) + 1) = ((m + 1 : Nat) : Int) := by rw [wr_of] <;> omega
      have hml : m < R.length := by omega
      have hc := cell_rowN hr
      simp [c, w1, w2, w3, w4, hml, h3, hc, -List.length_flatten]
      refine sf (modl_insert1 L (r := r) (k := k)) ?_
      have hmono : ∀ p q x y, p < q → R[p]? = some x → R[q]? = some y → keyF x < keyF y := fun p q x y hpq hx hy => by
        obtain ⟨hp', rfl⟩ := List.getElem?_eq_some_iff.1 hx
        obtain ⟨hq', rfl⟩ := List.getElem?_eq_some_iff.1 hy
        exact List.pairwise_iff_getElem.1 hk p q hp' hq' hpq
      by_cases cc : keyF r < k
      · have ci : cmpI (keyF r) k < 0 := by unfold cmpI; rw [if_pos cc]; omega
        simp [ci, w5]
        refine sem_ok ?_
        refine ⟨j - (m + 1), by omega, m + 1, j, rfl, by omega, hj, fun q x h1 h2 => ?_, hhi, by simp, rfl⟩
        by_cases e : q = m
        · subst e; rw [hr] at h2; cases h2; exact cc
        · have := hmono q m x r (by omega) h2 hr; omega
      · have ci : ¬ cmpI (keyF r) k < 0 := by unfold cmpI; rw [if_neg cc]; split <;> omega
        simp [ci]
        refine sem_ok ?_
        refine ⟨m - i, by omega, i, m, rfl, by omega, by omega, hlo, fun q x h1 h2 => ?_, by simp, rfl⟩
        by_cases e : q = m
        · subst e; rw [hr] at h2; cases h2; omega
        · have := hmono m q r x (by omega) hr h2; omega
  · have : i = j := by omega
    subst this
    simp
    refine sem_exit (sem_run 9000 _ ?_)
    have hat : KeyAt R k i := ⟨hj, hlo, hhi⟩
    by_cases c2 : i < R.length
    · obtain ⟨r, hr⟩ : ∃ r, R[i]? = some r := ⟨R[i], by simp⟩
      have hc := cell_rowN hr
      rcases g.at_ with ⟨rfl, rfl⟩ | ⟨b, rfl, h1, h2, h3⟩
      · simp at c2
      · simp [c2, h3, hc, -List.length_flatten]
        refine sf (modl_insert1 L (r := r) (k := k)) ?_
        simp
        refine sem_ret ?_
        simp [M79]
        refine ⟨i, hat, rfl, ?_⟩
        rw [hasK, hr]
        simp only [cmpI_eq]
    · simp [c2]
      refine sem_ret ?_
      simp [M79]
      refine ⟨i, hat, rfl, ?_⟩
      have : R[i]? = none := by simp; omega
      rw [hasK, this]
theorem sl_insertN (L : HModl p ext F) {H0 H : HpD} {s : D} {R : List Row} {i : Nat} {r : Row} {m : Md} (g : GrTN H0 H s R) (hl : R.length < 1000000) (hi : i ≤ R.length) : WcD p ext (F 81) [s, .lit (.int .i64 (i : Int)), .row 1 m [[rowDN r]]] H (fun d H' => Gr H0 H' 1 d (rowsEN (putAt R i r)) ∧ (∀ x, d.hasB x → H.next ≤ x) ∧ H.next ≤ H'.next ∧ ∀ x, x < H.next → ¬ s.hasB x → H'.blk x = H.blk x) := by
  refine wc_of L.h81 (M := M81) rfl ok81 rfl (sem_run 9000 _ ?_)
  have hlen : lenbD s = some (.lit (.int .i64 (R.length : Int))) := by rw [g.x.gr.lenb, rowsEN_len]
  rcases g.at_ with ⟨rfl, rfl⟩ | ⟨b, rfl, h1, h2, h3⟩
  · simp at hi; subst hi
    simp [slc_nil0]
    refine sem_push g.x.gr rfl rfl (roomyD (by simp [rowsEN]) (by simp [rowsEN])) fun s' H1 g1 k1 n1 => ?_
    obtain ⟨n1, rfl⟩ := n1
    simp
    refine sem_ret ?_
    simp [M81]
    exact ⟨g1, fun x hx => by simp only [D.hasB] at hx; omega, n1, k1⟩
  · simp [slc_from hi]
    by_cases c : i = R.length
    · subst c
      simp
      refine sem_push g.x.gr rfl rfl (roomyD (by simp; omega) (by simp; omega)) fun s' H1 g1 k1 n1 => ?_
      obtain ⟨n1, rfl⟩ := n1
      simp
      refine sem_ret ?_
      simp [M81]
      have e : rowsEN (putAt R R.length r) = rowsEN R ++ [[rowDN r]] := by simp [putAt, rowsEN]
      rw [e]
      exact ⟨by simpa using g1, fun x hx => by simp only [D.hasB] at hx; omega, n1, k1⟩
    · have c' : ¬ (i : Int) = (R.length : Int) := by omega
      have hlt : i < R.length := by omega
      obtain ⟨m', hm⟩ : ∃ m', R.length + 1 - i = m' := ⟨_, rfl⟩
      have w1 : wr .i64 ((R.length : Int) + 1) = (R.length : Int) + 1 := by rw [wr_of] <;> omega
      have w2 : wr .i64 ((R.length : Int) + 1 - (i : Int)) = (m' : Int) := by rw [wr_of] <;> omega
      have w3 : wr .i64 ((i : Int) + 1) = ((i + 1 : Nat) : Int) := by rw [wr_of] <;> omega
      have hgt : (R.length : Int) < (R.length : Int) + 1 := by omega
      have hfl : (rowsEN R).flatten.length = R.length := by rw [flatten_len rowsN_one, rowsEN_len]; omega
      obtain ⟨cs, hcs⟩ : ∃ cs, cs = (rowsEN R).flatten := ⟨_, rfl⟩
      rw [← hcs] at h3 hfl
      have hap := appz (m := m') h3 hfl hi (by omega) (by omega)
      have hfs : flatsD ((cs.drop i).take (R.length - i)) = true := by
        have : ∀ l : List Row, flatsD (rowsEN l).flatten = true := fun l => flatsD_flatten rowsN_flats
        have e : (cs.drop i).take (R.length - i) = (rowsEN (R.drop i)).flatten := by
          rw [List.take_of_length_le (by simp; omega), hcs, rowsEN_flat, rowsEN_flat, List.map_drop]
        rw [e]; exact this _
      have hA : (cs.take i).length = i := by simp; omega
      have hc1 : i + 1 ≤ (cs.take i ++ List.replicate m' (D.lit .nilslice)).length := by simp; omega
      simp [c', w1, hgt, slc_to hi, caps_slice, w2, hap]
      rw [slc_from (i := i) (by omega)]
      simp
      rw [copy_row (cs := cs.take i ++ List.replicate m' (.lit .nilslice)) (by simp) (by omega) hc1 (by simp)]
      have hs1 : slcD 1 (.slice H.next 0 1 (i + m') (i + m') false) (some (.lit (.int .i64 ((i : Int) + 1)))) none none = some (.slice H.next (0 + (i + 1) * 1) 1 (R.length - i) (R.length - i) false) := by
        have := slc_from (sz := 1) (b := H.next) (o := 0) (n := i + m') (cap := i + m') (i := i + 1) (ex := false) (by omega)
        rw [show i + m' - (i + 1) = R.length - i by omega] at this
        simpa using this
      have hc2 : i + 1 + (R.length - i) ≤ (spliceD (cs.take i ++ List.replicate m' (D.lit .nilslice)) i [rowDN r]).length := by
        rw [spliceD_length (by simp; omega)]; simp; omega
      simp [w3, hs1, slc_from hi]
      rw [copy_slice (cs := spliceD (cs.take i ++ List.replicate m' (D.lit .nilslice)) i [rowDN r]) (cs2 := cs) (ro := false) (by simp) (by rw [put_blk, if_neg (by omega), new_blk, if_neg (by omega)]; exact h3) (by omega) (by simpa using hc2) (by omega) hfs]
      have hfin : spliceD (spliceD (cs.take i ++ List.replicate m' (D.lit .nilslice)) i [rowDN r]) (i + 1) ((cs.drop i).take (R.length - i)) = (rowsEN (putAt R i r)).flatten := by
        have := put_cells (A := cs.take i) (D0 := (cs.drop i).take (R.length - i)) (M := List.replicate m' (D.lit .nilslice)) (x := rowDN r) (by simp; omega)
        rw [hA] at this
        rw [this, List.take_of_length_le (i := R.length - i) (l := cs.drop i) (by simp; omega), hcs, rowsEN_flat, rowsEN_flat, putAt, List.map_append, List.map_cons, List.map_take, List.map_drop]
        rfl
      simp [hfin]
      refine sem_ret ?_
      simp [M81]
      refine ⟨⟨⟨Nat.le_trans g.x.gr.sub.next (by simp), fun x hx => ?_⟩, rowsN_one, .inr ⟨H.next, false, rowsEN (putAt R i r), ?_, g.x.gr.sub.next, by simp, by simp, D.less_refl _⟩⟩, fun x hx => by simp only [D.hasB] at hx; omega, fun x hx _ => by rw [if_neg (by omega), if_neg (by omega)]⟩
      · have := g.x.gr.sub.next
        rw [put_blk, if_neg (by omega), new_blk, if_neg (by omega)]
        exact g.x.gr.sub.blk x hx
      · have e : (rowsEN (putAt R i r)).length = i + m' := by simp [putAt]; omega
        rw [e]
theorem modl_insertN (L : HModl p ext F) {H0 H : HpD} {s : D} {R : List Row} {r : Row} (g : GrTN H0 H s R) (hl : R.length < 1000000) (hk : KeyRise R) (hr : r.length < 1000000) : WcD p ext (F 74) [s, rowD r] H (fun d H' => ∃ i, KeyAt R (keyF r) i ∧ ((hasK R (keyF r) i = true ∧ d = .tup [s, .agg [.lit (.int .i64 1), .lit (.int .i64 0), .lit .nilslice]] ∧ Gr H0 H' 1 s (rowsEN R)) ∨ (hasK R (keyF r) i = false ∧ ∃ s', d = .tup [s', .agg [.lit (.int .i64 0), .lit (.int .i64 1), .lit .nilslice]] ∧ Gr H0 H' 1 s' (rowsEN (putAt R i r))))) := by
  refine wc_of L.h74 (M := M74) rfl ok74 rfl (sem_run 9000 _ ?_)
  simp
  refine sf (modl_key L) ?_
  simp
  refine sem_call (bsearchN L (g.far sR) hl hk) ?_
  rintro _ H2 ⟨rfl, i, hi, rfl⟩
  refine sem_run 9000 _ ?_
  simp
  cases hh : hasK R (keyF r) i with
  | true =>
    simp
    refine sem_ret ?_
    simp [M74]
    exact ⟨i, hi, hh, (g.far sR).x.gr⟩
  | false =>
    simp
    refine sf (schm_rowN L.aggr.schm hr) ?_
    simp
    refine sem_call (sl_insertN L (g.far sR) hl hi.1) fun d H3 g3 => ?_
    obtain ⟨g3, f3, n3, k3⟩ := g3
    simp at n3 f3
    have h5 : H3.blk H.next = .cells [.lit (.int .i64 0), .lit (.int .i64 0), .lit .nilslice] false := by
      rw [k3 H.next (by simp) (fun h => by have := (g.x.gr.far h).2; omega)]; simp
    have l5 : H.next < H3.next := by omega
    refine sem_run 9000 _ ?_
    simp
    simp [h5]
    refine sem_ret ?_
    simp [M74]
    refine ⟨i, hi, hh, g3.keep (g3.sub.put g.x.gr.sub.next) (by simp) fun x hx => ?_⟩
    rw [put_blk, if_neg (by have := f3 x hx; omega)]
theorem indexFuncN (L : HModl p ext F) {H0 H : HpD} {s : D} {R : List Row} {f : Nat} {cs : List D} {pf : Row → Bool} (g : GrTN H0 H s R) (hl : R.length < 1000000) (hf : ∀ r, r ∈ R → FnD p ext f (rowD r :: cs) (.lit (.bool (pf r)))) : WcD p ext (F 82) [s, .func f [] cs] H (fun d H' => H' = H ∧ ∃ n, IxR R pf n ∧ d = .lit (.int .i64 n)) := by
  refine wc_of L.h82 (M := M82) rfl ok82 rfl (sem_run 9000 _ ?_)
  simp
  have hlen : lenbD s = some (.lit (.int .i64 (R.length : Int))) := by rw [g.x.gr.lenb, rowsEN_len]
  simp [hlen]
  refine sem_loop (fun w fr H' => IxI s R pf (.func f [] cs) w fr H' H) ?_ (k := R.length) ⟨0, by simp, by simp, fun q r h => by omega, rfl, rfl⟩
  rintro w fr H' ⟨i, rfl, hi, hlo, rfl, rfl⟩
  refine sem_run 9000 _ ?_
  simp
  by_cases c : i < R.length
  · rcases g.at_ with ⟨rfl, rfl⟩ | ⟨b, rfl, h1, h2, h3⟩
    · simp at c
    · obtain ⟨r, hr⟩ : ∃ r, R[i]? = some r := ⟨R[i], by simp⟩
      have hc := cell_rowN hr
      have wi : wr .i64 ((i : Int) + 1) = ((i + 1 : Nat) : Int) := by rw [wr_of] <;> omega
      simp [c, h3, hc, -List.length_flatten]
      refine sem_fn (hf r (List.mem_of_getElem? hr)) (by simp) (sem_run 9000 _ ?_)
      cases hp : pf r with
      | true =>
        simp
        refine sem_ret ?_
        simp
        refine sem_ret ?_
        simp [M82]
        exact .inr ⟨i, rfl, c, hlo, fun x hx => by rw [hr] at hx; cases hx; exact hp⟩
      | false =>
        simp
        refine sem_ok ?_
        refine ⟨R.length - (i + 1), by omega, i + 1, rfl, by omega, fun q x h e => ?_, by rw [wi], rfl⟩
        by_cases e2 : q = i
        · subst e2; rw [hr] at e; cases e; exact hp
        · exact hlo q x (by omega) e
  · have : i = R.length := by omega
    subst this
    simp
    refine sem_exit (sem_run 9000 _ ?_)
    simp
    refine sem_ret ?_
    simp [M82]
    refine .inl ⟨rfl, fun r hr => ?_⟩
    obtain ⟨q, hq⟩ := List.mem_iff_getElem?.1 hr
    exact hlo q r (List.getElem?_eq_some_iff.1 hq).1 hq
def DelIN (H0 H : HpD) (b : Nat) (R : List Row) (pf : Row → Bool) (cv : D) (w : Nat) (fr : FrD) (H' : HpD) : Prop :=
  ∃ (i j : Nat) (cs : List D), w = R.length - j ∧ i ≤ j ∧ j ≤ R.length ∧ fr = [(0, .slice b 0 1 R.length R.length true), (1, cv), (5, .lit (.int .i64 (i : Int))), (6, .lit (.int .i64 (j : Int)))] ∧
    Sub H0 H' ∧ H'.next = H.next ∧ H'.blk b = .cells cs false ∧ cs.length = R.length ∧ i = (keepF pf (R.take j)).length ∧ cs.take i = (keepF pf (R.take j)).map rowDN ∧ cs.drop j = (R.drop j).map rowDN
theorem deleteFuncN (L : HModl p ext F) {H0 H : HpD} {s : D} {R : List Row} {f : Nat} {cl : List D} {pf : Row → Bool} (g : GrTN H0 H s R) (hl : R.length < 1000000) (hf : ∀ r, r ∈ R → FnD p ext f (rowD r :: cl) (.lit (.bool (pf r)))) : WcD p ext (F 76) [s, .func f [] cl] H (fun d H' => (d = .lit .nilslice ∧ keepF pf R = [] ∧ Sub H0 H') ∨ ∃ b cs, d = .slice b 0 1 (keepF pf R).length R.length true ∧ (keepF pf R).length ≤ R.length ∧ H0.next ≤ b ∧ b < H'.next ∧ H'.blk b = .cells cs false ∧ cs.take (keepF pf R).length = (keepF pf R).map rowDN ∧ Sub H0 H') := by
  refine wc_of L.h76 (M := M76) rfl ok76 rfl (sem_run 9000 _ ?_)
  simp
  refine sem_call (indexFuncN L g hl hf) ?_
  rintro _ H2 ⟨rfl, n, hn, rfl⟩
  refine sem_run 9000 _ ?_
  simp
  rcases hn with ⟨rfl, hall⟩ | ⟨i0, rfl, hi0, hlo, hat⟩
  · have hk : keepF pf R = R := List.filter_eq_self.2 fun r hr => by simp [hall r hr]
    simp
    refine sem_ret ?_
    simp [M76]
    rcases g.at_ with ⟨rfl, rfl⟩ | ⟨b, rfl, h1, h2, h3⟩
    · left; exact ⟨rfl, rfl, g.x.gr.sub⟩
    · right
      rw [hk]
      refine ⟨b, by simp, Nat.le_refl _, h1, h2, _, h3, ?_, g.x.gr.sub⟩
      rw [rowsEN_flat, List.take_of_length_le (by simp)]; rfl
  · rcases g.at_ with ⟨rfl, rfl⟩ | ⟨b, rfl, h1, h2, h3⟩
    · simp at hi0
    · have hne : ¬ (i0 : Int) = -1 := by omega
      obtain ⟨r0, hr0⟩ : ∃ r, R[i0]? = some r := ⟨R[i0], by simp⟩
      have hp0 := hat r0 hr0
      have w0 : wr .i64 ((i0 : Int) + 1) = ((i0 + 1 : Nat) : Int) := by rw [wr_of] <;> omega
      have hk0 : keepF pf (R.take i0) = R.take i0 := List.filter_eq_self.2 fun r hr => by
        obtain ⟨q, hq⟩ := List.mem_iff_getElem?.1 hr
        rw [List.getElem?_take] at hq
        split at hq
        · simp [hlo q r (by assumption) hq]
        · cases hq
      have hk1 : keepF pf (R.take (i0 + 1)) = R.take i0 := by
        rw [List.take_add_one, hr0]
        unfold keepF at hk0 ⊢
        rw [List.filter_append, hk0]; simp [hp0]
      simp [hne, w0]
      refine sem_loop (DelIN H0 H2 b R pf (.func f [] cl)) ?_ (k := R.length - (i0 + 1)) ⟨i0, i0 + 1, (rowsEN R).flatten, rfl, by omega, by omega, by simp, g.x.gr.sub, rfl, h3, by rw [rowsEN_flat]; simp, by rw [hk1]; simp; omega, by rw [hk1, rowsEN_flat, List.map_take]; rfl, by rw [rowsEN_flat, List.map_drop]; rfl⟩
      rintro w fr H3 ⟨i, j, cs, rfl, hij, hj, rfl, s3, n3, b3, hcl, hil, hci, hcj⟩
      refine sem_run 9000 _ ?_
      simp
      have lb : b < H3.next := by omega
      by_cases c : j < R.length
      · obtain ⟨r, hr⟩ : ∃ r, R[j]? = some r := ⟨R[j], by simp⟩
        have hcr : cs[j]? = some (rowDN r) := by
          have := congrArg (fun l => l[0]?) hcj
          simpa [hr] using this
        have wj : wr .i64 ((j : Int) + 1) = ((j + 1 : Nat) : Int) := by rw [wr_of] <;> omega
        have wi : wr .i64 ((i : Int) + 1) = ((i + 1 : Nat) : Int) := by rw [wr_of] <;> omega
        have hdr : cs.drop (j + 1) = (R.drop (j + 1)).map rowDN := by
          rw [← List.drop_drop, hcj, ← List.map_drop, List.drop_drop]
        simp [c, b3, hcr]
        refine sem_fn (hf r (List.mem_of_getElem? hr)) (by simp) (sem_run 9000 _ ?_)
        cases hp : pf r with
        | true =>
          have hk : keepF pf (R.take (j + 1)) = keepF pf (R.take j) := by
            rw [List.take_add_one, hr]; unfold keepF; rw [List.filter_append]; simp [hp]
          simp
          refine sem_ok ?_
          exact ⟨R.length - (j + 1), by omega, i, j + 1, cs, rfl, by omega, by omega, by rw [wj], s3, n3, b3, hcl, by rw [hk]; exact hil, by rw [hk]; exact hci, hdr⟩
        | false =>
          have hk : keepF pf (R.take (j + 1)) = keepF pf (R.take j) ++ [r] := by
            rw [List.take_add_one, hr]; unfold keepF; rw [List.filter_append]; simp [hp]
          have il : i < R.length := by omega
          have hwl : i + 1 ≤ cs.length := by omega
          simp [il, b3, hwl]
          refine sem_ok ?_
          refine ⟨R.length - (j + 1), by omega, i + 1, j + 1, cs.set i (rowDN r), rfl, by omega, by omega, by rw [wj, wi], s3.put h1, by simpa using n3, by rw [put_blk, if_pos rfl, splice_one (by omega)], by simpa using hcl, by rw [hk]; simp; exact hil, ?_, ?_⟩
          · rw [hk, List.map_append, ← hci, List.take_add_one, List.take_set_of_le (Nat.le_refl _), List.getElem?_set_self (by omega)]; rfl
          · rw [List.drop_set_of_lt (by omega), hdr]
      · have : j = R.length := by omega
        subst this
        rw [List.take_length] at hil hci
        simp
        refine sem_exit (sem_run 9000 _ ?_)
        have hir : i ≤ R.length := hij
        obtain ⟨H4, cs', e4, n4, k4, b4, t4⟩ := clear_slice (o := i) (n := R.length - i) (c := R.length - i) (ex := true) b3 (by omega)
        simp [slc_from hir, slc_to hir, e4]
        refine sem_ret ?_
        simp [M76]
        refine ⟨b, ⟨rfl, hil⟩, by omega, h1, by omega, cs', b4, ?_, ⟨by have := s3.next; omega, fun x hx => ?_⟩⟩
        · rw [← hil, t4, hci]
        · rw [k4 x (by omega)]; exact s3.blk x hx
def UpdIN (H0 : HpD) (o : Op) (R : List Row) (k : Nat) (fr : FrD) (H : HpD) : Prop :=
  ∃ (i : Nat) (M : List Row) (s : D), k = R.length - i ∧ i ≤ R.length ∧ updF o (R.take i) = some M ∧
    fr = [(0, rowsDN R), (3, .rptr o.c 0), (5, .ptr H0.next 0), (6, s), (7, .lit (.int .i64 (cntF o (R.take i) : Int))), (14, rowsDN R), (15, .lit (.int .i64 (R.length : Int))), (16, .lit (.int .i64 (i : Int)))] ∧
    Gr H0 H 1 s (rowsEN (M ++ R.drop i)) ∧ H.blk H0.next = .cells [.lit (.int .i64 0), .lit (.int .i64 0), .lit .nilslice] false ∧ ¬ s.hasB H0.next ∧ H0.next < H.next
theorem modl_updateN (L : HModl p ext F) {n : Nat} {R : List Row} {o : Op} {H : HpD} (hR : RowsS R) (ho : OpS n o) : WcD p ext (F 75) [rowsDN R, .agg o.c] H (fun d H' => (∃ M s, updF o R = some M ∧ d = .tup [s, .agg [.lit (.int .i64 0), .lit (.int .i64 (cntF o R : Int)), .lit .nilslice]] ∧ Gr H H' 1 s (rowsEN M)) ∨ (updF o R = none ∧ d = .tup [rowsDN R, .agg [.lit (.int .i64 2), .lit (.int .i64 0), .lit .nilslice]] ∧ Sub H H')) := by
  refine wc_of L.h75 (M := M75) rfl ok75 rfl (sem_run 9000 _ ?_)
  simp
  refine sem_call ((mstill_ownN L hR.fine).args (by simp)) fun d H1 g1 => ?_
  obtain ⟨g1, _⟩ := g1
  have hR1 := hR.len
  have h5 : H1.blk H.next = .cells [.lit (.int .i64 0), .lit (.int .i64 0), .lit .nilslice] false := by
    rw [g1.sub.blk H.next (by simp)]; simp
  have n5 := g1.sub.next
  simp at n5
  refine sem_run 9000 _ ?_
  simp
  refine sem_loop (UpdIN H o R) ?_ (k := R.length) ⟨0, [], d, by simp, by simp, by simp [updF], by simp [cntF], by simpa using g1.base sR, h5, fun h => by have := (g1.far h).1; rw [Dv.new_next] at this; omega, by omega⟩
  rintro k fr H2 ⟨i, M, s, rfl, hi, hM, rfl, g, b5, s5, l5⟩
  refine sem_exact g fun H3 gx k3 n3 => ?_
  have b5' := k3 H.next s5
  rw [b5] at b5'
  have hMl := updF_len hM
  rw [List.length_take, Nat.min_eq_left hi] at hMl
  refine sem_run 9000 _ ?_
  simp
  by_cases c : i < R.length
  · obtain ⟨r, hr⟩ : ∃ r, R[i]? = some r := ⟨R[i], by simp⟩
    have hrm := List.mem_of_getElem? hr
    have hdrop : R.drop i = r :: R.drop (i + 1) := by
      rw [List.drop_eq_getElem_cons c]; congr; exact (List.getElem?_eq_some_iff.1 hr).2
    have wi : wr .i64 ((i : Int) + 1) = ((i + 1 : Nat) : Int) := by rw [wr_of] <;> omega
    have hcl := cntF_le (o := o) (R := R.take i)
    rw [List.length_take, Nat.min_eq_left hi] at hcl
    have wc : wr .i64 ((cntF o (R.take i) : Int) + 1) = ((cntF o (R.take i) + 1 : Nat) : Int) := by rw [wr_of] <;> omega
    have hcs := cntF_snoc (o := o) hr
    have hus := updF_snoc hr hM
    simp [c, hr, -getElem?_pos]
    refine sf (pred_eval L.pred n o.pred ho.pred r) ?_
    by_cases cp : evalF o.pred r = 1
    · have hp : pickF o r = true := by unfold pickF; exact decide_eq_true cp
      rw [hp] at hcs hus
      simp only [if_true] at hcs hus
      simp [cp]
      refine sf (aggr_setN L.aggr L.x45 (l := o.sets) (hR.rows r hrm) ho.sets (hR.vals r hrm) ho.vals) ?_
      cases hs : setF r o.sets with
      | none =>
        rw [hs] at hus
        simp [setDN, b5']
        refine sem_ret ?_
        simp
        refine sem_ret ?_
        simp [M75]
        exact ⟨updF_none hus, (gx.gr.sub.put (Nat.le_refl _))⟩
      | some r' =>
        rw [hs] at hus
        simp [setDN]
        rcases gx.at_ with ⟨rfl, he⟩ | ⟨b, ex, rfl, h1, h2, h3⟩
        · exfalso
          have := congrArg List.length he
          simp at this; omega
        · have hlM : (rowsEN (M ++ R.drop i)).length = R.length := by simp; omega
          have hne : b ≠ H.next := fun e => s5 (by simp only [D.hasB]; omega)
          have hsl : i + 1 ≤ (rowsEN (M ++ R.drop i)).flatten.length := by rw [flatten_len rowsN_one]; omega
          have her : (rowsEN (M ++ R.drop i))[i]? = some [rowDN r] := by
            simp [rowsEN, hdrop, hMl]
          have hlM' : M.length + (R.length - i) = R.length := by omega
          simp [hlM', c, h3, hsl, wc, -List.length_flatten]
          refine sem_ok ?_
          have gw := gx.whole (x := [rowDN r']) her rfl h1 h2
          have es : (rowsEN (M ++ R.drop i)).set i [rowDN r'] = rowsEN (M ++ [r'] ++ R.drop (i + 1)) := by
            rw [hdrop]; unfold rowsEN
            simp [hMl]
          rw [es, Nat.mul_one] at gw
          simp at hus
          refine ⟨R.length - (i + 1), by omega, i + 1, M ++ [r'], .slice b 0 1 R.length R.length ex, rfl, by omega, hus, by rw [wi, hcs]; simp, by simpa [hlM'] using gw.gr, ?_, ?_, ?_⟩
          · rw [put_blk, if_neg (fun e => hne e.symm)]; exact b5'
          · simp only [D.hasB]; exact fun e => hne e.symm
          · simp; omega
    · have hp : pickF o r = false := by unfold pickF; exact decide_eq_false cp
      rw [hp] at hcs hus
      simp at hcs hus
      simp [cp]
      refine sem_ok ?_
      refine ⟨R.length - (i + 1), by omega, i + 1, M ++ [r], s, rfl, by omega, hus, by rw [wi, hcs], ?_, b5', s5, by omega⟩
      have := gx.gr
      rw [hdrop] at this
      simpa using this
  · have : i = R.length := by omega
    subst this
    rw [List.take_length] at hM
    simp
    refine sem_exit (sem_run 9000 _ ?_)
    simp [b5']
    refine sem_ret ?_
    simp [M75]
    have gg := gx.gr
    rw [List.drop_length, List.append_nil] at gg
    refine ⟨M, hM, gg.keep (gg.sub.put (Nat.le_refl _)) (by simp) fun x hx => ?_⟩
    rw [put_blk, if_neg]
    rintro rfl
    exact s5 hx
end Go.Lib
end

section
set_option maxRecDepth 10000
namespace Go.Lib
open Go.Vm Go.Dv Go.Srt
variable {p : Prog} {ext : Ext} {F : Nat → Nat}
theorem groups_negN (L : HAggr p ext F) (hx : ∀ args h, ext (F 45) args h = extV .add64 args h) {l : List Row} {c : Int} {ags : List Ag} (hl : Fine l) (ha : ∀ a, a ∈ ags → AgOk l a) (hb : ags.length < 1000) (hc : c < 0) : FnD p ext (F 32) [rowsD l, .lit (.int .i64 c), agsD ags] (.tup [rowsDN (if oks l ags then [vals l ags] else []), .lit (.bool (oks l ags))]) := by
  refine fn_of L.h32 (M := M32) rfl ok32 rfl fun H => sem_run 9000 _ ?_
  simp [hc]
  refine sem_call (all_rowN L hx (H0 := H) (r := []) hl ha (by simpa using hb) (by simpa [rowEN] using Gr.start)) ?_
  rintro _ H2 ⟨rfl, hs⟩
  cases hk : oks l ags with
  | true =>
    refine sem_run 19 _ ?_
    simp
    refine sem_unfz (sem_run 9000 _ ?_)
    simp
    refine sem_ret ?_
    simp [M32]
    have g : Gr H2 (H2.new (.cells [rowDN (vals l ags)] false)) 1 (.slice H2.next 0 1 1 1 true) (rowsEN [vals l ags]) := Gr.lit Sub.refl (by simp [rowsEN]) (by simp [rowsEN]) (by simp [rowsEN])
    obtain ⟨H3, w, sub, _⟩ := g.finN rowsN_underss
    exact ⟨H3, WeakV.tup2 w, hs.trans sub, by simp⟩
  | false =>
    refine sem_run 9000 _ ?_
    simp
    refine sem_ret ?_
    simp [M32]
    exact .le (sB hs) (by simp [rowsDN, rowsEN, D.le]) (by simp)
def grpDM (x : List Row × Bool) : D := .tup [rowsDN x.1, .lit (.bool x.2)]
theorem aggr_groupsM (L : HAggr p ext F) (hx : ∀ args h, ext (F 45) args h = extV .add64 args h) {ks : List Int} {l : List Row} {c : Int} {ags : List Ag} (hl : Fine l) (hg : GoodRs ks l) (hc : c < ks.length) (ha : ∀ a, a ∈ ags → InK ks a.col) (hb : ags.length < 900) :
    FnD p ext (F 32) [rowsD l, .lit (.int .i64 c), agsD ags] (grpDM (grpsF c ags l)) := by
  by_cases h : c < 0
  · have := groups_negN L hx (c := c) (ags := ags) hl (fun a h => AgOk.good hg (ha a h)) (by omega) h
    unfold grpsF
    rw [if_pos h]
    exact this
  · intro H
    refine WcD.drop ((groups_posN L hx (H := H) (c := c) (k := (ks[c.toNat]?).getD 0) (ags := ags) hl (fun r hr => ((hg r hr).at_ ⟨by omega, hc⟩).1) (fun l' hl' a h => AgOk.good (ks := ks) (fun r hr => hg r (hl' r hr)) (ha a h)) hb h).mono ?_)
    rintro d H' ⟨⟨l', hp1, hs, rfl⟩, hsub⟩
    rw [grp_srt ⟨by omega, hc⟩ ha hg hp1 hs]
    refine ⟨_, H', .refl, hsub, by simp, ?_, rfl⟩
    unfold grpsF grpDM
    rw [if_neg h]
end Go.Lib
end

section
set_option maxRecDepth 10000
namespace Go.Lib
open Go.Vm Go.Dv Go.Srt
variable {p : Prog} {ext : Ext} {F : Nat → Nat}
def Rs.cN (x : Rs) : List D := [.lit (.int .i64 x.err), .lit (.int .i64 x.n), rowsDN x.rows]
theorem rsN_unders {n : Nat} {x : Rs} : D.unders n x.cN := by simp [Rs.cN]
attribute [simp] rsN_unders
theorem rows_nilN : D.le (.lit .nilslice) (rowsDN []) := by simp [rowsDN, rowsEN, D.le]
theorem fin_ownN {H0 H : HpD} {s : D} {R : List Row} {cs : List D} {x : Rs} (g : Gr H0 H 1 s (rowsEN R)) (h : D.les cs x.cN) : Dv.Fin H0 (.tup [rowsDN R, .agg x.cN]) (.tup [s, .agg cs]) H := by
  obtain ⟨H2, w, sub, _⟩ := g.finN rowsN_underss
  exact ⟨H2, WeakV.tupA w h, sub, by simp⟩
theorem fin_rowN {H0 H : HpD} {R : List Row} {cs : List D} {x : Rs} (hs : Dv.Sub H0 H) (h : D.les cs x.cN) : Dv.Fin H0 (.tup [rowsDN R, .agg x.cN]) (.tup [rowsDN R, .agg cs]) H :=
  ⟨H, WeakV.tupA .refl h, hs, by simp⟩
theorem fin_partN {H0 H : HpD} {s : D} {R : List Row} {cs : List D} {x : Rs} (g : Part H0 H 1 s (rowsEN R)) (h : D.les cs x.cN) : Dv.Fin H0 (.tup [rowsDN R, .agg x.cN]) (.tup [s, .agg cs]) H := by
  obtain ⟨H2, w, sub⟩ := g.finN
  exact ⟨H2, WeakV.tupA w h, sub, by simp⟩
def DoIN (H1 : HpD) (hb : Nat) (s : D) (o : Op) (R : List Row) (f : Nat) (k : Nat) (fr : FrD) (H : HpD) : Prop :=
  ∃ (i : Nat) (t : D), k = R.length - i ∧ i ≤ R.length ∧ fr = [(1, s), (5, .rptr o.c 0), (7, .ptr hb 0), (8, .func f [] [.rptr o.c 0]), (9, t), (17, s), (18, .lit (.int .i64 (R.length : Int))), (19, .lit (.int .i64 (i : Int)))] ∧
    Gr H1 H 1 t (rowsEN ((R.take i).filter (pickF o)))
theorem modl_doN (L : HModl p ext F) {ks : List Int} {n : Nat} {sc : Sch} {R : List Row} {o : Op} (h : DoOk ks n R o) : FnD p ext (F 70) [schD sc, rowsD R, .agg o.c] (.tup [rowsDN (doF R o).1, .agg (doF R o).2.cN]) := by
  refine fn_of L.h70 (M := M70) rfl ok70 rfl fun H => sem_run 9000 _ ?_
  simp
  refine sem_call (mstill_ownN L h.rows.fine) fun s H1 g1 => ?_
  obtain ⟨g1, tight⟩ := g1
  have hlen := g1.lenb
  rw [rowsEN_len] at hlen
  have hR1 := h.rows.len
  refine sem_run 9000 _ ?_
  simp [hlen]
  refine sem_exact g1 fun H2 gx k2 n2 => ?_
  have gt : GrTN (H.new (.cells [.lit (.int .i64 0), .lit (.int .i64 0), .lit .nilslice] false)) H2 s R := ⟨gx, tight⟩
  have hs7 : ¬ s.hasB H.next := fun e => by have := (g1.far e).1; rw [Dv.new_next] at this; omega
  have b7 : H2.blk H.next = .cells [.lit (.int .i64 0), .lit (.int .i64 0), .lit .nilslice] false := by
    rw [k2 _ hs7, g1.sub.blk H.next (by simp)]; simp
  have hn2 := gx.gr.sub.next
  rw [Dv.new_next] at hn2
  refine sem_loop (DoIN H2 H.next s o R (F 73)) ?_ (k := R.length) ⟨0, .lit .nilslice, by simp, by simp, rfl, by simpa [rowsEN] using Gr.start⟩
  rintro k fr H3 ⟨i, t, rfl, hi, rfl, g⟩
  refine sem_run 9000 _ ?_
  simp
  by_cases c : i < R.length
  · obtain ⟨r, hr⟩ : ∃ r, R[i]? = some r := ⟨R[i], by simp⟩
    have hc := cell_rowN hr
    have wi : wr .i64 ((i : Int) + 1) = ((i + 1 : Nat) : Int) := by rw [wr_of] <;> omega
    have gt3 := gt.far g.sub
    rcases gt3.at_ with ⟨rfl, rfl⟩ | ⟨b, rfl, h1, h2, h3⟩
    · simp at c
    · simp [c, h3, hc, -List.length_flatten]
      refine sem_fn (modl_do1 L (o := o) (r := r) h.op.pred) (by simp) (sem_run 9000 _ ?_)
      cases hp : pickF o r with
      | true =>
        have ef : (R.take (i + 1)).filter (pickF o) = (R.take i).filter (pickF o) ++ [r] := by
          rw [List.take_add_one, hr, List.filter_append]; simp [hp]
        have hfl := List.length_filter_le (pickF o) (R.take i)
        rw [List.length_take, Nat.min_eq_left hi] at hfl
        simp
        refine sem_push g rfl rfl (roomyD (by simp only [rowsEN_len]; omega) (by simp only [rowsEN_len]; omega)) fun t' H4 g4 _ _ => ?_
        simp
        refine sem_ok ?_
        have e : rowsEN ((R.take i).filter (pickF o)) ++ [[rowDN r]] = rowsEN ((R.take (i + 1)).filter (pickF o)) := by rw [ef]; simp [rowsEN]
        rw [e] at g4
        exact ⟨R.length - (i + 1), by omega, i + 1, t', rfl, by omega, by rw [wi], g4⟩
      | false =>
        have ef : (R.take (i + 1)).filter (pickF o) = (R.take i).filter (pickF o) := by
          rw [List.take_add_one, hr, List.filter_append]; simp [hp]
        simp
        refine sem_ok ?_
        exact ⟨R.length - (i + 1), by omega, i + 1, t, rfl, by omega, by rw [wi], by rw [ef]; exact g⟩
  · have : i = R.length := by omega
    subst this
    rw [List.take_length] at g
    simp
    refine sem_turn_exit g 9 (by simp) fun H4 s4 k4 n4 => ?_
    refine sem_exit (sem_run 9000 _ ?_)
    have gt4 := gt.far s4
    have b7' : H4.blk H.next = .cells [.lit (.int .i64 0), .lit (.int .i64 0), .lit .nilslice] false := by
      rw [s4.blk _ (by omega), b7]
    have l7 : H.next < H4.next := by have := s4.next; omega
    have hfl := List.length_filter_le (pickF o) R
    have sub0 : Sub H (H.new (.cells [.lit (.int .i64 0), .lit (.int .i64 0), .lit .nilslice] false)) := Sub.refl.new
    have stay : ∀ x : BD, Gr H (H4.put H.next x) 1 s (rowsEN R) := fun x => gt4.x.gr.aside sub0 (Nat.le_refl _) (by simp)
    have hfg : GoodRs ks (R.filter (pickF o)) := fun r hr => h.good r ((List.mem_filter.1 hr).1)
    have hff : Fine (R.filter (pickF o)) := ⟨by omega, fun r hr => h.rows.fine.2 r ((List.mem_filter.1 hr).1)⟩
    by_cases o1 : o.kind = 1
    · simp [o1]
      refine sem_call (modl_insertN L gt4 hR1 h.rise (by have := h.row; omega)) ?_
      rintro d H5 ⟨i, hi, ⟨hh, rfl, g5⟩ | ⟨hh, s', rfl, g5⟩⟩
      · have b5 := g5.sub.blk H.next (by simp)
        have l5 := g5.sub.next
        simp at b5 l5
        have e : doF R o = (R, ⟨1, 0, []⟩) := by unfold doF; rw [if_pos o1, ← hi.has h.rise, hh]; rfl
        rw [e]
        refine sem_run 9000 _ ?_
        simp
        simp [b5]
        refine sem_ret ?_
        simp [M70]
        exact fin_ownN (g5.aside sub0 (Nat.le_refl _) (by simp)) (by simp [Rs.cN, D.les, D.le, rows_nilN])
      · have b5 := g5.sub.blk H.next (by simp)
        have l5 := g5.sub.next
        simp at b5 l5
        have e : doF R o = (insK R o.row, ⟨0, 1, []⟩) := by unfold doF; rw [if_pos o1, ← hi.has h.rise, hh]; rfl
        rw [e, ← hi.put]
        refine sem_run 9000 _ ?_
        simp
        simp [b5]
        refine sem_ret ?_
        simp [M70]
        exact fin_ownN (g5.aside sub0 (Nat.le_refl _) (by simp)) (by simp [Rs.cN, D.les, D.le, rows_nilN])
    · by_cases o2 : o.kind = 2
      · simp [o2]
        refine sem_rowN gt4.x.gr 0 rfl fun H5 s5 k5 n5 => ?_
        have b5 := s5.blk H.next (by simp)
        simp at b5
        refine sem_call (modl_updateN L h.rows h.op) ?_
        rintro d H6 (⟨M, s', hM, rfl, g6⟩ | ⟨hM, rfl, s6⟩)
        · have e : doF R o = (M, ⟨0, cntF o R, []⟩) := by unfold doF; rw [if_neg o1, if_pos o2, hM]
          rw [e]
          have b6 := g6.sub.blk H.next (by omega)
          rw [b5] at b6
          have l6 := g6.sub.next
          refine sem_run 9000 _ ?_
          simp
          simp [b6]
          refine sem_ret ?_
          simp [M70]
          exact fin_ownN (g6.aside (sub0.trans s5) (Nat.le_refl _) (by omega)) (by simp [Rs.cN, D.les, D.le, rows_nilN])
        · have e : doF R o = (R, ⟨2, 0, []⟩) := by unfold doF; rw [if_neg o1, if_pos o2, hM]
          rw [e]
          have b6 := s6.blk H.next (by omega)
          rw [b5] at b6
          have l6 := s6.next
          refine sem_run 9000 _ ?_
          simp
          simp [b6]
          refine sem_ret ?_
          simp [M70]
          exact fin_rowN (((sub0.trans s5).trans s6).put (Nat.le_refl _)) (by simp [Rs.cN, D.les, D.le, rows_nilN])
      · by_cases o3 : o.kind = 3
        · have e : doF R o = (keepF (pickF o) R, ⟨0, cntF o R, []⟩) := by unfold doF; rw [if_neg o1, if_neg o2, if_pos o3]
          rw [e]
          simp [o3]
          refine sem_call (deleteFuncN L gt4 hR1 (f := F 73) (cl := [.rptr o.c 0]) (pf := pickF o) fun r _ => modl_do1 L h.op.pred) ?_
          rintro d H5 (⟨rfl, hk, s5⟩ | ⟨b, cs, rfl, hle, h1, h2, h3, h4, s5⟩)
          · have b5 := s5.blk H.next (by simp)
            have l5 := s5.next
            simp at b5 l5
            have l5' : H.next < H5.next := by omega
            refine sem_run 9000 _ ?_
            simp
            refine sem_call (clip_nil L.aggr) ?_
            rintro _ _ ⟨rfl, rfl⟩
            refine sem_run 9000 _ ?_
            simp
            simp [b5]
            refine sem_ret ?_
            simp [M70]
            exact fin_partN ⟨(sub0.trans s5).put (Nat.le_refl _), rowsN_one, .inl ⟨rfl, by rw [hk]; rfl⟩⟩ (by simp [Rs.cN, D.les, D.le, rows_nilN, cntF])
          · have b5 := s5.blk H.next (by simp)
            have l5 := s5.next
            simp at b5 l5
            have l5' : H.next < H5.next := by omega
            refine sem_run 9000 _ ?_
            simp
            refine sem_call (clip_part L.aggr hle) ?_
            rintro _ _ ⟨rfl, rfl⟩
            refine sem_run 9000 _ ?_
            simp
            simp [b5]
            refine sem_ret ?_
            simp [M70]
            rw [Dv.new_next] at h1
            have hne : b ≠ H.next := by omega
            exact fin_partN ⟨(sub0.trans s5).put (Nat.le_refl _), rowsN_one, .inr ⟨b, 0, _, _, cs, by rw [rowsEN_len], by rw [rowsEN_len]; exact Nat.le_refl _, by omega, by simpa using h2, by rw [put_blk, if_neg hne]; exact h3, by rw [rowsEN_len, rowsEN_flat, List.drop_zero, Nat.mul_one, h4]; rfl⟩⟩ (by simp [Rs.cN, D.les, D.le, rows_nilN, cntF])
        · by_cases o4 : o.kind = 4
          · have e : doF R o = (R, ⟨0, 0, sortL cmpR (colsF o.cols (R.filter (pickF o)))⟩) := by unfold doF; rw [if_neg o1, if_neg o2, if_neg o3, if_pos o4]
            rw [e]
            simp [o4]
            refine sem_fn (aggr_colsN L.aggr (cols := o.cols) (m := .p) hff hfg (h.cols o4).1 (h.cols o4).2) (by simp [rowsD, D.les, D.le, rowsN_less, D.le_refl]) (sem_run 9000 _ ?_)
            simp [b7']
            refine sem_ret ?_
            simp [M70]
            exact fin_ownN (stay _) (by simp [Rs.cN])
          · by_cases o5 : o.kind = 5
            · simp [o5]
              refine sem_fn (aggr_groupsM L.aggr L.x45 (c := o.group) (ags := o.aggs) hff hfg (h.aggs o5).1 (h.aggs o5).2.2 (h.aggs o5).2.1) (by simp [rowsD, D.les, D.le, rowsN_less, D.le_refl]) (sem_run 9000 _ ?_)
              cases hg : (grpsF o.group o.aggs (R.filter (pickF o))).2 with
              | true =>
                have e : doF R o = (R, ⟨0, 0, (grpsF o.group o.aggs (R.filter (pickF o))).1⟩) := by unfold doF; rw [if_neg o1, if_neg o2, if_neg o3, if_neg o4, if_pos o5, if_pos hg]
                rw [e]
                simp [grpDM, hg, b7']
                refine sem_ret ?_
                simp [M70]
                exact fin_ownN (stay _) (by simp [Rs.cN])
              | false =>
                have e : doF R o = (R, ⟨2, 0, []⟩) := by unfold doF; rw [if_neg o1, if_neg o2, if_neg o3, if_neg o4, if_pos o5, if_neg (by simp [hg])]
                rw [e]
                simp [grpDM, hg, b7']
                refine sem_ret ?_
                simp [M70]
                exact fin_ownN (stay _) (by simp [Rs.cN, D.les, D.le, rows_nilN])
            · by_cases o6 : o.kind = 6
              · have e : doF R o = (R, ⟨3, 0, []⟩) := by unfold doF; rw [if_neg o1, if_neg o2, if_neg o3, if_neg o4, if_neg o5, if_pos o6]
                rw [e]
                simp [o6, b7']
                refine sem_ret ?_
                simp [M70]
                exact fin_ownN (stay _) (by simp [Rs.cN, D.les, D.le, rows_nilN])
              · have e : doF R o = (R, ⟨0, 0, []⟩) := by unfold doF; rw [if_neg o1, if_neg o2, if_neg o3, if_neg o4, if_neg o5, if_neg o6]
                rw [e]
                simp [o1, o2, o3, o4, o5, o6, b7']
                refine sem_ret ?_
                simp [M70]
                exact fin_ownN (stay _) (by simp [Rs.cN, D.les, D.le, rows_nilN])
end Go.Lib
end

section
namespace Go.Lib
open Go.Vm Go.Dv
set_option maxRecDepth 100000
abbrev K97 (F : Nat → Nat) : KC := .seq (.region [⟨(some 3),(.a (.box (.tmp 0))),none⟩,⟨(some 6),(.a (.new [.int .i64 (.ofNat 0),.nilslice,.int .i64 (.ofNat 0),.int .i64 (.ofNat 0),.int .i64 (.ofNat 0),.bool false,.int .i64 (.ofNat 0),.int .i64 (.ofNat 0),.nilslice,.nilslice,.nilslice,.nilslice,.int .i64 (.ofNat 0),.nilslice])),none⟩] [3] [1,2,3,6])
 (.seq (.region [mi 7 0] [] [1,2,3,6,7])
 (.seq (.seq (.region [mv 12 1,lb 13 12,bi 14 .gtr 13 0] [] [1,2,3,6,7,14])
 (.cond (.tmp 14) (.region [mv 15 1,mv 16 2,mv 17 1,lb 18 17,bt 19 .rem 16 18,ix 20 1 15 19,l1 21 20,mv 22 2,bi 23 .mul 22 7919,bt 24 .add 21 23,mv 7 24] [] [1,2,3,6,7])
 (.skip)))
 (.seq (.region [ln 25 1 3,mv 26 1,mv 27 2,bi 28 .rem 27 7,⟨(some 29),(.e (.call (F 99) [(.tmp 25),(.tmp 26),(.tmp 28),(.val (.int .i64 (.ofNat 3)))])),none⟩,⟨(some 8),(.a (.new [.int .i64 (.ofNat 0),.int .i64 (.ofNat 0),.int .i64 (.ofNat 0),.bool false,.int .i64 (.ofNat 0),.int .i64 (.ofNat 0),.nilslice,.nilslice])),none⟩,⟨none,(.e (.store 8 (.tmp 8) (.tmp 29))),none⟩] [] [3,6,7,8])
 (.seq (.seq (.region [mv 30 7,⟨(some 31),(.p (.bin .shr (.tmp 30) (.val (.int .u64 (.ofNat 3))))),none⟩,bi 32 .and 31 3,bi 33 .eql 32 0] [] [3,6,7,8,33])
 (.cond (.tmp 33) (.region [mv 34 7,⟨(some 35),(.p (.bin .shr (.tmp 34) (.val (.int .u64 (.ofNat 5))))),none⟩,bi 36 .and 35 15,⟨(some 37),(.p (.build [.bool false,.int .i64 (.ofNat 0),.int .i64 (.ofNat 0),.nilslice] [(1,1,(.val (.int .i64 (.ofNat 1)))),(2,1,(.tmp 36))])),none⟩,⟨(some 38),(.p (.build [.int .i64 (.ofNat 0),.int .i64 (.ofNat 0),.int .i64 (.ofNat 0),.bool false,.int .i64 (.ofNat 0),.int .i64 (.ofNat 0),.nilslice,.nilslice] [(0,1,(.val (.int .i64 (.ofNat 2)))),(2,1,(.val (.int .i64 (.ofNat 1)))),(3,4,(.tmp 37))])),none⟩,⟨none,(.e (.store 8 (.tmp 8) (.tmp 38))),none⟩] [] [3,6,7,8])
 (.skip)))
 (.seq (.region [mv 39 7,⟨(some 40),(.p (.bin .shr (.tmp 39) (.val (.int .u64 (.ofNat 9))))),none⟩,bi 41 .and 40 255,fa 42 0 3,l1 43 42,lb 44 43,bt 45 .rem 41 44,mv 9 45] [] [3,6,7,8,9])
 (.seq (.seq (.region [mv 46 7,bi 47 .and 46 7] [] [3,6,7,8,9,47])
 (.block 0 (.seq (.seq (.region [bi 49 .eql 47 0,mv 48 49] [] [3,6,7,8,9,47,48])
 (.cond (.tmp 48) (.skip)
 (.seq (.region [bi 50 .eql 47 1,mv 48 50] [] [3,6,7,8,9,47,48])
 (.cond (.tmp 48) (.skip)
 (.region [bi 51 .eql 47 2,mv 48 51] [] [3,6,7,8,9,47,48])))))
 (.cond (.tmp 48) (.seq (.region [ln 52 1 3,mv 53 7,⟨(some 54),(.p (.bin .shr (.tmp 53) (.val (.int .u64 (.ofNat 5))))),none⟩,⟨(some 55),(.e (.call (F 24) [(.tmp 52),(.tmp 54)])),none⟩,⟨(some 56),(.p (.build [.int .i64 (.ofNat 0),.nilslice,.int .i64 (.ofNat 0),.int .i64 (.ofNat 0),.int .i64 (.ofNat 0),.bool false,.int .i64 (.ofNat 0),.int .i64 (.ofNat 0),.nilslice,.nilslice,.nilslice,.nilslice,.int .i64 (.ofNat 0),.nilslice] [(0,1,(.val (.int .i64 (.ofNat 1)))),(1,1,(.tmp 55))])),none⟩,⟨none,(.e (.store 14 (.tmp 6) (.tmp 56))),none⟩] [] [6])
 (.ret))
 (.seq (.seq (.region [bi 58 .eql 47 3,mv 57 58] [] [3,6,7,8,9,47,57])
 (.cond (.tmp 57) (.skip)
 (.region [bi 59 .eql 47 4,mv 57 59] [] [3,6,7,8,9,47,57])))
 (.cond (.tmp 57) (.seq (.seq (.region [mv 60 9,bi 61 .gtr 60 0] [] [3,6,7,8,9,61])
 (.cond (.tmp 61) (.seq (.region [mv 62 9,fa 63 0 3,l1 64 63,mv 65 9,ix 66 3 64 65,ln 67 3 66,mv 68 7,⟨(some 69),(.p (.bin .shr (.tmp 68) (.val (.int .u64 (.ofNat 17))))),none⟩,⟨(some 70),(.e (.call (F 25) [(.tmp 67),(.tmp 69)])),none⟩,⟨(some 71),(.p (.build [.int .i64 (.ofNat 0),.bool false,.bool false,.int .i64 (.ofNat 0),.int .i64 (.ofNat 0),.nilslice] [(0,1,(.tmp 62)),(2,4,(.tmp 70))])),none⟩,⟨(some 10),(.a (.new [.int .i64 (.ofNat 0),.bool false,.bool false,.int .i64 (.ofNat 0),.int .i64 (.ofNat 0),.nilslice])),none⟩,⟨none,(.e (.store 6 (.tmp 10) (.tmp 71))),none⟩] [] [3,6,7,8,9,10])
 (.seq (.seq (.region [fa 72 0 3,l1 73 72,mv 74 9,ix 75 3 73 74,fa 76 1 75,l1 77 76,bi 78 .eql 77 1,mv 79 78,⟨(some 80),(.p (.faddr 2 (.tmp 10))),(some (79,true))⟩,⟨(some 81),(.p (.faddr 0 (.tmp 80))),(some (79,true))⟩,⟨(some 82),(.load1 (.tmp 81)),(some (79,true))⟩,⟨(some 83),(.p (.not (.tmp 82))),(some (79,true))⟩,⟨(some 84),(.p (.pick (.tmp 79) (.tmp 83) (.val (.bool false)))),none⟩,mv 85 84,⟨(some 86),(.p (.mov (.tmp 7))),(some (85,true))⟩,⟨(some 87),(.p (.bin .shr (.tmp 86) (.val (.int .u64 (.ofNat 13))))),(some (85,true))⟩,⟨(some 88),(.p (.bin .and (.tmp 87) (.val (.int .i64 (.ofNat 1))))),(some (85,true))⟩,⟨(some 89),(.p (.bin .eql (.tmp 88) (.val (.int .i64 (.ofNat 1))))),(some (85,true))⟩,⟨(some 90),(.p (.pick (.tmp 85) (.tmp 89) (.val (.bool false)))),none⟩] [] [6,8,10,90])
 (.cond (.tmp 90) (.region [fa 91 1 10,⟨none,(.e (.store 1 (.tmp 91) (.val (.bool true)))),none⟩] [] [6,8,10])
 (.skip)))
 (.seq (.region [ln 92 8 8,ln 93 6 10,⟨(some 94),(.a (.bslice [.int .i64 (.ofNat 0),.bool false,.bool false,.int .i64 (.ofNat 0),.int .i64 (.ofNat 0),.nilslice] 6 1 [(0,6,(.tmp 93))])),none⟩,⟨(some 95),(.p (.build [.int .i64 (.ofNat 0),.nilslice,.int .i64 (.ofNat 0),.int .i64 (.ofNat 0),.int .i64 (.ofNat 0),.bool false,.int .i64 (.ofNat 0),.int .i64 (.ofNat 0),.nilslice,.nilslice,.nilslice,.nilslice,.int .i64 (.ofNat 0),.nilslice] [(0,1,(.val (.int .i64 (.ofNat 2)))),(2,8,(.tmp 92)),(10,1,(.tmp 94))])),none⟩,⟨none,(.e (.store 14 (.tmp 6) (.tmp 95))),none⟩] [94] [6])
 (.ret))))
 (.skip)))
 (.seq (.region [ln 96 8 8,⟨(some 97),(.p (.build [.int .i64 (.ofNat 0),.nilslice,.int .i64 (.ofNat 0),.int .i64 (.ofNat 0),.int .i64 (.ofNat 0),.bool false,.int .i64 (.ofNat 0),.int .i64 (.ofNat 0),.nilslice,.nilslice,.nilslice,.nilslice,.int .i64 (.ofNat 0),.nilslice] [(0,1,(.val (.int .i64 (.ofNat 3)))),(2,8,(.tmp 96))])),none⟩,⟨none,(.e (.store 14 (.tmp 6) (.tmp 97))),none⟩] [] [6])
 (.ret)))
 (.seq (.region [bi 99 .eql 47 5,mv 98 99] [] [6,7,8,9,47,98])
 (.cond (.tmp 98) (.seq (.region [ln 100 8 8,mv 101 9,⟨(some 102),(.a (.bslice [.int .i64 (.ofNat 0),.int .i64 (.ofNat 0)] 1 2 [(0,1,(.tmp 101)),(1,1,(.val (.int .i64 (.ofNat 0))))])),none⟩,⟨(some 103),(.p (.build [.int .i64 (.ofNat 0),.nilslice,.int .i64 (.ofNat 0),.int .i64 (.ofNat 0),.int .i64 (.ofNat 0),.bool false,.int .i64 (.ofNat 0),.int .i64 (.ofNat 0),.nilslice,.nilslice,.nilslice,.nilslice,.int .i64 (.ofNat 0),.nilslice] [(0,1,(.val (.int .i64 (.ofNat 4)))),(2,8,(.tmp 100)),(11,1,(.tmp 102))])),none⟩,⟨none,(.e (.store 14 (.tmp 6) (.tmp 103))),none⟩] [102] [6])
 (.ret))
 (.seq (.region [bi 105 .eql 47 6,mv 104 105] [] [6,7,8,9,104])
 (.cond (.tmp 104) (.seq (.region [ln 106 8 8,mv 107 9,mv 108 7,⟨(some 109),(.p (.bin .shr (.tmp 108) (.val (.int .u64 (.ofNat 14))))),none⟩,bi 110 .and 109 1,mv 111 9,bi 112 .add 111 1,bt 113 .mul 110 112,bt 114 .sub 107 113,⟨(some 115),(.p (.build [.int .i64 (.ofNat 0),.int .i64 (.ofNat 0)] [(0,1,(.val (.int .i64 (.ofNat 1))))])),none⟩,mv 116 7,⟨(some 117),(.p (.bin .shr (.tmp 116) (.val (.int .u64 (.ofNat 15))))),none⟩,bi 118 .and 117 1,⟨(some 119),(.p (.bin .add (.val (.int .i64 (.ofNat 3))) (.tmp 118))),none⟩,mv 120 9,⟨(some 121),(.p (.build [.int .i64 (.ofNat 0),.int .i64 (.ofNat 0)] [(0,1,(.tmp 119)),(1,1,(.tmp 120))])),none⟩,⟨(some 122),(.p (.build [.int .i64 (.ofNat 0),.int .i64 (.ofNat 0)] [(0,1,(.val (.int .i64 (.ofNat 2))))])),none⟩,⟨(some 123),(.a (.bslice [.int .i64 (.ofNat 0),.int .i64 (.ofNat 0),.int .i64 (.ofNat 0),.int .i64 (.ofNat 0),.int .i64 (.ofNat 0),.int .i64 (.ofNat 0)] 2 3 [(0,2,(.tmp 115)),(2,2,(.tmp 121)),(4,2,(.tmp 122))])),none⟩,⟨(some 124),(.p (.build [.int .i64 (.ofNat 0),.nilslice,.int .i64 (.ofNat 0),.int .i64 (.ofNat 0),.int .i64 (.ofNat 0),.bool false,.int .i64 (.ofNat 0),.int .i64 (.ofNat 0),.nilslice,.nilslice,.nilslice,.nilslice,.int .i64 (.ofNat 0),.nilslice] [(0,1,(.val (.int .i64 (.ofNat 5)))),(2,8,(.tmp 106)),(12,1,(.tmp 114)),(13,1,(.tmp 123))])),none⟩,⟨(some 11),(.a (.new [.int .i64 (.ofNat 0),.nilslice,.int .i64 (.ofNat 0),.int .i64 (.ofNat 0),.int .i64 (.ofNat 0),.bool false,.int .i64 (.ofNat 0),.int .i64 (.ofNat 0),.nilslice,.nilslice,.nilslice,.nilslice,.int .i64 (.ofNat 0),.nilslice])),none⟩,⟨none,(.e (.store 14 (.tmp 11) (.tmp 124))),none⟩] [123] [6,11])
 (.seq (.region [ln 125 14 11,⟨none,(.e (.store 14 (.tmp 6) (.tmp 125))),none⟩] [] [6])
 (.ret)))
 (.skip)))))))))))
 (.seq (.seq (.region [mv 126 7,⟨(some 127),(.p (.bin .shr (.tmp 126) (.val (.int .u64 (.ofNat 18))))),none⟩,bi 128 .and 127 7,bi 129 .eql 128 0] [] [6,8,129])
 (.cond (.tmp 129) (.seq (.region [⟨(some 130),(.p (.build [.int .i64 (.ofNat 0),.nilslice,.int .i64 (.ofNat 0),.int .i64 (.ofNat 0),.int .i64 (.ofNat 0),.bool false,.int .i64 (.ofNat 0),.int .i64 (.ofNat 0),.nilslice,.nilslice,.nilslice,.nilslice,.int .i64 (.ofNat 0),.nilslice] [(0,1,(.val (.int .i64 (.ofNat 6))))])),none⟩,⟨none,(.e (.store 14 (.tmp 6) (.tmp 130))),none⟩] [] [6])
 (.ret))
 (.skip)))
 (.seq (.region [ln 131 8 8,⟨(some 132),(.p (.build [.int .i64 (.ofNat 0),.nilslice,.int .i64 (.ofNat 0),.int .i64 (.ofNat 0),.int .i64 (.ofNat 0),.bool false,.int .i64 (.ofNat 0),.int .i64 (.ofNat 0),.nilslice,.nilslice,.nilslice,.nilslice,.int .i64 (.ofNat 0),.nilslice] [(0,1,(.val (.int .i64 (.ofNat 3)))),(2,8,(.tmp 131))])),none⟩,⟨none,(.e (.store 14 (.tmp 6) (.tmp 132))),none⟩] [] [6])
 (.ret)))))))))
def M97 (F : Nat → Nat) : Fun := ⟨133,3,(K97 F).erase,[.celln 14 6]⟩
theorem ok97 {F : Nat → Nat} : (K97 F).ok = true := rfl
abbrev K98 (F : Nat → Nat) : KC := .seq (.region [⟨(some 3),(.a (.box (.tmp 0))),none⟩,⟨(some 6),(.p (.mov (.val (.nilslice)))),none⟩] [3] [1,2,3])
 (.seq (.region [⟨(some 7),(.p (.mov (.val (.nilslice)))),none⟩] [] [1,2,3,7])
 (.seq (.seq (.region [mi 8 0] [] [1,2,3,7,8])
 (.block 0 (.loop (.seq (.seq (.region [mv 9 8,mv 10 2,bi 11 .and 10 7,bt 12 .lss 9 11,mv 13 12,⟨(some 14),(.p (.mov (.tmp 8))),(some (13,true))⟩,⟨(some 15),(.p (.bin .lss (.tmp 14) (.val (.int .i64 (.ofNat 6))))),(some (13,true))⟩,⟨(some 16),(.p (.pick (.tmp 13) (.tmp 15) (.val (.bool false)))),none⟩] [] [1,2,3,7,8,16])
 (.cond (.tmp 16) (.skip)
 (.exit 0)))
 (.seq (.block 1 (.region [mv 19 7,ln 20 1 3,mv 21 1,mv 22 2,⟨(some 23),(.p (.bin .shr (.tmp 22) (.val (.int .u64 (.ofNat 3))))),none⟩,bi 24 .and 23 63,mv 25 8,bt 26 .add 24 25,⟨(some 27),(.e (.call (F 97) [(.tmp 20),(.tmp 21),(.tmp 26)])),none⟩,⟨(some 28),(.a (.bslice [.int .i64 (.ofNat 0),.nilslice,.int .i64 (.ofNat 0),.int .i64 (.ofNat 0),.int .i64 (.ofNat 0),.bool false,.int .i64 (.ofNat 0),.int .i64 (.ofNat 0),.nilslice,.nilslice,.nilslice,.nilslice,.int .i64 (.ofNat 0),.nilslice] 14 1 [(0,14,(.tmp 27))])),none⟩,⟨(some 29),(.e (.append 14 208 (.tmp 19) (.tmp 28))),none⟩,mv 7 29] [28] [1,2,3,7,8]))
 (.region [mv 17 8,bi 18 .add 17 1,mv 8 18] [] [1,2,3,7,8]))))))
 (.seq (.region [mv 30 7,mv 6 30] [] [6])
 (.ret))))
def M98 (F : Nat → Nat) : Fun := ⟨31,3,(K98 F).erase,[.tmp 6]⟩
abbrev K99 (F : Nat → Nat) : KC := .seq (.region [⟨(some 4),(.a (.box (.tmp 0))),none⟩,⟨(some 8),(.a (.new [.int .i64 (.ofNat 0),.int .i64 (.ofNat 0),.int .i64 (.ofNat 0),.bool false,.int .i64 (.ofNat 0),.int .i64 (.ofNat 0),.nilslice,.nilslice])),none⟩] [4] [1,2,3,4,8])
 (.seq (.region [mv 16 2,bi 17 .mul 16 7919,mv 9 17] [] [1,2,3,4,8,9])
 (.seq (.seq (.region [mv 18 2,mv 19 1,lb 20 19,bt 21 .lss 18 20] [] [1,2,3,4,8,9,21])
 (.cond (.tmp 21) (.region [mv 22 1,mv 23 2,ix 24 1 22 23,l1 25 24,mv 9 25] [] [1,2,3,4,8,9])
 (.skip)))
 (.seq (.region [mv 26 9,bi 27 .and 26 7,mv 10 27] [] [1,2,3,4,8,9,10])
 (.seq (.seq (.region [mv 28 3,bi 29 .leq 28 1,mv 30 29,⟨(some 31),(.p (.mov (.tmp 10))),(some (30,true))⟩,⟨(some 32),(.p (.bin .gtr (.tmp 31) (.val (.int .i64 (.ofNat 4))))),(some (30,true))⟩,⟨(some 33),(.p (.pick (.tmp 30) (.tmp 32) (.val (.bool false)))),none⟩] [] [1,2,3,4,8,9,10,33])
 (.cond (.tmp 33) (.region [mv 34 10,bi 35 .sub 34 4,mv 10 35] [] [1,2,3,4,8,9,10])
 (.skip)))
 (.seq (.region [mv 36 9,⟨(some 37),(.p (.bin .shr (.tmp 36) (.val (.int .u64 (.ofNat 3))))),none⟩,bi 38 .and 37 255,fa 39 0 4,l1 40 39,lb 41 40,bt 42 .rem 38 41,mv 11 42] [] [1,2,3,4,8,9,10,11])
 (.seq (.seq (.region [mv 43 10] [] [1,2,3,4,8,9,10,11,43])
 (.block 0 (.seq (.region [bi 45 .eql 43 0,mv 44 45] [] [1,2,3,4,8,9,10,11,43,44])
 (.cond (.tmp 44) (.seq (.region [⟨(some 46),(.p (.build [.int .i64 (.ofNat 0),.int .i64 (.ofNat 0),.int .i64 (.ofNat 0),.bool false,.int .i64 (.ofNat 0),.int .i64 (.ofNat 0),.nilslice,.nilslice] [(0,1,(.val (.int .i64 (.ofNat 1))))])),none⟩,⟨none,(.e (.store 8 (.tmp 8) (.tmp 46))),none⟩] [] [8])
 (.ret))
 (.seq (.region [bi 48 .eql 43 1,mv 47 48] [] [1,2,3,4,8,9,10,11,43,47])
 (.cond (.tmp 47) (.seq (.region [mv 49 11,⟨(some 50),(.p (.build [.int .i64 (.ofNat 0),.int .i64 (.ofNat 0),.int .i64 (.ofNat 0),.bool false,.int .i64 (.ofNat 0),.int .i64 (.ofNat 0),.nilslice,.nilslice] [(0,1,(.val (.int .i64 (.ofNat 3)))),(1,1,(.tmp 49))])),none⟩,⟨none,(.e (.store 8 (.tmp 8) (.tmp 50))),none⟩] [] [8])
 (.ret))
 (.seq (.seq (.region [bi 52 .eql 43 5,mv 51 52] [] [1,2,3,4,8,9,10,11,43,51])
 (.cond (.tmp 51) (.skip)
 (.region [bi 53 .eql 43 6,mv 51 53] [] [1,2,3,4,8,9,10,11,43,51])))
 (.cond (.tmp 51) (.seq (.region [mv 54 10,⟨(some 55),(.p (.bin .add (.val (.int .i64 (.ofNat 4))) (.tmp 54))),none⟩,bi 56 .sub 55 5,⟨(some 57),(.p (.build [.int .i64 (.ofNat 0),.int .i64 (.ofNat 0),.int .i64 (.ofNat 0),.bool false,.int .i64 (.ofNat 0),.int .i64 (.ofNat 0),.nilslice,.nilslice] [(0,1,(.tmp 56))])),none⟩,⟨(some 12),(.a (.new [.int .i64 (.ofNat 0),.int .i64 (.ofNat 0),.int .i64 (.ofNat 0),.bool false,.int .i64 (.ofNat 0),.int .i64 (.ofNat 0),.nilslice,.nilslice])),none⟩,⟨none,(.e (.store 8 (.tmp 12) (.tmp 57))),none⟩] [] [1,2,3,4,8,9,12])
 (.seq (.seq (.region [mi 13 0] [] [1,2,3,4,8,9,12,13])
 (.block 1 (.loop (.seq (.seq (.region [mv 58 13,mv 59 9,⟨(some 60),(.p (.bin .shr (.tmp 59) (.val (.int .u64 (.ofNat 11))))),none⟩,bi 61 .and 60 3,bt 62 .lss 58 61] [] [1,2,3,4,8,9,12,13,62])
 (.cond (.tmp 62) (.skip)
 (.exit 1)))
 (.seq (.block 2 (.dregion [⟨ln 67 1 4,0,9⟩,⟨mv 68 1,0,9⟩,⟨mv 69 2,0,9⟩,⟨⟨(some 70),(.p (.bin .mul (.val (.int .i64 (.ofNat 3))) (.tmp 69))),none⟩,0,9⟩,⟨mv 71 13,0,9⟩,⟨bt 72 .add 70 71,0,9⟩,⟨bi 73 .add 72 1,0,9⟩,⟨mv 74 3,0,9⟩,⟨bi 75 .sub 74 1,0,9⟩,⟨⟨(some 76),(.e (.call (F 99) [(.tmp 67),(.tmp 68),(.tmp 73),(.tmp 75)])),none⟩,0,13⟩,⟨fa 65 7 12,0,13⟩,⟨l1 66 65,0,13⟩,⟨⟨(some 77),(.a (.bslice [.int .i64 (.ofNat 0),.int .i64 (.ofNat 0),.int .i64 (.ofNat 0),.bool false,.int .i64 (.ofNat 0),.int .i64 (.ofNat 0),.nilslice,.nilslice] 8 1 [(0,8,(.tmp 76))])),none⟩,10,13⟩,⟨⟨(some 78),(.e (.append 8 96 (.tmp 66) (.tmp 77))),none⟩,10,15⟩,⟨fa 79 7 12,14,15⟩,⟨⟨none,(.e (.store 1 (.tmp 79) (.tmp 78))),none⟩,14,16⟩] [1,2,3,4,8,9,12,13]))
 (.region [mv 63 13,bi 64 .add 63 1,mv 13 64] [] [1,2,3,4,8,9,12,13]))))))
 (.seq (.region [ln 80 8 12,⟨none,(.e (.store 8 (.tmp 8) (.tmp 80))),none⟩] [] [8])
 (.ret))))
 (.seq (.region [bi 82 .eql 43 7,mv 81 82] [] [1,2,3,4,8,9,11,81])
 (.cond (.tmp 81) (.seq (.region [ln 83 1 4,mv 84 1,mv 85 2,⟨(some 86),(.p (.bin .mul (.val (.int .i64 (.ofNat 3))) (.tmp 85))),none⟩,bi 87 .add 86 1,mv 88 3,bi 89 .sub 88 1,⟨(some 90),(.e (.call (F 99) [(.tmp 83),(.tmp 84),(.tmp 87),(.tmp 89)])),none⟩,⟨(some 91),(.a (.bslice [.int .i64 (.ofNat 0),.int .i64 (.ofNat 0),.int .i64 (.ofNat 0),.bool false,.int .i64 (.ofNat 0),.int .i64 (.ofNat 0),.nilslice,.nilslice] 8 1 [(0,8,(.tmp 90))])),none⟩,⟨(some 92),(.p (.build [.int .i64 (.ofNat 0),.int .i64 (.ofNat 0),.int .i64 (.ofNat 0),.bool false,.int .i64 (.ofNat 0),.int .i64 (.ofNat 0),.nilslice,.nilslice] [(0,1,(.val (.int .i64 (.ofNat 6)))),(7,1,(.tmp 91))])),none⟩,⟨none,(.e (.store 8 (.tmp 8) (.tmp 92))),none⟩] [] [8])
 (.ret))
 (.skip)))))))))))
 (.seq (.region [fa 93 0 4,l1 94 93,mv 95 11,ix 96 3 94 95,ln 97 3 96,⟨(some 14),(.a (.new [.str [],.int .i64 (.ofNat 0),.bool false])),none⟩,⟨none,(.e (.store 3 (.tmp 14) (.tmp 97))),none⟩] [] [8,9,11,14])
 (.seq (.region [fa 98 2 14,⟨none,(.e (.store 1 (.tmp 98) (.val (.bool false)))),none⟩] [] [8,9,11,14])
 (.seq (.region [ln 99 3 14,mv 100 9,⟨(some 101),(.p (.bin .shr (.tmp 100) (.val (.int .u64 (.ofNat 11))))),none⟩,⟨(some 102),(.e (.call (F 25) [(.tmp 99),(.tmp 101)])),none⟩,⟨(some 15),(.a (.new [.bool false,.int .i64 (.ofNat 0),.int .i64 (.ofNat 0),.nilslice])),none⟩,⟨none,(.e (.store 4 (.tmp 15) (.tmp 102))),none⟩] [] [8,9,11,15])
 (.seq (.seq (.region [mv 103 11,bi 104 .eql 103 0] [] [8,9,11,15,104])
 (.cond (.tmp 104) (.region [mv 105 9,⟨(some 106),(.p (.bin .shr (.tmp 105) (.val (.int .u64 (.ofNat 11))))),none⟩,bi 107 .and 106 15,⟨(some 108),(.p (.build [.bool false,.int .i64 (.ofNat 0),.int .i64 (.ofNat 0),.nilslice] [(1,1,(.val (.int .i64 (.ofNat 1)))),(2,1,(.tmp 107))])),none⟩,⟨none,(.e (.store 4 (.tmp 15) (.tmp 108))),none⟩] [] [8,9,11,15])
 (.skip)))
 (.seq (.region [mv 109 11,mv 110 9,⟨(some 111),(.p (.bin .shr (.tmp 110) (.val (.int .u64 (.ofNat 17))))),none⟩,bi 112 .and 111 255,bi 113 .rem 112 6,bi 114 .add 113 1,ln 115 4 15,⟨(some 116),(.p (.build [.int .i64 (.ofNat 0),.int .i64 (.ofNat 0),.int .i64 (.ofNat 0),.bool false,.int .i64 (.ofNat 0),.int .i64 (.ofNat 0),.nilslice,.nilslice] [(0,1,(.val (.int .i64 (.ofNat 2)))),(1,1,(.tmp 109)),(2,1,(.tmp 114)),(3,4,(.tmp 115))])),none⟩,⟨none,(.e (.store 8 (.tmp 8) (.tmp 116))),none⟩] [] [8])
 (.ret))))))))))))
def M99 (F : Nat → Nat) : Fun := ⟨117,4,(K99 F).erase,[.celln 8 8]⟩
theorem ok99 {F : Nat → Nat} : (K99 F).ok = true := rfl
end Go.Lib
end

section
set_option maxRecDepth 10000
namespace Go.Lib
open Go.Vm Go.Dv Go.Srt
variable {p : Prog} {ext : Ext} {F : Nat → Nat}
structure RowsK (ks : List Int) (B : Nat) (R : List Row) : Prop where
  good : GoodRs ks R
  rise : KeyRise R
  len : R.length ≤ B
structure SxOk (ks : List Int) (x : Sx) : Prop where
  col : 1 ≤ x.col ∧ x.col < ks.length
  good : x.v.Good
  kind : x.v.kind = (ks[x.col.toNat]?).getD 0
  add : x.add = true → (ks[x.col.toNat]?).getD 0 = 1
structure OpOk (ks : List Int) (n : Nat) (o : Op) : Prop where
  op : OpS n o
  rowl : o.row.length < 1000
  row : o.kind = 1 → GoodR ks o.row
  sets : o.kind = 2 → ∀ x, x ∈ o.sets → SxOk ks x
  cols : o.kind = 4 → o.cols.length < 1000 ∧ ∀ c, c ∈ o.cols → InK ks c
  aggs : o.kind = 5 → o.group < ks.length ∧ o.aggs.length < 900 ∧ ∀ a, a ∈ o.aggs → InK ks a.col
theorem GoodR.len {ks : List Int} {r : Row} (h : GoodR ks r) : r.length = ks.length := by
  have := h.kin; unfold Kin at this; rw [← this]; simp
theorem RowsK.rows {ks : List Int} {B : Nat} {R : List Row} (h : RowsK ks B R) (hk : ks.length < 1000) (hB : B < 1000000) : RowsS R :=
  ⟨by have := h.len; omega, fun r hr => by rw [(h.good r hr).len]; exact hk, fun r hr v hv => ((h.good r hr).good v hv).int⟩
theorem RowsK.do_ {ks : List Int} {B n : Nat} {R : List Row} {o : Op} (h : RowsK ks B R) (hk : ks.length < 1000) (hB : B < 1000000) (ho : OpOk ks n o) : DoOk ks n R o :=
  ⟨h.rows hk hB, h.good, h.rise, ho.op, ho.rowl, ho.cols, ho.aggs⟩
theorem GoodR.set {ks : List Int} {r : Row} {v : Vl} {i : Nat} (h : GoodR ks r) (hv : v.Good) (hk : v.kind = (ks[i]?).getD 0) (hi : i < ks.length) : GoodR ks (r.set i v) := by
  refine ⟨?_, fun w hw => ?_⟩
  · have := h.kin
    unfold Kin at this ⊢
    have hks : (ks[i]?).getD 0 = ks[i] := by simp [hi]
    rw [List.map_set, this, hk, hks, List.set_getElem_self hi]
  · rcases List.mem_or_eq_of_mem_set hw with hw | rfl
    · exact h.good w hw
    · exact hv
theorem atV_set {r : Row} {v : Vl} {i : Nat} (hi : 1 ≤ i) : atV (r.set i v) 0 = atV r 0 := by
  unfold atV
  rw [if_neg (by omega), if_neg (by omega), show (0 : Int).toNat = 0 from rfl, List.getElem?_set_ne (by omega)]
theorem setS_ok {ks : List Int} {r r' : Row} {x : Sx} (h : GoodR ks r) (hx : SxOk ks x) (e : setS r x = some r') : GoodR ks r' ∧ keyF r' = keyF r := by
  obtain ⟨⟨c1, c2⟩, hg, hkd, hadd⟩ := hx
  have hl := h.len
  have hin : InK ks x.col := ⟨by omega, c2⟩
  have hat := h.at_ hin
  unfold setS at e
  rw [if_neg (by omega)] at e
  split at e
  · cases e
    exact ⟨h.set hg hkd (by omega), by unfold keyF; rw [atV_set (by omega)]⟩
  · rename_i ha
    have ha : x.add = true := by simpa using ha
    split at e
    · cases e; exact ⟨h, rfl⟩
    · rename_i hn
      split at e
      · rename_i hi
        cases e
        have hk1 := hadd ha
        refine ⟨h.set ⟨fun h2 => absurd h2 hn, .inl ⟨by show (atV r x.col).kind = 1; rw [hat.1, hk1], ?_⟩, hi⟩ (by show (atV r x.col).kind = _; rw [hat.1]) (by omega), by unfold keyF; rw [atV_set (by omega)]⟩
        rcases hat.2.kd with ⟨_, hb⟩ | ⟨hb, _⟩
        · exact hb
        · rw [hat.1, hk1] at hb; simp at hb
      · cases e
theorem setF_ok {ks : List Int} : ∀ {l : List Sx} {r r' : Row}, GoodR ks r → (∀ x, x ∈ l → SxOk ks x) → setF r l = some r' → GoodR ks r' ∧ keyF r' = keyF r
  | [], r, r', h, _, e => by simp [setF] at e; subst e; exact ⟨h, rfl⟩
  | x :: l, r, r', h, hx, e => by
    unfold setF at e
    split at e
    · rename_i r1 e1
      obtain ⟨a, b⟩ := setS_ok h (hx x (by simp)) e1
      obtain ⟨c, d⟩ := setF_ok a (fun y hy => hx y (by simp [hy])) e
      exact ⟨c, by rw [d, b]⟩
    · cases e
theorem updF_ok {ks : List Int} {o : Op} (hs : ∀ x, x ∈ o.sets → SxOk ks x) : ∀ {R M : List Row}, GoodRs ks R → updF o R = some M → GoodRs ks M ∧ M.map keyF = R.map keyF
  | [], M, _, e => by simp [updF] at e; subst e; exact ⟨fun r hr => by simp at hr, rfl⟩
  | r :: R, M, hg, e => by
    have hr := hg r (by simp)
    have hR : GoodRs ks R := fun x hx => hg x (by simp [hx])
    unfold updF at e
    split at e
    · split at e
      · rename_i r' e1
        obtain ⟨M', e2, rfl⟩ := Option.map_eq_some_iff.1 e
        obtain ⟨a, b⟩ := updF_ok hs hR e2
        obtain ⟨c, d⟩ := setF_ok hr hs e1
        exact ⟨fun x hx => by rcases List.mem_cons.1 hx with rfl | hx; exact c; exact a x hx, by simp [b, d]⟩
      · cases e
    · obtain ⟨M', e2, rfl⟩ := Option.map_eq_some_iff.1 e
      obtain ⟨a, b⟩ := updF_ok hs hR e2
      exact ⟨fun x hx => by rcases List.mem_cons.1 hx with rfl | hx; exact hr; exact a x hx, by simp [b]⟩
theorem keyRise_map {R : List Row} : KeyRise R ↔ (R.map keyF).Pairwise (· < ·) := by
  unfold KeyRise; rw [List.pairwise_map]
theorem insK_len {R : List Row} {r : Row} : (insK R r).length = R.length + 1 := by
  unfold insK
  have := congrArg List.length (List.takeWhile_append_dropWhile (p := fun x => decide (keyF x < keyF r)) (l := R))
  simp only [List.length_append, List.length_cons] at this ⊢; omega
theorem insK_mem {R : List Row} {r x : Row} (h : x ∈ insK R r) : x = r ∨ x ∈ R := by
  unfold insK at h
  rcases List.mem_append.1 h with h | h
  · exact .inr (List.takeWhile_subset _ h)
  · rcases List.mem_cons.1 h with h | h
    · exact .inl h
    · exact .inr (List.dropWhile_subset _ h)
theorem insK_rise {R : List Row} {r : Row} (h : KeyRise R) (hn : hasR R (keyF r) = false) : KeyRise (insK R r) := by
  have hne : ∀ x, x ∈ R → keyF x ≠ keyF r := fun x hx e => by
    have : hasR R (keyF r) = true := List.any_eq_true.2 ⟨x, hx, by simpa using e⟩
    rw [hn] at this; cases this
  have hd : ∀ (L : List Row), KeyRise L → (∀ x, x ∈ L → keyF x ≠ keyF r) → ∀ x, x ∈ L.dropWhile (fun x => decide (keyF x < keyF r)) → keyF r < keyF x := by
    intro L
    induction L with
    | nil => intro _ _ x hx; simp at hx
    | cons y L ih =>
      intro hL hn x hx
      have hL' := List.pairwise_cons.1 hL
      rw [List.dropWhile_cons] at hx
      split at hx
      · exact ih hL'.2 (fun z hz => hn z (by simp [hz])) x hx
      · rename_i hy
        have hy : ¬ keyF y < keyF r := by simpa using hy
        have := hn y (by simp)
        rcases List.mem_cons.1 hx with rfl | hx
        · omega
        · have := hL'.1 x hx; omega
  have hsplit : KeyRise (R.takeWhile (fun x => decide (keyF x < keyF r)) ++ R.dropWhile (fun x => decide (keyF x < keyF r))) := by
    rw [List.takeWhile_append_dropWhile]; exact h
  obtain ⟨a, b, c⟩ := List.pairwise_append.1 hsplit
  have ht : ∀ x, x ∈ R.takeWhile (fun x => decide (keyF x < keyF r)) → keyF x < keyF r := fun x hx => by
    have := List.all_takeWhile (p := fun x => decide (keyF x < keyF r)) (l := R)
    simpa using List.all_eq_true.1 this x hx
  refine List.pairwise_append.2 ⟨a, List.pairwise_cons.2 ⟨fun x hx => hd R h hne x hx, b⟩, fun x hx y hy => ?_⟩
  rcases List.mem_cons.1 hy with rfl | hy
  · exact ht x hx
  · exact c x hx y hy
theorem doF_ok {ks : List Int} {B n : Nat} {R : List Row} {o : Op} (h : RowsK ks B R) (ho : OpOk ks n o) : RowsK ks (B + 1) (doF R o).1 := by
  have h0 : RowsK ks (B + 1) R := ⟨h.good, h.rise, by have := h.len; omega⟩
  unfold doF
  split
  · rename_i o1
    split
    · exact h0
    · rename_i hn
      refine ⟨fun x hx => ?_, insK_rise h.rise (by simpa using hn), by show (insK R o.row).length ≤ _; rw [insK_len]; have := h.len; omega⟩
      rcases insK_mem hx with rfl | hx
      · exact ho.row o1
      · exact h.good x hx
  · split
    · rename_i o2
      cases hu : updF o R with
      | none => exact h0
      | some M =>
        obtain ⟨a, b⟩ := updF_ok (ho.sets o2) h.good hu
        exact ⟨a, keyRise_map.2 (by show (M.map keyF).Pairwise _; rw [b]; exact keyRise_map.1 h.rise), by show M.length ≤ _; rw [updF_len hu]; exact h0.len⟩
    · split
      · exact ⟨fun x hx => h.good x (List.mem_filter.1 hx).1, h.rise.filter _, Nat.le_trans (List.length_filter_le _ _) h0.len⟩
      · split
        · exact h0
        · split
          · split <;> exact h0
          · split <;> exact h0
def rssD (l : List Rs) : D := .row 3 .p (l.map Rs.c)
def opsD (l : List Op) : D := .row 14 .p (l.map Op.c)
theorem ops_len {l : List Op} : lenbD (opsD l) = some (.lit (.int .i64 (l.length : Int))) := by simp [opsD]
theorem at_ops {l : List Op} {n : Nat} : atO 14 (opsD l) (some n) = elemD (l[n]?.map Op.c) := by simp [opsD]
theorem rs_len {x : Rs} : x.c.length = 3 := rfl
theorem rs_flats {x : Rs} : flatsD x.c = true := rfl
theorem rs_take {x : Rs} : x.c.take 3 = x.c := rfl
theorem rs_drop {x : Rs} : x.c.drop 3 = [] := rfl
theorem rs_0 {x : Rs} : x.c[0]? = some (.lit (.int .i64 x.err)) := rfl
theorem rs_1 {x : Rs} : x.c[1]? = some (.lit (.int .i64 x.n)) := rfl
theorem rs_2 {x : Rs} : x.c[2]? = some (rowsD x.rows) := rfl
theorem rss_len {l : List Rs} : lenbD (rssD l) = some (.lit (.int .i64 (l.length : Int))) := by simp [rssD]
theorem at_rss {l : List Rs} {n : Nat} : atO 3 (rssD l) (some n) = elemD (l[n]?.map Rs.c) := by simp [rssD]
theorem rss_under {n : Nat} {l : List Rs} : (rssD l).under n := by simp only [rssD, D.under]; exact underss_map (fun _ => rs_unders) _
attribute [simp] ops_len at_ops rs_len rs_flats rs_take rs_drop rs_0 rs_1 rs_2 rss_len at_rss rss_under
end Go.Lib
end

section
set_option maxRecDepth 10000
namespace Go.Lib
open Go.Vm Go.Dv Go.Srt
attribute [-simp] bin_and bin_xor
def nV (n : Int) : Vl := ⟨false, 1, n, [], by simp⟩
def pr0 : Pr := .mk 0 0 0 zv []
def prT : Pr := .mk 1 0 0 zv []
def prK (n : Int) : Pr := .mk 2 0 1 (nV n) []
def insO (r : Row) : Op := ⟨1, r, pr0, [], [], 0, []⟩
def scanO (q : Pr) (c : List Int) : Op := ⟨4, [], q, [], c, 0, []⟩
def delO (q : Pr) : Op := ⟨3, [], q, [], [], 0, []⟩
def setO (q : Pr) (x : Sx) : Op := ⟨2, [], q, [x], [], 0, []⟩
def aggO (q : Pr) (g : Int) (l : List Ag) : Op := ⟨5, [], q, [], [], g, l⟩
def rollO : Op := ⟨6, [], pr0, [], [], 0, []⟩
theorem sxs_under {n : Nat} {l : List Sx} : (sxsD l).under n := by simp only [sxsD, D.under]; exact underss_map (fun _ => sx_unders) _
theorem ags_under {n : Nat} {l : List Ag} : (agsD l).under n := by simp only [agsD, D.under]; exact underss_map (fun _ => by simp [Ag.c]) _
theorem op_unders {n : Nat} {o : Op} : D.unders n o.c := by
  rw [op_c]; simp [D.unders, row_under, by_under, prs_under, ints_under, sxs_under, ags_under]
theorem evalK {k : Int} {r : Row} : evalF (prK k) r = if (atV r 0).null = true then 3 else truthF (decide (cmpV (atV r 0) (nV k) = 0)) := by
  simp [prK, evalF, holdsF]
theorem pickK_no {k : Int} {r : Row} (h1 : (atV r 0).kind = 1) (h2 : keyF r ≠ k) : evalF (prK k) r ≠ 1 := by
  rw [evalK]
  split
  · omega
  · rename_i hn
    have : ¬ cmpV (atV r 0) (nV k) = 0 := by
      rw [cmpV_null, if_neg hn, if_neg (by simp [nV]), if_pos h1, cmpI_eq]; exact h2
    simp [this, truthF]
def numP (l : List Int) (a : Nat) : Int := (l[a]?).getD (wr .i64 ((a : Int) * 7919))
def kP (d : Nat) (n : Int) : Int := if d ≤ 1 ∧ 4 < andI n 7 then andI n 7 - 4 else andI n 7
def cP (s : Sch) (n : Int) : Int := Int.tmod (andI (shrI .i64 n 3) 255) (s.length : Int)
def vP (s : Sch) (n : Int) : Vl := if cP s n = 0 then nV (andI (shrI .i64 n 11) 15) else match s[(cP s n).toNat]? with
  | some c => valF ⟨c.name, c.kind, false⟩ (shrI .i64 n 11)
  | none => zv
def leafP (s : Sch) (n : Int) : Pr := .mk 2 (cP s n) (Int.tmod (andI (shrI .i64 n 17) 255) 6 + 1) (vP s n) []
def sonsP (n : Int) (son : Nat → Pr) : List Pr := (List.range (andI (shrI .i64 n 11) 3).toNat).map son
def predG (s : Sch) (n k : Int) (son : Nat → Pr) : Pr :=
  if k = 0 then prT else if k = 1 then .mk 3 (cP s n) 0 zv []
  else if k = 5 ∨ k = 6 then .mk (k - 1) 0 0 zv (sonsP n son)
  else if k = 7 then .mk 6 0 0 zv [son 0] else leafP s n
def predF (s : Sch) (l : List Int) : Nat → Nat → Pr
  | 0, a => predG s (numP l a) (kP 0 (numP l a)) fun _ => prT
  | d + 1, a => predG s (numP l a) (kP (d + 1) (numP l a)) fun i => predF s l d (3 * a + i + 1)
theorem kP_at {d : Nat} {n : Int} : ∃ k : Nat, kP d n = k ∧ k ≤ 7 ∧ (d ≤ 1 → k ≤ 4) := by
  obtain ⟨q, hq, h1⟩ := andI_small (a := n) (m := 7) (by simp)
  have hq' : andI n 7 = q := hq
  unfold kP
  rw [hq']
  split
  · exact ⟨q - 4, by omega, by omega, by omega⟩
  · exact ⟨q, rfl, h1, by omega⟩
def numO (l : List Int) (a : Nat) : Int := match l[a % l.length]? with
  | some x => wr .i64 (x + wr .i64 ((a : Int) * 7919))
  | none => 0
def predO (s : Sch) (l : List Int) (a : Nat) : Pr := if andI (shrI .i64 (numO l a) 3) 3 = 0 then prK (andI (shrI .i64 (numO l a) 5) 15) else predF s l 3 (a % 7)
def colO (s : Sch) (n : Int) : Int := Int.tmod (andI (shrI .i64 n 9) 255) (s.length : Int)
def addO (cl : Cl) (n : Int) : Bool := decide (cl.kind = 1) && !(valF cl (shrI .i64 n 17)).null && decide (andI (shrI .i64 n 13) 1 = 1)
def sxO (c : Int) (cl : Cl) (n : Int) : Sx := ⟨c, addO cl n, valF cl (shrI .i64 n 17)⟩
def opG (s : Sch) (n k c : Int) (q : Pr) : Op :=
  if k ≤ 2 then insO (rowF s (shrI .i64 n 5))
  else if k ≤ 4 then (if 0 < c then setO q (match s[c.toNat]? with | some cl => sxO c cl n | none => ⟨0, false, zv⟩) else delO q)
  else if k = 5 then scanO q [c, 0]
  else if k = 6 then aggO q (wr .i64 (c - wr .i64 (andI (shrI .i64 n 14) 1 * wr .i64 (c + 1)))) [⟨1, 0⟩, ⟨wr .i64 (3 + andI (shrI .i64 n 15) 1), c⟩, ⟨2, 0⟩]
  else if andI (shrI .i64 n 18) 7 = 0 then rollO else delO q
def opF (s : Sch) (l : List Int) (a : Nat) : Op := opG s (numO l a) (andI (numO l a) 7) (colO s (numO l a)) (predO s l a)
end Go.Lib
end

section
set_option maxRecDepth 10000
namespace Go.Lib
open Go.Vm Go.Dv Go.Srt
variable {p : Prog} {ext : Ext} {F : Nat → Nat}
attribute [-simp] bin_and bin_xor
structure HPredL (p : Prog) (ext : Ext) (F : Nat → Nat) : Prop where
  law6 : HLaw6s p ext F
  h99 : Has p ext F 99 M99
@[simp] def nilPr : List D := [.lit (.int .i64 0), .lit (.int .i64 0), .lit (.int .i64 0), .lit (.bool false), .lit (.int .i64 0), .lit (.int .i64 0), .lit .nilslice, .lit .nilslice]
def P7a (s : Sch) (m : Md) (l : List Int) (a d : Nat) (H : HpD) (n : Int) (fr : FrD) (H' : HpD) : Prop :=
  fr = [(1, intsD m l), (2, .lit (.int .i64 (a : Int))), (3, .lit (.int .i64 (d : Int))), (4, .rptr [schR s] 0), (8, .ptr H.next 0), (9, .lit (.int .i64 n))] ∧ H' = H.new (.cells nilPr false)
def P7b (s : Sch) (m : Md) (l : List Int) (a d : Nat) (H : HpD) (n k : Int) (fr : FrD) (H' : HpD) : Prop :=
  fr = [(1, intsD m l), (2, .lit (.int .i64 (a : Int))), (3, .lit (.int .i64 (d : Int))), (4, .rptr [schR s] 0), (8, .ptr H.next 0), (9, .lit (.int .i64 n)), (10, .lit (.int .i64 k))] ∧ H' = H.new (.cells nilPr false)
theorem VDl_last {h : Hp} {ψ : Nat → Option Nat} {S : Fz} {d : D} : ∀ {pre : List D} {l : List V}, VDl h ψ S (pre ++ [d]) l → ∃ l1 v, l = l1 ++ [v] ∧ VDl h ψ S pre l1 ∧ VD h ψ S d v
  | [], l, k => by
    simp only [List.nil_append, VDl] at k
    obtain ⟨v, r, rfl, k, rfl⟩ := k
    exact ⟨[], v, rfl, by simp only [VDl], k⟩
  | x :: pre, l, k => by
    simp only [List.cons_append, VDl] at k
    obtain ⟨v, r, rfl, k1, k⟩ := k
    obtain ⟨l1, w, rfl, k2, k3⟩ := VDl_last (pre := pre) k
    exact ⟨v :: l1, w, rfl, by simp only [VDl]; exact ⟨v, l1, rfl, k1, k2⟩, k3⟩
theorem WeakV.aggLast {pre : List D} {d d2 : D} {H H2 : HpD} (k : WeakV d H d2 H2) : WeakV (.agg (pre ++ [d])) H (.agg (pre ++ [d2])) H2 := by
  intro G ψ S hp v s kv
  simp only [VD] at kv
  obtain ⟨l, rfl, kl⟩ := kv
  obtain ⟨l1, w, rfl, k1, k2⟩ := VDl_last kl
  obtain ⟨ψ', S', x1, s1, k3⟩ := k _ ψ S hp w s k2
  refine ⟨ψ', S', x1, s1, ?_⟩
  simp only [VD]
  exact ⟨_, rfl, (VDl.mono x1 _ k1).append (by simp only [VDl]; exact ⟨w, [], rfl, k3, rfl⟩)⟩
theorem predF_eq {s : Sch} {l : List Int} {d a : Nat} : predF s l d a = predG s (numP l a) (kP d (numP l a)) (fun i => match d with | 0 => prT | d' + 1 => predF s l d' (3 * a + i + 1)) := by
  cases d <;> rfl
def head7 (k : Int) : List D := [.lit (.int .i64 k), .lit (.int .i64 0), .lit (.int .i64 0), .lit (.bool false), .lit (.int .i64 0), .lit (.int .i64 0), .lit .nilslice]
def P7I (H : HpD) (s : Sch) (m : Md) (l : List Int) (a d : Nat) (n k : Int) (sons : List Pr) (w : Nat) (fr : FrD) (H' : HpD) : Prop :=
  ∃ (i : Nat) (t : D), w = sons.length - i ∧ i ≤ sons.length ∧ fr = [(1, intsD m l), (2, .lit (.int .i64 (a : Int))), (3, .lit (.int .i64 (d : Int))), (4, .rptr [schR s] 0), (8, .ptr H.next 0), (9, .lit (.int .i64 n)), (12, .ptr (H.next + 1) 0), (13, .lit (.int .i64 (i : Int)))] ∧
    Gr ⟨H.next + 2, H'.blk⟩ H' 8 t ((sons.take i).map Pr.c) ∧ H'.blk (H.next + 1) = .cells (head7 k ++ [t]) false ∧ H'.blk H.next = .cells nilPr false ∧ Sub H H'
theorem fin_sons {H X : HpD} {t : D} {sons : List Pr} {kk : Int} {N : Nat} (hs : Dv.Sub H X) (g : Gr ⟨N, X.blk⟩ X 8 t (sons.map Pr.c)) (hN : H.next ≤ N) : Dv.Fin H (.agg (Pr.mk kk 0 0 zv sons).c) (.agg (head7 kk ++ [t])) X := by
  obtain ⟨H2, w, sub2, _⟩ := g.fin (underss_map (fun q => pr_unders q) _) (m := .p) (by simp)
  have hn2 := sub2.next
  simp at hn2
  exact ⟨H2, (WeakV.aggLast (pre := head7 _) w).trans (.le (by simp [head7, pr_c, Pr.kind, Pr.col, Pr.op, Pr.v, Pr.l, zv, D.le, byD, byE, prsD, D.less_refl])), ⟨by omega, fun x hx => by rw [sub2.blk x (by simp; omega), ← hs.blk x hx]⟩, by simp [D.under]⟩
theorem pred7_1 (L : HPredL p ext F) {s : Sch} {m : Md} {l : List Int} {a d : Nat} (hs0 : 0 < s.length) (hs : s.length < 1000) (ha : a < 1000000) (hd : d < 1000) (ih : ∀ d' a' : Nat, d = d' + 1 → 1 ≤ d' → a' ≤ 3 * a + 10 → FnD p ext (F 99) [schD s, intsD m l, .lit (.int .i64 (a' : Int)), .lit (.int .i64 (d' : Int))] (.agg (predF s l d' a').c)) : FnD p ext (F 99) [schD s, intsD m l, .lit (.int .i64 (a : Int)), .lit (.int .i64 (d : Int))] (.agg (predF s l d a).c) := by
  refine fn_of L.h99 (M := M99) rfl ok99 rfl fun H => sem_run 14 _ ?_
  simp
  refine sem_cut (P7a s m l a d H (numP l a)) (sem_run 9000 _ ?_) ?_
  · by_cases c : a < l.length
    · have hn : numP l a = l[a] := by simp [numP, c]
      rw [hn]
      simp [c]
      exact sem_ok ⟨rfl, rfl⟩
    · have hn : numP l a = wr .i64 ((a : Int) * 7919) := by simp [numP, c]
      rw [hn]
      simp [c]
      refine sem_as_ok [(1, intsD m l), (2, .lit (.int .i64 (a : Int))), (3, .lit (.int .i64 (d : Int))), (4, .rptr [schR s] 0), (8, .ptr H.next 0), (9, .lit (.int .i64 (wr .i64 ((a : Int) * 7919))))] (by simp [D.le_refl, intsD]) ?_
      exact sem_ok ⟨rfl, rfl⟩
  rintro fr H1 ⟨rfl, rfl⟩
  obtain ⟨n, hn⟩ : ∃ n, numP l a = n := ⟨_, rfl⟩
  rw [hn]
  refine sem_run 9 _ ?_
  simp
  refine sem_cut (P7b s m l a d H n (kP d n)) (sem_run 9000 _ ?_) ?_
  · obtain ⟨q, hq, hq7⟩ := andI_small (a := n) (m := 7) (by simp)
    have hq' : andI n 7 = q := hq
    by_cases c : d ≤ 1
    · have c' : (d : Int) ≤ 1 := by omega
      by_cases c2 : 4 < q
      · have c2' : (4 : Int) < q := by omega
        have hk : kP d n = (q : Int) - 4 := by unfold kP; rw [hq', if_pos ⟨c, by omega⟩]
        have w : wr .i64 ((q : Int) - 4) = (q : Int) - 4 := by rw [wr_of] <;> omega
        rw [hk]
        simp [hq', c', c2', w]
        exact sem_ok ⟨rfl, rfl⟩
      · have c2' : ¬ (4 : Int) < q := by omega
        have hk : kP d n = (q : Int) := by unfold kP; rw [hq', if_neg (by omega)]
        rw [hk]
        simp [hq', c', c2']
        refine sem_as_ok [(1, intsD m l), (2, .lit (.int .i64 (a : Int))), (3, .lit (.int .i64 (d : Int))), (4, .rptr [schR s] 0), (8, .ptr H.next 0), (9, .lit (.int .i64 n)), (10, .lit (.int .i64 (q : Int)))] (by simp [D.le_refl, intsD]) ?_
        exact sem_ok ⟨rfl, rfl⟩
    · have c' : ¬ (d : Int) ≤ 1 := by omega
      have hk : kP d n = (q : Int) := by unfold kP; rw [hq', if_neg (by omega)]
      rw [hk]
      simp [hq', c']
      refine sem_as_ok [(1, intsD m l), (2, .lit (.int .i64 (a : Int))), (3, .lit (.int .i64 (d : Int))), (4, .rptr [schR s] 0), (8, .ptr H.next 0), (9, .lit (.int .i64 n)), (10, .lit (.int .i64 (q : Int)))] (by simp [D.le_refl, intsD]) ?_
      exact sem_ok ⟨rfl, rfl⟩
  rintro fr H1 ⟨rfl, rfl⟩
  obtain ⟨k, hk, hk7, hk4⟩ := kP_at (d := d) (n := n)
  rw [hk]
  have hz : (s.length : Int) ≠ 0 := by omega
  have hsz : ¬ s.length = 0 := by omega
  have hc : Int.tmod (andI (shrI .i64 n 3) 255) (s.length : Int) = cP s n := rfl
  obtain ⟨c, hcn, hcl⟩ : ∃ c : Nat, cP s n = c ∧ c < s.length := by
    obtain ⟨q, hq, hq1⟩ := andI_small (a := shrI .i64 n 3) (m := 255) (by simp)
    have hq' : andI (shrI .i64 n 3) 255 = q := hq
    refine ⟨q % s.length, ?_, Nat.mod_lt _ hs0⟩
    unfold cP
    rw [hq', Int.tmod_eq_emod_of_nonneg (by omega)]; omega
  refine sem_run 9000 _ ?_
  simp [hsz, hc, hcn]
  have hF := predF_eq (s := s) (l := l) (d := d) (a := a)
  rw [hn, hk] at hF
  generalize hson : (fun i => match d with | 0 => prT | d' + 1 => predF s l d' (3 * a + i + 1)) = son at hF
  rw [hF]
  have hih : ∀ i : Nat, 1 < d → i ≤ 3 → FnD p ext (F 99) [schD s, intsD m l, .lit (.int .i64 (3 * (a : Int) + (i : Int) + 1)), .lit (.int .i64 ((d : Int) - 1))] (.agg (son i).c) := fun i hd hi => by
    obtain ⟨d', rfl⟩ : ∃ d', d = d' + 1 := ⟨d - 1, by omega⟩
    have := ih d' (3 * a + i + 1) rfl (by omega) (by omega)
    rw [← hson]
    rw [show (((d' + 1 : Nat) : Int) - 1) = (d' : Int) by omega, show 3 * (a : Int) + (i : Int) + 1 = ((3 * a + i + 1 : Nat) : Int) by omega]
    exact this
  clear ih hson hF
  have hkk : k = 0 ∨ k = 1 ∨ k = 5 ∨ k = 6 ∨ k = 7 ∨ k = 2 ∨ k = 3 ∨ k = 4 := by omega
  rcases hkk with rfl | rfl | h
  · simp
    refine sem_ret ?_
    simp [M99]
    exact .le sR (by simp [predG, prT, pr_c, Pr.kind, Pr.col, Pr.op, Pr.v, Pr.l, zv, D.le, byD, byE, prsD]) (by simp [D.under])
  · simp
    refine sem_ret ?_
    simp [M99]
    exact .le sR (by simp [predG, hcn, pr_c, Pr.kind, Pr.col, Pr.op, Pr.v, Pr.l, zv, D.le, byD, byE, prsD]) (by simp [D.under])
  · have hh : ((k = 5 ∨ k = 6) ∧ 1 < d) ∨ (k = 7 ∧ 1 < d) ∨ (k = 2 ∨ k = 3 ∨ k = 4) := by omega
    rcases hh with ⟨h5, hd⟩ | ⟨rfl, hd⟩ | h2
    · have w1 : wr .i64 ((d : Int) - 1) = (d : Int) - 1 := by rw [wr_of] <;> omega
      have hw : ∃ kk : Int, predG s n (k : Int) son = .mk kk 0 0 zv (sonsP n son) ∧ kk = (k : Int) - 1 := ⟨(k : Int) - 1, by rcases h5 with rfl | rfl <;> simp [predG], rfl⟩
      obtain ⟨q, hq, hq3⟩ := andI_small (a := shrI .i64 n 11) (m := 3) (by simp)
      have hq' : andI (shrI .i64 n 11) 3 = q := hq
      have hsl : (sonsP n son).length = q := by simp [sonsP, hq']
      have hsg : ∀ i, i < q → (sonsP n son)[i]? = some (son i) := fun i hi => by simp [sonsP, hq', hi]
      have g0 : ∀ HB : HpD, HB.next = H.next + 2 → Gr ⟨H.next + 2, HB.blk⟩ HB 8 (.lit .nilslice) (((sonsP n son).take 0).map Pr.c) := fun HB e => ⟨⟨by simp [e], fun _ _ => rfl⟩, by simp, .inl ⟨rfl, by simp⟩⟩
      obtain ⟨kk, hG, hkk⟩ := hw
      rw [hG]
      clear hG
      generalize sonsP n son = sons at hsl hsg g0
      rcases h5 with rfl | rfl
      case' inl => simp [show wr .i64 9 = 9 from rfl, show wr .i64 4 = 4 from rfl]
      case' inl => obtain rfl : kk = 4 := by omega
      case' inl => refine sem_loop (P7I H s m l a d n 4 sons) ?_ (k := sons.length) ⟨0, .lit .nilslice, by simp, by simp, by simp, g0 _ (by simp), by simp [head7], by simp, sR⟩
      case' inr => simp [show wr .i64 10 = 10 from rfl, show wr .i64 5 = 5 from rfl]
      case' inr => obtain rfl : kk = 5 := by omega
      case' inr => refine sem_loop (P7I H s m l a d n 5 sons) ?_ (k := sons.length) ⟨0, .lit .nilslice, by simp, by simp, by simp, g0 _ (by simp), by simp [head7], by simp, sR⟩
      all_goals
        rintro w fr H' ⟨i, t, rfl, hi, rfl, g, hb, hb8, hsub⟩
        have hnx := g.sub.next
        simp at hnx
        refine sem_run 9000 _ ?_
        simp
        by_cases c : i < sons.length
        · have ci : (i : Int) < (q : Int) := by omega
          have w2 : wr .i64 (wr .i64 (3 * (a : Int)) + (i : Int)) = 3 * (a : Int) + (i : Int) := by rw [wr_of (n := 3 * (a : Int)) (by omega) (by omega), wr_of] <;> omega
          have w3 : wr .i64 (3 * (a : Int) + (i : Int) + 1) = 3 * (a : Int) + (i : Int) + 1 := by rw [wr_of] <;> omega
          have wi : wr .i64 ((i : Int) + 1) = ((i + 1 : Nat) : Int) := by rw [wr_of] <;> omega
          simp [hq', ci, w1, w2, w3]
          refine sem_dfn (hih i hd (by omega)) (by first | exact D.les_refl _ | simp) (sem_run 9000 _ ?_)
          have hl1 : H.next + 1 < H'.next := by omega
          have hrg : rigid t = true := by
            rcases g.at_ with ⟨rfl, _⟩ | ⟨b, ex, el0, rfl, _⟩ <;> rfl
          have hfar : ∀ x, t.hasB x → H.next + 2 ≤ x ∧ x < H'.next := fun x hx => g.far hx
          simp [hb, hl1, head7, hrg]
          rw [appendD_slice1 (b := H'.next) (cs := (son i).c) (ro := false) (by simp) (by simp)]
          refine sem_push (g.rest (by simp) fun x hx => by rw [new_blk, if_neg (by have := (hfar x hx).2; omega)]) (by simp) (by simp) (roomyD (by simp; omega) (by simp; omega)) fun t' H2 g2 k2 n2 => ?_
          have b12 : H2.blk (H.next + 1) = H'.blk (H.next + 1) := by
            rw [k2 _ (by simp; omega) (fun h => by have := (hfar _ h).1; omega), new_blk, if_neg (by omega)]
          rw [hb] at b12
          have b8 : H2.blk H.next = .cells nilPr false := by
            rw [k2 _ (by simp; omega) (fun h => by have := (hfar _ h).1; omega), new_blk, if_neg (by omega), hb8]
          have hrg2 : cellsD t' = some [t'] ∧ flatD t' = true := by
            rcases g2.at_ with ⟨rfl, _⟩ | ⟨b, ex, el0, rfl, _⟩ <;> exact ⟨rfl, rfl⟩
          obtain ⟨n2, _⟩ := n2
          simp at n2
          have l12 : H.next + 1 < H2.next := by omega
          simp [b12, head7, hrg2.1, hrg2.2]
          refine sem_ok ?_
          have hdrop : sons.take (i + 1) = sons.take i ++ [son i] := by rw [List.take_add_one, hsg i (by omega)]; rfl
          refine ⟨sons.length - (i + 1), by omega, i + 1, t', rfl, by omega, by rw [wi], ?_, by simp [head7], by simp [b8], ⟨by simp; omega, fun x hx => ?_⟩⟩
          · rw [hdrop]
            have g3 := fun B => g2.rest (H3 := H2.put (H.next + 1) B) (by simp) fun x hx => by rw [put_blk, if_neg (by have := (g2.far hx).1; simp at this; omega)]
            simpa using g3 _
          · rw [put_blk, if_neg (by omega), k2 x (by simp; have := hsub.next; omega) (fun h => by have := (hfar _ h).1; omega), new_blk, if_neg (by omega), hsub.blk x hx]
        · have : i = sons.length := by omega
          subst this
          have ci : ¬ ((sons.length : Nat) : Int) < (q : Int) := by omega
          have hft : flatD t = true := by
            rcases g.at_ with ⟨rfl, _⟩ | ⟨b, ex, el0, rfl, _⟩ <;> rfl
          simp [hq', ci]
          refine sem_exit (sem_run 9000 _ ?_)
          have hl1 : H.next + 1 < H'.next := by omega
          have hl0 : H.next < H'.next := by omega
          simp [hb, hb8, head7, hft]
          refine sem_ret ?_
          simp [M99]
          rw [List.take_length] at g
          exact fin_sons (N := H.next + 2) (hsub.put (Nat.le_refl _)) (g.rest (by simp) fun x hx => by rw [put_blk, if_neg (by have := (g.far hx).1; simp at this; omega)]) (by omega)
    · have w1 : wr .i64 ((d : Int) - 1) = (d : Int) - 1 := by rw [wr_of] <;> omega
      have w2 : wr .i64 (wr .i64 (3 * (a : Int)) + 1) = 3 * (a : Int) + 1 := by rw [wr_of (n := 3 * (a : Int)) (by omega) (by omega), wr_of] <;> omega
      have h7 := hih 0 hd (by omega)
      rw [show 3 * (a : Int) + ((0 : Nat) : Int) + 1 = 3 * (a : Int) + 1 by omega] at h7
      simp [w1, w2]
      refine sf h7 ?_
      simp
      refine sem_ret ?_
      simp [M99]
      rw [show predG s n 7 son = .mk 6 0 0 zv [son 0] by simp [predG]]
      refine fin_sons (N := H.next + 1) sR ⟨⟨by simp, fun _ _ => rfl⟩, by simp, .inr ⟨H.next + 1, true, [(son 0).c], by simp, by simp, by simp, by simp, D.less_refl _⟩⟩ (by omega)
    · obtain ⟨cl, hcl⟩ : ∃ cl, s[c]? = some cl := ⟨s[c], by simp⟩
      have hG : predG s n (k : Int) son = leafP s n := by rcases h2 with rfl | rfl | rfl <;> simp [predG]
      rw [hG]
      have hop : ∃ o : Int, Int.tmod (andI (shrI .i64 n 17) 255) 6 = o ∧ wr .i64 (o + 1) = o + 1 := by
        obtain ⟨q, hq, hq1⟩ := andI_small (a := shrI .i64 n 17) (m := 255) (by simp)
        have hq' : andI (shrI .i64 n 17) 255 = q := hq
        refine ⟨_, rfl, ?_⟩
        rw [hq', Int.tmod_eq_emod_of_nonneg (by omega), wr_of] <;> omega
      obtain ⟨o, ho, wo⟩ := hop
      have hfl : ∀ v : Vl, flatsD (v.c ++ [.lit .nilslice]) = true := fun v => rfl
      have hsp : spliceD cl.c 2 [.lit (.bool false)] = Cl.c ⟨cl.name, cl.kind, false⟩ := rfl
      have hleaf : (leafP s n).c = [.lit (.int .i64 2), .lit (.int .i64 (c : Int)), .lit (.int .i64 (o + 1)), .lit (.bool (vP s n).null), .lit (.int .i64 (vP s n).kind), .lit (.int .i64 (vP s n).n), byD (vP s n).bytes, prsD []] := by
        rw [pr_c]; simp [leafP, Pr.kind, Pr.col, Pr.op, Pr.v, Pr.l, hcn, ho]
      rw [hleaf]
      by_cases hc0 : c = 0
      · have hv : vP s n = nV (andI (shrI .i64 n 11) 15) := by unfold vP; rw [if_pos (by omega)]
        rw [hv]
        rcases h2 with rfl | rfl | rfl
        all_goals
          simp [hcl, hsp, -getElem?_pos]
          refine sf (law6_value L.law6 (c := ⟨cl.name, cl.kind, false⟩) (n := shrI .i64 n 11)) ?_
          simp [hc0, ho, wo]
          refine sem_ret ?_
          simp [M99]
          exact .le sR (by simp [nV, D.le, byD, byE, prsD]) (by simp [D.under])
      · have hv : vP s n = valF ⟨cl.name, cl.kind, false⟩ (shrI .i64 n 11) := by
          unfold vP; rw [if_neg (by omega), hcn]; simp [hcl]
        rw [hv]
        rcases h2 with rfl | rfl | rfl
        all_goals
          simp [hcl, hsp, -getElem?_pos]
          refine sf (law6_value L.law6 (c := ⟨cl.name, cl.kind, false⟩) (n := shrI .i64 n 11)) ?_
          simp [hc0, ho, wo, hfl]
          refine sem_ret ?_
          simp [M99, Vl.c]
          exact .le sR (by simp [D.le, D.le_refl, prsD]) (by simp [D.under])
theorem pred7 (L : HPredL p ext F) {s : Sch} {m : Md} {l : List Int} (hs0 : 0 < s.length) (hs : s.length < 1000) : ∀ {d a : Nat}, d < 1000 → (a + 20) * 4 ^ d < 1000000 → FnD p ext (F 99) [schD s, intsD m l, .lit (.int .i64 (a : Int)), .lit (.int .i64 (d : Int))] (.agg (predF s l d a).c)
  | 0, a, hd, ha => pred7_1 L hs0 hs (by simp at ha; omega) (by omega) fun d' a' e => by omega
  | d + 1, a, hd, ha => pred7_1 L hs0 hs (by have := Nat.mul_le_mul_left (a + 20) (Nat.one_le_two_pow (n := 2 * (d + 1))); rw [Nat.pow_mul, show (2 : Nat) ^ 2 = 4 from rfl] at this; omega) (by omega) fun d' a' e h1 h2 => by
    obtain rfl : d' = d := by omega
    refine pred7 L hs0 hs (by omega) (Nat.lt_of_le_of_lt ?_ ha)
    rw [Nat.pow_succ, Nat.mul_comm (4 ^ d') 4, ← Nat.mul_assoc]
    exact Nat.mul_le_mul_right _ (by omega)
end Go.Lib
end
