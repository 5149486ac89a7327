/-
  Texts that the claim's last one rests on, joined.
-/
import Derived.Test.YtnbmmnjihipahaaBModlPlaysf
import Derived.Test.YtnbmmnjihipahaaBModlPlaysh
import Derived.Test.YtnbmmnjihipahaaBModlPlaysg

section
set_option maxRecDepth 10000
namespace Go.Lib
open Go.Vm Go.Dv Go.Srt
variable {p : Prog} {ext : Ext} {F : Nat → Nat}
structure HRef15 (p : Prog) (ext : Ext) (F : Nat → Nat) : Prop where
  ref6 : HRef6 p ext F
  h53 : Has p ext F 53 M53
  h54 : Has p ext F 54 M54
  h55 : Has p ext F 55 M55
  h56 : Has p ext F 56 M56
  h57 : Has p ext F 57 M57
  h58 : Has p ext F 58 M58
  h59 : Has p ext F 59 M59
  h60 : Has p ext F 60 M60
theorem cmpR_ord {ks : List Int} : Ord3 (GoodR ks) cmpR := ⟨fun x y hx hy => cmpRow_ord.sym x y hx.kin hy.kin, fun x y z hx hy hz => cmpRow_ord.tr x y z hx.kin hy.kin hz.kin⟩
theorem cmpR_zero {ks : List Int} : ∀ x y, GoodR ks x → GoodR ks y → cmpR x y = 0 → x = y := fun _ _ hx hy h => cmpRow_zero hx hy h
theorem rise_ins {α : Type} {G : α → Prop} {cmp : α → α → Int} (o : Ord3 G cmp) {l : List α} {x : α} {j : Nat} (hj : j ≤ l.length) (hG : ∀ y, y ∈ l → G y) (hx : G x) (h : Rise cmp l) (h1 : ∀ q y, j ≤ q → l[q]? = some y → 0 < cmp y x) (h2 : ∀ y, 0 < j → l[j - 1]? = some y → cmp y x ≤ 0) : Rise cmp (l.take j ++ x :: l.drop j) := by
  have hh : Rise cmp (l.take j ++ l.drop j) := (by rw [List.take_append_drop]; exact h);obtain ⟨a, b, c⟩ := List.pairwise_append.1 hh
  have hd : ∀ y, y ∈ l.drop j → cmp x y ≤ 0 := fun y hy => by
    obtain ⟨q, hq⟩ := List.mem_iff_getElem?.1 hy;rw [List.getElem?_drop] at hq;have := h1 _ y (by omega) hq;have := o.sym x y hx (hG y (List.mem_of_mem_drop hy));omega
  have ht : ∀ y, y ∈ l.take j → cmp y x ≤ 0 := fun y hy => by
    obtain ⟨q, hq⟩ := List.mem_iff_getElem?.1 hy;rw [List.getElem?_take] at hq;split at hq
    · rename_i hqj
      by_cases e : q = j - 1
      · exact h2 y (by omega) (by rw [← e]; exact hq)
      · have hl : j - 1 < l.length := (by omega);have h3 := h2 l[j-1] (by omega) (by simp [hl])
        have h4 : cmp y l[j-1] ≤ 0 := by
          have hq2 : q < l.length := (List.getElem?_eq_some_iff.1 hq).1;have := List.pairwise_iff_getElem.1 h q (j - 1) hq2 hl (by omega);obtain ⟨_, e2⟩ := List.getElem?_eq_some_iff.1 hq;rw [← e2]; exact this
        exact o.tr _ _ _ (hG y (List.mem_of_mem_take hy)) (hG _ (by simp)) hx h4 h3
    · cases hq
  refine List.pairwise_append.2 ⟨a, List.pairwise_cons.2 ⟨hd, b⟩, fun y hy z hz => ?_⟩;rcases List.mem_cons.1 hz with rfl | hz
  · exact ht y hy
  · exact c y hy z hz
def SortI (H0 : HpD) (l : List Row) (k : Nat) (fr : FrD) (H : HpD) : Prop :=
  ∃ (i : Nat) (out : List Row), k = l.length - i ∧ i ≤ l.length ∧ fr = [(0, rowsD l), (3, rowsD out), (4, .lit (.int .i64 (i : Int)))] ∧ Sub H0 H ∧ out.Perm (l.take i) ∧ Rise cmpR out
def Ins15I (H0 : HpD) (l out : List Row) (i : Nat) (x : Row) (k : Nat) (fr : FrD) (H : HpD) : Prop :=
  ∃ j : Nat, k = j ∧ j ≤ out.length ∧ fr = [(0, rowsD l), (3, rowsD out), (4, .lit (.int .i64 (i : Int))), (5, .lit (.int .i64 (j : Int)))] ∧ Sub H0 H ∧ ∀ q y, j ≤ q → out[q]? = some y → 0 < cmpR y x
theorem ref15_sort (L : HRef15 p ext F) {ks : List Int} {l : List Row} (hl : Fine l) (hg : GoodRs ks l) : FnD p ext (F 53) [rowsD l] (rowsD (sortL cmpR l)) := by
  refine fn_of L.h53 (M := M53) rfl ok53 rfl fun H => sem_run 9000 _ ?_;simp;have hl1 := hl.1;refine sem_as [(0, rowsD l), (3, rowsD []), (4, .lit (.int .i64 0))] (by simp [rowsD, rowsE, D.le]) ?_;refine sem_loop (SortI H l) ?_ (k := l.length) ⟨0, [], by simp, by simp, rfl, .refl, by simp, by simp [Rise]⟩;rintro k fr H' ⟨i, out, rfl, hi, rfl, hs, hp1, hr⟩;refine sem_run 9000 _ ?_;simp;have hlo : out.length = i := (by rw [hp1.length_eq]; simp; omega);have hgo : ∀ y, y ∈ out → GoodR ks y := fun y hy => hg y (List.mem_of_mem_take (hp1.mem_iff.1 hy))
  by_cases c : i < l.length
  · obtain ⟨x, hx⟩ : ∃ x, l[i]? = some x := ⟨l[i], by simp⟩;have hxg : GoodR ks x := hg x (List.mem_of_getElem? hx);have hxl := hl.2 x (List.mem_of_getElem? hx);simp [c];refine sem_loop (Ins15I H' l out i x) ?_ (k := out.length) ⟨out.length, rfl, by omega, by simp, .refl, fun q y h1 h2 => by have := (List.getElem?_eq_some_iff.1 h2).1; omega⟩;rintro j fr H2 ⟨_, rfl, hj, rfl, hs2, hq⟩;refine sem_run 9000 _ ?_;simp;have w1 : 0 < j → wr .i64 ((j : Int) - 1) = ((j - 1 : Nat) : Int) := fun h => (by rw [wr_of] <;> omega);have g0 : ∀ H2 : HpD, Gr H2 (H2.new (.cells [] false)) 1 (.slice H2.next 0 1 0 0 true) (rowsE []) := fun H2 => Gr.lit Sub.refl (by simp [rowsE]) (by simp [rowsE]) (by simp [rowsE])
    have last : rowsE [] ++ rowsE (out.take j) ++ [[rowD x]] ++ rowsE (out.drop j) = rowsE (out.take j ++ x :: out.drop j) := (by simp [rowsE])
    have wi : wr .i64 ((i : Int) + 1) = ((i + 1 : Nat) : Int) := by rw [wr_of] <;> omega
    have stop : (0 < j ∧ ∃ y, out[j - 1]? = some y ∧ y.length < 1000000 ∧ 0 < cmpR y x) ∨ (0 < j ∧ ∃ y, out[j - 1]? = some y ∧ y.length < 1000000 ∧ ¬ 0 < cmpR y x) ∨ ¬ 0 < j := by
      by_cases c1 : 0 < j
      · obtain ⟨y, hy⟩ : ∃ y, out[j - 1]? = some y := ⟨out[j - 1]'(by omega), by simp⟩
        have hyl : y.length < 1000000 := by
          obtain ⟨r, hr⟩ := List.mem_iff_getElem?.1 (List.mem_of_mem_take (hp1.mem_iff.1 (List.mem_of_getElem? hy)));exact hl.2 y (List.mem_of_getElem? hr)
        by_cases c2 : 0 < cmpR y x
        · exact .inl ⟨c1, y, hy, hyl, c2⟩
        · exact .inr (.inl ⟨c1, y, hy, hyl, c2⟩)
      · exact .inr (.inr c1)
    rcases stop with ⟨c1, y, hy, hyl, c2⟩ | ⟨c1, y, hy, hyl, c2⟩ | c1
    · simp [c1, w1 c1, hy, hx, -getElem?_pos];refine sem_dfn (ref6_rows L.ref6 hyl hxl) (by first | exact D.les_refl _ | simp) (sem_run 9000 _ ?_);have c2' : 0 < cmpRow cmpV y x := c2;simp [c2', w1 c1];refine sem_ok ?_;refine ⟨j - 1, by omega, j - 1, rfl, by omega, by simp, hs2, fun q z h1 h2 => ?_⟩
      by_cases e : q = j - 1
      · subst e; rw [hy] at h2; cases h2; exact c2
      · exact hq q z (by omega) h2
    · simp [c1, w1 c1, hy, hx, -getElem?_pos];refine sem_dfn (ref6_rows L.ref6 hyl hxl) (by first | exact D.les_refl _ | simp) (sem_run 9000 _ ?_);have c2' : ¬ 0 < cmpRow cmpV y x := c2;simp [c2'];refine sem_exit (sem_run 9000 _ ?_);have hq3 : ∀ y, 0 < j → out[j - 1]? = some y → cmpR y x ≤ 0 := fun z _ h2 => (by rw [hy] at h2; cases h2; omega);clear c2' c2 hy hyl c1;simp [slc_take hj, -getElem?_pos];refine sem_app (g0 H2) rows_one rows_flats (roomyD (by simp; omega) (by simp; omega)) fun s1 H3 g1 _ _ => ?_;simp [hx, -getElem?_pos];rw [appendD_slice1 (b := H3.next) (cs := [rowD x]) (ro := false) (by simp) (by simp)];refine sem_push (g1.mono Sub.refl.new) rfl rfl (roomyD (by simp only [List.length_append, rows_len, List.length_take, List.length_nil]; omega) (by simp only [List.length_append, rows_len, List.length_take, List.length_nil]; omega)) fun s2 H4 g2 _ _ => ?_;simp [slc_drop hj, -getElem?_pos]
      refine sem_app g2 rows_one rows_flats (roomyD (by simp; omega) (by simp; omega)) fun s3 H5 g3 _ _ => ?_;simp
      replace g3 : Gr H2 H5 1 s3 (rowsE (out.take j ++ x :: out.drop j)) := by rw [← last]; exact g3
      refine sem_turn_as_ok [(0, rowsD l), (3, rowsD (out.take j ++ x :: out.drop j)), (4, .lit (.int .i64 ((i + 1 : Nat) : Int)))] g3 3 (by simp) (by simp [rowsD, wi]) fun H6 s6 _ _ => ?_;refine sem_ok ?_;refine ⟨_, by omega, i + 1, _, rfl, by omega, rfl, hs.trans (hs2.trans s6), ?_, rise_ins cmpR_ord hj hgo hxg hr hq hq3⟩;rw [List.take_add_one, hx];refine (List.perm_middle).trans ?_;rw [List.take_append_drop];exact (List.perm_append_comm (l₁ := [x])).trans (hp1.append_right _)
    · simp [c1];refine sem_exit (sem_run 9000 _ ?_);have hq3 : ∀ y, 0 < j → out[j - 1]? = some y → cmpR y x ≤ 0 := fun z h1 _ => absurd h1 c1;clear c1;simp [slc_take hj, -getElem?_pos];refine sem_app (g0 H2) rows_one rows_flats (roomyD (by simp; omega) (by simp; omega)) fun s1 H3 g1 _ _ => ?_;simp [hx, -getElem?_pos];rw [appendD_slice1 (b := H3.next) (cs := [rowD x]) (ro := false) (by simp) (by simp)];refine sem_push (g1.mono Sub.refl.new) rfl rfl (roomyD (by simp only [List.length_append, rows_len, List.length_take, List.length_nil]; omega) (by simp only [List.length_append, rows_len, List.length_take, List.length_nil]; omega)) fun s2 H4 g2 _ _ => ?_
      simp [slc_drop hj, -getElem?_pos];refine sem_app g2 rows_one rows_flats (roomyD (by simp; omega) (by simp; omega)) fun s3 H5 g3 _ _ => ?_;simp
      replace g3 : Gr H2 H5 1 s3 (rowsE (out.take j ++ x :: out.drop j)) := by rw [← last]; exact g3
      refine sem_turn_as_ok [(0, rowsD l), (3, rowsD (out.take j ++ x :: out.drop j)), (4, .lit (.int .i64 ((i + 1 : Nat) : Int)))] g3 3 (by simp) (by simp [rowsD, wi]) fun H6 s6 _ _ => ?_;refine sem_ok ?_;refine ⟨_, by omega, i + 1, _, rfl, by omega, rfl, hs.trans (hs2.trans s6), ?_, rise_ins cmpR_ord hj hgo hxg hr hq hq3⟩;rw [List.take_add_one, hx];refine (List.perm_middle).trans ?_;rw [List.take_append_drop];exact (List.perm_append_comm (l₁ := [x])).trans (hp1.append_right _)
  · simp [c];refine sem_exit (sem_run 9000 _ ?_);have : i = l.length := (by omega);subst this;simp;refine sem_ret ?_;simp [M53];rw [List.take_length] at hp1;rw [rise_sort cmpR_ord cmpR_zero hg hp1 hr];exact .le hs (D.le_refl _) (by simp)
end Go.Lib
end

section
namespace Go.Lib
open Go.Vm Go.Dv
set_option maxRecDepth 100000
abbrev K22 (F : Nat → Nat) : KC := .seq (.region [⟨some 2,.a (.box (.tmp 0)),none⟩,⟨some 4,.p (.mov (.val (.nilslice))),none⟩] [2] [1,2])
 (.seq (.region [⟨some 5,.p (.mov (.val (.nilslice))),none⟩] [] [1,2,5])
 (.seq (.seq (.region [mi 6 0] [] [1,2,5,6])
 (.block 0 (.loop (.seq (.seq (.region [mv 8 6,mv 9 1,lb 10 9,bt 11 .lss 8 10,mv 12 11,⟨some 13,.p (.mov (.tmp 6)),(some (12,true))⟩,⟨some 14,.p (.bin .lss (.tmp 13) (.val (.int .i64 (.ofNat 40)))),(some (12,true))⟩,⟨some 15,.p (.pick (.tmp 12) (.tmp 14) (.val (.bool false))),none⟩] [] [1,2,5,6,15])
 (.cond (.tmp 15) (.skip)
 (.exit 0)))
 (.seq (.block 1 (.seq (.dregion [⟨ln 18 1 2,0,5⟩,⟨mv 19 1,0,5⟩,⟨mv 20 6,0,5⟩,⟨ix 21 1 19 20,0,5⟩,⟨l1 22 21,0,5⟩,⟨⟨some 23,.e (.call (F 24) [(.tmp 18),(.tmp 22)]),none⟩,0,7⟩,⟨mv 7 23,6,7⟩] [1,2,5,6,7])
 (.seq (.region [mv 24 7,mv 25 6,bi 26 .mul 25 3,mv 27 1,mv 28 6,ix 29 1 27 28,l1 30 29,bi 31 .and 30 1,bt 32 .add 26 31,⟨some 33,.p (.iaddr 4 (.tmp 24) (.val (.int .i64 (.ofNat 0)))),none⟩,fa 34 2 33,⟨none,.e (.store 1 (.tmp 34) (.tmp 32)),none⟩] [] [1,2,5,6,7])
 (.region [mv 35 5,mv 36 7,⟨some 37,.a (.bslice [.nilslice] 1 1 [(0,1,(.tmp 36))]),none⟩,⟨some 38,.e (.append 1 24 (.tmp 35) (.tmp 37)),none⟩,mv 5 38] [37] [1,2,5,6]))))
 (.region [mv 16 6,bi 17 .add 16 1,mv 6 17] [] [1,2,5,6]))))))
 (.seq (.region [mv 39 5,mv 4 39] [] [4])
 (.ret))))
def M22 (F : Nat → Nat) : Fun := ⟨40,2,(K22 F).erase,[.tmp 4]⟩
abbrev K23 (_F : Nat → Nat) : KC := .seq (.region [⟨some 2,.a (.new [.nilslice]),none⟩] [] [0,2])
 (.seq (.region [⟨some 6,.p (.build [.str [],.int .i64 (.ofNat 0),.bool false] [(0,1,(.val (.str [107,101,121]))),(1,1,(.val (.int .i64 (.ofNat 1))))]),none⟩,⟨some 7,.a (.bslice [.str [],.int .i64 (.ofNat 0),.bool false] 3 1 [(0,3,(.tmp 6))]),none⟩,⟨some 8,.p (.build [.nilslice] [(0,1,(.tmp 7))]),none⟩,⟨some 3,.a (.new [.nilslice]),none⟩,⟨none,.e (.store 1 (.tmp 3) (.tmp 8)),none⟩] [] [0,2,3])
 (.seq (.region [⟨some 9,.a (.bslice [.str [],.str [],.str [],.str [],.str []] 1 5 [(0,1,(.val (.str [97]))),(1,1,(.val (.str [98,98]))),(2,1,(.val (.str [99,99,99]))),(3,1,(.val (.str [110,117,108,108]))),(4,1,(.val (.str [97,110,100])))]),none⟩,mv 4 9] [9] [0,2,3,4])
 (.seq (.seq (.region [mi 5 0] [] [0,2,3,4,5])
 (.block 0 (.loop (.seq (.seq (.region [mv 10 5,mv 11 0,bi 12 .and 11 255,bi 13 .rem 12 6,bt 14 .lss 10 13,mv 15 14,⟨some 16,.p (.mov (.tmp 5)),(some (15,true))⟩,⟨some 17,.p (.bin .lss (.tmp 16) (.val (.int .i64 (.ofNat 5)))),(some (15,true))⟩,⟨some 18,.p (.pick (.tmp 15) (.tmp 17) (.val (.bool false))),none⟩] [] [0,2,3,4,5,18])
 (.cond (.tmp 18) (.skip)
 (.exit 0)))
 (.seq (.block 1 (.dregion [⟨fa 21 0 3,0,24⟩,⟨l1 22 21,0,24⟩,⟨mv 23 4,0,24⟩,⟨mv 24 5,0,24⟩,⟨ix 25 1 23 24,0,24⟩,⟨l1 26 25,0,24⟩,⟨mv 27 0,0,24⟩,⟨mv 28 5,0,24⟩,⟨⟨some 29,.p (.bin .mul (.val (.int .i64 (.ofNat 2))) (.tmp 28)),none⟩,0,24⟩,⟨⟨some 30,.p (.bin .add (.val (.int .i64 (.ofNat 8))) (.tmp 29)),none⟩,0,24⟩,⟨⟨some 31,.p (.conv (.int .u64) (.tmp 30)),none⟩,0,24⟩,⟨bt 32 .shr 27 31,0,24⟩,⟨bi 33 .and 32 1,0,24⟩,⟨bi 34 .add 33 1,0,24⟩,⟨mv 35 0,0,24⟩,⟨mv 36 5,0,24⟩,⟨⟨some 37,.p (.bin .mul (.val (.int .i64 (.ofNat 2))) (.tmp 36)),none⟩,0,24⟩,⟨⟨some 38,.p (.bin .add (.val (.int .i64 (.ofNat 9))) (.tmp 37)),none⟩,0,24⟩,⟨⟨some 39,.p (.conv (.int .u64) (.tmp 38)),none⟩,0,24⟩,⟨bt 40 .shr 35 39,0,24⟩,⟨bi 41 .and 40 1,0,24⟩,⟨bi 42 .eql 41 1,0,24⟩,⟨⟨some 43,.p (.build [.str [],.int .i64 (.ofNat 0),.bool false] [(0,1,(.tmp 26)),(1,1,(.tmp 34)),(2,1,(.tmp 42))]),none⟩,0,24⟩,⟨⟨some 44,.a (.bslice [.str [],.int .i64 (.ofNat 0),.bool false] 3 1 [(0,3,(.tmp 43))]),none⟩,0,24⟩,⟨⟨some 45,.e (.append 3 32 (.tmp 22) (.tmp 44)),none⟩,0,26⟩,⟨fa 46 0 3,25,26⟩,⟨⟨none,.e (.store 1 (.tmp 46) (.tmp 45)),none⟩,25,27⟩] [0,2,3,4,5]))
 (.region [mv 19 5,bi 20 .add 19 1,mv 5 20] [] [0,2,3,4,5]))))))
 (.seq (.region [ln 47 1 3,⟨none,.e (.store 1 (.tmp 2) (.tmp 47)),none⟩] [] [2])
 (.ret)))))
def M23 (F : Nat → Nat) : Fun := ⟨48,1,(K23 F).erase,[.celln 1 2]⟩
theorem ok23 {F : Nat → Nat} : (K23 F).ok = true := rfl
abbrev K24 (F : Nat → Nat) : KC := .seq (.region [⟨some 2,.a (.box (.tmp 0)),none⟩,⟨some 4,.p (.mov (.val (.nilslice))),none⟩] [2] [1,2])
 (.seq (.region [⟨some 5,.p (.mov (.val (.nilslice))),none⟩] [] [1,2,5])
 (.seq (.seq (.region [fa 8 0 2,l1 9 8,lb 10 9,mi 11 0] [] [1,5,9,10,11])
 (.block 0 (.loop (.seq (.region [bt 12 .lss 11 10] [] [1,5,9,10,11,12])
 (.seq (.cond (.tmp 12) (.skip)
 (.exit 0))
 (.seq (.block 1 (.seq (.region [mv 13 11,ix 14 3 9 11,ln 15 3 14,⟨some 7,.a (.new [.str [],.int .i64 (.ofNat 0),.bool false]),none⟩,mv 6 13,⟨none,.e (.store 3 (.tmp 7) (.tmp 15)),none⟩] [] [1,5,6,7,9,10,11])
 (.seq (.seq (.region [mv 16 6,bi 17 .eql 16 0] [] [1,5,6,7,9,10,11,17])
 (.cond (.tmp 17) (.seq (.region [mv 18 5,mv 19 1,bi 20 .and 19 15,⟨some 21,.p (.build [.bool false,.int .i64 (.ofNat 0),.int .i64 (.ofNat 0),.nilslice] [(1,1,(.val (.int .i64 (.ofNat 1)))),(2,1,(.tmp 20))]),none⟩,⟨some 22,.a (.bslice [.bool false,.int .i64 (.ofNat 0),.int .i64 (.ofNat 0),.nilslice] 4 1 [(0,4,(.tmp 21))]),none⟩,⟨some 23,.e (.append 4 48 (.tmp 18) (.tmp 22)),none⟩,mv 5 23] [22] [1,5,9,10,11])
 (.exit 1))
 (.skip)))
 (.region [mv 24 5,ln 25 3 7,mv 26 1,mv 27 6,⟨some 28,.p (.bin .mul (.val (.int .i64 (.ofNat 3))) (.tmp 27)),none⟩,⟨some 29,.p (.conv (.int .u64) (.tmp 28)),none⟩,bt 30 .shr 26 29,mv 31 1,⟨some 32,.p (.bin .shr (.tmp 31) (.val (.int .u64 (.ofNat 17)))),none⟩,bt 33 .xor 30 32,⟨some 34,.e (.call (F 25) [(.tmp 25),(.tmp 33)]),none⟩,⟨some 35,.a (.bslice [.bool false,.int .i64 (.ofNat 0),.int .i64 (.ofNat 0),.nilslice] 4 1 [(0,4,(.tmp 34))]),none⟩,⟨some 36,.e (.append 4 48 (.tmp 24) (.tmp 35)),none⟩,mv 5 36] [35] [1,5,9,10,11]))))
 (.region [bi 37 .add 11 1,mv 11 37] [] [1,5,9,10,11])))))))
 (.seq (.region [mv 38 5,mv 4 38] [] [4])
 (.ret))))
def M24 (F : Nat → Nat) : Fun := ⟨39,2,(K24 F).erase,[.tmp 4]⟩
theorem ok24 {F : Nat → Nat} : (K24 F).ok = true := rfl
abbrev K25 (_F : Nat → Nat) : KC := .seq (.region [⟨some 2,.a (.box (.tmp 0)),none⟩,⟨some 4,.a (.new [.bool false,.int .i64 (.ofNat 0),.int .i64 (.ofNat 0),.nilslice]),none⟩] [2] [1,2,4])
 (.seq (.seq (.region [fa 6 2 2,l1 7 6,mv 8 7,⟨some 9,.p (.mov (.tmp 1)),(some (8,true))⟩,⟨some 10,.p (.bin .and (.tmp 9) (.val (.int .i64 (.ofNat 7)))),(some (8,true))⟩,⟨some 11,.p (.bin .eql (.tmp 10) (.val (.int .i64 (.ofNat 0)))),(some (8,true))⟩,⟨some 12,.p (.pick (.tmp 8) (.tmp 11) (.val (.bool false))),none⟩] [] [1,2,4,12])
 (.cond (.tmp 12) (.seq (.region [fa 13 1 2,l1 14 13,⟨some 15,.p (.build [.bool false,.int .i64 (.ofNat 0),.int .i64 (.ofNat 0),.nilslice] [(1,1,(.tmp 14)),(0,1,(.val (.bool true)))]),none⟩,⟨none,.e (.store 4 (.tmp 4) (.tmp 15)),none⟩] [] [4])
 (.ret))
 (.skip)))
 (.seq (.region [fa 16 1 2,l1 17 16,⟨some 18,.p (.build [.bool false,.int .i64 (.ofNat 0),.int .i64 (.ofNat 0),.nilslice] [(1,1,(.tmp 17))]),none⟩,⟨some 5,.a (.new [.bool false,.int .i64 (.ofNat 0),.int .i64 (.ofNat 0),.nilslice]),none⟩,⟨none,.e (.store 4 (.tmp 5) (.tmp 18)),none⟩] [] [1,2,4,5])
 (.seq (.seq (.region [fa 19 1 2,l1 20 19,bi 21 .eql 20 1] [] [1,4,5,21])
 (.cond (.tmp 21) (.seq (.region [mv 22 1,⟨some 23,.p (.bin .shr (.tmp 22) (.val (.int .u64 (.ofNat 3)))),none⟩,bi 24 .and 23 7,fa 25 2 5,⟨none,.e (.store 1 (.tmp 25) (.tmp 24)),none⟩] [] [1,4,5])
 (.seq (.seq (.region [mv 26 1,⟨some 27,.p (.bin .shr (.tmp 26) (.val (.int .u64 (.ofNat 6)))),none⟩,bi 28 .and 27 15] [] [1,4,5,28])
 (.block 0 (.seq (.region [bi 30 .eql 28 0,mv 29 30] [] [1,4,5,28,29])
 (.cond (.tmp 29) (.region [mv 31 1,bi 32 .mul 31 712544676207699905,fa 33 2 5,⟨none,.e (.store 1 (.tmp 33) (.tmp 32)),none⟩] [] [4,5])
 (.seq (.region [bi 35 .eql 28 1,mv 34 35] [] [4,5,28,34])
 (.cond (.tmp 34) (.region [fa 36 2 5,l1 37 36,⟨some 38,.p (.neg (.tmp 37)),none⟩,fa 39 2 5,⟨none,.e (.store 1 (.tmp 39) (.tmp 38)),none⟩] [] [4,5])
 (.seq (.region [bi 41 .eql 28 2,mv 40 41] [] [4,5,40])
 (.cond (.tmp 40) (.region [fa 42 2 5,l1 43 42,⟨some 44,.p (.bin .sub (.val (.int .i64 (.ofNat 9223372036854775807))) (.tmp 43)),none⟩,fa 45 2 5,⟨none,.e (.store 1 (.tmp 45) (.tmp 44)),none⟩] [] [4,5])
 (.skip)))))))))
 (.seq (.region [ln 46 4 5,⟨none,.e (.store 4 (.tmp 4) (.tmp 46)),none⟩] [] [4])
 (.ret))))
 (.skip)))
 (.seq (.region [⟨some 47,.a (.bslice [.int .u8 (.ofNat 0),.int .u8 (.ofNat 0),.int .u8 (.ofNat 0),.int .u8 (.ofNat 0),.int .u8 (.ofNat 0),.int .u8 (.ofNat 0),.int .u8 (.ofNat 0),.int .u8 (.ofNat 0)] 1 8 [(0,1,(.val (.int .u8 (.ofNat 97)))),(1,1,(.val (.int .u8 (.ofNat 98)))),(2,1,(.val (.int .u8 (.ofNat 99)))),(3,1,(.val (.int .u8 (.ofNat 97)))),(4,1,(.val (.int .u8 (.ofNat 98)))),(5,1,(.val (.int .u8 (.ofNat 99)))),(6,1,(.val (.int .u8 (.ofNat 97)))),(7,1,(.val (.int .u8 (.ofNat 98))))]),none⟩,⟨some 48,.e (.mark (.tmp 47)),none⟩,mv 49 1,⟨some 50,.p (.bin .shr (.tmp 49) (.val (.int .u64 (.ofNat 3)))),none⟩,bi 51 .and 50 3,mv 52 1,⟨some 53,.p (.bin .shr (.tmp 52) (.val (.int .u64 (.ofNat 3)))),none⟩,bi 54 .and 53 3,mv 55 1,⟨some 56,.p (.bin .shr (.tmp 55) (.val (.int .u64 (.ofNat 5)))),none⟩,bi 57 .and 56 3,bt 58 .add 54 57,⟨some 59,.p (.slc 1 (.tmp 48) (some (.tmp 51)) (some (.tmp 58)) none),none⟩,fa 60 3 5,⟨none,.e (.store 1 (.tmp 60) (.tmp 59)),none⟩] [] [4,5])
 (.seq (.region [ln 61 4 5,⟨none,.e (.store 4 (.tmp 4) (.tmp 61)),none⟩] [] [4])
 (.ret))))))
def M25 (F : Nat → Nat) : Fun := ⟨62,2,(K25 F).erase,[.celln 4 4]⟩
theorem ok25 {F : Nat → Nat} : (K25 F).ok = true := rfl
end Go.Lib
end

section
set_option maxRecDepth 10000
namespace Go.Lib
open Go.Vm Go.Dv
variable {p : Prog} {ext : Ext} {F : Nat → Nat}
structure HLaw6 (p : Prog) (ext : Ext) (F : Nat → Nat) : Prop where
  h22 : Has p ext F 22 M22
  h23 : Has p ext F 23 M23
  h24 : Has p ext F 24 M24
  h25 : Has p ext F 25 M25
structure Cl where
  name : List Nat
  kind : Int
  null : Bool
def Cl.c (c : Cl) : List D := [.lit (.str c.name), .lit (.int .i64 c.kind), .lit (.bool c.null)]
abbrev Sch := List Cl
def schE (s : Sch) : List (List D) := s.map Cl.c
def schR (s : Sch) : D := .row 3 .p (schE s)
def schD (s : Sch) : D := .agg [schR s]
theorem cl_unders {n : Nat} {c : Cl} : D.unders n c.c := by simp [Cl.c]
theorem sch_underss {n : Nat} {s : Sch} : D.underss n (schE s) := underss_map (fun _ => cl_unders) _
theorem sch_len {s : Sch} : (schE s).length = s.length := by simp [schE]
theorem lenb_sch {s : Sch} : lenbD (schR s) = some (.lit (.int .i64 (s.length : Int))) := by simp [schR, sch_len]
theorem at_sch {s : Sch} {n : Nat} : atO 3 (schR s) (some n) = elemD (s[n]?.map Cl.c) := by simp [schR, schE]
theorem cl_0 {v : Cl} : v.c[0]? = some (.lit (.str v.name)) := rfl
theorem cl_1 {v : Cl} : v.c[1]? = some (.lit (.int .i64 v.kind)) := rfl
theorem cl_2 {v : Cl} : v.c[2]? = some (.lit (.bool v.null)) := rfl
theorem cl_len {v : Cl} : v.c.length = 3 := rfl
theorem cl_take {v : Cl} : v.c.take 3 = v.c := rfl
theorem cl_drop {v : Cl} : v.c.drop 3 = [] := rfl
theorem cl_flats {v : Cl} : flatsD v.c = true := rfl
theorem cellsD_schR {s : Sch} : cellsD (schR s) = some [schR s] := rfl
theorem flatD_schR {s : Sch} : flatD (schR s) = true := rfl
theorem cellsD_schD {s : Sch} : cellsD (schD s) = some [schR s] := rfl
attribute [simp] cl_unders sch_underss sch_len lenb_sch at_sch cl_0 cl_1 cl_2 cl_len cl_take cl_drop cl_flats cellsD_schR flatD_schR cellsD_schD
def andI (a m : Int) : Int := wr .i64 (.ofNat (Nat.land (toU .i64 a) (toU .i64 m)))
theorem bin_andI {tab : Tab} {a b : Int} : binV tab .and (.int .i64 a) (.int .i64 b) = some (.int .i64 (andI a b)) := bin_and
def xorI (a b : Int) : Int := wr .i64 (.ofNat (Nat.xor (toU .i64 a) (toU .i64 b)))
theorem bin_xorI {tab : Tab} {a b : Int} : binV tab .xor (.int .i64 a) (.int .i64 b) = some (.int .i64 (xorI a b)) := bin_xor
theorem andI_small {a : Int} {m : Nat} (hm : m < 65536) : ∃ q : Nat, andI a (m : Int) = q ∧ q ≤ m := and_range hm
attribute [-simp] bin_and bin_xor
attribute [simp] bin_andI bin_xorI
def abc : List By := [97, 98, 99, 97, 98, 99, 97, 98]
def valF (c : Cl) (n : Int) : Vl :=
  if c.null = true ∧ andI n 7 = 0 then ⟨true, c.kind, 0, [], by simp⟩ else
  if c.kind = 1 then
    ⟨false, c.kind, if andI (shrI .i64 n 6) 15 = 0 then wr .i64 (n * 712544676207699905) else if andI (shrI .i64 n 6) 15 = 1 then wr .i64 (-andI (shrI .i64 n 3) 7) else if andI (shrI .i64 n 6) 15 = 2 then wr .i64 (9223372036854775807 - andI (shrI .i64 n 3) 7) else andI (shrI .i64 n 3) 7, [], by simp⟩
  else ⟨false, c.kind, 0, (abc.drop (andI (shrI .i64 n 3) 3).toNat).take (andI (shrI .i64 n 5) 3).toNat, by
    have : ((abc.drop (andI (shrI .i64 n 3) 3).toNat).take (andI (shrI .i64 n 5) 3).toNat).length ≤ 8 := by
      rw [List.length_take, List.length_drop]; simp [abc]; omega
    omega⟩
theorem by_flat_map (b : List By) : (byE b).flatten = b.map fun c => D.lit (.int .u8 (c.val : Int)) := by
  induction b with
  | nil => rfl
  | cons c b ih => simp only [byE, List.map_cons, List.flatten_cons, List.singleton_append] at ih ⊢; rw [ih]
theorem law6_value (L : HLaw6 p ext F) {c : Cl} {n : Int} : FnD p ext (F 25) [.agg c.c, .lit (.int .i64 n)] (.agg (valF c n).c) := by
  refine fn_of L.h25 (M := M25) rfl ok25 rfl fun H => sem_run 9000 _ ?_;simp
  by_cases h1 : c.null = true ∧ andI n 7 = 0
  · simp [h1.1, h1.2];refine sem_ret ?_;simp [M25];exact .le (by repeat (first | exact Sub.refl | apply Sub.new | refine Sub.put ?_ (by first | omega | (simp only [put_next, new_next]; omega)))) (by simp [valF, h1.1, h1.2, Vl.c, D.le, byD, byE]) (by simp)
  · have h2 : c.null = false ∨ (c.null = true ∧ ¬ andI n 7 = 0) := by
      cases h3 : c.null
      · exact .inl rfl
      · exact .inr ⟨rfl, fun h4 => h1 ⟨h3, h4⟩⟩
    by_cases h5 : c.kind = 1
    · by_cases k0 : andI (shrI .i64 n 6) 15 = 0
      · rcases h2 with h2 | h2
        all_goals
          simp [h2, h5, k0];refine sem_ret ?_;simp [M25];exact .le (by repeat (first | exact Sub.refl | apply Sub.new | refine Sub.put ?_ (by first | omega | (simp only [put_next, new_next]; omega)))) (by simp [valF, h2, h5, k0, Vl.c, D.le, byD, byE]) (by simp)
      · by_cases k1 : andI (shrI .i64 n 6) 15 = 1
        · rcases h2 with h2 | h2
          all_goals
            simp [h2, h5, k1];refine sem_ret ?_;simp [M25];exact .le (by repeat (first | exact Sub.refl | apply Sub.new | refine Sub.put ?_ (by first | omega | (simp only [put_next, new_next]; omega)))) (by simp [valF, h2, h5, k1, Vl.c, D.le, byD, byE]) (by simp)
        · by_cases k2 : andI (shrI .i64 n 6) 15 = 2
          · rcases h2 with h2 | h2
            all_goals
              simp [h2, h5, k2];refine sem_ret ?_;simp [M25];exact .le (by repeat (first | exact Sub.refl | apply Sub.new | refine Sub.put ?_ (by first | omega | (simp only [put_next, new_next]; omega)))) (by simp [valF, h2, h5, k2, Vl.c, D.le, byD, byE]) (by simp)
          · rcases h2 with h2 | h2
            all_goals
              simp [h2, h5, k0, k1, k2];refine sem_ret ?_;simp [M25];exact .le (by repeat (first | exact Sub.refl | apply Sub.new | refine Sub.put ?_ (by first | omega | (simp only [put_next, new_next]; omega)))) (by simp [valF, h2, h5, k0, k1, k2, Vl.c, D.le, byD, byE]) (by simp)
    · obtain ⟨i, hi, hi3⟩ := andI_small (a := shrI .i64 n 3) (m := 3) (by simp);obtain ⟨j, hj, hj3⟩ := andI_small (a := shrI .i64 n 5) (m := 3) (by simp);have hi' : andI (shrI .i64 n 3) 3 = i := hi;have hj' : andI (shrI .i64 n 5) 3 = j := hj;have hw : wr .i64 ((i : Int) + (j : Int)) = (i : Int) + (j : Int) := (by rw [wr_of] <;> omega);have ht : ((i : Int) + (j : Int)).toNat = i + j := (by omega);have hn : (0 : Int) ≤ (i : Int) + (j : Int) := (by omega);have hl : i + j ≤ 8 := (by omega);rcases h2 with h2 | h2
      all_goals
        simp [h2, h5, hi', hj', markD, slcD, slcV, needH, boundM, boundH, boundL, sliceO, hw, ht, hn, hl];refine sem_ret ?_;simp [M25];refine ⟨_, (WeakV.part (pre := [.lit (.bool false), .lit (.int .i64 c.kind), .lit (.int .i64 0)]) (el := byE ((abc.drop i).take j)) (sz := 1) (cs := (byE abc).flatten) (ro := false) (by simp [put_blk, new_blk, abc, byE]; decide) by_one (by simp [abc]; omega) ?_ (by omega)).trans (.le ?_), (by repeat (first | exact Sub.refl | apply Sub.new | refine Sub.put ?_ (by first | omega | (simp only [put_next, new_next]; omega)))), by simp⟩
        · rw [by_flat_map, by_flat_map, Nat.mul_one, List.map_take, List.map_drop]
        · simp [valF, h2, h5, hi', hj', Vl.c, byD, D.le]
theorem wr_u64 {n : Int} (h0 : 0 ≤ n) (h1 : n < 18446744073709551616) : wr .u64 n = n := by
  obtain ⟨m, rfl⟩ : ∃ m : Nat, n = m := ⟨n.toNat, by omega⟩;show cond (Nat.blt m 18446744073709551616) _ _ = _;rw [show Nat.blt m 18446744073709551616 = true from nblt.2 (by omega)];rfl
def cellF (n : Int) (i : Nat) (c : Cl) : Vl := if i = 0 then ⟨false, 1, andI n 15, [], by simp⟩ else valF c (xorI (shrI .i64 n (3 * i)) (shrI .i64 n 17))
def rowF (s : Sch) (n : Int) : Row := s.mapIdx (cellF n)
theorem rowF_len {s : Sch} {n : Int} : (rowF s n).length = s.length := by simp [rowF]
theorem rowF_get {s : Sch} {n : Int} {i : Nat} : (rowF s n)[i]? = s[i]?.map (cellF n i) := by simp [rowF]
def Row6I (H0 : HpD) (s : Sch) (n : Int) (k : Nat) (fr : FrD) (H : HpD) : Prop :=
  ∃ (i : Nat) (t : D), k = s.length - i ∧ i ≤ s.length ∧ fr = [(1, .lit (.int .i64 n)), (5, t), (9, schR s), (10, .lit (.int .i64 (s.length : Int))), (11, .lit (.int .i64 (i : Int)))] ∧ Gr H0 H 4 t (rowE ((rowF s n).take i))
theorem law6_row_own (L : HLaw6 p ext F) {s : Sch} {n : Int} {H : HpD} (hs : s.length < 1000) : WcD p ext (F 24) [schD s, .lit (.int .i64 n)] H (fun d H' => Gr H H' 4 d (rowE (rowF s n))) := by
  refine wc_of L.h24 (M := M24) rfl ok24 rfl (sem_run 9000 _ ?_);simp [schD];refine sem_loop (Row6I H s n) ?_ (k := s.length) ⟨0, .lit .nilslice, by simp, by simp, rfl, by simpa [rowE] using Gr.start⟩;rintro k fr H' ⟨i, t, rfl, hi, rfl, g⟩;refine sem_run 9000 _ ?_;simp
  by_cases c : i < s.length
  · have hx : (rowF s n)[i]? = some (cellF n i s[i]) := (by rw [rowF_get]; simp [c]);have hw : wr .i64 ((i : Int) + 1) = ((i + 1 : Nat) : Int) := (by rw [wr_of] <;> omega);have h1 : wr .i64 (3 * (i : Int)) = 3 * (i : Int) := (by rw [wr_of] <;> omega);have h2 : wr .u64 (3 * (i : Int)) = 3 * (i : Int) := wr_u64 (by omega) (by omega);have h3 : (0 : Int) ≤ 3 * (i : Int) := (by omega);have h4 : (3 * (i : Int)).toNat = 3 * i := (by omega)
    have hl : (rowE ((rowF s n).take i)).length ≤ i := by simp; omega
    by_cases c0 : i = 0
    · subst c0;simp [c];refine sem_push_le (cellF n 0 s[0]).c (g.mono (by repeat (first | exact Sub.refl | apply Sub.new | refine Sub.put ?_ (by first | omega | (simp only [put_next, new_next]; omega))))) (by simp [cellF, Vl.c, byD, byE, D.le]) rfl rfl (roomyD (by omega) (by omega)) fun s' H1 g1 _ _ => ?_;simp;refine sem_ok ?_;rw [rowE_snoc hx] at g1;exact ⟨_, by omega, 1, s', rfl, by omega, by simp [wr_of], g1⟩
    · simp [c, c0, h1, h2, h3, h4];refine sem_fn (law6_value L) (by first | exact D.les_refl _ | simp) (sem_run 9000 _ ?_);simp;refine sem_push_le (cellF n i s[i]).c (g.mono (by repeat (first | exact Sub.refl | apply Sub.new | refine Sub.put ?_ (by first | omega | (simp only [put_next, new_next]; omega))))) (by simp [cellF, c0]) rfl rfl (roomyD (by omega) (by omega)) fun s' H1 g1 _ _ => ?_;simp;refine sem_ok ?_;rw [rowE_snoc hx] at g1;exact ⟨_, by omega, i + 1, s', rfl, by omega, by rw [hw], g1⟩
  · simp [c];refine sem_exit (sem_run 9000 _ ?_);have : i = s.length := (by omega);subst this;have hf : (rowF s n).take s.length = rowF s n := (by rw [List.take_of_length_le]; rw [rowF_len]; exact Nat.le_refl _);rw [hf] at g;simp;refine sem_ret ?_;simp [M24];exact g
theorem law6_row (L : HLaw6 p ext F) {s : Sch} {n : Int} (hs : s.length < 1000) : FnD p ext (F 24) [schD s, .lit (.int .i64 n)] (rowD (rowF s n)) :=
  own_fn (fun _ => law6_row_own L hs) fun _ => row_underss
def intsD (m : Md) (l : List Int) : D := .row 1 m (l.map fun n => [.lit (.int .i64 n)])
theorem lenb_ints {m : Md} {l : List Int} : lenbD (intsD m l) = some (.lit (.int .i64 (l.length : Int))) := by simp [intsD]
theorem at_ints {m : Md} {l : List Int} {n : Nat} : atO 1 (intsD m l) (some n) = elemD (l[n]?.map fun x => [.lit (.int .i64 x)]) := by simp [intsD]
theorem ints_under {m : Md} {l : List Int} {n : Nat} : (intsD m l).under n := by simp only [intsD, D.under]; exact underss_map (fun _ => by simp) _
theorem cellsD_ints {m : Md} {l : List Int} : cellsD (intsD m l) = some [intsD m l] := rfl
attribute [simp] lenb_ints at_ints ints_under cellsD_ints
def bitI (n : Int) (k : Nat) : Int := andI (shrI .i64 n k) 1
theorem bitI_01 {n : Int} {k : Nat} : bitI n k = 0 ∨ bitI n k = 1 := by
  obtain ⟨q, hq, h1⟩ := andI_small (a := shrI .i64 n k) (m := 1) (by simp);have : bitI n k = q := hq;omega
def colNames : List (List Nat) := [[97], [98, 98], [99, 99, 99], [110, 117, 108, 108], [97, 110, 100]]
def colF (n : Int) (i : Nat) : Cl := ⟨(colNames[i]?).getD [], bitI n (8 + 2 * i) + 1, decide (bitI n (9 + 2 * i) = 1)⟩
def keyC : Cl := ⟨[107, 101, 121], 1, false⟩
def moreF (n : Int) : Nat := (Int.tmod (andI n 255) 6).toNat
def schF (n : Int) : Sch := keyC :: (List.range (moreF n)).map (colF n)
theorem more_le {n : Int} : moreF n ≤ 5 ∧ Int.tmod (andI n 255) 6 = (moreF n : Int) := by
  obtain ⟨q, hq, h1⟩ := andI_small (a := n) (m := 255) (by simp);have hq' : andI n 255 = q := hq;unfold moreF;rw [hq']
  have : Int.tmod (q : Int) 6 = ((q % 6 : Nat) : Int) := by
    rw [Int.tmod_eq_emod_of_nonneg (by omega)]; omega
  rw [this];omega
theorem schF_len {n : Int} : (schF n).length = moreF n + 1 := by simp [schF]
theorem schF_small {n : Int} : (schF n).length < 1000 ∧ 0 < (schF n).length := by
  have := (more_le (n := n)).1;rw [schF_len]; omega
def SchI (H0 : HpD) (n : Int) (k : Nat) (fr : FrD) (H : HpD) : Prop :=
  ∃ (i : Nat) (t : D), k = 6 - i ∧ i ≤ moreF n ∧ fr = [(0, .lit (.int .i64 n)), (2, .ptr H0.next 0), (3, .ptr (H0.next + 1 + 1) 0), (4, .row 1 .c (colNames.map fun x => [.lit (.str x)])), (5, .lit (.int .i64 (i : Int)))] ∧
    Gr H0 H 3 t (schE (keyC :: (List.range i).map (colF n))) ∧ H.blk (H0.next + 1 + 1) = .cells [t] false ∧ (∃ d, H.blk H0.next = .cells [d] false) ∧ ¬ t.hasB (H0.next + 1 + 1) ∧ ¬ t.hasB H0.next ∧ H0.next + 1 + 1 < H.next
theorem schema_own (L : HLaw6 p ext F) {n : Int} {H : HpD} : WcD p ext (F 23) [.lit (.int .i64 n)] H (fun d H' => ∃ t, d = .agg [t] ∧ Gr H H' 3 t (schE (schF n))) := by
  refine wc_of L.h23 (M := M23) rfl ok23 rfl (sem_run 9000 _ ?_);simp
  have gk : Gr H ((H.new (.cells [.lit .nilslice] false)).new (.cells [D.lit (V.str [107, 101, 121]), D.lit (V.int .i64 1), D.lit (V.bool false)] false)) 3 (.slice (H.next + 1) 0 3 1 1 true) (schE (keyC :: (List.range 0).map (colF n))) :=
    Gr.lit (H := H.new (.cells [.lit .nilslice] false)) Sub.refl.new (by simp [schE, Cl.c]) (by simp [schE, Cl.c, keyC]) (by simp [schE])
  have hin := gk.mono (Sub.put (H1 := _) (b := H.next + 1 + 1) (x := .cells [.slice (H.next + 1) 0 3 1 1 true] false) (Sub.refl.new (x := .cells [.lit .nilslice] false)) (by simp));refine sem_loop (SchI H n) ?_ (k := 6) ⟨0, .slice (H.next + 1) 0 3 1 1 true, by simp, by omega, by simp [colNames], hin, by simp, ⟨.lit .nilslice, by simp⟩, by simp [D.hasB], by simp [D.hasB], by simp⟩;rintro k fr H' ⟨i, t, rfl, hi, rfl, g, h3, ⟨d2, h2⟩, n3, n2, hlt⟩;refine sem_run 9000 _ ?_;simp;obtain ⟨hm, hm2⟩ := more_le (n := n)
  by_cases c : i < moreF n
  · have c' : (i : Int) < Int.tmod (andI n 255) 6 := (by omega);have c5 : (i : Int) < 5 := (by omega);have hw : wr .i64 ((i : Int) + 1) = ((i + 1 : Nat) : Int) := (by rw [wr_of] <;> omega);have w1 : wr .i64 (2 * (i : Int)) = 2 * (i : Int) := (by rw [wr_of] <;> omega);have w2 : wr .i64 (8 + 2 * (i : Int)) = 8 + 2 * (i : Int) := (by rw [wr_of] <;> omega);have w3 : wr .i64 (9 + 2 * (i : Int)) = 9 + 2 * (i : Int) := (by rw [wr_of] <;> omega);have w4 : wr .u64 (8 + 2 * (i : Int)) = 8 + 2 * (i : Int) := wr_u64 (by omega) (by omega);have w5 : wr .u64 (9 + 2 * (i : Int)) = 9 + 2 * (i : Int) := wr_u64 (by omega) (by omega)
    have p1 : (0 : Int) ≤ 8 + 2 * (i : Int) := (by omega);have p2 : (0 : Int) ≤ 9 + 2 * (i : Int) := (by omega);have t1 : (8 + 2 * (i : Int)).toNat = 8 + 2 * i := (by omega);have t2 : (9 + 2 * (i : Int)).toNat = 9 + 2 * i := (by omega);obtain ⟨nm, hnm⟩ : ∃ nm, colNames[i]? = some nm := ⟨colNames[i]'(by simp [colNames]; omega), by simp⟩;simp [c', c5, h3, hlt, w1, w2, w3, w4, w5, p1, p2, t1, t2, hnm]
    have hwb : wr .i64 (andI (shrI .i64 n (8 + 2 * i)) 1 + 1) = bitI n (8 + 2 * i) + 1 := by
      rcases bitI_01 (n := n) (k := 8 + 2 * i) with h | h <;> unfold bitI at h ⊢ <;> rw [h] <;> decide
    rw [hwb, appendD_slice1 (b := H'.next) (cs := [.lit (.str nm), .lit (.int .i64 (bitI n (8 + 2 * i) + 1)), .lit (.bool (decide (bitI n (9 + 2 * i) = 1)))]) (ro := false) (by simp [bitI]; congr) (by simp)];refine sem_push_le (colF n i).c (g.mono Sub.refl.new) (by simp [colF, Cl.c, hnm]) rfl rfl (roomyD (by simp [schE]; omega) (by simp [schE]; omega)) fun s' H1 g1 k1 n1 => ?_;have k3 := k1 (H.next + 1 + 1) (by simp; omega) n3;have k2 := k1 H.next (by simp; omega) n2;rw [new_blk, if_neg (by omega), h3] at k3;rw [new_blk, if_neg (by omega), h2] at k2;obtain ⟨n1, rfl⟩ := n1;simp at n1;simp [k3];refine sem_ok ?_
    have hs : schE (keyC :: (List.range i).map (colF n)) ++ [(colF n i).c] = schE (keyC :: (List.range (i+1)).map (colF n)) := (by simp [schE, List.range_succ]);rw [hs] at g1;refine ⟨_, by omega, i + 1, _, rfl, by omega, by rw [hw], g1.keep (g1.sub.put (by omega)) (by simp) (fun x hx => ?_), by simp, ⟨d2, ?_⟩, ?_, ?_, ?_⟩
    · rw [put_blk, if_neg];rintro rfl;simp [D.hasB] at hx;omega
    · rw [put_blk, if_neg (by omega), k2]
    · simp [D.hasB]; omega
    · simp [D.hasB]; omega
    · simp; omega
  · have c' : ¬ (i : Int) < Int.tmod (andI n 255) 6 := (by omega);have : i = moreF n := (by omega);subst this
    have hft : flatD t = true := by
      rcases g.at_ with ⟨rfl, _⟩ | ⟨b, ex, el0, rfl, _⟩ <;> rfl
    simp [c'];refine sem_exit (sem_run 9000 _ ?_);simp [h3, h2, hft];refine sem_ret ?_;simp [M23];refine g.keep (g.sub.put (Nat.le_refl _)) (by simp) fun x hx => ?_;rw [put_blk, if_neg];rintro rfl;exact n2 hx
theorem schema (L : HLaw6 p ext F) {n : Int} : FnD p ext (F 23) [.lit (.int .i64 n)] (schD (schF n)) := by
  intro H;refine WcD.drop ((schema_own L).mono ?_);rintro d H' ⟨t, rfl, g⟩;obtain ⟨H2, w, s, u⟩ := g.finA sch_underss (m := .p) (by simp);exact ⟨_, H2, w, s, u, rfl, rfl⟩
end Go.Lib
end

section
set_option maxRecDepth 10000
namespace Go.Lib
open Go.Vm Go.Dv Go.Srt
variable {p : Prog} {ext : Ext} {F : Nat → Nat}
def colF1 (cols : List Int) (r : Row) : Row := cols.map fun c => atV r c
def colsF (cols : List Int) (l : List Row) : List Row := l.map (colF1 cols)
theorem colF1_len {cols : List Int} {r : Row} : (colF1 cols r).length = cols.length := by simp [colF1]
theorem colsF_len {cols : List Int} {l : List Row} : (colsF cols l).length = l.length := by simp [colsF]
theorem colF1_get {cols : List Int} {r : Row} {i : Nat} {c : Int} (h : cols[i]? = some c) : (colF1 cols r)[i]? = some (atV r c) := by simp [colF1, h]
theorem colsF_get {cols : List Int} {l : List Row} {i : Nat} {r : Row} (h : l[i]? = some r) : (colsF cols l)[i]? = some (colF1 cols r) := by simp [colsF, h]
theorem colsF_good {ks cols : List Int} {l : List Row} (hg : GoodRs ks l) (hc : ∀ c, c ∈ cols → InK ks c) : GoodRs (cols.map fun c => (ks[c.toNat]?).getD 0) (colsF cols l) := by
  intro x hx;obtain ⟨r, hr, rfl⟩ := List.mem_map.1 hx;refine ⟨?_, fun v hv => ?_⟩
  · unfold Kin colF1;rw [List.map_map];exact List.map_congr_left fun c h => ((hg r hr).at_ (hc c h)).1
  · obtain ⟨c, h, rfl⟩ := List.mem_map.1 hv;exact ((hg r hr).at_ (hc c h)).2
theorem colsF_fine {cols : List Int} {l : List Row} (hl : Fine l) (hc : cols.length < 1000000) : Fine (colsF cols l) :=
  ⟨by rw [colsF_len]; exact hl.1, fun x hx => by obtain ⟨r, _, rfl⟩ := List.mem_map.1 hx; rw [colF1_len]; exact hc⟩
def ColsI (H0 : HpD) (l : List Row) (m : Md) (cols : List Int) (k : Nat) (fr : FrD) (H : HpD) : Prop :=
  ∃ (i : Nat) (s : D), k = l.length - i ∧ i ≤ l.length ∧ fr = [(0, rowsD l), (1, intsD m cols), (5, s), (6, .lit (.int .i64 (i : Int)))] ∧ Gr H0 H 1 s (rowsE ((colsF cols l).take i))
def Cols2I (H0 : HpD) (l : List Row) (m : Md) (cols : List Int) (i : Nat) (s : D) (r : Row) (k : Nat) (fr : FrD) (H : HpD) : Prop :=
  ∃ (j : Nat) (t : D), k = cols.length - j ∧ j ≤ cols.length ∧ fr = [(0, rowsD l), (1, intsD m cols), (5, s), (6, .lit (.int .i64 (i : Int))), (7, t), (8, .lit (.int .i64 (j : Int)))] ∧ Gr H0 H 4 t (rowE ((colF1 cols r).take j))
theorem ref15_cols (L : HRef15 p ext F) {ks cols : List Int} {m : Md} {l : List Row} (hl : Fine l) (hg : GoodRs ks l) (hcl : cols.length < 1000) (hc : ∀ c, c ∈ cols → InK ks c) : FnD p ext (F 54) [rowsD l, intsD m cols] (rowsD (sortL cmpR (colsF cols l))) := by
  refine fn_of L.h54 (M := M54) rfl ok54 rfl fun H => sem_run 9000 _ ?_;simp;have hl1 := hl.1;refine sem_loop (ColsI H l m cols) ?_ (k := l.length) ⟨0, .lit .nilslice, by simp, by simp, rfl, by simpa [rowsE] using Gr.start⟩;rintro k fr H' ⟨i, s, rfl, hi, rfl, g⟩;refine sem_run 9000 _ ?_;simp
  by_cases c : i < l.length
  · obtain ⟨r, hr⟩ : ∃ r, l[i]? = some r := ⟨l[i], by simp⟩;have hrm := List.mem_of_getElem? hr;have hrl := hl.2 r hrm;have hrk : r.length = ks.length := (by have := (hg r hrm).kin; unfold Kin at this; rw [← this]; simp);simp [c];refine sem_loop (Cols2I H' l m cols i s r) ?_ (k := cols.length) ⟨0, .lit .nilslice, by simp, by simp, rfl, by simpa [rowE] using Gr.start⟩;rintro k fr H2 ⟨j, t, rfl, hj, rfl, g2⟩;refine sem_run 9000 _ ?_;simp
    by_cases c2 : j < cols.length
    · obtain ⟨x, hx⟩ : ∃ x, cols[j]? = some x := ⟨cols[j], by simp⟩;have hxk := hc x (List.mem_of_getElem? hx);obtain ⟨n, hn⟩ : ∃ n : Nat, x = n := ⟨x.toNat, by have := hxk.1; omega⟩;subst hn;have hv : r[n]? = some (atV r n) := (atV_mem hxk.1 (by have := hxk.2; omega)).2;have wj : wr .i64 ((j : Int) + 1) = ((j + 1 : Nat) : Int) := (by rw [wr_of] <;> omega);simp [c2, hr, hx, hv, -getElem?_pos];rw [appendD_slice1 (b := H2.next) (cs := (atV r n).c) (ro := false) (by simp) (by simp)];refine sem_push (g2.mono Sub.refl.new) rfl rfl (roomyD (by simp [row_len]; omega) (by simp [row_len]; omega)) fun s' H3 g3 _ _ => ?_;simp;refine sem_ok ?_;have e : rowE ((colF1 cols r).take j) ++ [((atV r n).c.drop 0).take 4] = rowE ((colF1 cols r).take (j + 1)) := rowE_snoc (colF1_get hx);rw [e] at g3;exact ⟨_, by omega, j + 1, s', rfl, by omega, by rw [wj], g3⟩
    · have : j = cols.length := (by omega);subst this;simp;have e : (colF1 cols r).take cols.length = colF1 cols r := List.take_of_length_le (by rw [colF1_len]; exact Nat.le_refl _);rw [e] at g2;refine sem_turn_exit g2 7 (by simp) fun H3 s3 k3 n3 => ?_;refine sem_exit (sem_run 9000 _ ?_);simp;refine sem_push_le [rowD (colF1 cols r)] (g.mono s3) (by simp [rowD]) rfl rfl (roomyD (by simp; omega) (by simp; omega)) fun s' H4 g4 _ _ => ?_;simp;refine sem_ok ?_;have wi : wr .i64 ((i : Int) + 1) = ((i + 1 : Nat) : Int) := (by rw [wr_of] <;> omega);rw [rowsE_snoc (colsF_get hr)] at g4;exact ⟨_, by omega, i + 1, s', rfl, by omega, by rw [wi], g4⟩
  · have : i = l.length := (by omega);subst this;simp;refine sem_exit (sem_run 9000 _ ?_);have e : (colsF cols l).take l.length = colsF cols l := List.take_of_length_le (by rw [colsF_len]; exact Nat.le_refl _);rw [e] at g;simp;refine sem_row g 0 rfl fun H2 s2 _ _ => ?_;refine sem_fn (ref15_sort L (colsF_fine hl (by omega)) (colsF_good hg hc)) (by simp [rowsD]) (sem_run 9000 _ ?_);simp;refine sem_ret ?_;simp [M54];exact .le s2 (D.le_refl _) (by simp)
end Go.Lib
end

section
set_option maxRecDepth 10000
namespace Go.Lib
open Go.Vm Go.Dv Go.Srt
variable {p : Prog} {ext : Ext} {F : Nat → Nat}
theorem aggr_sort (L : HAggr p ext F) {ks : List Int} {l : List Row} (hl : Fine l) (hg : GoodRs ks l) : FnD p ext (F 33) [rowsD l] (rowsD (sortL cmpR l)) :=
  own_fn (fun _ => (aggr_sort_own L hl fun r hr => (hg r hr).kin).mono fun d H' ⟨l', g, hp1, hs⟩ => by
    rw [srt_sort cmpR_ord cmpR_zero hg hp1 hs] at g; exact g) fun _ => rows_underss
def AColsI (H0 : HpD) (l : List Row) (m : Md) (cols : List Int) (k : Nat) (fr : FrD) (H : HpD) : Prop :=
  ∃ (i : Nat) (s : D), k = l.length - i ∧ i ≤ l.length ∧ fr = [(1, intsD m cols), (5, s), (11, rowsD l), (12, .lit (.int .i64 (l.length : Int))), (13, .lit (.int .i64 (i : Int)))] ∧ Gr H0 H 1 s (rowsE ((colsF cols l).take i))
def ACols2I (H0 : HpD) (l : List Row) (m : Md) (cols : List Int) (i : Nat) (s : D) (r : Row) (k : Nat) (fr : FrD) (H : HpD) : Prop :=
  ∃ (j : Nat) (t : D), k = cols.length - j ∧ j ≤ cols.length ∧ fr = [(1, intsD m cols), (5, s), (7, rowD r), (8, t), (11, rowsD l), (12, .lit (.int .i64 (l.length : Int))), (13, .lit (.int .i64 (i : Int))), (17, intsD m cols), (18, .lit (.int .i64 (cols.length : Int))), (19, .lit (.int .i64 (j : Int)))] ∧ Gr H0 H 4 t (rowE ((colF1 cols r).take j))
theorem aggr_cols (L : HAggr p ext F) {ks cols : List Int} {m : Md} {l : List Row} (hl : Fine l) (hg : GoodRs ks l) (hcl : cols.length < 1000) (hc : ∀ c, c ∈ cols → InK ks c) : FnD p ext (F 34) [rowsD l, intsD m cols] (rowsD (sortL cmpR (colsF cols l))) := by
  refine fn_of L.h34 (M := M34) rfl ok34 rfl fun H => sem_run 9000 _ ?_;simp;have hl1 := hl.1;refine sem_loop (AColsI H l m cols) ?_ (k := l.length) ⟨0, .lit .nilslice, by simp, by simp, rfl, by simpa [rowsE] using Gr.start⟩;rintro k fr H' ⟨i, s, rfl, hi, rfl, g⟩;refine sem_run 9000 _ ?_;simp
  by_cases c : i < l.length
  · obtain ⟨r, hr⟩ : ∃ r, l[i]? = some r := ⟨l[i], by simp⟩;simp [c, hr, -getElem?_pos];refine sem_loop (ACols2I H' l m cols i s r) ?_ (k := cols.length) ⟨0, .lit .nilslice, by simp, by simp, rfl, by simpa [rowE] using Gr.start⟩;rintro k fr H2 ⟨j, t, rfl, hj, rfl, g2⟩;refine sem_run 9000 _ ?_;simp
    by_cases c2 : j < cols.length
    · obtain ⟨x, hx⟩ : ∃ x, cols[j]? = some x := ⟨cols[j], by simp⟩;have wj : wr .i64 ((j : Int) + 1) = ((j + 1 : Nat) : Int) := (by rw [wr_of] <;> omega);simp [c2, hx, -getElem?_pos];refine sem_fn (schm_at L.schm) (by first | exact D.les_refl _ | simp) (sem_run 9000 _ ?_);simp;refine sem_push (g2.mono (by repeat (first | exact Sub.refl | apply Sub.new | refine Sub.put ?_ (by first | omega | (simp only [put_next, new_next]; omega))))) rfl rfl (roomyD (by simp [row_len]; omega) (by simp [row_len]; omega)) fun s' H3 g3 _ _ => ?_;simp;refine sem_ok ?_;rw [rowE_snoc (colF1_get hx)] at g3;exact ⟨_, by omega, j + 1, s', rfl, by omega, by rw [wj], g3⟩
    · have : j = cols.length := (by omega);subst this;simp;have e : (colF1 cols r).take cols.length = colF1 cols r := List.take_of_length_le (by rw [colF1_len]; exact Nat.le_refl _);rw [e] at g2;refine sem_turn_exit g2 8 (by simp) fun H3 s3 k3 n3 => ?_;refine sem_exit (sem_run 9000 _ ?_);simp;refine sem_push_le [rowD (colF1 cols r)] (g.mono s3) (by simp [rowD]) rfl rfl (roomyD (by simp; omega) (by simp; omega)) fun s' H4 g4 _ _ => ?_;simp;refine sem_ok ?_;have wi : wr .i64 ((i : Int) + 1) = ((i + 1 : Nat) : Int) := (by rw [wr_of] <;> omega);rw [rowsE_snoc (colsF_get hr)] at g4;exact ⟨_, by omega, i + 1, s', rfl, by omega, by rw [wi], g4⟩
  · have : i = l.length := (by omega);subst this;simp;refine sem_exit (sem_run 9000 _ ?_);have e : (colsF cols l).take l.length = colsF cols l := List.take_of_length_le (by rw [colsF_len]; exact Nat.le_refl _);rw [e] at g;simp;refine sem_row g 0 rfl fun H2 s2 _ _ => ?_;refine sem_fn (aggr_sort L (colsF_fine hl (by omega)) (colsF_good hg hc)) (by simp [rowsD]) (sem_run 9000 _ ?_);simp;refine sem_ret ?_;simp [M34];exact .le s2 (D.le_refl _) (by simp)
theorem aggr_more (L : HAggr p ext F) (hx : ∀ args h, ext (F 45) args h = extV .add64 args h) {a b : Int} (ha : In64 a) (hb : In64 b) : FnD p ext (F 40) [.lit (.int .i64 a), .lit (.int .i64 b)] (.tup [.lit (.int .i64 (wr .i64 ((a + b) % 18446744073709551616))), .lit (.bool (decide (In64 (a + b))))]) := by
  refine fn_of L.h40 (M := M40) rfl ok40 rfl fun H => sem_run 9000 _ ?_;simp;have ha' := ha;have hb' := hb;unfold In64 at ha' hb';have e0 : (H.new (.cells [.lit (.int .i64 0), .lit (.int .u64 0)] false)).blk H.next = .cells [hiT 0, loT 0] false := (by simp [hiT, loT]);refine sem_call (wide_add L hx (t := 0) (n := a) e0 (by simp) (by omega) ha) ?_;rintro _ H2 ⟨rfl, rfl⟩;refine sem_run 9000 _ ?_;simp;refine sem_call (wide_add L hx (t := 0 + a) (n := b) (by simp) (by simp) (by omega) hb) ?_;rintro _ H2 ⟨rfl, rfl⟩;refine sem_run 9000 _ ?_;simp;have he := wide_end (t := 0 + a + b) (by omega);have e1 : (0 : Int) + a + b = a + b := (by omega)
  rw [e1] at he;simp [hiT, loT, shr63]
  have hd : decide ((a + b) / 18446744073709551616 = wr .i64 ((a + b) % 18446744073709551616) / 9223372036854775808) = decide (In64 (a + b)) := by
    by_cases h : In64 (a + b)
    · rw [decide_eq_true h, decide_eq_true];exact Decidable.byContradiction fun h2 => he.1 h2 h
    · rw [decide_eq_false h, decide_eq_false (he.2 h)]
  rw [hd];refine sem_ret ?_;simp [M40];exact .le (by repeat (first | exact Sub.refl | apply Sub.new | refine Sub.put ?_ (by first | omega | (simp only [put_next, new_next]; omega)))) (D.le_refl _) (by simp)
structure Sx where
  col : Int
  add : Bool
  v : Vl
def Sx.c (x : Sx) : List D := .lit (.int .i64 x.col) :: .lit (.bool x.add) :: x.v.c
def sxsE (l : List Sx) : List (List D) := l.map Sx.c
def sxsD (l : List Sx) : D := .row 6 .p (sxsE l)
theorem sxs_len {l : List Sx} : (sxsE l).length = l.length := by simp [sxsE]
theorem lenb_sxs {l : List Sx} : lenbD (sxsD l) = some (.lit (.int .i64 (l.length : Int))) := by simp [sxsD, sxs_len]
theorem at_sxs {l : List Sx} {n : Nat} : atO 6 (sxsD l) (some n) = elemD (l[n]?.map Sx.c) := by simp [sxsD, sxsE]
theorem sx_len {a : Sx} : a.c.length = 6 := rfl
theorem sx_flats {a : Sx} : flatsD a.c = true := rfl
theorem sx_take {a : Sx} : a.c.take 6 = a.c := rfl
theorem sx_drop {a : Sx} : a.c.drop 6 = [] := rfl
theorem sx_0 {a : Sx} : a.c[0]? = some (.lit (.int .i64 a.col)) := rfl
theorem sx_1 {a : Sx} : a.c[1]? = some (.lit (.bool a.add)) := rfl
theorem sx_4 {a : Sx} : a.c[4]? = some (.lit (.int .i64 a.v.n)) := rfl
theorem sx_v {a : Sx} : (a.c.drop 2).take 4 = a.v.c := rfl
theorem sx_unders {n : Nat} {a : Sx} : D.unders n a.c := by simp [Sx.c]
attribute [simp] sxs_len lenb_sxs at_sxs sx_len sx_flats sx_take sx_drop sx_0 sx_1 sx_4 sx_v sx_unders
def withN (v : Vl) (n : Int) : Vl := ⟨v.null, v.kind, n, v.bytes, v.small⟩
def setS (r : Row) (x : Sx) : Option Row :=
  if x.col < 0 ∨ (r.length : Int) ≤ x.col then some r else
  if x.add = false then some (r.set x.col.toNat x.v) else
  if (atV r x.col).null = true then some r else
  if In64 ((atV r x.col).n + x.v.n) then some (r.set x.col.toNat (withN (atV r x.col) ((atV r x.col).n + x.v.n))) else none
def setF : Row → List Sx → Option Row
  | r, [] => some r
  | r, x :: l => match setS r x with
    | some r' => setF r' l
    | none => none
def setD (o : Option Row) : D := .tup [rowD (o.getD []), .lit (.bool o.isSome)]
theorem row_own (L : HSchm p ext F) {r : Row} {H : HpD} (hr : r.length < 1000000) : WcD p ext (F 4) [rowD r] H (fun d H' => Gr H H' 4 d (rowE r)) := by
  refine wc_of L.h4 (M := M4) rfl ok4 rfl (sem_run 9000 _ ?_);simp;refine sem_loop (RowI H r) ?_ (k := r.length) ⟨0, .lit .nilslice, by simp, by simp, rfl, by simpa [rowE] using Gr.start⟩;rintro k fr H' ⟨i, s, rfl, hi, rfl, g⟩;refine sem_run 9000 _ ?_;simp
  by_cases c : i < r.length
  · have hx : r[i]? = some r[i] := (by simp);simp [c];refine sem_fn (schm_val L) (by first | exact D.les_refl _ | simp) (sem_run 9000 _ ?_);simp;refine sem_push (g.mono (by repeat (first | exact Sub.refl | apply Sub.new | refine Sub.put ?_ (by first | omega | (simp only [put_next, new_next]; omega))))) rfl rfl (roomyD (by simp; omega) (by simp; omega)) fun s' H1 g1 _ _ => ?_;simp;refine sem_ok ?_;have hw : wr .i64 ((i : Int) + 1) = ((i + 1 : Nat) : Int) := (by rw [wr_of] <;> omega);rw [rowE_snoc hx] at g1;exact ⟨_, by omega, i + 1, s', rfl, by omega, by rw [hw], g1⟩
  · simp [c];refine sem_exit (sem_run 9000 _ ?_);have : i = r.length := (by omega);subst this;rw [List.take_length] at g;simp;refine sem_call (clip4_own L g) fun d H2 g2 => ?_;refine sem_run 9000 _ ?_;simp;refine sem_ret ?_;simp [M4];exact g2
def SetI (H0 : HpD) (r0 : Row) (l : List Sx) (k : Nat) (fr : FrD) (H : HpD) : Prop :=
  ∃ (i : Nat) (r : Row) (s : D), k = l.length - i ∧ i ≤ l.length ∧ r.length = r0.length ∧ (∀ v, v ∈ r → In64 v.n) ∧ setF r0 l = setF r (l.drop i) ∧ fr = [(6, s), (14, sxsD l), (15, .lit (.int .i64 (l.length : Int))), (16, .lit (.int .i64 (i : Int)))] ∧ Gr H0 H 4 s (rowE r)
theorem aggr_set_own (L : HAggr p ext F) (hx : ∀ args h, ext (F 45) args h = extV .add64 args h) {r : Row} {l : List Sx} {H : HpD} (hr : r.length < 1000) (hl : l.length < 1000) (hn : ∀ v, v ∈ r → In64 v.n) (hv : ∀ x, x ∈ l → In64 x.v.n) : WcD p ext (F 35) [rowD r, sxsD l] H (fun d H' => (∃ r' s', setF r l = some r' ∧ d = .tup [s', .lit (.bool true)] ∧ Gr H H' 4 s' (rowE r')) ∨ setF r l = none ∧ d = .tup [.lit .nilslice, .lit (.bool false)] ∧ Sub H H') := by
  refine wc_of L.h35 (M := M35) rfl ok35 rfl (sem_run 9000 _ ?_);simp;refine sem_call (row_own L.schm (by omega)) fun d H1 g1 => ?_;refine sem_run 9000 _ ?_;simp;refine sem_loop (SetI H r l) ?_ (k := l.length) ⟨0, r, d, by simp, by simp, rfl, hn, by simp, rfl, g1⟩;rintro k fr H' ⟨i, r', s, rfl, hi, hlen, hn', hset, rfl, g⟩;refine sem_exact g fun H2 gx _ _ => ?_;refine sem_run 9000 _ ?_;simp
  have wi : wr .i64 ((i : Int) + 1) = ((i + 1 : Nat) : Int) := by rw [wr_of] <;> omega
  by_cases c : i < l.length
  · obtain ⟨x, hx'⟩ : ∃ x, l[i]? = some x := ⟨l[i], by simp⟩
    have hdrop : l.drop i = x :: l.drop (i + 1) := by
      rw [List.drop_eq_getElem_cons c]; congr; exact (List.getElem?_eq_some_iff.1 hx').2
    rw [hdrop] at hset;have hxn := hv x (List.mem_of_getElem? hx')
    by_cases c0 : x.col < 0
    · simp [c, hx', c0, -getElem?_pos];refine sem_ok ?_;exact ⟨_, by omega, i + 1, r', s, rfl, by omega, hlen, hn', by rw [hset, setF, setS, if_pos (.inl c0)], by rw [wi], gx.gr.mono (by repeat (first | exact Sub.refl | apply Sub.new | refine Sub.put ?_ (by first | omega | (simp only [put_next, new_next]; omega))))⟩
    · obtain ⟨n, hn0⟩ : ∃ n : Nat, x.col = n := ⟨x.col.toNat, by omega⟩
      have hnn : ¬ (n : Int) < 0 := by omega
      by_cases c1 : r'.length ≤ n
      · simp [c, hx', hn0, hnn, c1, gx.gr.lenb, -getElem?_pos];refine sem_ok ?_;exact ⟨_, by omega, i + 1, r', s, rfl, by omega, hlen, hn', by rw [hset, setF, setS, if_pos (.inr (by omega))], by rw [wi], gx.gr.mono (by repeat (first | exact Sub.refl | apply Sub.new | refine Sub.put ?_ (by first | omega | (simp only [put_next, new_next]; omega))))⟩
      · rcases gx.at_ with ⟨rfl, he⟩ | ⟨b, ex, rfl, h1, h2, h3⟩
        · have : r' = [] := (by simpa [rowE] using he);subst this; simp at c1
        · have hnl : n < r'.length := (by omega);obtain ⟨v, hv'⟩ : ∃ v, r'[n]? = some v := ⟨r'[n], by simp⟩;have hat : atV r' x.col = v := (by rw [hn0, atV, if_neg (by omega)]; simp [hv']);have hve : (rowE r')[n]? = some v.c := (by simp [rowE, hv']);have hne : b ≠ H2.next := (by omega);have hnl4 : n * 4 + 4 ≤ (rowE r').flatten.length := (by rw [flatten_len row_four, row_len]; omega)
          have gxk : ∀ H3, Sub H2 H3 → H3.blk b = H2.blk b → GrX H H3 4 (.slice b 0 4 (rowE r').length (rowE r').length ex) (rowE r') := fun H3 hs hb => gx.keep hs fun y hy => by simp only [D.hasB] at hy; subst hy; exact hb
          have hin : ∀ y, y ∈ r'.set n x.v → In64 y.n := fun y hy => by
            rcases List.mem_or_eq_of_mem_set hy with hy | rfl
            · exact hn' y hy
            · exact hxn
          have hlt1 : b < H2.next + 1 := by omega
          by_cases ca : x.add = true
          · have f0 : (rowE r').flatten[n * 4]? = some (.lit (.bool v.null)) := flat_get (j := 0) row_four hve (by omega);have f2 : (rowE r').flatten[n * 4 + 2]? = some (.lit (.int .i64 v.n)) := flat_get (j := 2) row_four hve (by omega);have hvi := hn' v (List.mem_of_getElem? hv')
            cases hvn : v.null with
            | true =>
              simp [c, hx', hn0, hnn, c1, hnl, ca, hne, h3, f0, hvn, -getElem?_pos, -List.length_flatten];refine sem_ok ?_;refine ⟨_, by omega, i + 1, r', _, rfl, by omega, hlen, hn', ?_, by rw [wi], by simpa using (gxk _ (by repeat (first | exact Sub.refl | apply Sub.new | refine Sub.put ?_ (by first | omega | (simp only [put_next, new_next]; omega)))) (by simp [hne])).gr⟩;rw [hset, setF, setS, if_neg (by omega), if_neg (by simp [ca]), hat, if_pos hvn]
            | false =>
              simp [c, hx', hn0, hnn, c1, hnl, ca, hne, h3, f0, f2, hvn, hlt1, -getElem?_pos, -List.length_flatten];refine sem_dfn (aggr_more L hx hvi hxn) (by first | exact D.les_refl _ | simp) (sem_run 9000 _ ?_)
              by_cases ci : In64 (v.n + x.v.n)
              · have hnl3 : n * 4 + 2 + 1 ≤ (rowE r').flatten.length := (by omega);simp [ci, hne, h3, hnl3, wide_low ci, -List.length_flatten];refine sem_ok ?_;have g3 := (gxk ((H2.new (.cells [.lit (.int .i64 0), .lit (.bool false), .lit (.bool false), .lit (.int .i64 0), .lit (.int .i64 0), .lit .nilslice] false)).put H2.next (.cells x.c false)) (by repeat (first | exact Sub.refl | apply Sub.new | refine Sub.put ?_ (by first | omega | (simp only [put_next, new_next]; omega)))) (by simp [hne])).cell (x := .lit (.int .i64 (v.n + x.v.n))) (j := 2) hve (by omega) h1 (by simp; omega);have e : (rowE r').set n (v.c.set 2 (.lit (.int .i64 (v.n + x.v.n)))) = rowE (r'.set n (withN v (v.n + x.v.n))) := (by unfold rowE; rw [List.map_set]; rfl)
                rw [e] at g3;refine ⟨_, by omega, i + 1, r'.set n (withN v (v.n + x.v.n)), _, rfl, by omega, by simpa using hlen, fun y hy => ?_, ?_, by rw [wi], by simpa using g3.gr⟩
                · rcases List.mem_or_eq_of_mem_set hy with hy | rfl
                  · exact hn' y hy
                  · exact ci
                · rw [hset, setF, setS, if_neg (by omega), if_neg (by simp [ca]), hat, if_neg (by simp [hvn]), if_pos ci, hn0]; rfl
              · simp [ci];refine sem_ret ?_;simp;refine sem_ret ?_;simp [M35];refine ⟨?_, (by have := gx.gr.sub.next; repeat (first | exact gx.gr.sub | apply Sub.new | refine Sub.put ?_ (by first | omega | (simp only [put_next, new_next]; omega))))⟩;rw [hset, setF, setS, if_neg (by omega), if_neg (by simp [ca]), hat, if_neg (by simp [hvn]), if_neg ci]
          · simp [c, hx', hn0, hnn, c1, hnl, ca, -getElem?_pos, -List.length_flatten];refine sem_fn (schm_val L.schm (v := x.v)) (by first | exact D.les_refl _ | simp) (sem_run 9000 _ ?_);simp [hne, h3, hnl4, -List.length_flatten];refine sem_ok ?_;have g3 := (gxk ((H2.new (.cells [.lit (.int .i64 0), .lit (.bool false), .lit (.bool false), .lit (.int .i64 0), .lit (.int .i64 0), .lit .nilslice] false)).put H2.next (.cells x.c false)) (by repeat (first | exact Sub.refl | apply Sub.new | refine Sub.put ?_ (by first | omega | (simp only [put_next, new_next]; omega)))) (by simp [hne])).whole (x := x.v.c) hve rfl h1 (by simp; omega)
            have e : (rowE r').set n x.v.c = rowE (r'.set n x.v) := (by unfold rowE; rw [List.map_set]);rw [e] at g3;refine ⟨_, by omega, i + 1, r'.set n x.v, _, rfl, by omega, by simpa using hlen, hin, ?_, by rw [wi], by simpa using g3.gr⟩;rw [hset, setF, setS, if_neg (by omega), if_pos (by simpa using ca), hn0]; rfl
  · have : i = l.length := (by omega);subst this;simp;refine sem_exit (sem_run 9000 _ ?_);simp;refine sem_ret ?_;simp [M35];rw [List.drop_length] at hset;exact ⟨r', hset, gx.gr⟩
theorem aggr_set (L : HAggr p ext F) (hx : ∀ args h, ext (F 45) args h = extV .add64 args h) {r : Row} {l : List Sx} (hr : r.length < 1000) (hl : l.length < 1000) (hn : ∀ v, v ∈ r → In64 v.n) (hv : ∀ x, x ∈ l → In64 x.v.n) : FnD p ext (F 35) [rowD r, sxsD l] (setD (setF r l)) := by
  intro H;refine WcD.drop ((aggr_set_own L hx hr hl hn hv).mono ?_);rintro d H' (⟨r', s', e, rfl, g⟩ | ⟨e, rfl, hs⟩)
  · obtain ⟨H2, w, s, u⟩ := g.fin row_underss (m := .p) (by simp);rw [e];exact ⟨_, H2, WeakV.tup2 w, s, by simp, rfl, rfl⟩
  · rw [e];exact ⟨_, H', WeakV.tup2 (WeakV.le (d' := rowD []) (by simp [rowD, rowE, D.le])), hs, by simp [row_under], rfl, rfl⟩
end Go.Lib
end

section
set_option maxRecDepth 10000
namespace Go.Lib
open Go.Vm Go.Dv Go.Srt
attribute [-simp] bin_and bin_xor
theorem valF_kind {c : Cl} {n : Int} : (valF c n).kind = c.kind := by
  unfold valF; split
  · rfl
  · split <;> rfl
def ksF (s : Sch) : List Int := s.map Cl.kind
def GoodS (s : Sch) : Prop := ∀ c, c ∈ s → c.kind = 1 ∨ c.kind = 2
theorem in64_wr {n : Int} : In64 (wr .i64 n) := by
  rw [wr_eq]
  have : IntKind.wrap .i64 n = if (decide (n % 18446744073709551616 ≥ 9223372036854775808)) = true then n % 18446744073709551616 - 18446744073709551616 else n % 18446744073709551616 := rfl
  rw [this];unfold In64
  by_cases h : n % 18446744073709551616 ≥ 9223372036854775808
  · rw [if_pos (by simpa using h)]; omega
  · rw [if_neg (by simpa using h)]; omega
theorem in64_and {n : Int} {m : Nat} (hm : m < 65536) : In64 (andI n (m : Int)) := by
  obtain ⟨q, hq, h1⟩ := andI_small (a := n) hm;rw [hq]; unfold In64; omega
theorem valF_good {c : Cl} (hc : c.kind = 1 ∨ c.kind = 2) {n : Int} : (valF c n).Good := by
  unfold valF;split
  · exact ⟨fun _ => ⟨rfl, rfl⟩, by rcases hc with h | h <;> simp [h], by unfold In64; simp⟩
  · split
    · rename_i h;refine ⟨fun h2 => by simp at h2, .inl ⟨h, rfl⟩, ?_⟩;show In64 (if _ then _ else _);split
      · exact in64_wr
      · split
        · exact in64_wr
        · split
          · exact in64_wr
          · exact in64_and (m := 7) (by simp)
    · rename_i h;exact ⟨fun h2 => by simp at h2, .inr ⟨by rcases hc with k | k; exact absurd k h; exact k, rfl⟩, by show In64 0; unfold In64; simp⟩
theorem schF_kinds {n : Int} : GoodS (schF n) := by
  intro c hc;rcases List.mem_cons.1 hc with rfl | hc
  · exact .inl rfl
  · obtain ⟨i, _, rfl⟩ := List.mem_map.1 hc;have := bitI_01 (n := n) (k := 8 + 2 * i);show bitI n (8 + 2 * i) + 1 = 1 ∨ bitI n (8 + 2 * i) + 1 = 2;omega
theorem schF_cons {n : Int} : schF n = keyC :: (List.range (moreF n)).map (colF n) := rfl
theorem cells_good {s : Sch} (hs : GoodS s) {x : Int} : GoodR (ksF s) (s.mapIdx fun j => cellF x (j + 1)) := by
  refine ⟨?_, fun v hv => ?_⟩
  · unfold Kin ksF;apply List.ext_getElem
    · simp
    · intro i h1 h2;simp [cellF, valF_kind]
  · rw [List.mem_mapIdx] at hv;obtain ⟨i, hi, rfl⟩ := hv;exact valF_good (hs _ (by simp))
theorem GoodR.cons {k : Int} {ks : List Int} {v : Vl} {r : Row} (h1 : v.kind = k) (h2 : v.Good) (h : GoodR ks r) : GoodR (k :: ks) (v :: r) :=
  ⟨by have := h.kin; unfold Kin at this ⊢; simp [h1, this], fun w hw => by
    rcases List.mem_cons.1 hw with rfl | hw
    · exact h2
    · exact h.good w hw⟩
theorem row6_good {n x : Int} : GoodR (ksF (schF n)) (rowF (schF n) x) := by
  have e : rowF (schF n) x = ⟨false, 1, andI x 15, [], by simp⟩ :: ((List.range (moreF n)).map (colF n)).mapIdx fun j => cellF x (j + 1) := by
    rw [schF_cons, rowF, List.mapIdx_cons]; rfl
  rw [e];exact GoodR.cons rfl ⟨fun h => by simp at h, .inl ⟨rfl, rfl⟩, in64_and (m := 15) (by simp)⟩ (cells_good fun c hc => schF_kinds (n := n) c (by rw [schF_cons]; exact List.mem_cons_of_mem _ hc))
theorem ksF_len {s : Sch} : (ksF s).length = s.length := by simp [ksF]
theorem inK_0 {n : Int} : InK (ksF (schF n)) 0 := ⟨by omega, by rw [ksF_len, schF_len]; omega⟩
end Go.Lib
end

section
set_option maxRecDepth 10000
namespace Go.Lib
open Go.Vm Go.Dv Go.Srt
variable {p : Prog} {ext : Ext} {F : Nat → Nat}
theorem AgOk.good {ks : List Int} {l : List Row} {a : Ag} (hg : GoodRs ks l) (ha : InK ks a.col) : AgOk l a := fun _ r hr => ((hg r hr).at_ ha).2.int
def grpD (x : List Row × Bool) : D := .tup [rowsD x.1, .lit (.bool x.2)]
theorem aggr_groups (L : HAggr p ext F) (hx : ∀ args h, ext (F 45) args h = extV .add64 args h) {ks : List Int} {l : List Row} {c : Int} {ags : List Ag} (hl : Fine l) (hg : GoodRs ks l) (hc : c < ks.length) (ha : ∀ a, a ∈ ags → InK ks a.col) (hb : ags.length < 900) :
    FnD p ext (F 32) [rowsD l, .lit (.int .i64 c), agsD ags] (grpD (grpsF c ags l)) := by
  by_cases h : c < 0
  · have := groups_neg L hx (c := c) (ags := ags) hl (fun a h => AgOk.good hg (ha a h)) (by omega) h;unfold grpsF;rw [if_pos h];exact this
  · intro H;refine WcD.drop ((groups_pos L hx (H := H) (c := c) (k := (ks[c.toNat]?).getD 0) (ags := ags) hl (fun r hr => ((hg r hr).at_ ⟨by omega, hc⟩).1) (fun l' hl' a h => AgOk.good (ks := ks) (fun r hr => hg r (hl' r hr)) (ha a h)) hb h).mono ?_);rintro d H' ⟨⟨l', hp1, hs, rfl⟩, hsub⟩;rw [grp_srt ⟨by omega, hc⟩ ha hg hp1 hs];refine ⟨_, H', .refl, hsub, by simp [rows_under], ?_, rfl⟩;unfold grpsF grpD;rw [if_neg h]
theorem runG_len {c : Int} {ags : List Ag} : ∀ (w : Nat) (l : List Row), (runG c ags w l).1.length ≤ l.length
  | w, [] => by cases w <;> simp [runG]
  | 0, _ :: _ => by simp [runG]
  | w + 1, r :: t => by
    have ih := runG_len (c := c) (ags := ags) w ((r :: t).drop (cnt c r t));have hc1 : 1 ≤ cnt c r t := (by unfold cnt; omega);rw [List.length_drop] at ih;unfold runG;split
    · split
      · rename_i x e;rw [e] at ih;simp only [List.length_cons] at ih ⊢; omega
      · simp
    · simp
theorem grpsF_len {c : Int} {ags : List Ag} {l : List Row} (hc : ¬ c < 0) : (grpsF c ags l).1.length ≤ l.length := by
  unfold grpsF grpF;rw [if_neg hc];have := runG_len (c := c) (ags := ags) l.length (sortL (cmpC c) l);rw [sortL_perm.length_eq] at this;exact this
theorem runG_fine {c : Int} {ags : List Ag} : ∀ (w : Nat) (l : List Row) (r : Row), r ∈ (runG c ags w l).1 → r.length = ags.length + 1
  | w, [], r, h => by cases w <;> simp [runG] at h
  | 0, _ :: _, r, h => by simp [runG] at h
  | w + 1, r0 :: t, r, h => by
    unfold runG at h;split at h
    · split at h
      · rename_i x e;rcases List.mem_cons.1 h with rfl | h
        · simp [vals]
        · exact runG_fine w _ r (by rw [e]; exact h)
      · simp at h
    · simp at h
theorem grpsF_fine {c : Int} {ags : List Ag} {l : List Row} (hl : Fine l) (hb : ags.length < 1000) : Fine (grpsF c ags l).1 := by
  by_cases hc : c < 0
  · unfold grpsF; rw [if_pos hc];split
    · exact ⟨by simp, fun r hr => by simp at hr; subst hr; simp [vals]; omega⟩
    · exact ⟨by simp, fun r hr => by simp at hr⟩
  · refine ⟨Nat.lt_of_le_of_lt (grpsF_len hc) hl.1, fun r hr => ?_⟩;unfold grpsF grpF at hr;rw [if_neg hc] at hr;rw [runG_fine _ _ r hr]; omega
theorem sort_fine {l : List Row} (hl : Fine l) : Fine (sortL cmpR l) := ⟨by rw [sortL_perm.length_eq]; exact hl.1, fun r hr => hl.2 r (sortL_perm.mem_iff.1 hr)⟩
theorem Fine.perm {l l' : List Row} (hp : l'.Perm l) (hl : Fine l) : Fine l' := ⟨by rw [hp.length_eq]; exact hl.1, fun r hr => hl.2 r (hp.mem_iff.1 hr)⟩
end Go.Lib
end

section
set_option maxRecDepth 10000
namespace Go.Lib
open Go.Vm Go.Dv Go.Srt
variable {p : Prog} {ext : Ext} {F : Nat → Nat}
def vterm (v : Vl) : Int := if v.null = true then 0 else v.n
def vsum (l : List Vl) : Int := (l.map vterm).sum
theorem vsum_snoc {l : List Vl} {i : Nat} {v : Vl} (h : l[i]? = some v) : vsum (l.take (i + 1)) = vsum (l.take i) + vterm v := by
  rw [List.take_add_one, h]; simp [vsum]
theorem vsum_le : ∀ {l : List Vl}, (∀ v, v ∈ l → In64 v.n) → -(9223372036854775808 * (l.length : Int)) ≤ vsum l ∧ vsum l ≤ 9223372036854775808 * (l.length : Int)
  | [], _ => by simp [vsum]
  | v :: l, h => by
    have ih := vsum_le (l := l) fun r hr => h r (by simp [hr]);have h0 := h v (by simp);unfold In64 at h0;have : vsum (v :: l) = vterm v + vsum l := (by simp [vsum]);rw [this, List.length_cons];unfold vterm;split <;> omega
def Sum15I (r : Row) (H0 : HpD) (k : Nat) (fr : FrD) (H : HpD) : Prop :=
  ∃ (i : Nat) (t : Int), k = r.length - i ∧ i ≤ r.length ∧ t = vsum (r.take i) ∧ fr = [(0, rowD r), (4, hiT t), (5, loT t), (6, .lit (.int .i64 (i : Int)))] ∧ Sub H0 H
def sum15D (t : Int) : D := .tup [.lit (.int .i64 (wr .i64 (t % 18446744073709551616))), .lit (.bool (decide (In64 t)))]
theorem ref15_sum (L : HRef15 p ext F) {r : Row} (hr : r.length < 1000000) (hn : ∀ v, v ∈ r → In64 v.n) : FnD p ext (F 59) [rowD r] (sum15D (vsum r)) := by
  refine fn_of L.h59 (M := M59) rfl ok59 rfl fun H => sem_run 9000 _ ?_;simp;refine sem_loop (Sum15I r H) ?_ (k := r.length) ⟨0, 0, by simp, by simp, by simp [vsum], by simp [hiT, loT], (by repeat (first | exact Sub.refl | apply Sub.new | refine Sub.put ?_ (by first | omega | (simp only [put_next, new_next]; omega))))⟩;rintro k fr H' ⟨i, t, rfl, hi, ht, rfl, hs⟩;refine sem_run 9000 _ ?_;simp
  by_cases c : i < r.length
  · obtain ⟨v, hv⟩ : ∃ v, r[i]? = some v := ⟨r[i], by simp⟩;have wi : wr .i64 ((i : Int) + 1) = ((i + 1 : Nat) : Int) := (by rw [wr_of] <;> omega);have hb := vsum_le (l := r.take i) fun v h => hn v (List.mem_of_mem_take h);rw [← ht, List.length_take, Nat.min_eq_left hi] at hb;have hvi := hn v (List.mem_of_getElem? hv);have hvi' := hvi;unfold In64 at hvi';have hterm := vsum_snoc hv;rw [← ht] at hterm
    cases hnul : v.null with
    | true =>
      simp [c, hv, hnul, -getElem?_pos];refine sem_ok ?_;exact ⟨r.length - (i + 1), by omega, i + 1, t, rfl, by omega, by rw [hterm, vterm, if_pos hnul]; omega, by rw [wi], hs⟩
    | false =>
      simp [c, hv, hnul, hiT, loT, wr_u64m, -getElem?_pos]
      have fin : ∀ h2, h2 = (t + v.n) / 18446744073709551616 → ∃ k', k' < r.length - i ∧ Sum15I r H k' [(0, rowD r), (4, .lit (.int .i64 h2)), (5, .lit (.int .u64 ((t + v.n) % 18446744073709551616))), (6, .lit (.int .i64 (wr .i64 ((i : Int) + 1))))] H' := fun h2 e =>
        ⟨r.length - (i + 1), by omega, i + 1, t + v.n, rfl, by omega, by rw [hterm, vterm, if_neg (by simp [hnul])], by rw [wi, e]; rfl, hs⟩
      have w1 : wr .i64 (t / 18446744073709551616 + 1) = t / 18446744073709551616 + 1 := (by rw [wr_of] <;> omega);have w2 : wr .i64 (t / 18446744073709551616 - 1) = t / 18446744073709551616 - 1 := (by rw [wr_of] <;> omega)
      have w3 : wr .i64 (t / 18446744073709551616) = t / 18446744073709551616 := by rw [wr_of] <;> omega
      by_cases c2 : (t + v.n) % 18446744073709551616 < t % 18446744073709551616
      · by_cases c3 : v.n < 0
        · simp [c2, c3, hv, w1, w3, -getElem?_pos];exact sem_ok (fin _ (by omega))
        · simp [c2, c3, hv, w1, -getElem?_pos];exact sem_ok (fin _ (by omega))
      · by_cases c3 : v.n < 0
        · simp [c2, c3, hv, w2, -getElem?_pos];exact sem_ok (fin _ (by omega))
        · simp [c2, c3, hv, -getElem?_pos];exact sem_ok (fin _ (by omega))
  · have : i = r.length := (by omega);subst this;rw [List.take_length] at ht;simp;refine sem_exit (sem_run 9000 _ ?_);simp [hiT, loT]
    have fin : ∀ b, b = decide (In64 t) → Go.Dv.Sem p ext (endD (M59 F).results (Fin H (sum15D (vsum r)))) (.res (.ret [(2, .lit (.int .i64 (wr .i64 (t % 18446744073709551616)))), (3, .lit (.bool b))] H') [] .mk) := fun b e => by
      refine sem_ret ?_;simp [M59];rw [← ht];exact .le hs (by rw [e]; exact D.le_refl _) (by simp [sum15D])
    by_cases h0 : t / 18446744073709551616 = 0
    · by_cases h1 : t % 18446744073709551616 < 9223372036854775808
      · simp [h0, h1];exact fin true (by rw [decide_eq_true]; unfold In64; omega)
      · simp [h0, h1];exact fin false (by rw [decide_eq_false]; unfold In64; omega)
    · by_cases h1 : t / 18446744073709551616 = -1
      · by_cases h2 : 9223372036854775808 ≤ t % 18446744073709551616
        · simp [h1, h2];exact fin true (by rw [decide_eq_true]; unfold In64; omega)
        · simp [h1, h2];exact fin false (by rw [decide_eq_false]; unfold In64; omega)
      · simp [h0, h1];exact fin false (by rw [decide_eq_false]; unfold In64; omega)
def colV (c : Int) (l : List Row) : Row := l.map fun r => atV r c
theorem colV_len {c : Int} {l : List Row} : (colV c l).length = l.length := by simp [colV]
theorem colV_get {c : Int} {l : List Row} {i : Nat} {r : Row} (h : l[i]? = some r) : (colV c l)[i]? = some (atV r c) := by simp [colV, h]
def best0 (kd : Int) (i : Nat) : Vl := if i = 0 then nullV else setKind nullV kd
theorem vsum_col {c : Int} {l : List Row} : vsum (colV c l) = sumT c l := by
  unfold vsum colV sumT;rw [List.map_map]; rfl
theorem fold_kind {kd sg : Int} : ∀ {L : List Vl} {o : Vl}, (∀ v, v ∈ L → v.kind = kd) → o.kind = kd → (L.foldl (endS sg) o).kind = kd
  | [], o, _, h => h
  | v :: L, o, hL, h => by
    refine fold_kind (L := L) (o := endS sg o v) (fun w hw => hL w (by simp [hw])) ?_;unfold endS;split
    · exact hL v (by simp)
    · split
      · exact hL v (by simp)
      · exact h
theorem endF_best {kd c sg : Int} {l : List Row} (h : ∀ r, r ∈ l → (atV r c).kind = kd) : endF c sg l = (colV c l).foldl (endS sg) (best0 kd l.length) := by
  cases l with
  | nil => rfl
  | cons r l =>
    have hk := h r (by simp);show (colV c (r :: l)).foldl (endS sg) nullV = _;simp only [colV, List.map_cons, List.foldl_cons]
    have hb : best0 kd (l.length + 1) = setKind nullV kd := by simp [best0]
    have e : endS sg nullV (atV r c) = endS sg (best0 kd (l.length + 1)) (atV r c) := by
      rw [hb];unfold endS;cases hn : (atV r c).null
      · simp [setKind, nullV]
      · simp [setKind]
    rw [List.length_cons, e]
def One1I (H0 : HpD) (l : List Row) (a : Ag) (kd : Int) (k : Nat) (fr : FrD) (H : HpD) : Prop :=
  ∃ (i : Nat) (t : D), k = l.length - i ∧ i ≤ l.length ∧ fr = [(0, rowsD l), (3, .rptr a.c 0), (4, .ptr H0.next 0), (6, t), (7, .ptr (H0.next + 1) 0), (8, .lit (.int .i64 (i : Int)))] ∧ Gr H0 H 4 t (rowE ((colV a.col l).take i)) ∧
    H.blk H0.next = .cells zeroC false ∧ H.blk (H0.next + 1) = .cells (best0 kd i).c false ∧ ¬ t.hasB H0.next ∧ ¬ t.hasB (H0.next + 1) ∧ H0.next + 1 < H.next
def One2I (H0 : HpD) (l : List Row) (a : Ag) (kd sg : Int) (k : Nat) (fr : FrD) (H : HpD) : Prop :=
  ∃ i : Nat, k = l.length - i ∧ i ≤ l.length ∧ fr = [(3, .rptr a.c 0), (4, .ptr H0.next 0), (6, rowD (colV a.col l)), (7, .ptr (H0.next + 1) 0), (12, .lit (.int .i64 (i : Int)))] ∧ Sub H0 H ∧
    H.blk H0.next = .cells zeroC false ∧ H.blk (H0.next + 1) = .cells (((colV a.col l).take i).foldl (endS sg) (best0 kd l.length)).c false ∧ H0.next + 1 < H.next
def one15 (l : List Row) (a : Ag) : Vl × Bool := if a.kind = 2 then (numV (wr .i64 (sumT a.col l % 18446744073709551616)), decide (In64 (sumT a.col l))) else oneF l a
theorem ref15_one (L : HRef15 p ext F) {ks : List Int} {l : List Row} {a : Ag} (hl : Fine l) (hg : GoodRs ks l) (hc : InK ks a.col) (hk : a.kind = 1 ∨ a.kind = 2 ∨ a.kind = 3 ∨ a.kind = 4) : FnD p ext (F 60) [rowsD l, .agg a.c] (.tup [.agg (one15 l a).1.c, .lit (.bool (one15 l a).2)]) := by
  refine fn_of L.h60 (M := M60) rfl ok60 rfl fun H => sem_run 9000 _ ?_;simp [Ag.c];refine sem_weak (Weak.tell (b := H.next + 1) (ro := false) (cs := [.lit (.bool true), .lit (.int .i64 0), .lit (.int .i64 0), .lit .nilslice]) (cs' := nullV.c) (by simp) (by simp [Vl.c, nullV, byD, byE, D.le, D.les])) ?_;have hl1 := hl.1;obtain ⟨kd, hkd⟩ : ∃ kd, kd = (ks[a.col.toNat]?).getD 0 := ⟨_, rfl⟩;have hcol := hg.col hc;rw [← hkd] at hcol;have hlk : ∀ r, r ∈ l → (atV r a.col).kind = kd := fun r hr => (hcol _ (List.mem_map.2 ⟨r, hr, rfl⟩)).1;obtain ⟨n, hn⟩ : ∃ n : Nat, a.col = n := ⟨a.col.toNat, by have := hc.1; omega⟩
  refine sem_loop (One1I H l a kd) ?_ (k := l.length) ⟨0, .lit .nilslice, by simp, by simp, rfl, by simpa [rowE] using Gr.nil (by repeat (first | exact Sub.refl | apply Sub.new | refine Sub.put ?_ (by first | omega | (simp only [put_next, new_next]; omega)))), by simp [zeroC], by simp [best0], by simp [D.hasB], by simp [D.hasB], by simp⟩;rintro k fr H' ⟨i, t, rfl, hi, rfl, g, h4, h7, n4, n7, hlt⟩;refine sem_run 9000 _ ?_;simp
  by_cases c : i < l.length
  · obtain ⟨r, hr⟩ : ∃ r, l[i]? = some r := ⟨l[i], by simp⟩;have hrm := List.mem_of_getElem? hr;have hrk : r.length = ks.length := (by have := (hg r hrm).kin; unfold Kin at this; rw [← this]; simp);have hv : r[n]? = some (atV r n) := (atV_mem (r := r) (c := (n : Int)) (by omega) (by have := hc.2; omega)).2;have wi : wr .i64 ((i : Int) + 1) = ((i + 1 : Nat) : Int) := (by rw [wr_of] <;> omega);simp [c, hr, hv, hn, Ag.c, -getElem?_pos];refine sem_push (g.mono (by repeat (first | exact Sub.refl | apply Sub.new | refine Sub.put ?_ (by first | omega | (simp only [put_next, new_next]; omega))))) rfl rfl (roomyD (by simp; omega) (by simp; omega)) fun s' H1 g1 k1 n1 => ?_;obtain ⟨n1, rfl⟩ := n1;simp at n1;have k7 := k1 (H.next + 1) (by simp; omega) n7;have k4 := k1 H.next (by simp; omega) n4;rw [put_blk, if_neg (by omega), new_blk, if_neg (by omega), h7] at k7;rw [put_blk, if_neg (by omega), new_blk, if_neg (by omega), h4] at k4
    have k9 := k1 H'.next (by simp) (fun h => by have := g.sub.next; rcases g.at_ with ⟨rfl, _⟩ | ⟨b, ex, el0, rfl, _, h2, _⟩ <;> simp [D.hasB] at h; omega);have h9 : H1.blk H'.next = .cells (atV r n).c false := (by rw [k9]; simp);have l7 : H.next + 1 < H1.next := (by omega);have l9 : H'.next < H1.next := (by omega);simp [k7, h9];refine sem_ok ?_;rw [← hn, rowE_snoc (colV_get hr)] at g1;refine ⟨l.length - (i + 1), by omega, i + 1, _, rfl, by omega, by rw [wi]; simp [Ag.c, hn], g1.keep (g1.sub.put (by omega)) (by simp) (fun x hx => ?_), ?_, ?_, ?_, ?_, ?_⟩
    · rw [put_blk, if_neg];rintro rfl;simp [D.hasB] at hx;omega
    · rw [put_blk, if_neg (by omega), k4]
    · have e1 : (atV r n).kind = kd := (by rw [← hn]; exact hlk r hrm);have e2 : setKind (best0 kd i) kd = best0 kd (i + 1) := (by unfold best0; rw [if_neg (Nat.succ_ne_zero i)]; split <;> rfl);rw [put_blk, if_pos rfl, vl_setk, e1, e2]
    · simp [D.hasB]; omega
    · simp [D.hasB]; omega
    · simp; omega
  · have : i = l.length := (by omega);subst this;have e : (colV a.col l).take l.length = colV a.col l := List.take_of_length_le (by rw [colV_len]; exact Nat.le_refl _);rw [e] at g;simp;refine sem_turn_exit g 6 (by simp) fun H2 s2 k2 n2 => ?_;refine sem_exit (sem_run 9000 _ ?_);have h4' := k2 H.next n4;have h7' := k2 (H.next + 1) n7;rw [h4] at h4';rw [h7] at h7';have l4 : H.next < H2.next := (by omega)
    have l7 : H.next + 1 < H2.next := by omega
    have hk' : a.kind = 1 ∨ a.kind = 2 ∨ ∃ sg, (sg = 1 ∨ sg = -1) ∧ (a.kind = 3 ∧ sg = -1 ∨ a.kind = 4 ∧ sg = 1) := by
      rcases hk with hk | hk | hk | hk
      · exact .inl hk
      · exact .inr (.inl hk)
      · exact .inr (.inr ⟨-1, .inr rfl, .inl ⟨hk, rfl⟩⟩)
      · exact .inr (.inr ⟨1, .inl rfl, .inr ⟨hk, rfl⟩⟩)
    rcases hk' with hk | hk | ⟨sg, hsg, hk⟩
    · simp [hk, Ag.c, h4', zeroC];refine sem_ret ?_;simp [M60];exact .le (by have := s2.next; repeat (first | exact s2 | apply Sub.new | refine Sub.put ?_ (by first | omega | (simp only [put_next, new_next]; omega)))) (by simp [one15, oneF, hk, Vl.c, numV, byD, byE, D.le]) (by simp)
    · simp [hk, Ag.c];refine sem_fn (ref15_sum L (r := colV a.col l) (by rw [colV_len]; omega) fun v hv => (hcol v hv).2.int) (by simp [rowD, D.les]) (sem_run 9000 _ ?_);simp [h4', zeroC, sum15D, vsum_col];refine sem_ret ?_;simp [M60];exact .le (by have := s2.next; repeat (first | exact s2 | apply Sub.new | refine Sub.put ?_ (by first | omega | (simp only [put_next, new_next]; omega)))) (by simp [one15, hk, Vl.c, numV, byD, byE, D.le]) (by simp)
    · have k1 : ¬ a.kind = 1 := (by omega);have k2 : ¬ a.kind = 2 := (by omega);simp [k1, k2, Ag.c];refine sem_as [(3, .rptr a.c 0), (4, .ptr H.next 0), (6, rowD (colV a.col l)), (7, .ptr (H.next + 1) 0), (12, .lit (.int .i64 0))] (by simp [rowD, Ag.c]) ?_;refine sem_loop (One2I H l a kd sg) ?_ (k := l.length) ⟨0, by simp, by simp, by simp, s2, h4', by simpa using h7', l7⟩;rintro k fr H3 ⟨i, rfl, hi, rfl, s3, b4, b7, l3⟩;refine sem_run 9000 _ ?_;simp;obtain ⟨o, ho⟩ : ∃ o, o = ((colV a.col l).take i).foldl (endS sg) (best0 kd l.length) := ⟨_, rfl⟩;rw [← ho] at b7
      by_cases c : i < l.length
      · obtain ⟨r, hr⟩ : ∃ r, l[i]? = some r := ⟨l[i], by simp⟩;have hv := colV_get (c := a.col) hr;have hvm := List.mem_of_getElem? hv;generalize hve : atV r a.col = v at hv hvm
        have wi : wr .i64 ((i : Int) + 1) = ((i + 1 : Nat) : Int) := by rw [wr_of] <;> omega
        have hok : o.kind = kd := by
          rw [ho]; exact fold_kind (fun v hv => (hcol v (List.mem_of_mem_take hv)).1) (by unfold best0; rw [if_neg (by omega)]; rfl)
        have hnx : ((colV a.col l).take (i + 1)).foldl (endS sg) (best0 kd l.length) = endS sg o v := by
          rw [List.take_add_one, hv]; simp [ho]
        have l4 : H.next < H3.next := (by omega);simp [colV_len, c, hv, b7, l3, -getElem?_pos];refine sem_dfn (ref6_compare L.ref6 (a := v) (b := o)) (by first | exact D.les_refl _ | simp) (sem_run 9000 _ ?_)
        have keepO : endS sg o v = o → ∃ k', k' < l.length - i ∧ One2I H l a kd sg k' [(3, .rptr a.c 0), (4, .ptr H.next 0), (6, rowD (colV a.col l)), (7, .ptr (H.next + 1) 0), (12, .lit (.int .i64 (wr .i64 ((i : Int) + 1))))] H3 := fun e =>
          ⟨l.length - (i + 1), by omega, i + 1, rfl, by omega, by rw [wi], s3, b4, by rw [hnx, e]; exact b7, l3⟩
        have keepV : endS sg o v = v → ∃ k', k' < l.length - i ∧ One2I H l a kd sg k' [(3, .rptr a.c 0), (4, .ptr H.next 0), (6, rowD (colV a.col l)), (7, .ptr (H.next + 1) 0), (12, .lit (.int .i64 (wr .i64 ((i : Int) + 1))))] (H3.put (H.next + 1) (.cells v.c false)) := fun e =>
          ⟨l.length - (i + 1), by omega, i + 1, rfl, by omega, by rw [wi], (by have := s3.next; repeat (first | exact s3 | apply Sub.new | refine Sub.put ?_ (by first | omega | (simp only [put_next, new_next]; omega)))), by simp [b4], by rw [hnx, e]; simp, by simpa using l3⟩
        cases hvn : v.null with
        | true =>
          simp [hvn, hv, -getElem?_pos];refine sem_ok ?_;simpa [Ag.c] using keepO (by unfold endS; rw [if_pos hvn]; exact set_self (by rw [hok, (hcol v hvm).1]))
        | false =>
          cases hon : o.null with
          | true =>
            simp [hvn, hon, hv, b7, -getElem?_pos];refine sem_ok ?_;simpa [Ag.c] using keepV (by unfold endS; rw [if_neg (by simp [hvn]), if_pos (.inl hon)])
          | false =>
            rcases hk with ⟨hk, rfl⟩ | ⟨hk, rfl⟩
            · by_cases cc : cmpV v o < 0
              · simp [hvn, hon, hv, b7, hk, cc, Ag.c, -getElem?_pos];refine sem_ok ?_;simpa [Ag.c, hk] using keepV (by unfold endS; rw [if_neg (by simp [hvn]), if_pos (.inr (by omega))])
              · simp [hvn, hon, hv, b7, hk, cc, Ag.c, -getElem?_pos];refine sem_ok ?_;simpa [Ag.c, hk] using keepO (by unfold endS; rw [if_neg (by simp [hvn]), if_neg (by simp [hon]; omega)])
            · by_cases cc : 0 < cmpV v o
              · simp [hvn, hon, hv, b7, hk, cc, Ag.c, -getElem?_pos];refine sem_ok ?_;simpa [Ag.c, hk] using keepV (by unfold endS; rw [if_neg (by simp [hvn]), if_pos (.inr (by omega))])
              · simp [hvn, hon, hv, b7, hk, cc, Ag.c, -getElem?_pos];refine sem_ok ?_;simpa [Ag.c, hk] using keepO (by unfold endS; rw [if_neg (by simp [hvn]), if_neg (by simp [hon]; omega)])
      · have : i = l.length := (by omega);subst this;have e : (colV a.col l).take l.length = colV a.col l := List.take_of_length_le (by rw [colV_len]; exact Nat.le_refl _);rw [e] at ho;simp [colV_len];refine sem_exit (sem_run 9000 _ ?_);have l4 : H.next < H3.next := (by omega);simp [b7, b4, zeroC];refine sem_ret ?_;simp [M60]
        have e2 : one15 l a = (o, true) := by
          rw [ho, ← endF_best hlk, one15, if_neg k2, oneF, if_neg k1, if_neg k2];rcases hk with ⟨hk, rfl⟩ | ⟨hk, rfl⟩
          · rw [if_pos hk]
          · rw [if_neg (by omega)]
        rw [e2];exact .le (by have := s3.next; repeat (first | exact s3 | apply Sub.new | refine Sub.put ?_ (by first | omega | (simp only [put_next, new_next]; omega)))) (by simp) (by simp)
end Go.Lib
end

section
set_option maxRecDepth 10000
namespace Go.Lib
open Go.Vm Go.Dv Go.Srt
variable {p : Prog} {ext : Ext} {F : Nat → Nat}
def frontF (c : Int) (l : List Row) : List Row := l.map fun r => atV r c :: r
theorem frontF_len {c : Int} {l : List Row} : (frontF c l).length = l.length := by simp [frontF]
theorem frontF_get {c : Int} {l : List Row} {i : Nat} {r : Row} (h : l[i]? = some r) : (frontF c l)[i]? = some (atV r c :: r) := by simp [frontF, h]
def FrontI (H0 : HpD) (l : List Row) (c : Int) (k : Nat) (fr : FrD) (H : HpD) : Prop :=
  ∃ (i : Nat) (t : D), k = l.length - i ∧ i ≤ l.length ∧ fr = [(0, rowsD l), (1, .lit (.int .i64 c)), (5, t), (6, .lit (.int .i64 (i : Int)))] ∧ Gr H0 H 1 t (rowsE ((frontF c l).take i))
theorem front_own (L : HRef15 p ext F) {ks : List Int} {l : List Row} {c : Int} {H : HpD} (hl : Fine l) (hg : GoodRs ks l) (hc : InK ks c) : WcD p ext (F 58) [rowsD l, .lit (.int .i64 c)] H (fun d H' => Gr H H' 1 d (rowsE (frontF c l))) := by
  refine wc_of L.h58 (M := M58) rfl ok58 rfl (sem_run 9000 _ ?_);simp;have hl1 := hl.1;obtain ⟨n, rfl⟩ : ∃ n : Nat, c = n := ⟨c.toNat, by have := hc.1; omega⟩;refine sem_loop (FrontI H l n) ?_ (k := l.length) ⟨0, .lit .nilslice, by simp, by simp, rfl, by simpa [rowsE] using Gr.start⟩;rintro k fr H' ⟨i, t, rfl, hi, rfl, g⟩;refine sem_run 9000 _ ?_;simp
  by_cases c1 : i < l.length
  · obtain ⟨r, hr⟩ : ∃ r, l[i]? = some r := ⟨l[i], by simp⟩;have hrm := List.mem_of_getElem? hr;have hrl := hl.2 r hrm;have hrk : r.length = ks.length := (by have := (hg r hrm).kin; unfold Kin at this; rw [← this]; simp);have hv : r[n]? = some (atV r n) := (atV_mem (r := r) (c := (n : Int)) (by omega) (by have := hc.2; omega)).2;have wi : wr .i64 ((i : Int) + 1) = ((i + 1 : Nat) : Int) := (by rw [wr_of] <;> omega);simp [c1, hr, hv, -getElem?_pos];have gl : Gr H' (H'.new (.cells (atV r n).c false)) 4 (.slice H'.next 0 4 1 1 true) (rowE [atV r n]) := Gr.lit Sub.refl (by simp [rowE]) (by simp [rowE]) (by simp [rowE]);refine sem_app gl row_four row_flats (roomyD (by simp only [row_len, List.length_cons, List.length_nil]; omega) (by simp only [row_len, List.length_cons, List.length_nil]; omega)) fun s H2 g2 k2 n2 => ?_;obtain ⟨b, ex, el0, rfl, hb1, hb2, hb3, hb4, hb5⟩ := g2.place (by simp [rowE]);simp [-getElem?_pos];rw [appendD_slice1 (b := H2.next) (cs := [.slice b 0 4 (1 + r.length) (1 + r.length) ex]) (ro := false) (by simp) (by simp)]
    refine sem_push (g.mono (by have := g2.sub.next; repeat (first | exact g2.sub | apply Sub.new | refine Sub.put ?_ (by first | omega | (simp only [put_next, new_next]; omega))))) rfl rfl (roomyD (by simp; omega) (by simp; omega)) fun t' H3 g3 k3 n3 => ?_;obtain ⟨n3, rfl⟩ := n3;simp at n3;simp;have hfar : ∀ x, t.hasB x → x < H'.next := fun x hx => (g.far hx).2;have e2 : rowE [atV r n] ++ rowE r = rowE (atV r n :: r) := (by simp [rowE]);have e5 : (rowE [atV r n] ++ rowE r).length = 1 + r.length := (by simp);rw [e5, e2] at g2
    have g2' := g2.rest (H3 := H3) (by omega) fun x hx => by
      have hx' := g2.far hx;rw [k3 x (by simp; omega) (fun h => by have := hfar x h; omega), new_blk, if_neg (by omega)]
    refine sem_last_ok g3 g2' g.sub.next (fun x hx hx2 => by
      have := (g2.far hx2).2
      simp [D.hasB] at hx; omega) fun H4 g4 _ _ => ?_
    refine sem_ok ?_
    have e3 : rowsE ((frontF (n : Int) l).take i) ++ [[.row 4 .p (rowE (atV r n :: r))]] = rowsE ((frontF (n : Int) l).take (i + 1)) := by
      rw [← rowsE_snoc (frontF_get hr)]; rfl
    rw [e3] at g4;exact ⟨l.length - (i + 1), by omega, i + 1, _, rfl, by omega, by rw [wi], by simpa using g4⟩
  · have : i = l.length := (by omega);subst this;simp;refine sem_exit (sem_run 9000 _ ?_);have e : (frontF (n : Int) l).take l.length = frontF (n : Int) l := List.take_of_length_le (by rw [frontF_len]; exact Nat.le_refl _);rw [e] at g;simp;refine sem_ret ?_;simp [M58];exact g
theorem one15_ok {l : List Row} {a : Ag} : (one15 l a).2 = (oneF l a).2 := by
  unfold one15
  by_cases h : a.kind = 2
  · rw [if_pos h];unfold oneF sumV;rw [if_neg (by omega), if_pos h];split <;> simp_all
  · rw [if_neg h]
theorem one15_val {l : List Row} {a : Ag} (h : (oneF l a).2 = true) : (one15 l a).1 = (oneF l a).1 := by
  unfold one15
  by_cases hk : a.kind = 2
  · rw [if_pos hk];unfold oneF sumV at h ⊢;rw [if_neg (by omega), if_pos hk] at h ⊢
    by_cases hi : In64 (sumT a.col l)
    · rw [if_pos hi, wide_low hi]
    · rw [if_neg hi] at h; simp at h
  · rw [if_neg hk]
def AgK (ks : List Int) (a : Ag) : Prop := InK ks a.col ∧ (a.kind = 1 ∨ a.kind = 2 ∨ a.kind = 3 ∨ a.kind = 4)
def All15I (H0 : HpD) (l : List Row) (ags : List Ag) (k : Nat) (fr : FrD) (H : HpD) : Prop :=
  ∃ (i : Nat) (s : D), k = ags.length - i ∧ i ≤ ags.length ∧ fr = [(0, rowsD l), (1, agsD ags), (6, s), (7, .lit (.int .i64 (i : Int)))] ∧ Gr H0 H 4 s (rowE (vals l (ags.take i))) ∧ oks l (ags.take i) = true
theorem all15_own (L : HRef15 p ext F) {ks : List Int} {H : HpD} {l : List Row} {ags : List Ag} (hl : Fine l) (hg : GoodRs ks l) (ha : ∀ a, a ∈ ags → AgK ks a) (hb : ags.length < 1000) : WcD p ext (F 57) [rowsD l, agsD ags] H (fun d H' => AllR H [] l ags d H') := by
  refine wc_of L.h57 (M := M57) rfl ok57 rfl (sem_run 9000 _ ?_);simp;refine sem_loop (All15I H l ags) ?_ (k := ags.length) ⟨0, .lit .nilslice, by simp, by simp, rfl, by simpa [vals, rowE] using Gr.start, by simp [oks]⟩;rintro k fr H' ⟨i, s, rfl, hi, rfl, g, hok⟩;refine sem_run 9000 _ ?_;simp
  by_cases c : i < ags.length
  · obtain ⟨a, hx'⟩ : ∃ a, ags[i]? = some a := ⟨ags[i], by simp⟩;have hak := ha a (List.mem_of_getElem? hx');simp [c, hx', -getElem?_pos];refine sem_fn (ref15_one L (a := a) hl hg hak.1 hak.2) (by first | exact D.les_refl _ | simp) (sem_run 9000 _ ?_);have hw : wr .i64 ((i : Int) + 1) = ((i + 1 : Nat) : Int) := (by rw [wr_of] <;> omega);have ho := oks_snoc (l := l) hx';rw [hok, Bool.true_and] at ho;have hv := vals_snoc (l := l) hx';rw [one15_ok]
    cases hk : (oneF l a).2 with
    | false =>
      rw [hk] at ho;simp;refine sem_ret ?_;simp [M57];refine sem_ret ?_;simp;exact .inr ⟨oks_take ho, rfl, (by have := g.sub.next; repeat (first | exact g.sub | apply Sub.new | refine Sub.put ?_ (by first | omega | (simp only [put_next, new_next]; omega))))⟩
    | true =>
      rw [hk] at ho;rw [one15_val hk];simp;refine sem_push (g.mono (by repeat (first | exact Sub.refl | apply Sub.new | refine Sub.put ?_ (by first | omega | (simp only [put_next, new_next]; omega))))) rfl rfl (roomyD (by simp [row_len, vals]; omega) (by simp [row_len, vals]; omega)) fun s' H1 g1 _ _ => ?_;simp;refine sem_ok ?_;have e : rowE (vals l (ags.take i)) ++ [(oneF l a).1.c] = rowE (vals l (ags.take (i + 1))) := (by rw [hv]; simp [rowE]);rw [e] at g1;exact ⟨ags.length - (i + 1), by omega, i + 1, s', rfl, by omega, by rw [hw], g1, ho⟩
  · have : i = ags.length := (by omega);subst this;simp;refine sem_exit (sem_run 9000 _ ?_);rw [List.take_length] at g hok;simp;refine sem_ret ?_;simp [M57];exact .inl ⟨hok, s, rfl, by simpa using g⟩
theorem all15_row (L : HRef15 p ext F) {ks : List Int} {l : List Row} {ags : List Ag} (hl : Fine l) (hg : GoodRs ks l) (ha : ∀ a, a ∈ ags → AgK ks a) (hb : ags.length < 1000) :
    FnD p ext (F 57) [rowsD l, agsD ags] (.tup [rowD (if oks l ags then vals l ags else []), .lit (.bool (oks l ags))]) := by
  intro H;refine WcD.drop ((all15_own L hl hg ha hb).mono ?_);rintro d H' (⟨hk, s', rfl, g'⟩ | ⟨hk, rfl, hs⟩)
  · obtain ⟨H2, w, sub, _⟩ := g'.fin row_underss (m := .p) (by simp);rw [hk];exact ⟨_, H2, WeakV.tup2 w, sub, by simp, by simp [rowD], rfl⟩
  · rw [hk];exact ⟨_, H', WeakV.tup2 (WeakV.le (d' := rowD []) (by simp [rowD, rowE, D.le])), hs, by simp [row_under], rfl, rfl⟩
end Go.Lib
end

section
set_option maxRecDepth 10000
namespace Go.Lib
open Go.Vm Go.Dv Go.Srt
variable {p : Prog} {ext : Ext} {F : Nat → Nat}
theorem front_good {ks : List Int} {l : List Row} {c : Int} (hg : GoodRs ks l) (hc : InK ks c) : GoodRs ((ks[c.toNat]?).getD 0 :: ks) (frontF c l) := by
  intro x hx;obtain ⟨r, hr, rfl⟩ := List.mem_map.1 hx;exact GoodR.cons ((hg r hr).at_ hc).1 ((hg r hr).at_ hc).2 (hg r hr)
theorem front_fine {ks : List Int} {l : List Row} {c : Int} (hl : Fine l) (hg : GoodRs ks l) (hk : ks.length < 900000) : Fine (frontF c l) :=
  ⟨by rw [frontF_len]; exact hl.1, fun x hx => by
    obtain ⟨r, hr, rfl⟩ := List.mem_map.1 hx;have := (hg r hr).kin; unfold Kin at this
    have : r.length = ks.length := by rw [← this]; simp
    simp; omega⟩
theorem front_tail {c : Int} {l : List Row} : (frontF c l).map List.tail = l := by
  unfold frontF; rw [List.map_map]; exact List.map_id'' (fun _ => rfl) l
theorem front_sort {ks : List Int} {c : Int} {l : List Row} (hg : GoodRs ks l) (hc : InK ks c) : ∃ l', sortL cmpR (frontF c l) = frontF c l' ∧ l'.Perm l ∧ Rise (cmpC c) l' := by
  have hp := sortL_perm (cmp := cmpR) (l := frontF c l);have hr := sortL_rise (cmpR_ord (ks := (ks[c.toNat]?).getD 0 :: ks)) (front_good hg hc);refine ⟨(sortL cmpR (frontF c l)).map List.tail, ?_, ?_, ?_⟩
  · unfold frontF;rw [List.map_map];symm;refine (List.map_congr_left fun x hx => ?_).trans (List.map_id _);have := hp.mem_iff.1 hx;obtain ⟨r, _, rfl⟩ := List.mem_map.1 this;rfl
  · have := hp.map List.tail;rw [front_tail] at this;exact this
  · refine List.pairwise_map.2 (List.Pairwise.imp_of_mem ?_ hr);intro x y hx hy h;obtain ⟨r, _, rfl⟩ := List.mem_map.1 (hp.mem_iff.1 hx);obtain ⟨t, _, rfl⟩ := List.mem_map.1 (hp.mem_iff.1 hy);simp only [cmpR, cmpRow, List.tail_cons] at h ⊢;unfold cmpC;split at h
    · exact h
    · omega
theorem slc_tail {v : Vl} {r : Row} : slcD 4 (rowD (v :: r)) (some (.lit (.int .i64 1))) none none = some (rowD r) := by
  have := slcRow_eq (sz := 4) (m := .p) (l := rowE (v :: r)) (lo := some (.int .i64 1)) (hi := none) (mx := none);simp only [Option.map] at this;rw [rowD, this];have e : natOf (.int .i64 1) = some 1 := natOf_cast (n := 1);simp [needH, slcRow, boundM, e, boundH, boundL, cutMd, ble_d, rowD, rowE];rw [List.take_of_length_le (by simp)]
theorem cnt_at {ks : List Int} {l' : List Row} {c : Int} {i k : Nat} {r : Row} (hg : GoodRs ks l') (hc : InK ks c) (hr : l'[i]? = some r) (hik : i ≤ k) (hkl : k ≤ l'.length) (hq : ∀ q x, i ≤ q → q < k → l'[q]? = some x → atV x c = atV r c) (h3 : k = l'.length ∨ ∃ x, l'[k]? = some x ∧ ¬ atV x c = atV r c) : k - i = cnt c r (l'.drop (i + 1)) := by
  have hi := (List.getElem?_eq_some_iff.1 hr).1
  have hne : i < k := by
    rcases Nat.lt_or_eq_of_le hik with h | h
    · exact h
    · subst h;rcases h3 with h | ⟨x, hx, hn⟩
      · omega
      · rw [hr] at hx; cases hx; exact absurd rfl hn
  refine cnt_eq (by omega) (by rw [List.length_drop]; omega) (fun q x h e => ?_) ?_
  · rw [List.getElem?_drop] at e;rw [hq _ x (by omega) (by omega) e]; exact cmpV_self
  · rcases h3 with h | ⟨x, hx, hn⟩
    · left; rw [List.length_drop]; omega
    · right;refine ⟨x, ?_, fun e => hn (cmpC_zero hc (hg x (List.mem_of_getElem? hx)) (hg r (List.mem_of_getElem? hr)) e)⟩;rw [List.getElem?_drop, show i + 1 + (k - i - 1) = k by omega]; exact hx
def Grp15I (H0 : HpD) (c : Int) (ags : List Ag) (l' : List Row) (k : Nat) (fr : FrD) (H : HpD) : Prop :=
  ∃ (i : Nat) (done : List Row) (s : D), k = l'.length - i ∧ i ≤ l'.length ∧ done.length ≤ i ∧ fr = [(0, rowsD (frontF c l')), (2, agsD ags), (10, s), (11, .lit (.int .i64 (i : Int)))] ∧ Gr H0 H 1 s (rowsE done) ∧
    runG c ags l'.length l' = (if (runG c ags (l'.drop i).length (l'.drop i)).2 then (done ++ (runG c ags (l'.drop i).length (l'.drop i)).1, true) else ([], false))
def Cnt15I (H0 : HpD) (c : Int) (ags : List Ag) (l' : List Row) (i : Nat) (r : Row) (s : D) (w : Nat) (fr : FrD) (H : HpD) : Prop :=
  ∃ (k : Nat) (t : D), w = l'.length - k ∧ i ≤ k ∧ k ≤ l'.length ∧ (∀ q x, i ≤ q → q < k → l'[q]? = some x → atV x c = atV r c) ∧
    fr = [(0, rowsD (frontF c l')), (2, agsD ags), (10, s), (11, .lit (.int .i64 (i : Int))), (12, .lit (.int .i64 (k : Int))), (13, t)] ∧ Gr H0 H 1 t (rowsE ((l'.drop i).take (k - i)))
theorem groups15_own (L : HRef15 p ext F) {ks : List Int} {l : List Row} {c : Int} {ags : List Ag} {H : HpD} (hl : Fine l) (hg : GoodRs ks l) (hk : ks.length < 900000) (hc : InK ks c) (ha : ∀ a, a ∈ ags → AgK ks a) (hb : ags.length < 900) : WcD p ext (F 55) [rowsD l, .lit (.int .i64 c), agsD ags] H (fun d H' => ((grpF c ags l).2 = true ∧ ∃ s, d = .tup [s, .lit (.bool true)] ∧ Gr H H' 1 s (rowsE (grpF c ags l).1)) ∨ ((grpF c ags l).2 = false ∧ d = .tup [.lit .nilslice, .lit (.bool false)] ∧ Sub H H')) := by
  refine wc_of L.h55 (M := M55) rfl ok55 rfl (sem_run 9000 _ ?_);have hc0 : ¬ c < 0 := (by have := hc.1; omega);simp [hc0];refine sem_call (front_own L hl hg hc) fun d H1 g1 => ?_;refine sem_run 9000 _ ?_;simp;refine sem_row g1 0 rfl fun H2 s2 _ _ => ?_;refine sem_fn (ref15_sort L (front_fine hl hg hk) (front_good hg hc)) (by simp [rowsD]) (sem_run 9000 _ ?_);obtain ⟨l', e, hp1, hrise⟩ := front_sort hg hc;rw [e];have hG := grp_rise hc (fun a h => (ha a h).1) hg hp1 hrise;rw [← hG];have hl' : Fine l' := hl.perm hp1;have hg' : GoodRs ks l' := hg.perm hp1.symm;have hl1 := hl'.1;simp
  refine sem_loop (Grp15I H c ags l') ?_ (k := l'.length) ⟨0, [], .lit .nilslice, by simp, by simp, by simp, rfl, by simpa [rowsE] using (Gr.start (H := H2)).base s2, by
    cases h : (runG c ags l'.length l').2 with
    | true => simp [← h]
    | false => rw [List.drop_zero, runG_false h]; simp⟩
  rintro k' fr H' ⟨i, done, s, rfl, hi, hdone, rfl, g, heq⟩;refine sem_run 9000 _ ?_;simp
  by_cases c1 : i < l'.length
  · obtain ⟨r, hr⟩ : ∃ r, l'[i]? = some r := ⟨l'[i], by simp⟩;have hf := frontF_get (c := c) hr;have hrm := List.mem_of_getElem? hr
    have hdrop : l'.drop i = r :: l'.drop (i + 1) := by
      rw [List.drop_eq_getElem_cons c1]; congr; exact (List.getElem?_eq_some_iff.1 hr).2
    simp [frontF_len, c1];refine sem_loop (Cnt15I H' c ags l' i r s) ?_ (k := l'.length - i) ⟨i, .lit .nilslice, rfl, by omega, by omega, fun q x h1 h2 => by omega, rfl, by simpa [rowsE] using Gr.start⟩;rintro k'' fr H5 ⟨k, t, rfl, hik, hkl, hq, rfl, g2⟩;refine sem_run 9000 _ ?_;simp
    have stop : (∃ x, k < l'.length ∧ l'[k]? = some x ∧ atV x c = atV r c) ∨ (∃ x, k < l'.length ∧ l'[k]? = some x ∧ ¬ atV x c = atV r c) ∨ ¬ k < l'.length := by
      by_cases h : k < l'.length
      · by_cases h2 : atV l'[k] c = atV r c
        · exact .inl ⟨_, h, by simp, h2⟩
        · exact .inr (.inl ⟨_, h, by simp, h2⟩)
      · exact .inr (.inr h)
    have len' : (frontF c l').length = l'.length := frontF_len;rcases stop with ⟨x, c2, hx, hxe⟩ | ⟨x, c2, hx, hxe⟩ | c2
    · have hfx := frontF_get (c := c) hx;have wk : wr .i64 ((k : Int) + 1) = ((k + 1 : Nat) : Int) := (by rw [wr_of] <;> omega);simp [len', c2, hf, hfx, List.getElem?_cons_zero, -getElem?_pos];refine sem_dfn (ref6_sameVal L.ref6 (a := atV x c) (b := atV r c)) (by first | exact D.les_refl _ | simp) (sem_run 9000 _ ?_);simp [hxe, hfx, slc_tail, -getElem?_pos];refine sem_push g2 rfl rfl (roomyD (by simp; omega) (by simp; omega)) fun t' H6 g3 _ _ => ?_;simp;refine sem_ok ?_;have hxd : (l'.drop i)[k - i]? = some x := (by rw [List.getElem?_drop, show i + (k - i) = k by omega]; exact hx);rw [rowsE_snoc hxd, show k - i + 1 = k + 1 - i by omega] at g3;refine ⟨l'.length - (k + 1), by omega, k + 1, t', rfl, by omega, by omega, fun q y h1 h2 h3 => ?_, by rw [wk], g3⟩
      by_cases e : q = k
      · subst e; rw [hx] at h3; cases h3; exact hxe
      · exact hq q y h1 (by omega) h3
    · have hfx := frontF_get (c := c) hx;simp [len', c2, hf, hfx, List.getElem?_cons_zero, -getElem?_pos];refine sem_dfn (ref6_sameVal L.ref6 (a := atV x c) (b := atV r c)) (by first | exact D.les_refl _ | simp) (sem_run 9000 _ ?_);simp [hxe];refine sem_exit (sem_run 9000 _ ?_);have hcnt := cnt_at (c := c) hg' hc hr hik hkl hq (.inr ⟨x, hx, hxe⟩);clear hfx hx hxe c2
      have hpl : ((r :: l'.drop (i + 1)).take (k - i)).length ≤ l'.length := by
        rw [← hdrop, List.length_take, List.length_drop]; omega
      have hps : ∀ y, y ∈ (r :: l'.drop (i + 1)).take (k - i) → y ∈ l' := fun y hy => by
        rw [← hdrop] at hy;exact List.mem_of_mem_drop (List.mem_of_mem_take hy)
      rw [hdrop] at g2 heq;simp;refine sem_row g2 0 rfl fun H6 s6 _ _ => ?_;refine sem_fn (all15_row L (l := (r :: l'.drop (i + 1)).take (k - i)) ⟨by omega, fun y hy => hl'.2 y (hps y hy)⟩ (fun y hy => hg' y (hps y hy)) ha (by omega)) (by simp [rowsD]) (sem_run 9000 _ ?_)
      cases hok : oks ((r :: l'.drop (i + 1)).take (k - i)) ags with
      | false =>
        rw [runG_stop hcnt hok] at heq;simp;refine sem_ret ?_;simp;refine sem_ret ?_;simp [M55];rw [heq];exact ⟨rfl, g.sub.trans s6⟩
      | true =>
        rw [runG_step hcnt hok] at heq;simp [hf, List.getElem?_cons_zero, -getElem?_pos];generalize hV : vals ((r :: l'.drop (i + 1)).take (k - i)) ags = V at heq;have hVl : V.length = ags.length := (by rw [← hV]; simp [vals]);have gl : Gr H6 (H6.new (.cells (atV r c).c false)) 4 (.slice H6.next 0 4 1 1 true) (rowE [atV r c]) := Gr.lit Sub.refl (by simp [rowE]) (by simp [rowE]) (by simp [rowE]);refine sem_app gl row_four row_flats (roomyD (by simp only [row_len, List.length_cons, List.length_nil]; omega) (by simp only [row_len, List.length_cons, List.length_nil]; omega)) fun s3 H7 g3 k3 n3 => ?_
        have e5 : (rowE [atV r c] ++ rowE V).length = 1 + V.length := (by simp);have e2 : rowE [atV r c] ++ rowE V = rowE (atV r c :: V) := (by simp [rowE]);obtain ⟨b, ex, el0, rfl, hb1, hb2, hb3, hb4, hb5⟩ := g3.place (by simp [rowE]);rw [e5, e2] at g3;simp;refine sem_push (g.mono (s6.trans g3.sub)) rfl rfl (roomyD (by simp; omega) (by simp; omega)) fun s8 H8 g8 k8 n8 => ?_;obtain ⟨n8, rfl⟩ := n8;simp;have h67 := g3.sub.next;have h06 := g.sub.next;have h6n := s6.next
        have g3' := g3.rest (H3 := H8) n8 fun x hx => by
          have hx' := g3.far hx
          exact k8 x hx'.2 fun h => by have := (g.far h).2; omega
        refine sem_last_ok g8 g3' (by simp; omega) (fun x hx hx2 => by
          have := (g3.far hx2).2
          simp only [D.hasB] at hx; omega) fun H9 g9 _ _ => ?_
        refine sem_ok ?_;have e3 : rowsE done ++ [[.row 4 .p (rowE (atV r c :: V))]] = rowsE (done ++ [atV r c :: V]) := (by simp [rowsE, rowD]);rw [e3] at g9
        have hdk : (r :: l'.drop (i + 1)).drop (k - i) = l'.drop k := by
          rw [← hdrop, List.drop_drop, show i + (k - i) = k by omega]
        rw [hdk] at heq
        have hik2 : i < k := by
          have : 1 ≤ k - i := (by rw [hcnt]; unfold cnt; omega);omega
        refine ⟨l'.length - k, by omega, k, done ++ [atV r c :: V], _, rfl, hkl, by simp; omega, rfl, by simpa using g9, ?_⟩;rw [heq];cases hz : (runG c ags (l'.drop k).length (l'.drop k)).2 <;> simp
    · simp [len', c2];refine sem_exit (sem_run 9000 _ ?_);have hcnt := cnt_at (c := c) hg' hc hr hik hkl hq (.inl (by omega));clear c2
      have hpl : ((r :: l'.drop (i + 1)).take (k - i)).length ≤ l'.length := by
        rw [← hdrop, List.length_take, List.length_drop]; omega
      have hps : ∀ y, y ∈ (r :: l'.drop (i + 1)).take (k - i) → y ∈ l' := fun y hy => by
        rw [← hdrop] at hy;exact List.mem_of_mem_drop (List.mem_of_mem_take hy)
      rw [hdrop] at g2 heq;simp;refine sem_row g2 0 rfl fun H6 s6 _ _ => ?_;refine sem_fn (all15_row L (l := (r :: l'.drop (i + 1)).take (k - i)) ⟨by omega, fun y hy => hl'.2 y (hps y hy)⟩ (fun y hy => hg' y (hps y hy)) ha (by omega)) (by simp [rowsD]) (sem_run 9000 _ ?_)
      cases hok : oks ((r :: l'.drop (i + 1)).take (k - i)) ags with
      | false =>
        rw [runG_stop hcnt hok] at heq;simp;refine sem_ret ?_;simp;refine sem_ret ?_;simp [M55];rw [heq];exact ⟨rfl, g.sub.trans s6⟩
      | true =>
        rw [runG_step hcnt hok] at heq;simp [hf, List.getElem?_cons_zero, -getElem?_pos];generalize hV : vals ((r :: l'.drop (i + 1)).take (k - i)) ags = V at heq;have hVl : V.length = ags.length := (by rw [← hV]; simp [vals]);have gl : Gr H6 (H6.new (.cells (atV r c).c false)) 4 (.slice H6.next 0 4 1 1 true) (rowE [atV r c]) := Gr.lit Sub.refl (by simp [rowE]) (by simp [rowE]) (by simp [rowE]);refine sem_app gl row_four row_flats (roomyD (by simp only [row_len, List.length_cons, List.length_nil]; omega) (by simp only [row_len, List.length_cons, List.length_nil]; omega)) fun s3 H7 g3 k3 n3 => ?_
        have e5 : (rowE [atV r c] ++ rowE V).length = 1 + V.length := (by simp);have e2 : rowE [atV r c] ++ rowE V = rowE (atV r c :: V) := (by simp [rowE]);obtain ⟨b, ex, el0, rfl, hb1, hb2, hb3, hb4, hb5⟩ := g3.place (by simp [rowE]);rw [e5, e2] at g3;simp;refine sem_push (g.mono (s6.trans g3.sub)) rfl rfl (roomyD (by simp; omega) (by simp; omega)) fun s8 H8 g8 k8 n8 => ?_;obtain ⟨n8, rfl⟩ := n8;simp;have h67 := g3.sub.next;have h06 := g.sub.next;have h6n := s6.next
        have g3' := g3.rest (H3 := H8) n8 fun x hx => by
          have hx' := g3.far hx
          exact k8 x hx'.2 fun h => by have := (g.far h).2; omega
        refine sem_last_ok g8 g3' (by simp; omega) (fun x hx hx2 => by
          have := (g3.far hx2).2
          simp only [D.hasB] at hx; omega) fun H9 g9 _ _ => ?_
        refine sem_ok ?_;have e3 : rowsE done ++ [[.row 4 .p (rowE (atV r c :: V))]] = rowsE (done ++ [atV r c :: V]) := (by simp [rowsE, rowD]);rw [e3] at g9
        have hdk : (r :: l'.drop (i + 1)).drop (k - i) = l'.drop k := by
          rw [← hdrop, List.drop_drop, show i + (k - i) = k by omega]
        rw [hdk] at heq
        have hik2 : i < k := by
          have : 1 ≤ k - i := (by rw [hcnt]; unfold cnt; omega);omega
        refine ⟨l'.length - k, by omega, k, done ++ [atV r c :: V], _, rfl, hkl, by simp; omega, rfl, by simpa using g9, ?_⟩;rw [heq];cases hz : (runG c ags (l'.drop k).length (l'.drop k)).2 <;> simp
  · have : i = l'.length := (by omega);subst this;simp [frontF_len];refine sem_exit (sem_run 9000 _ ?_);rw [List.drop_length] at heq;simp [runG] at heq;simp;refine sem_ret ?_;simp [M55];rw [heq];exact ⟨rfl, g⟩
theorem ref15_groups (L : HRef15 p ext F) {ks : List Int} {l : List Row} {c : Int} {ags : List Ag} (hl : Fine l) (hg : GoodRs ks l) (hk : ks.length < 900000) (hc : c < ks.length) (ha : ∀ a, a ∈ ags → AgK ks a) (hb : ags.length < 900) :
    FnD p ext (F 55) [rowsD l, .lit (.int .i64 c), agsD ags] (grpD (grpsF c ags l)) := by
  by_cases h : c < 0
  · unfold grpsF grpD;rw [if_pos h];refine fn_of L.h55 (M := M55) rfl ok55 rfl fun H => sem_run 9000 _ ?_;simp [h];refine sem_fn (all15_row L hl hg ha (by omega)) (by first | exact D.les_refl _ | simp) (sem_run 9000 _ ?_)
    cases hok : oks l ags with
    | false =>
      simp;refine sem_ret ?_;simp [M55];exact .le (by repeat (first | exact Sub.refl | apply Sub.new | refine Sub.put ?_ (by first | omega | (simp only [put_next, new_next]; omega)))) (by simp [rowsD, rowsE, D.le]) (by simp)
    | true =>
      simp;refine sem_ret ?_;simp [M55];exact .le (by repeat (first | exact Sub.refl | apply Sub.new | refine Sub.put ?_ (by first | omega | (simp only [put_next, new_next]; omega)))) (by simp [rowsD, rowsE, D.le]) (by simp)
  · intro H;refine WcD.drop ((groups15_own L hl hg hk ⟨by omega, hc⟩ ha hb).mono ?_);unfold grpsF grpD;rw [if_neg h];rintro d H' (⟨e, s, rfl, g⟩ | ⟨e, rfl, hs⟩)
    · obtain ⟨H2, w, sub, _⟩ := g.fin rows_underss (m := .p) (by simp);rw [e];exact ⟨_, H2, WeakV.tup2 w, sub, by simp, by simp [rowsD], rfl⟩
    · have : (grpF c ags l).1 = [] := (by unfold grpF at e ⊢; rw [runG_false e]);rw [e, this];exact ⟨_, H', WeakV.tup2 (WeakV.le (d' := rowsD []) (by simp [rowsD, rowsE, D.le])), hs, by simp [rows_under], rfl, rfl⟩
theorem splice_two {v w : Vl} {a b c d : D} : spliceD (v.c ++ [a, b, c, d]) 4 w.c = v.c ++ w.c := rfl
theorem splice_n {v : Vl} {n : Int} : spliceD v.c 2 [.lit (.int .i64 n)] = (withN v n).c := rfl
theorem flats_two {v w : Vl} : flatsD (v.c ++ w.c) = true := rfl
theorem vsum_two {v w : Vl} (hv : v.null = false) (hw : w.Good) : vsum [v, w] = v.n + w.n := by
  have : vterm w = w.n := by
    unfold vterm;split
    · rename_i h; exact (hw.nul h).1.symm
    · rfl
  simp [vsum, vterm, hv] at this ⊢;exact this
def Set15I (H0 : HpD) (r0 : Row) (l : List Sx) (k : Nat) (fr : FrD) (H : HpD) : Prop :=
  ∃ (i : Nat) (r : Row) (s : D), k = l.length - i ∧ i ≤ l.length ∧ r.length = r0.length ∧ (∀ v, v ∈ r → In64 v.n) ∧ setF r0 l = setF r (l.drop i) ∧ fr = [(1, sxsD l), (6, s), (7, .lit (.int .i64 (i : Int)))] ∧ Gr H0 H 4 s (rowE r)
theorem set15_own (L : HRef15 p ext F) {r : Row} {l : List Sx} {H : HpD} (hr : r.length < 1000) (hl : l.length < 1000) (hn : ∀ v, v ∈ r → In64 v.n) (hv : ∀ x, x ∈ l → x.v.Good) (hc : ∀ x, x ∈ l → 0 ≤ x.col ∧ x.col < r.length) : WcD p ext (F 56) [rowD r, sxsD l] H (fun d H' => (∃ r' s', setF r l = some r' ∧ d = .tup [s', .lit (.bool true)] ∧ Gr H H' 4 s' (rowE r')) ∨ setF r l = none ∧ d = .tup [.lit .nilslice, .lit (.bool false)] ∧ Sub H H') := by
  refine wc_of L.h56 (M := M56) rfl ok56 rfl (sem_run 9000 _ ?_);simp;have g0 : Gr H (H.new (.cells [] false)) 4 (.slice H.next 0 4 0 0 true) (rowE []) := Gr.lit Sub.refl (by simp [rowE]) (by simp [rowE]) (by simp [rowE]);refine sem_app g0 row_four row_flats (roomyD (by simp; omega) (by simp; omega)) fun s1 H1 g1 _ _ => ?_;simp;refine sem_loop (Set15I H r l) ?_ (k := l.length) ⟨0, r, s1, by simp, by simp, rfl, hn, by simp, rfl, by simpa [rowE] using g1⟩;rintro k fr H' ⟨i, r', s, rfl, hi, hlen, hn', hset, rfl, g⟩;refine sem_exact g fun H2 gx _ _ => ?_;refine sem_run 9000 _ ?_;simp
  have wi : wr .i64 ((i : Int) + 1) = ((i + 1 : Nat) : Int) := by rw [wr_of] <;> omega
  by_cases c : i < l.length
  · obtain ⟨x, hx'⟩ : ∃ x, l[i]? = some x := ⟨l[i], by simp⟩
    have hdrop : l.drop i = x :: l.drop (i + 1) := by
      rw [List.drop_eq_getElem_cons c]; congr; exact (List.getElem?_eq_some_iff.1 hx').2
    rw [hdrop] at hset;have hxm := List.mem_of_getElem? hx';have hxg := hv x hxm;have hxn := hxg.int;obtain ⟨hx0, hx1⟩ := hc x hxm;obtain ⟨n, hn0⟩ : ∃ n : Nat, x.col = n := ⟨x.col.toNat, by omega⟩;have hnl : n < r'.length := (by omega);rcases gx.at_ with ⟨rfl, he⟩ | ⟨b, ex, rfl, h1, h2, h3⟩
    · have : r' = [] := (by simpa [rowE] using he);subst this; simp at hnl
    · obtain ⟨v, hv'⟩ : ∃ v, r'[n]? = some v := ⟨r'[n], by simp⟩;have hat : atV r' x.col = v := (by rw [hn0, atV, if_neg (by omega)]; simp [hv']);have hve : (rowE r')[n]? = some v.c := (by simp [rowE, hv']);have hne : b ≠ H2.next := (by omega);have hnl4 : n * 4 + 4 ≤ (rowE r').flatten.length := (by rw [flatten_len row_four, row_len]; omega);have hrd : ((rowE r').flatten.drop (n * 4)).take 4 = v.c := flat_slice row_four hve;have hlt1 : b < H2.next + 1 := (by omega);simp [c, hx', hn0, hnl, h3, hnl4, hrd, -getElem?_pos, -List.length_flatten];have gxk : ∀ H3, Sub H2 H3 → H3.blk b = H2.blk b → GrX H H3 4 (.slice b 0 4 (rowE r').length (rowE r').length ex) (rowE r') := fun H3 hs hb => gx.keep hs fun y hy => (by simp only [D.hasB] at hy; subst hy; exact hb)
      have hnr : ¬ (x.col < 0 ∨ (r'.length : Int) ≤ x.col) := (by omega)
      have setv : ∀ w : Vl, (rowE r').set n w.c = rowE (r'.set n w) := fun w => by unfold rowE; rw [List.map_set]
      cases ca : x.add with
      | false =>
        simp [hx', hn0, hnl, hnl4, hne, h3, -getElem?_pos, -List.length_flatten];refine sem_ok ?_;have g3 := (gxk ((H2.new (.cells [.lit (.bool false), .lit (.int .i64 0), .lit (.int .i64 0), .lit .nilslice] false)).put H2.next (.cells v.c false)) (by repeat (first | exact Sub.refl | apply Sub.new | refine Sub.put ?_ (by first | omega | (simp only [put_next, new_next]; omega)))) (by simp [hne])).whole (x := x.v.c) hve rfl h1 (by simp; omega);rw [setv] at g3;refine ⟨_, by omega, i + 1, r'.set n x.v, _, rfl, by omega, by simpa using hlen, fun y hy => ?_, ?_, by rw [wi], by simpa using g3.gr⟩
        · rcases List.mem_or_eq_of_mem_set hy with hy | rfl
          · exact hn' y hy
          · exact hxn
        · rw [hset, setF, setS, if_neg hnr, if_pos ca, hn0]; rfl
      | true =>
        have hvi := hn' v (List.mem_of_getElem? hv')
        cases hvn : v.null with
        | true =>
          simp [hvn, -getElem?_pos, -List.length_flatten];refine sem_ok ?_;refine ⟨_, by omega, i + 1, r', _, rfl, by omega, hlen, hn', ?_, by rw [wi], by simpa using (gxk _ (by repeat (first | exact Sub.refl | apply Sub.new | refine Sub.put ?_ (by first | omega | (simp only [put_next, new_next]; omega)))) (by simp [hne])).gr⟩;rw [hset, setF, setS, if_neg hnr, if_neg (by simp [ca]), hat, if_pos hvn]
        | false =>
          simp [hx', hvn, splice_two, flats_two, -getElem?_pos, -List.length_flatten];have gl : Gr ((H2.new (.cells [.lit (.bool false), .lit (.int .i64 0), .lit (.int .i64 0), .lit .nilslice] false)).put H2.next (.cells v.c false)) (((H2.new (.cells [.lit (.bool false), .lit (.int .i64 0), .lit (.int .i64 0), .lit .nilslice] false)).put H2.next (.cells v.c false)).new (.cells (v.c ++ x.v.c) false)) 4 (.slice (H2.next + 1) 0 4 2 2 true) (rowE [v, x.v]) := Gr.lit Sub.refl (by simp [rowE]) (by simp [rowE]) (by simp [rowE]);refine sem_dcall (wc_own gl (ref15_sum L (r := [v, x.v]) (by simp) (by simp; exact ⟨hvi, hxn⟩))) ?_
          rintro _ H6 ⟨rfl, s6, k6, n6⟩
          have k6b : H6.blk b = .cells (rowE r').flatten false := by
            rw [s6.blk b (by simp; omega)]; simp [hne, h3]
          have k68 : H6.blk H2.next = .cells v.c false := by
            rw [s6.blk _ (by simp)]; simp
          simp at n6;have l6b : b < H6.next := (by omega);have l68 : H2.next < H6.next := (by omega);have sub6 : Sub H2 H6 := ⟨by omega, fun y hy => by rw [s6.blk y (by simp; omega), put_blk, if_neg (by omega), new_blk, if_neg (by omega)]⟩;rw [vsum_two hvn hxg];refine sem_run 9000 _ ?_;simp
          by_cases ci : In64 (v.n + x.v.n)
          · have hnl3 : n * 4 + 4 ≤ (rowE r').flatten.length := hnl4;simp [sum15D, ci, wide_low ci, splice_n, hx', hn0, hnl, hnl4, hne, k6b, k68, l68, -getElem?_pos, -List.length_flatten];refine sem_ok ?_;have g3 := (gxk (H6.put H2.next (.cells (withN v (v.n + x.v.n)).c false)) (sub6.put (Nat.le_refl _)) (by rw [put_blk, if_neg hne, k6b, h3])).whole (x := (withN v (v.n + x.v.n)).c) hve rfl h1 (by simp; omega);rw [setv] at g3;refine ⟨l.length - (i + 1), by omega, i + 1, r'.set n (withN v (v.n + x.v.n)), _, rfl, by omega, by simpa using hlen, fun y hy => ?_, ?_, by rw [wi], by simpa using g3.gr⟩
            · rcases List.mem_or_eq_of_mem_set hy with hy | rfl
              · exact hn' y hy
              · exact ci
            · rw [hset, setF, setS, if_neg hnr, if_neg (by simp [ca]), hat, if_neg (by simp [hvn]), if_pos ci, hn0]; rfl
          · simp [sum15D, ci, -getElem?_pos, -List.length_flatten];refine sem_ret ?_;simp;refine sem_ret ?_;simp [M56];refine ⟨?_, gx.gr.sub.trans sub6⟩;rw [hset, setF, setS, if_neg hnr, if_neg (by simp [ca]), hat, if_neg (by simp [hvn]), if_neg ci]
  · have : i = l.length := (by omega);subst this;simp;refine sem_exit (sem_run 9000 _ ?_);simp;refine sem_ret ?_;simp [M56];rw [List.drop_length] at hset;exact ⟨r', hset, gx.gr⟩
theorem ref15_set (L : HRef15 p ext F) {r : Row} {l : List Sx} (hr : r.length < 1000) (hl : l.length < 1000) (hn : ∀ v, v ∈ r → In64 v.n) (hv : ∀ x, x ∈ l → x.v.Good) (hc : ∀ x, x ∈ l → 0 ≤ x.col ∧ x.col < r.length) : FnD p ext (F 56) [rowD r, sxsD l] (setD (setF r l)) := by
  intro H;refine WcD.drop ((set15_own L hr hl hn hv hc).mono ?_);rintro d H' (⟨r', s', e, rfl, g⟩ | ⟨e, rfl, hs⟩)
  · obtain ⟨H2, w, s, u⟩ := g.fin row_underss (m := .p) (by simp);rw [e];exact ⟨_, H2, WeakV.tup2 w, s, by simp, rfl, rfl⟩
  · rw [e];exact ⟨_, H', WeakV.tup2 (WeakV.le (d' := rowD []) (by simp [rowD, rowE, D.le])), hs, by simp [row_under], rfl, rfl⟩
end Go.Lib
end

section
namespace Go.Lib
open Go.Vm Go.Dv
set_option maxRecDepth 100000
abbrev K65 (F : Nat → Nat) : KC := .seq (.region [⟨some 2,.a (.box (.tmp 0)),none⟩,mi 4 0] [2] [1,2])
 (.seq (.seq (.region [fa 6 0 2,l1 7 6] [] [1,2,7])
 (.block 0 (.seq (.region [bi 9 .eql 7 1,mv 8 9] [] [1,2,7,8])
 (.cond (.tmp 8) (.seq (.region [mi 4 1] [] [4])
 (.ret))
 (.seq (.region [bi 11 .eql 7 2,mv 10 11] [] [1,2,7,10])
 (.cond (.tmp 10) (.seq (.region [mv 12 1,fa 13 1 2,l1 14 13,⟨some 15,.e (.call (F 3) [(.tmp 12),(.tmp 14)]),none⟩,⟨some 5,.a (.new [.bool false,.int .i64 (.ofNat 0),.int .i64 (.ofNat 0),.nilslice]),none⟩,⟨none,.e (.store 4 (.tmp 5) (.tmp 15)),none⟩] [] [2,5])
 (.seq (.seq (.region [fa 16 0 5,l1 17 16] [] [2,5,17])
 (.cond (.tmp 17) (.seq (.region [mi 4 3] [] [4])
 (.ret))
 (.skip)))
 (.seq (.dregion [⟨ln 20 4 5,0,3⟩,⟨fa 21 3 2,0,3⟩,⟨ln 22 4 21,0,3⟩,⟨⟨some 23,.e (.call (F 1) [(.tmp 20),(.tmp 22)]),none⟩,0,6⟩,⟨fa 18 2 2,0,6⟩,⟨l1 19 18,0,6⟩,⟨⟨some 24,.e (.call (F 66) [(.tmp 19),(.tmp 23)]),none⟩,4,7⟩,⟨⟨some 25,.e (.call (F 67) [(.tmp 24)]),none⟩,7,9⟩,⟨mv 4 25,8,9⟩] [4])
 (.ret))))
 (.seq (.region [bi 27 .eql 7 3,mv 26 27] [] [1,2,7,26])
 (.cond (.tmp 26) (.seq (.region [mv 28 1,fa 29 1 2,l1 30 29,⟨some 31,.e (.call (F 3) [(.tmp 28),(.tmp 30)]),none⟩,⟨some 32,.p (.field1 0 (.tmp 31)),none⟩,⟨some 33,.e (.call (F 67) [(.tmp 32)]),none⟩,mv 4 33] [] [4])
 (.ret))
 (.seq (.region [bi 35 .eql 7 4,mv 34 35] [] [1,2,7,34])
 (.cond (.tmp 34) (.seq (.region [ln 36 8 2,mv 37 1,⟨some 38,.e (.call (F 68) [(.tmp 36),(.tmp 37),(.val (.int .i64 (.ofNat 2))),(.val (.int .i64 (.ofNat 1)))]),none⟩,mv 4 38] [] [4])
 (.ret))
 (.seq (.region [bi 40 .eql 7 5,mv 39 40] [] [1,2,7,39])
 (.cond (.tmp 39) (.seq (.region [ln 41 8 2,mv 42 1,⟨some 43,.e (.call (F 68) [(.tmp 41),(.tmp 42),(.val (.int .i64 (.ofNat 1))),(.val (.int .i64 (.ofNat 2)))]),none⟩,mv 4 43] [] [4])
 (.ret))
 (.seq (.region [bi 45 .eql 7 6,mv 44 45] [] [1,2,44])
 (.cond (.tmp 44) (.seq (.region [fa 46 7 2,l1 47 46,lb 48 47,bi 49 .gtr 48 0] [] [1,2,49])
 (.cond (.tmp 49) (.seq (.region [fa 50 7 2,l1 51 50,⟨some 52,.p (.iaddr 8 (.tmp 51) (.val (.int .i64 (.ofNat 0)))),none⟩,ln 53 8 52,mv 54 1,⟨some 55,.e (.call (F 65) [(.tmp 53),(.tmp 54)]),none⟩,⟨some 56,.e (.call (F 69) [(.tmp 55)]),none⟩,mv 4 56] [] [4])
 (.ret))
 (.skip)))
 (.skip)))))))))))))))
 (.seq (.region [mi 4 3] [] [4])
 (.ret)))
def M65 (F : Nat → Nat) : Fun := ⟨57,2,(K65 F).erase,[.tmp 4]⟩
theorem ok65 {F : Nat → Nat} : (K65 F).ok = true := rfl
abbrev K66 (_F : Nat → Nat) : KC := .seq (.region [⟨some 4,.p (.mov (.val (.bool false))),none⟩] [] [0,1])
 (.seq (.seq (.region [mv 5 0] [] [1,5])
 (.block 0 (.seq (.region [bi 7 .eql 5 1,mv 6 7] [] [1,5,6])
 (.cond (.tmp 6) (.seq (.region [mv 8 1,bi 9 .eql 8 0,mv 4 9] [] [4])
 (.ret))
 (.seq (.region [bi 11 .eql 5 2,mv 10 11] [] [1,5,10])
 (.cond (.tmp 10) (.seq (.region [mv 12 1,bi 13 .neq 12 0,mv 4 13] [] [4])
 (.ret))
 (.seq (.region [bi 15 .eql 5 3,mv 14 15] [] [1,5,14])
 (.cond (.tmp 14) (.seq (.region [mv 16 1,bi 17 .lss 16 0,mv 4 17] [] [4])
 (.ret))
 (.seq (.region [bi 19 .eql 5 4,mv 18 19] [] [1,5,18])
 (.cond (.tmp 18) (.seq (.region [mv 20 1,bi 21 .leq 20 0,mv 4 21] [] [4])
 (.ret))
 (.seq (.region [bi 23 .eql 5 5,mv 22 23] [] [1,5,22])
 (.cond (.tmp 22) (.seq (.region [mv 24 1,bi 25 .gtr 24 0,mv 4 25] [] [4])
 (.ret))
 (.seq (.region [bi 27 .eql 5 6,mv 26 27] [] [1,26])
 (.cond (.tmp 26) (.seq (.region [mv 28 1,bi 29 .geq 28 0,mv 4 29] [] [4])
 (.ret))
 (.skip)))))))))))))))
 (.seq (.region [⟨some 4,.p (.mov (.val (.bool false))),none⟩] [] [4])
 (.ret)))
def M66 (F : Nat → Nat) : Fun := ⟨30,2,(K66 F).erase,[.tmp 4]⟩
theorem ok66 {F : Nat → Nat} : (K66 F).ok = true := rfl
abbrev K67 (_F : Nat → Nat) : KC := .seq (.region [mi 2 0] [] [0])
 (.seq (.seq (.region [mv 3 0] [] [3])
 (.cond (.tmp 3) (.seq (.region [mi 2 1] [] [2])
 (.ret))
 (.skip)))
 (.seq (.region [mi 2 2] [] [2])
 (.ret)))
def M67 (F : Nat → Nat) : Fun := ⟨4,1,(K67 F).erase,[.tmp 2]⟩
theorem ok67 {F : Nat → Nat} : (K67 F).ok = true := rfl
abbrev K68 (F : Nat → Nat) : KC := .seq (.region [⟨some 4,.a (.box (.tmp 0)),none⟩,mi 8 0] [4] [1,2,3,4])
 (.seq (.region [mv 13 3,mv 9 13] [] [1,2,4,9])
 (.seq (.seq (.region [fa 14 7 4,l1 15 14,lb 16 15,mi 17 0] [] [1,2,9,15,16,17])
 (.block 0 (.loop (.seq (.region [bt 18 .lss 17 16] [] [1,2,9,15,16,17,18])
 (.seq (.cond (.tmp 18) (.skip)
 (.exit 0))
 (.seq (.block 1 (.seq (.region [ix 19 8 15 17,ln 20 8 19,⟨some 11,.a (.new [.int .i64 (.ofNat 0),.int .i64 (.ofNat 0),.int .i64 (.ofNat 0),.bool false,.int .i64 (.ofNat 0),.int .i64 (.ofNat 0),.nilslice,.nilslice]),none⟩,⟨none,.e (.store 8 (.tmp 11) (.tmp 20)),none⟩] [] [1,2,9,11,15,16,17])
 (.seq (.region [ln 21 8 11,mv 22 1,⟨some 23,.e (.call (F 65) [(.tmp 21),(.tmp 22)]),none⟩,mv 12 23] [] [1,2,9,12,15,16,17])
 (.seq (.region [mv 24 12] [] [1,2,9,15,16,17,24])
 (.block 2 (.seq (.region [mv 26 2,bt 27 .eql 24 26,mv 25 27] [] [1,2,9,15,16,17,24,25])
 (.cond (.tmp 25) (.seq (.region [mv 28 2,mv 8 28] [] [8])
 (.ret))
 (.seq (.region [bi 30 .eql 24 3,mv 29 30] [] [1,2,9,15,16,17,29])
 (.cond (.tmp 29) (.region [mi 9 3] [] [1,2,9,15,16,17])
 (.skip))))))))))
 (.region [bi 31 .add 17 1,mv 17 31] [] [1,2,9,15,16,17])))))))
 (.seq (.region [mv 32 9,mv 8 32] [] [8])
 (.ret))))
def M68 (F : Nat → Nat) : Fun := ⟨33,4,(K68 F).erase,[.tmp 8]⟩
theorem ok68 {F : Nat → Nat} : (K68 F).ok = true := rfl
abbrev K69 (_F : Nat → Nat) : KC := .seq (.region [mi 2 0] [] [0])
 (.seq (.seq (.region [mv 3 0] [] [3])
 (.block 0 (.seq (.region [bi 5 .eql 3 1,mv 4 5] [] [3,4])
 (.cond (.tmp 4) (.seq (.region [mi 2 2] [] [2])
 (.ret))
 (.seq (.region [bi 7 .eql 3 2,mv 6 7] [] [6])
 (.cond (.tmp 6) (.seq (.region [mi 2 1] [] [2])
 (.ret))
 (.skip)))))))
 (.seq (.region [mi 2 3] [] [2])
 (.ret)))
def M69 (F : Nat → Nat) : Fun := ⟨8,1,(K69 F).erase,[.tmp 2]⟩
theorem ok69 {F : Nat → Nat} : (K69 F).ok = true := rfl
end Go.Lib
end

section
namespace Go.Lib
open Go.Vm Go.Dv
set_option maxRecDepth 100000
abbrev K87 (F : Nat → Nat) : KC := .seq (.region [⟨some 2,.a (.box (.tmp 0)),none⟩,mi 4 0] [2] [1,2])
 (.seq (.seq (.region [fa 9 0 2,l1 10 9] [] [1,2,10])
 (.block 0 (.seq (.region [bi 12 .eql 10 1,mv 11 12] [] [1,2,10,11])
 (.cond (.tmp 11) (.seq (.region [mi 4 1] [] [4])
 (.ret))
 (.seq (.region [bi 14 .eql 10 2,mv 13 14] [] [1,2,10,13])
 (.cond (.tmp 13) (.seq (.seq (.region [mv 15 1,fa 16 1 2,l1 17 16,ix 18 4 15 17,fa 19 0 18,l1 20 19] [] [1,2,20])
 (.cond (.tmp 20) (.seq (.region [mi 4 3] [] [4])
 (.ret))
 (.skip)))
 (.seq (.dregion [⟨mv 23 1,0,7⟩,⟨fa 24 1 2,0,7⟩,⟨l1 25 24,0,7⟩,⟨ix 26 4 23 25,0,7⟩,⟨ln 27 4 26,0,7⟩,⟨fa 28 3 2,0,7⟩,⟨ln 29 4 28,0,7⟩,⟨⟨some 30,.e (.call (F 46) [(.tmp 27),(.tmp 29)]),none⟩,0,10⟩,⟨fa 21 2 2,0,10⟩,⟨l1 22 21,0,10⟩,⟨⟨some 31,.e (.call (F 89) [(.tmp 22),(.tmp 30)]),none⟩,8,11⟩,⟨⟨some 32,.e (.call (F 90) [(.tmp 31)]),none⟩,11,13⟩,⟨mv 4 32,12,13⟩] [4])
 (.ret)))
 (.seq (.region [bi 34 .eql 10 3,mv 33 34] [] [1,2,10,33])
 (.cond (.tmp 33) (.seq (.region [mv 35 1,fa 36 1 2,l1 37 36,ix 38 4 35 37,fa 39 0 38,l1 40 39,⟨some 41,.e (.call (F 90) [(.tmp 40)]),none⟩,mv 4 41] [] [4])
 (.ret))
 (.seq (.region [bi 43 .eql 10 6,mv 42 43] [] [1,2,42])
 (.cond (.tmp 42) (.seq (.seq (.region [fa 44 7 2,l1 45 44,⟨some 46,.p (.iaddr 8 (.tmp 45) (.val (.int .i64 (.ofNat 0)))),none⟩,ln 47 8 46,mv 48 1,⟨some 49,.e (.call (F 87) [(.tmp 47),(.tmp 48)]),none⟩] [] [49])
 (.block 1 (.seq (.region [bi 51 .eql 49 1,mv 50 51] [] [49,50])
 (.cond (.tmp 50) (.seq (.region [mi 4 2] [] [4])
 (.ret))
 (.seq (.region [bi 53 .eql 49 2,mv 52 53] [] [52])
 (.cond (.tmp 52) (.seq (.region [mi 4 1] [] [4])
 (.ret))
 (.skip)))))))
 (.seq (.region [mi 4 3] [] [4])
 (.ret)))
 (.skip)))))))))))
 (.seq (.region [mi 5 2,mi 6 1] [] [1,2,5,6])
 (.seq (.seq (.region [fa 54 0 2,l1 55 54,bi 56 .eql 55 5] [] [1,2,5,6,56])
 (.cond (.tmp 56) (.region [mi 5 1,mi 6 2] [] [1,2,5,6])
 (.skip)))
 (.seq (.seq (.region [mi 7 0] [] [1,2,5,6,7])
 (.block 2 (.loop (.seq (.seq (.region [mv 57 7,fa 58 7 2,l1 59 58,lb 60 59,bt 61 .lss 57 60] [] [1,2,5,6,7,61])
 (.cond (.tmp 61) (.skip)
 (.exit 2)))
 (.seq (.block 3 (.seq (.region [fa 64 7 2,l1 65 64,mv 66 7,ix 67 8 65 66,ln 68 8 67,mv 69 1,⟨some 70,.e (.call (F 87) [(.tmp 68),(.tmp 69)]),none⟩,mv 8 70] [] [1,2,5,6,7,8])
 (.seq (.seq (.region [mv 71 8,mv 72 5,bt 73 .eql 71 72] [] [1,2,5,6,7,8,73])
 (.cond (.tmp 73) (.seq (.region [mv 74 5,mv 4 74] [] [4])
 (.ret))
 (.skip)))
 (.seq (.region [mv 75 8,bi 76 .eql 75 3] [] [1,2,5,6,7,76])
 (.cond (.tmp 76) (.region [mi 6 3] [] [1,2,5,6,7])
 (.skip))))))
 (.region [mv 62 7,bi 63 .add 62 1,mv 7 63] [] [1,2,5,6,7]))))))
 (.seq (.region [mv 77 6,mv 4 77] [] [4])
 (.ret))))))
def M87 (F : Nat → Nat) : Fun := ⟨78,2,(K87 F).erase,[.tmp 4]⟩
theorem ok87 {F : Nat → Nat} : (K87 F).ok = true := rfl
abbrev K88 (F : Nat → Nat) : KC := .seq (.region [⟨some 2,.a (.box (.tmp 0)),none⟩,⟨some 4,.p (.mov (.val (.bool false))),none⟩] [2] [1,2])
 (.seq (.seq (.region [mv 6 1,lb 7 6,fa 8 0 2,l1 9 8,lb 10 9,bt 11 .neq 7 10] [] [1,2,11])
 (.cond (.tmp 11) (.seq (.region [⟨some 4,.p (.mov (.val (.bool false))),none⟩] [] [4])
 (.ret))
 (.skip)))
 (.seq (.seq (.region [mi 5 0] [] [1,2,5])
 (.block 0 (.loop (.seq (.seq (.region [mv 12 5,mv 13 1,lb 14 13,bt 15 .lss 12 14] [] [1,2,5,15])
 (.cond (.tmp 15) (.skip)
 (.exit 0)))
 (.seq (.block 1 (.seq (.dregion [⟨fa 18 0 2,0,10⟩,⟨l1 19 18,0,10⟩,⟨mv 20 5,0,10⟩,⟨ix 21 3 19 20,0,10⟩,⟨fa 22 1 21,0,10⟩,⟨l1 23 22,0,10⟩,⟨mv 24 1,0,10⟩,⟨mv 25 5,0,10⟩,⟨ix 26 4 24 25,0,10⟩,⟨ln 27 4 26,0,10⟩,⟨⟨some 28,.e (.call (F 91) [(.tmp 23),(.tmp 27)]),none⟩,0,28⟩,⟨⟨some 29,.p (.not (.tmp 28)),none⟩,11,28⟩,⟨mv 30 29,11,28⟩,⟨⟨some 31,.p (.mov (.tmp 1)),(some (30,false))⟩,11,28⟩,⟨⟨some 32,.p (.mov (.tmp 5)),(some (30,false))⟩,11,28⟩,⟨⟨some 33,.p (.iaddr 4 (.tmp 31) (.tmp 32)),(some (30,false))⟩,11,28⟩,⟨⟨some 34,.p (.faddr 0 (.tmp 33)),(some (30,false))⟩,11,28⟩,⟨⟨some 35,.load1 (.tmp 34),(some (30,false))⟩,11,28⟩,⟨⟨some 36,.p (.mov (.tmp 35)),(some (30,false))⟩,11,28⟩,⟨⟨some 37,.p (.faddr 0 (.tmp 2)),(some (36,true))⟩,11,28⟩,⟨⟨some 38,.load1 (.tmp 37),(some (36,true))⟩,11,28⟩,⟨⟨some 39,.p (.mov (.tmp 5)),(some (36,true))⟩,11,28⟩,⟨⟨some 40,.p (.iaddr 3 (.tmp 38) (.tmp 39)),(some (36,true))⟩,11,28⟩,⟨⟨some 41,.p (.faddr 2 (.tmp 40)),(some (36,true))⟩,11,28⟩,⟨⟨some 42,.load1 (.tmp 41),(some (36,true))⟩,11,28⟩,⟨⟨some 43,.p (.not (.tmp 42)),(some (36,true))⟩,11,28⟩,⟨⟨some 44,.p (.pick (.tmp 36) (.tmp 43) (.val (.bool false))),(some (30,false))⟩,11,28⟩,⟨⟨some 45,.p (.pick (.tmp 30) (.val (.bool true)) (.tmp 44)),none⟩,11,28⟩] [1,2,5,45])
 (.cond (.tmp 45) (.seq (.region [⟨some 4,.p (.mov (.val (.bool false))),none⟩] [] [4])
 (.ret))
 (.skip))))
 (.region [mv 16 5,bi 17 .add 16 1,mv 5 17] [] [1,2,5]))))))
 (.seq (.region [⟨some 4,.p (.mov (.val (.bool true))),none⟩] [] [4])
 (.ret))))
def M88 (F : Nat → Nat) : Fun := ⟨46,2,(K88 F).erase,[.tmp 4]⟩
abbrev K89 (_F : Nat → Nat) : KC := .seq (.region [⟨some 4,.p (.mov (.val (.bool false))),none⟩] [] [0,1])
 (.seq (.seq (.region [mv 5 0] [] [1,5])
 (.block 0 (.seq (.region [bi 7 .eql 5 1,mv 6 7] [] [1,5,6])
 (.cond (.tmp 6) (.seq (.region [mv 8 1,bi 9 .eql 8 0,mv 4 9] [] [4])
 (.ret))
 (.seq (.region [bi 11 .eql 5 2,mv 10 11] [] [1,5,10])
 (.cond (.tmp 10) (.seq (.region [mv 12 1,bi 13 .neq 12 0,mv 4 13] [] [4])
 (.ret))
 (.seq (.region [bi 15 .eql 5 3,mv 14 15] [] [1,5,14])
 (.cond (.tmp 14) (.seq (.region [mv 16 1,bi 17 .lss 16 0,mv 4 17] [] [4])
 (.ret))
 (.seq (.region [bi 19 .eql 5 4,mv 18 19] [] [1,5,18])
 (.cond (.tmp 18) (.seq (.region [mv 20 1,bi 21 .leq 20 0,mv 4 21] [] [4])
 (.ret))
 (.seq (.region [bi 23 .eql 5 5,mv 22 23] [] [1,22])
 (.cond (.tmp 22) (.seq (.region [mv 24 1,bi 25 .gtr 24 0,mv 4 25] [] [4])
 (.ret))
 (.skip)))))))))))))
 (.seq (.region [mv 26 1,bi 27 .geq 26 0,mv 4 27] [] [4])
 (.ret)))
def M89 (F : Nat → Nat) : Fun := ⟨28,2,(K89 F).erase,[.tmp 4]⟩
theorem ok89 {F : Nat → Nat} : (K89 F).ok = true := rfl
abbrev K90 (_F : Nat → Nat) : KC := .seq (.region [mi 2 0] [] [0])
 (.seq (.seq (.region [mv 3 0] [] [3])
 (.cond (.tmp 3) (.seq (.region [mi 2 1] [] [2])
 (.ret))
 (.skip)))
 (.seq (.region [mi 2 2] [] [2])
 (.ret)))
def M90 (F : Nat → Nat) : Fun := ⟨4,1,(K90 F).erase,[.tmp 2]⟩
theorem ok90 {F : Nat → Nat} : (K90 F).ok = true := rfl
abbrev K91 (_F : Nat → Nat) : KC := .seq (.region [⟨some 3,.a (.box (.tmp 1)),none⟩,⟨some 4,.p (.mov (.val (.bool false))),none⟩] [3] [0,3])
 (.seq (.seq (.region [fa 5 1 3,l1 6 5,mv 7 0,bt 8 .neq 6 7,mv 9 8,⟨some 10,.p (.faddr 1 (.tmp 3)),(some (9,false))⟩,⟨some 11,.load1 (.tmp 10),(some (9,false))⟩,⟨some 12,.p (.bin .neq (.tmp 11) (.val (.int .i64 (.ofNat 1)))),(some (9,false))⟩,⟨some 13,.p (.mov (.tmp 12)),(some (9,false))⟩,⟨some 14,.p (.faddr 1 (.tmp 3)),(some (13,true))⟩,⟨some 15,.load1 (.tmp 14),(some (13,true))⟩,⟨some 16,.p (.bin .neq (.tmp 15) (.val (.int .i64 (.ofNat 2)))),(some (13,true))⟩,⟨some 17,.p (.pick (.tmp 13) (.tmp 16) (.val (.bool false))),(some (9,false))⟩,⟨some 18,.p (.pick (.tmp 9) (.val (.bool true)) (.tmp 17)),none⟩] [] [3,18])
 (.cond (.tmp 18) (.seq (.region [⟨some 4,.p (.mov (.val (.bool false))),none⟩] [] [4])
 (.ret))
 (.skip)))
 (.seq (.seq (.region [fa 19 0 3,l1 20 19,mv 21 20,⟨some 22,.p (.faddr 1 (.tmp 3)),(some (21,false))⟩,⟨some 23,.load1 (.tmp 22),(some (21,false))⟩,⟨some 24,.p (.bin .eql (.tmp 23) (.val (.int .i64 (.ofNat 1)))),(some (21,false))⟩,⟨some 25,.p (.pick (.tmp 21) (.val (.bool true)) (.tmp 24)),none⟩] [] [3,25])
 (.cond (.tmp 25) (.seq (.region [fa 26 3 3,l1 27 26,lb 28 27,bi 29 .eql 28 0,mv 30 29,⟨some 31,.p (.faddr 0 (.tmp 3)),(some (30,true))⟩,⟨some 32,.load1 (.tmp 31),(some (30,true))⟩,⟨some 33,.p (.not (.tmp 32)),(some (30,true))⟩,⟨some 34,.p (.mov (.tmp 33)),(some (30,true))⟩,⟨some 35,.p (.faddr 2 (.tmp 3)),(some (34,false))⟩,⟨some 36,.load1 (.tmp 35),(some (34,false))⟩,⟨some 37,.p (.bin .eql (.tmp 36) (.val (.int .i64 (.ofNat 0)))),(some (34,false))⟩,⟨some 38,.p (.pick (.tmp 34) (.val (.bool true)) (.tmp 37)),(some (30,true))⟩,⟨some 39,.p (.pick (.tmp 30) (.tmp 38) (.val (.bool false))),none⟩,mv 4 39] [] [4])
 (.ret))
 (.skip)))
 (.seq (.region [fa 40 2 3,l1 41 40,bi 42 .eql 41 0,mv 43 42,⟨some 44,.p (.faddr 3 (.tmp 3)),(some (43,true))⟩,⟨some 45,.load1 (.tmp 44),(some (43,true))⟩,⟨some 46,.p (.lenb (.tmp 45)),(some (43,true))⟩,⟨some 47,.p (.bin .leq (.tmp 46) (.val (.int .i64 (.ofNat 64)))),(some (43,true))⟩,⟨some 48,.p (.pick (.tmp 43) (.tmp 47) (.val (.bool false))),none⟩,mv 4 48] [] [4])
 (.ret))))
def M91 (F : Nat → Nat) : Fun := ⟨49,2,(K91 F).erase,[.tmp 4]⟩
end Go.Lib
end
