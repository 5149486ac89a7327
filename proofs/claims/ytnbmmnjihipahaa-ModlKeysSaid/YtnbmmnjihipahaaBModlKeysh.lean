/-
  Texts that the claim's last one rests on, joined.
-/
import Derived.Test.YtnbmmnjihipahaaBModlKeysg
import Derived.Test.YtnbmmnjihipahaaBModlKeysf
import Derived.Test.YtnbmmnjihipahaaBModlKeysc

section
set_option maxRecDepth 10000
namespace Go.Lib
open Go.Vm Go.Dv Go.Srt
variable {p : Prog} {ext : Ext} {F : Nat → Nat} {α : Type}
theorem dvd_step {d c a : Nat} (h1 : d ∣ c) (h2 : d ∣ a) (h : c < a) : c + d ≤ a := by
  have := Nat.le_of_dvd (show 0 < a - c by omega) (Nat.dvd_sub h2 h1);omega
def Blk (cmp : α → α → Int) (Y : List α) (z lo n : Nat) : Prop := ∀ a, lo ≤ a → z ∣ a → Srt cmp Y a (min (a + z) n)
def Blb (cmp : α → α → Int) (Y : List α) (z hi : Nat) : Prop := ∀ a, a < hi → z ∣ a → Srt cmp Y a (a + z)
def StI1 (E : Enc α) (H : HpD) (bs c : Nat) (ex : Bool) (n : Nat) (cv : D) (cmp : α → α → Int) (X : List α) (k : Nat) (fr : FrD) (H' : HpD) : Prop :=
  ∃ (a : Nat) (Y : List α), k = n - a ∧ a ≤ n ∧ 20 ∣ a ∧ fr = [(0, sl bs n c ex), (1, iD n), (2, cv), (6, iD 20), (7, iD a), (8, iD (a + 20))] ∧ H' = hp E H bs Y ∧ Y.Perm X ∧ Blb cmp Y 20 a
def StI2 (E : Enc α) (H : HpD) (bs c : Nat) (ex : Bool) (n : Nat) (cv : D) (cmp : α → α → Int) (X : List α) (k : Nat) (fr : FrD) (H' : HpD) : Prop :=
  ∃ (z : Nat) (Y : List α), k = 2 * n + 40 - z ∧ 20 ≤ z ∧ z ≤ 2 * n + 20 ∧ fr = [(0, sl bs n c ex), (1, iD n), (2, cv), (6, iD z)] ∧ H' = hp E H bs Y ∧ Y.Perm X ∧ Blk cmp Y z 0 n
def StI3 (E : Enc α) (H : HpD) (bs c : Nat) (ex : Bool) (n : Nat) (cv : D) (cmp : α → α → Int) (X : List α) (z k : Nat) (fr : FrD) (H' : HpD) : Prop :=
  ∃ (a : Nat) (Y : List α), k = n - a ∧ a ≤ n ∧ 2 * z ∣ a ∧ fr = [(0, sl bs n c ex), (1, iD n), (2, cv), (6, iD z), (7, iD a), (8, iD (a + 2 * z))] ∧ H' = hp E H bs Y ∧ Y.Perm X ∧ Blb cmp Y (2 * z) a ∧ Blk cmp Y z a n
set_option maxHeartbeats 2000000 in
theorem stable (L : HSrt p ext F) {E : Enc α} {H : HpD} {bs c : Nat} {ex : Bool} {X : List α} {cv : D} {n : Nat} {G : α → Prop} {cmp : α → α → Int} (hc : Cmp p ext E G cv cmp) (hbs : bs < H.next) (hX : X.length = n) (hn : n < 1000000) (hG : ∀ x, x ∈ X → G x) : WcD p ext (F 27) [sl bs n c ex, iD n, cv] (hp E H bs X) (fun d H' => d = .tup [] ∧ ∃ X', H' = hp E H bs X' ∧ X'.Perm X ∧ Srt cmp X' 0 n) := by
  refine wc_of L.h27 (M := M27) rfl ok27 rfl (sem_run 9000 _ ?_);simp;refine sem_loop (StI1 E H bs c ex n cv cmp X) ?_ (k := n) ⟨0, X, by simp, by omega, ⟨0, rfl⟩, by simp, rfl, .refl _, fun a h => by omega⟩;rintro k fr H' ⟨a, Y, rfl, ha, hda, rfl, rfl, hp1, hb1⟩;refine sem_run 9000 _ ?_;simp;have hlY : Y.length = n := hp1.length_eq.trans hX;have hGY : ∀ x, x ∈ Y → G x := fun x h => hG x (hp1.mem_iff.1 h)
  by_cases c1 : a + 20 ≤ n
  · have c1' : (a : Int) + 20 ≤ n := by omega
    have w1 : wr .i64 ((a : Int) + 20 + 20) = ((a + 20 + 20 : Nat) : Int) := by rw [wr_of] <;> omega
    simp [c1'];have sp := insertion L (X := Y) (c := c) (ex := ex) hc hbs (by omega) hGY (a := a) (b := a + 20) (by omega) (by omega);rw [hlY] at sp;refine sem_call (by simpa [iD] using sp) ?_;rintro _ _ ⟨rfl, Z, rfl, hm, hz⟩;refine sem_run 9000 _ ?_;simp [w1];refine sem_ok ?_;refine ⟨n - (a + 20), by omega, a + 20, Z, rfl, c1, (Nat.dvd_add_right hda).2 ⟨1, rfl⟩, by simp, rfl, hm.perm.trans hp1, fun q h1 h2 => ?_⟩
    by_cases e : q < a
    · exact Srt.of_out (hb1 q e h2) hm (.inl (dvd_step h2 hda e))
    · by_cases e2 : q = a
      · subst e2; exact hz
      · have := dvd_step hda h2 (by omega); omega
  · have c1' : ¬ (a : Int) + 20 ≤ n := by omega
    simp [c1'];refine sem_exit (sem_run 9000 _ ?_);simp;have sp := insertion L (X := Y) (c := c) (ex := ex) hc hbs (by omega) hGY (a := a) (b := n) (by omega) (by omega);rw [hlY] at sp;refine sem_call sp ?_;rintro _ _ ⟨rfl, Z, rfl, hm, hz⟩;refine sem_run 9000 _ ?_;simp
    have hb2 : Blk cmp Z 20 0 n := fun q _ h2 => by
      by_cases e : q < a
      · exact (Srt.of_out (hb1 q e h2) hm (.inl (dvd_step h2 hda e))).mono (Nat.le_refl _) (by omega)
      · by_cases e2 : q = a
        · subst e2; exact hz.mono (Nat.le_refl _) (by omega)
        · intro p' q' x y k1 k2 k3
          have := dvd_step hda h2 (by omega); omega
    refine sem_loop (StI2 E H bs c ex n cv cmp X) ?_ (k := 2 * n + 40 - 20) ⟨20, Z, rfl, by omega, by omega, rfl, rfl, hm.perm.trans hp1, hb2⟩;rintro k fr H' ⟨z, Y, rfl, hz1, hz2, rfl, rfl, hp2, hb3⟩;refine sem_run 9000 _ ?_;simp
    by_cases c2 : z < n
    · have w2 : wr .i64 (2 * (z : Int)) = ((2 * z : Nat) : Int) := by rw [wr_of] <;> omega
      have w3 : wr .i64 ((z : Int) * 2) = ((2 * z : Nat) : Int) := by rw [wr_of] <;> omega
      simp [c2, w2, -Int.natCast_mul];refine sem_loop (StI3 E H bs c ex n cv cmp X z) ?_ (k := n) ⟨0, Y, by simp, by omega, ⟨0, by simp⟩, by simp, rfl, hp2, fun a h => by omega, hb3⟩;rintro k fr H' ⟨a, Y, rfl, ha, hda, rfl, rfl, hp1, hb1, hb2⟩;refine sem_run 9000 _ ?_;simp;have hlY : Y.length = n := hp1.length_eq.trans hX;have hGY : ∀ x, x ∈ Y → G x := fun x h => hG x (hp1.mem_iff.1 h);have hdz : z ∣ a := Nat.dvd_trans ⟨2, by omega⟩ hda
      have w4 : wr .i64 ((a : Int) + z) = ((a + z : Nat) : Int) := by rw [wr_of] <;> omega
      by_cases c3 : a + 2 * z ≤ n
      · have c3' : (a : Int) + 2 * (z : Int) ≤ n := by omega
        have w1 : wr .i64 ((a : Int) + 2 * (z : Int) + 2 * (z : Int)) = ((a + 2 * z + 2 * z : Nat) : Int) := by rw [wr_of] <;> omega
        have w1' : wr .i64 (((a + 2 * z : Nat) : Int) + ((2 * z : Nat) : Int)) = ((a + 2 * z + 2 * z : Nat) : Int) := by rw [wr_of] <;> omega
        have w5 : wr .i64 (2 * (z : Int)) = 2 * (z : Int) := by rw [wr_of] <;> omega
        simp [c3', w4];have sp := symMerge L (X := Y) (c := c) (ex := ex) hc hbs hn n (a := a) (m := a + z) (b := a + 2 * z) (by omega) hlY hGY (by omega) (by omega) c3 ((hb2 a (Nat.le_refl _) hdz).mono (Nat.le_refl _) (by omega)) ((hb2 (a + z) (by omega) ((Nat.dvd_add_right hdz).2 ⟨1, by omega⟩)).mono (Nat.le_refl _) (by omega));refine sem_call (by simpa [iD] using sp) ?_;rintro _ _ ⟨rfl, Z, rfl, hm, hz⟩;refine sem_run 9000 _ ?_;simp [w1, w5];refine sem_ok ?_;refine ⟨n - (a + 2 * z), by omega, a + 2 * z, Z, rfl, c3, (Nat.dvd_add_right hda).2 ⟨1, by omega⟩, by simp, rfl, hm.perm.trans hp1, fun q h1 h2 => ?_, fun q h1 h2 => ?_⟩
        · by_cases e : q < a
          · exact Srt.of_out (hb1 q e h2) hm (.inl (dvd_step h2 hda e))
          · by_cases e2 : q = a
            · subst e2; exact hz
            · have := dvd_step hda h2 (by omega); omega
        · exact Srt.of_out (hb2 q (by omega) h2) hm (.inr h1)
      · have c3' : ¬ (a : Int) + 2 * (z : Int) ≤ n := by omega
        simp [c3'];refine sem_exit (sem_run 9000 _ ?_);simp [w4]
        have fin : ∀ Z : List α, Mix Y Z a n → Srt cmp Z a n → Blk cmp Z (2 * z) 0 n := fun Z hm hz q _ h2 => by
          by_cases e : q < a
          · exact (Srt.of_out (hb1 q e h2) hm (.inl (dvd_step h2 hda e))).mono (Nat.le_refl _) (by omega)
          · by_cases e2 : q = a
            · subst e2; exact hz.mono (Nat.le_refl _) (by omega)
            · intro p' q' x y k1 k2 k3
              have := dvd_step hda h2 (by omega); omega
        by_cases c4 : a + z < n
        · have c4' : (a : Int) + (z : Int) < n := by omega
          simp [c4'];have sp := symMerge L (X := Y) (c := c) (ex := ex) hc hbs hn n (a := a) (m := a + z) (b := n) (by omega) hlY hGY (by omega) (by omega) (Nat.le_refl _) ((hb2 a (Nat.le_refl _) hdz).mono (Nat.le_refl _) (by omega)) ((hb2 (a + z) (by omega) ((Nat.dvd_add_right hdz).2 ⟨1, by omega⟩)).mono (Nat.le_refl _) (by omega));refine sem_call (by simpa [iD] using sp) ?_;rintro _ _ ⟨rfl, Z, rfl, hm, hz⟩;refine sem_run 9000 _ ?_;simp [w3];refine sem_ok ?_;exact ⟨2 * n + 40 - 2 * z, by omega, 2 * z, Z, rfl, by omega, by omega, by simp, rfl, hm.perm.trans hp1, fin Z hm hz⟩
        · have c4' : ¬ (a : Int) + (z : Int) < n := by omega
          simp [c4', w3];refine sem_ok ?_;exact ⟨2 * n + 40 - 2 * z, by omega, 2 * z, Y, rfl, by omega, by omega, by simp, rfl, hp1, fin Y .refl ((hb2 a (Nat.le_refl _) hdz).mono (Nat.le_refl _) (by omega))⟩
    · simp [c2]
      refine sem_exit (sem_run 9000 _ ?_);simp;refine sem_ok ?_;simp [M27];refine ⟨Y, rfl, hp2, ?_⟩;have := hb3 0 (Nat.le_refl _) ⟨0, by simp⟩
      rwa [Nat.min_eq_right (by omega)] at this
theorem sortStable (L : HSrt p ext F) {E : Enc α} {H : HpD} {bs c : Nat} {ex : Bool} {X : List α} {cv : D} {n : Nat} {G : α → Prop} {cmp : α → α → Int} (hc : Cmp p ext E G cv cmp) (hbs : bs < H.next) (hX : X.length = n) (hn : n < 1000000) (hG : ∀ x, x ∈ X → G x) : WcD p ext (F 26) [sl bs n c ex, cv] (hp E H bs X) (fun d H' => d = .tup [] ∧ ∃ X', H' = hp E H bs X' ∧ X'.Perm X ∧ Srt cmp X' 0 n) := by
  refine wc_of L.h26 (M := M26) rfl ok26 rfl (sem_run 9000 _ ?_);simp;refine sem_call (stable L hc hbs hX hn hG) ?_;rintro _ _ ⟨rfl, Z, rfl, h1, h2⟩;refine sem_run 9000 _ ?_;simp;refine sem_ok ?_;simp [M26];exact ⟨Z, rfl, h1, h2⟩
end Go.Lib
end

section
namespace Go.Lib
open Go.Vm Go.Dv
set_option maxRecDepth 100000
abbrev K1 (F : Nat → Nat) : KC := .seq (.region [⟨some 2,.a (.box (.tmp 0)),none⟩,⟨some 3,.a (.box (.tmp 1)),none⟩,⟨some 4,.p (.mov (.val (.int .i64 (.ofNat 0)))),none⟩] [2,3] [2,3])
 (.seq (.seq (.dregion [⟨⟨some 6,.loadn 4 (.tmp 2),none⟩,0,1⟩,⟨⟨some 7,.e (.call (F 8) [(.tmp 6)]),none⟩,0,3⟩,⟨⟨some 8,.loadn 4 (.tmp 3),none⟩,0,3⟩,⟨⟨some 9,.e (.call (F 8) [(.tmp 8)]),none⟩,2,4⟩,⟨⟨some 10,.e (.call (F 9) [(.tmp 7),(.tmp 9)]),none⟩,4,6⟩,⟨⟨some 5,.p (.mov (.tmp 10)),none⟩,5,6⟩] [2,3,5])
 (.seq (.region [⟨some 11,.p (.mov (.tmp 5)),none⟩,⟨some 12,.p (.bin .neq (.tmp 11) (.val (.int .i64 (.ofNat 0)))),none⟩,⟨some 13,.p (.mov (.tmp 12)),none⟩,⟨some 14,.p (.faddr 0 (.tmp 2)),(some (13,false))⟩,⟨some 15,.load1 (.tmp 14),(some (13,false))⟩,⟨some 16,.p (.pick (.tmp 13) (.val (.bool true)) (.tmp 15)),none⟩] [] [2,3,5,16])
 (.cond (.tmp 16) (.seq (.region [⟨some 17,.p (.mov (.tmp 5)),none⟩,⟨some 4,.p (.mov (.tmp 17)),none⟩] [] [4])
 (.ret))
 (.skip))))
 (.seq (.seq (.region [⟨some 18,.p (.faddr 1 (.tmp 2)),none⟩,⟨some 19,.load1 (.tmp 18),none⟩] [] [2,3,19])
 (.block 0 (.seq (.region [⟨some 21,.p (.bin .eql (.tmp 19) (.val (.int .i64 (.ofNat 1)))),none⟩,⟨some 20,.p (.mov (.tmp 21)),none⟩] [] [2,3,19,20])
 (.cond (.tmp 20) (.seq (.region [⟨some 22,.p (.faddr 2 (.tmp 2)),none⟩,⟨some 23,.load1 (.tmp 22),none⟩,⟨some 24,.p (.faddr 2 (.tmp 3)),none⟩,⟨some 25,.load1 (.tmp 24),none⟩,⟨some 26,.e (.call (F 10) [(.tmp 23),(.tmp 25)]),none⟩,⟨some 4,.p (.mov (.tmp 26)),none⟩] [] [4])
 (.ret))
 (.seq (.region [⟨some 28,.p (.bin .eql (.tmp 19) (.val (.int .i64 (.ofNat 2)))),none⟩,⟨some 27,.p (.mov (.tmp 28)),none⟩] [] [2,3,27])
 (.cond (.tmp 27) (.seq (.region [⟨some 29,.p (.faddr 3 (.tmp 2)),none⟩,⟨some 30,.load1 (.tmp 29),none⟩,⟨some 31,.p (.faddr 3 (.tmp 3)),none⟩,⟨some 32,.load1 (.tmp 31),none⟩,⟨some 33,.e (.call (F 11) [(.tmp 30),(.tmp 32)]),none⟩,⟨some 4,.p (.mov (.tmp 33)),none⟩] [] [4])
 (.ret))
 (.skip)))))))
 (.seq (.region [⟨some 4,.p (.mov (.val (.int .i64 (.ofNat 0)))),none⟩] [] [4])
 (.ret))))
def M1 (F : Nat → Nat) : Fun := ⟨34,2,(K1 F).erase,[.tmp 4]⟩
theorem ok1 {F : Nat → Nat} : (K1 F).ok = true := rfl
abbrev K2 (F : Nat → Nat) : KC := .seq (.region [⟨some 4,.p (.mov (.val (.int .i64 (.ofNat 0)))),none⟩] [] [0,1])
 (.seq (.region [⟨some 5,.p (.mov (.tmp 0)),none⟩,⟨some 6,.p (.mov (.tmp 1)),none⟩,⟨some 7,.e (.call (F 12) [(.tmp 5),(.tmp 6),(.val (.func (F 1) [] []))]),none⟩,⟨some 4,.p (.mov (.tmp 7)),none⟩] [] [4])
 (.ret))
def M2 (F : Nat → Nat) : Fun := ⟨8,2,(K2 F).erase,[.tmp 4]⟩
theorem ok2 {F : Nat → Nat} : (K2 F).ok = true := rfl
abbrev K3 (F : Nat → Nat) : KC := .seq (.region [⟨some 4,.a (.new [.bool false,.int .i64 (.ofNat 0),.int .i64 (.ofNat 0),.nilslice]),none⟩] [] [0,1,4])
 (.seq (.seq (.region [⟨some 5,.p (.mov (.tmp 1)),none⟩,⟨some 6,.p (.bin .lss (.tmp 5) (.val (.int .i64 (.ofNat 0)))),none⟩,⟨some 7,.p (.mov (.tmp 6)),none⟩,⟨some 8,.p (.mov (.tmp 1)),(some (7,false))⟩,⟨some 9,.p (.mov (.tmp 0)),(some (7,false))⟩,⟨some 10,.p (.lenb (.tmp 9)),(some (7,false))⟩,⟨some 11,.p (.bin .geq (.tmp 8) (.tmp 10)),(some (7,false))⟩,⟨some 12,.p (.pick (.tmp 7) (.val (.bool true)) (.tmp 11)),none⟩] [] [0,1,4,12])
 (.cond (.tmp 12) (.seq (.region [⟨some 13,.p (.build [.bool false,.int .i64 (.ofNat 0),.int .i64 (.ofNat 0),.nilslice] []),none⟩,⟨none,.e (.store 4 (.tmp 4) (.tmp 13)),none⟩] [] [4])
 (.ret))
 (.skip)))
 (.seq (.region [⟨some 14,.p (.mov (.tmp 0)),none⟩,⟨some 15,.p (.mov (.tmp 1)),none⟩,⟨some 16,.p (.iaddr 4 (.tmp 14) (.tmp 15)),none⟩,⟨some 17,.loadn 4 (.tmp 16),none⟩,⟨some 18,.e (.call (F 5) [(.tmp 17)]),none⟩,⟨none,.e (.store 4 (.tmp 4) (.tmp 18)),none⟩] [] [4])
 (.ret)))
def M3 (F : Nat → Nat) : Fun := ⟨19,2,(K3 F).erase,[.celln 4 4]⟩
theorem ok3 {F : Nat → Nat} : (K3 F).ok = true := rfl
abbrev K4 (F : Nat → Nat) : KC := .seq (.region [⟨some 2,.p (.mov (.val (.nilslice))),none⟩] [] [0])
 (.seq (.region [⟨some 3,.p (.mov (.val (.nilslice))),none⟩] [] [0,3])
 (.seq (.seq (.region [⟨some 6,.p (.mov (.tmp 0)),none⟩,⟨some 7,.p (.lenb (.tmp 6)),none⟩,⟨some 8,.p (.mov (.val (.int .i64 (.ofNat 0)))),none⟩] [] [3,6,7,8])
 (.block 0 (.loop (.seq (.region [⟨some 9,.p (.bin .lss (.tmp 8) (.tmp 7)),none⟩] [] [3,6,7,8,9])
 (.seq (.cond (.tmp 9) (.skip)
 (.exit 0))
 (.seq (.block 1 (.seq (.region [⟨some 10,.p (.iaddr 4 (.tmp 6) (.tmp 8)),none⟩,⟨some 11,.loadn 4 (.tmp 10),none⟩,⟨some 5,.a (.new [.bool false,.int .i64 (.ofNat 0),.int .i64 (.ofNat 0),.nilslice]),none⟩,⟨none,.e (.store 4 (.tmp 5) (.tmp 11)),none⟩] [] [3,5,6,7,8])
 (.region [⟨some 12,.p (.mov (.tmp 3)),none⟩,⟨some 13,.loadn 4 (.tmp 5),none⟩,⟨some 14,.e (.call (F 5) [(.tmp 13)]),none⟩,⟨some 15,.a (.bslice [.bool false,.int .i64 (.ofNat 0),.int .i64 (.ofNat 0),.nilslice] 4 1 [(0,4,(.tmp 14))]),none⟩,⟨some 16,.e (.append 4 48 (.tmp 12) (.tmp 15)),none⟩,⟨some 3,.p (.mov (.tmp 16)),none⟩] [15] [3,6,7,8])))
 (.region [⟨some 17,.p (.bin .add (.tmp 8) (.val (.int .i64 (.ofNat 1)))),none⟩,⟨some 8,.p (.mov (.tmp 17)),none⟩] [] [3,6,7,8])))))))
 (.seq (.region [⟨some 18,.p (.mov (.tmp 3)),none⟩,⟨some 19,.e (.call (F 13) [(.tmp 18)]),none⟩,⟨some 2,.p (.mov (.tmp 19)),none⟩] [] [2])
 (.ret))))
def M4 (F : Nat → Nat) : Fun := ⟨20,1,(K4 F).erase,[.tmp 2]⟩
theorem ok4 {F : Nat → Nat} : (K4 F).ok = true := rfl
abbrev K5 (F : Nat → Nat) : KC := .seq (.region [⟨some 1,.a (.box (.tmp 0)),none⟩,⟨some 2,.a (.new [.bool false,.int .i64 (.ofNat 0),.int .i64 (.ofNat 0),.nilslice]),none⟩] [] [1,2])
 (.seq (.region [⟨some 3,.p (.faddr 3 (.tmp 1)),none⟩,⟨some 4,.load1 (.tmp 3),none⟩,⟨some 5,.e (.call (F 14) [(.tmp 4)]),none⟩,⟨some 6,.p (.faddr 3 (.tmp 1)),none⟩,⟨none,.e (.store 1 (.tmp 6) (.tmp 5)),none⟩] [] [1,2])
 (.seq (.region [⟨some 7,.loadn 4 (.tmp 1),none⟩,⟨none,.e (.store 4 (.tmp 2) (.tmp 7)),none⟩] [] [2])
 (.ret)))
def M5 (F : Nat → Nat) : Fun := ⟨8,1,(K5 F).erase,[.celln 4 2]⟩
theorem ok5 {F : Nat → Nat} : (K5 F).ok = true := rfl
abbrev K6 (F : Nat → Nat) : KC := .seq (.region [⟨some 2,.a (.box (.tmp 0)),none⟩,⟨some 3,.a (.box (.tmp 1)),none⟩,⟨some 4,.p (.mov (.val (.bool false))),none⟩] [2,3] [2,3])
 (.seq (.region [⟨some 5,.p (.faddr 0 (.tmp 2)),none⟩,⟨some 6,.load1 (.tmp 5),none⟩,⟨some 7,.p (.faddr 0 (.tmp 3)),none⟩,⟨some 8,.load1 (.tmp 7),none⟩,⟨some 9,.p (.eq .bool false (.tmp 6) (.tmp 8)),none⟩,⟨some 10,.p (.mov (.tmp 9)),none⟩,⟨some 11,.p (.faddr 1 (.tmp 2)),(some (10,true))⟩,⟨some 12,.load1 (.tmp 11),(some (10,true))⟩,⟨some 13,.p (.faddr 1 (.tmp 3)),(some (10,true))⟩,⟨some 14,.load1 (.tmp 13),(some (10,true))⟩,⟨some 15,.p (.bin .eql (.tmp 12) (.tmp 14)),(some (10,true))⟩,⟨some 16,.p (.pick (.tmp 10) (.tmp 15) (.val (.bool false))),none⟩,⟨some 17,.p (.mov (.tmp 16)),none⟩,⟨some 18,.p (.faddr 2 (.tmp 2)),(some (17,true))⟩,⟨some 19,.load1 (.tmp 18),(some (17,true))⟩,⟨some 20,.p (.faddr 2 (.tmp 3)),(some (17,true))⟩,⟨some 21,.load1 (.tmp 20),(some (17,true))⟩,⟨some 22,.p (.bin .eql (.tmp 19) (.tmp 21)),(some (17,true))⟩,⟨some 23,.p (.pick (.tmp 17) (.tmp 22) (.val (.bool false))),none⟩,⟨some 24,.p (.mov (.tmp 23)),none⟩,⟨some 25,.p (.faddr 3 (.tmp 2)),(some (24,true))⟩,⟨some 26,.load1 (.tmp 25),(some (24,true))⟩,⟨some 27,.p (.faddr 3 (.tmp 3)),(some (24,true))⟩,⟨some 28,.load1 (.tmp 27),(some (24,true))⟩,⟨some 29,.e (.call (F 15) [(.tmp 26),(.tmp 28)]),(some (24,true))⟩,⟨some 30,.p (.pick (.tmp 24) (.tmp 29) (.val (.bool false))),none⟩,⟨some 4,.p (.mov (.tmp 30)),none⟩] [] [4])
 (.ret))
def M6 (F : Nat → Nat) : Fun := ⟨31,2,(K6 F).erase,[.tmp 4]⟩
abbrev K7 (F : Nat → Nat) : KC := .seq (.region [⟨some 4,.p (.mov (.val (.bool false))),none⟩] [] [0,1])
 (.seq (.region [⟨some 5,.p (.mov (.tmp 0)),none⟩,⟨some 6,.p (.mov (.tmp 1)),none⟩,⟨some 7,.e (.call (F 16) [(.tmp 5),(.tmp 6),(.val (.func (F 17) [] []))]),none⟩,⟨some 4,.p (.mov (.tmp 7)),none⟩] [] [4])
 (.ret))
def M7 (F : Nat → Nat) : Fun := ⟨8,2,(K7 F).erase,[.tmp 4]⟩
abbrev K8 (_F : Nat → Nat) : KC := .seq (.region [⟨some 1,.a (.box (.tmp 0)),none⟩,⟨some 2,.p (.mov (.val (.int .i64 (.ofNat 0)))),none⟩] [1] [1])
 (.seq (.seq (.region [⟨some 3,.p (.faddr 0 (.tmp 1)),none⟩,⟨some 4,.load1 (.tmp 3),none⟩] [] [4])
 (.cond (.tmp 4) (.seq (.region [⟨some 2,.p (.mov (.val (.int .i64 (.ofNat 0)))),none⟩] [] [2])
 (.ret))
 (.skip)))
 (.seq (.region [⟨some 2,.p (.mov (.val (.int .i64 (.ofNat 1)))),none⟩] [] [2])
 (.ret)))
def M8 (F : Nat → Nat) : Fun := ⟨5,1,(K8 F).erase,[.tmp 2]⟩
theorem ok8 {F : Nat → Nat} : (K8 F).ok = true := rfl
abbrev K9 (F : Nat → Nat) : KC := .seq (.region [⟨some 4,.p (.mov (.val (.int .i64 (.ofNat 0)))),none⟩] [] [0,1])
 (.seq (.region [⟨some 7,.p (.mov (.tmp 0)),none⟩,⟨some 8,.e (.call (F 18) [(.tmp 7)]),none⟩,⟨some 5,.p (.mov (.tmp 8)),none⟩] [] [0,1,5])
 (.seq (.region [⟨some 9,.p (.mov (.tmp 1)),none⟩,⟨some 10,.e (.call (F 18) [(.tmp 9)]),none⟩,⟨some 6,.p (.mov (.tmp 10)),none⟩] [] [0,1,5,6])
 (.seq (.seq (.region [⟨some 11,.p (.mov (.tmp 5)),none⟩] [] [0,1,6,11])
 (.cond (.tmp 11) (.seq (.seq (.region [⟨some 12,.p (.mov (.tmp 6)),none⟩] [] [12])
 (.cond (.tmp 12) (.seq (.region [⟨some 4,.p (.mov (.val (.int .i64 (.ofNat 0)))),none⟩] [] [4])
 (.ret))
 (.skip)))
 (.seq (.region [⟨some 4,.p (.mov (.val (.int .i64 (.negSucc 0)))),none⟩] [] [4])
 (.ret)))
 (.skip)))
 (.seq (.seq (.region [⟨some 13,.p (.mov (.tmp 6)),none⟩] [] [0,1,13])
 (.cond (.tmp 13) (.seq (.region [⟨some 4,.p (.mov (.val (.int .i64 (.ofNat 1)))),none⟩] [] [4])
 (.ret))
 (.skip)))
 (.seq (.seq (.region [⟨some 14,.p (.mov (.tmp 0)),none⟩,⟨some 15,.p (.mov (.tmp 1)),none⟩,⟨some 16,.p (.bin .lss (.tmp 14) (.tmp 15)),none⟩] [] [0,1,16])
 (.cond (.tmp 16) (.seq (.region [⟨some 4,.p (.mov (.val (.int .i64 (.negSucc 0)))),none⟩] [] [4])
 (.ret))
 (.skip)))
 (.seq (.seq (.region [⟨some 17,.p (.mov (.tmp 0)),none⟩,⟨some 18,.p (.mov (.tmp 1)),none⟩,⟨some 19,.p (.bin .gtr (.tmp 17) (.tmp 18)),none⟩] [] [19])
 (.cond (.tmp 19) (.seq (.region [⟨some 4,.p (.mov (.val (.int .i64 (.ofNat 1)))),none⟩] [] [4])
 (.ret))
 (.skip)))
 (.seq (.region [⟨some 4,.p (.mov (.val (.int .i64 (.ofNat 0)))),none⟩] [] [4])
 (.ret))))))))
def M9 (F : Nat → Nat) : Fun := ⟨20,2,(K9 F).erase,[.tmp 4]⟩
theorem ok9 {F : Nat → Nat} : (K9 F).ok = true := rfl
abbrev K10 (F : Nat → Nat) : KC := .seq (.region [⟨some 4,.p (.mov (.val (.int .i64 (.ofNat 0)))),none⟩] [] [0,1])
 (.seq (.region [⟨some 7,.p (.mov (.tmp 0)),none⟩,⟨some 8,.e (.call (F 19) [(.tmp 7)]),none⟩,⟨some 5,.p (.mov (.tmp 8)),none⟩] [] [0,1,5])
 (.seq (.region [⟨some 9,.p (.mov (.tmp 1)),none⟩,⟨some 10,.e (.call (F 19) [(.tmp 9)]),none⟩,⟨some 6,.p (.mov (.tmp 10)),none⟩] [] [0,1,5,6])
 (.seq (.seq (.region [⟨some 11,.p (.mov (.tmp 5)),none⟩] [] [0,1,6,11])
 (.cond (.tmp 11) (.seq (.seq (.region [⟨some 12,.p (.mov (.tmp 6)),none⟩] [] [12])
 (.cond (.tmp 12) (.seq (.region [⟨some 4,.p (.mov (.val (.int .i64 (.ofNat 0)))),none⟩] [] [4])
 (.ret))
 (.skip)))
 (.seq (.region [⟨some 4,.p (.mov (.val (.int .i64 (.negSucc 0)))),none⟩] [] [4])
 (.ret)))
 (.skip)))
 (.seq (.seq (.region [⟨some 13,.p (.mov (.tmp 6)),none⟩] [] [0,1,13])
 (.cond (.tmp 13) (.seq (.region [⟨some 4,.p (.mov (.val (.int .i64 (.ofNat 1)))),none⟩] [] [4])
 (.ret))
 (.skip)))
 (.seq (.seq (.region [⟨some 14,.p (.mov (.tmp 0)),none⟩,⟨some 15,.p (.mov (.tmp 1)),none⟩,⟨some 16,.p (.bin .lss (.tmp 14) (.tmp 15)),none⟩] [] [0,1,16])
 (.cond (.tmp 16) (.seq (.region [⟨some 4,.p (.mov (.val (.int .i64 (.negSucc 0)))),none⟩] [] [4])
 (.ret))
 (.skip)))
 (.seq (.seq (.region [⟨some 17,.p (.mov (.tmp 0)),none⟩,⟨some 18,.p (.mov (.tmp 1)),none⟩,⟨some 19,.p (.bin .gtr (.tmp 17) (.tmp 18)),none⟩] [] [19])
 (.cond (.tmp 19) (.seq (.region [⟨some 4,.p (.mov (.val (.int .i64 (.ofNat 1)))),none⟩] [] [4])
 (.ret))
 (.skip)))
 (.seq (.region [⟨some 4,.p (.mov (.val (.int .i64 (.ofNat 0)))),none⟩] [] [4])
 (.ret))))))))
def M10 (F : Nat → Nat) : Fun := ⟨20,2,(K10 F).erase,[.tmp 4]⟩
theorem ok10 {F : Nat → Nat} : (K10 F).ok = true := rfl
abbrev K11 (F : Nat → Nat) : KC := .seq (.region [⟨some 4,.p (.mov (.val (.int .i64 (.ofNat 0)))),none⟩] [] [0,1])
 (.seq (.region [⟨some 5,.p (.mov (.tmp 0)),none⟩,⟨some 6,.p (.mov (.tmp 1)),none⟩,⟨some 7,.e (.extern (F 20) [(.tmp 5),(.tmp 6)]),none⟩,⟨some 4,.p (.mov (.tmp 7)),none⟩] [] [4])
 (.ret))
def M11 (F : Nat → Nat) : Fun := ⟨8,2,(K11 F).erase,[.tmp 4]⟩
theorem ok11 {F : Nat → Nat} : (K11 F).ok = true := rfl
abbrev K12 (_F : Nat → Nat) : KC := .seq (.region [⟨some 6,.p (.mov (.val (.int .i64 (.ofNat 0)))),none⟩] [] [0,1,2])
 (.seq (.seq (.region [⟨some 11,.p (.mov (.tmp 0)),none⟩,⟨some 12,.p (.lenb (.tmp 11)),none⟩,⟨some 13,.p (.mov (.val (.int .i64 (.ofNat 0)))),none⟩] [] [0,1,2,11,12,13])
 (.block 0 (.loop (.seq (.region [⟨some 14,.p (.bin .lss (.tmp 13) (.tmp 12)),none⟩] [] [0,1,2,11,12,13,14])
 (.seq (.cond (.tmp 14) (.skip)
 (.exit 0))
 (.seq (.block 1 (.seq (.region [⟨some 15,.p (.mov (.tmp 13)),none⟩,⟨some 16,.p (.iaddr 4 (.tmp 11) (.tmp 13)),none⟩,⟨some 17,.loadn 4 (.tmp 16),none⟩,⟨some 8,.a (.new [.bool false,.int .i64 (.ofNat 0),.int .i64 (.ofNat 0),.nilslice]),none⟩,⟨some 7,.p (.mov (.tmp 15)),none⟩,⟨none,.e (.store 4 (.tmp 8) (.tmp 17)),none⟩] [] [0,1,2,7,8,11,12,13])
 (.seq (.seq (.region [⟨some 18,.p (.mov (.tmp 7)),none⟩,⟨some 19,.p (.mov (.tmp 1)),none⟩,⟨some 20,.p (.lenb (.tmp 19)),none⟩,⟨some 21,.p (.bin .geq (.tmp 18) (.tmp 20)),none⟩] [] [0,1,2,7,8,11,12,13,21])
 (.cond (.tmp 21) (.seq (.region [⟨some 6,.p (.mov (.val (.int .i64 (.ofNat 1)))),none⟩] [] [6])
 (.ret))
 (.skip)))
 (.seq (.region [⟨some 22,.p (.mov (.tmp 1)),none⟩,⟨some 23,.p (.mov (.tmp 7)),none⟩,⟨some 24,.p (.iaddr 4 (.tmp 22) (.tmp 23)),none⟩,⟨some 25,.loadn 4 (.tmp 24),none⟩,⟨some 9,.a (.new [.bool false,.int .i64 (.ofNat 0),.int .i64 (.ofNat 0),.nilslice]),none⟩,⟨none,.e (.store 4 (.tmp 9) (.tmp 25)),none⟩] [] [0,1,2,8,9,11,12,13])
 (.seq (.region [⟨some 26,.p (.mov (.tmp 2)),none⟩,⟨some 27,.loadn 4 (.tmp 8),none⟩,⟨some 28,.loadn 4 (.tmp 9),none⟩,⟨some 29,.e (.callv (.tmp 26) [(.tmp 27),(.tmp 28)]),none⟩,⟨some 10,.p (.mov (.tmp 29)),none⟩] [] [0,1,2,10,11,12,13])
 (.seq (.region [⟨some 30,.p (.mov (.tmp 10)),none⟩,⟨some 31,.p (.bin .neq (.tmp 30) (.val (.int .i64 (.ofNat 0)))),none⟩] [] [0,1,2,10,11,12,13,31])
 (.cond (.tmp 31) (.seq (.region [⟨some 32,.p (.mov (.tmp 10)),none⟩,⟨some 6,.p (.mov (.tmp 32)),none⟩] [] [6])
 (.ret))
 (.skip))))))))
 (.region [⟨some 33,.p (.bin .add (.tmp 13) (.val (.int .i64 (.ofNat 1)))),none⟩,⟨some 13,.p (.mov (.tmp 33)),none⟩] [] [0,1,2,11,12,13])))))))
 (.seq (.seq (.region [⟨some 34,.p (.mov (.tmp 0)),none⟩,⟨some 35,.p (.lenb (.tmp 34)),none⟩,⟨some 36,.p (.mov (.tmp 1)),none⟩,⟨some 37,.p (.lenb (.tmp 36)),none⟩,⟨some 38,.p (.bin .lss (.tmp 35) (.tmp 37)),none⟩] [] [38])
 (.cond (.tmp 38) (.seq (.region [⟨some 6,.p (.mov (.val (.int .i64 (.negSucc 0)))),none⟩] [] [6])
 (.ret))
 (.skip)))
 (.seq (.region [⟨some 6,.p (.mov (.val (.int .i64 (.ofNat 0)))),none⟩] [] [6])
 (.ret))))
def M12 (F : Nat → Nat) : Fun := ⟨39,3,(K12 F).erase,[.tmp 6]⟩
theorem ok12 {F : Nat → Nat} : (K12 F).ok = true := rfl
abbrev K13 (_F : Nat → Nat) : KC := .seq (.region [⟨some 2,.p (.mov (.val (.nilslice))),none⟩] [] [0])
 (.seq (.region [⟨some 3,.p (.mov (.tmp 0)),none⟩,⟨some 4,.p (.mov (.tmp 0)),none⟩,⟨some 5,.p (.lenb (.tmp 4)),none⟩,⟨some 6,.p (.mov (.tmp 0)),none⟩,⟨some 7,.p (.lenb (.tmp 6)),none⟩,⟨some 8,.p (.slc 4 (.tmp 3) none (some (.tmp 5)) (some (.tmp 7))),none⟩,⟨some 2,.p (.mov (.tmp 8)),none⟩] [] [2])
 (.ret))
def M13 (F : Nat → Nat) : Fun := ⟨9,1,(K13 F).erase,[.tmp 2]⟩
theorem ok13 {F : Nat → Nat} : (K13 F).ok = true := rfl
abbrev K14 (_F : Nat → Nat) : KC := .seq (.region [⟨some 2,.p (.mov (.val (.nilslice))),none⟩] [] [0])
 (.seq (.seq (.region [⟨some 3,.p (.mov (.tmp 0)),none⟩,⟨some 4,.p (.eq .slice false (.tmp 3) (.val (.nilslice))),none⟩] [] [0,4])
 (.cond (.tmp 4) (.seq (.region [⟨some 2,.p (.mov (.val (.nilslice))),none⟩] [] [2])
 (.ret))
 (.skip)))
 (.seq (.region [⟨some 5,.a (.bslice [] 1 0 []),none⟩,⟨some 6,.p (.mov (.tmp 0)),none⟩,⟨some 7,.e (.append 1 1 (.tmp 5) (.tmp 6)),none⟩,⟨some 2,.p (.mov (.tmp 7)),none⟩] [] [2])
 (.ret)))
def M14 (F : Nat → Nat) : Fun := ⟨8,1,(K14 F).erase,[.tmp 2]⟩
theorem ok14 {F : Nat → Nat} : (K14 F).ok = true := rfl
abbrev K15 (_F : Nat → Nat) : KC := .seq (.region [⟨some 4,.p (.mov (.val (.bool false))),none⟩] [] [0,1])
 (.seq (.region [⟨some 5,.p (.mov (.tmp 0)),none⟩,⟨some 6,.e (.text (.tmp 5)),none⟩,⟨some 7,.p (.mov (.tmp 1)),none⟩,⟨some 8,.e (.text (.tmp 7)),none⟩,⟨some 9,.p (.bin .eql (.tmp 6) (.tmp 8)),none⟩,⟨some 4,.p (.mov (.tmp 9)),none⟩] [] [4])
 (.ret))
def M15 (F : Nat → Nat) : Fun := ⟨10,2,(K15 F).erase,[.tmp 4]⟩
abbrev K16 (_F : Nat → Nat) : KC := .seq (.region [⟨some 6,.p (.mov (.val (.bool false))),none⟩] [] [0,1,2])
 (.seq (.seq (.region [⟨some 10,.p (.mov (.tmp 0)),none⟩,⟨some 11,.p (.lenb (.tmp 10)),none⟩,⟨some 12,.p (.mov (.tmp 1)),none⟩,⟨some 13,.p (.lenb (.tmp 12)),none⟩,⟨some 14,.p (.bin .neq (.tmp 11) (.tmp 13)),none⟩] [] [0,1,2,14])
 (.cond (.tmp 14) (.seq (.region [⟨some 6,.p (.mov (.val (.bool false))),none⟩] [] [6])
 (.ret))
 (.skip)))
 (.seq (.seq (.region [⟨some 15,.p (.mov (.tmp 0)),none⟩,⟨some 16,.p (.lenb (.tmp 15)),none⟩,⟨some 17,.p (.mov (.val (.int .i64 (.ofNat 0)))),none⟩] [] [1,2,15,16,17])
 (.block 0 (.loop (.seq (.region [⟨some 18,.p (.bin .lss (.tmp 17) (.tmp 16)),none⟩] [] [1,2,15,16,17,18])
 (.seq (.cond (.tmp 18) (.skip)
 (.exit 0))
 (.seq (.block 1 (.seq (.region [⟨some 19,.p (.mov (.tmp 17)),none⟩,⟨some 20,.p (.iaddr 1 (.tmp 15) (.tmp 17)),none⟩,⟨some 21,.load1 (.tmp 20),none⟩,⟨some 7,.p (.mov (.tmp 19)),none⟩,⟨some 8,.p (.mov (.tmp 21)),none⟩] [] [1,2,7,8,15,16,17])
 (.seq (.region [⟨some 22,.p (.mov (.tmp 1)),none⟩,⟨some 23,.p (.mov (.tmp 7)),none⟩,⟨some 24,.p (.iaddr 1 (.tmp 22) (.tmp 23)),none⟩,⟨some 25,.load1 (.tmp 24),none⟩,⟨some 9,.p (.mov (.tmp 25)),none⟩] [] [1,2,8,9,15,16,17])
 (.seq (.region [⟨some 26,.p (.mov (.tmp 2)),none⟩,⟨some 27,.p (.mov (.tmp 8)),none⟩,⟨some 28,.p (.mov (.tmp 9)),none⟩,⟨some 29,.e (.callv (.tmp 26) [(.tmp 27),(.tmp 28)]),none⟩,⟨some 30,.p (.not (.tmp 29)),none⟩] [] [1,2,15,16,17,30])
 (.cond (.tmp 30) (.seq (.region [⟨some 6,.p (.mov (.val (.bool false))),none⟩] [] [6])
 (.ret))
 (.skip))))))
 (.region [⟨some 31,.p (.bin .add (.tmp 17) (.val (.int .i64 (.ofNat 1)))),none⟩,⟨some 17,.p (.mov (.tmp 31)),none⟩] [] [1,2,15,16,17])))))))
 (.seq (.region [⟨some 6,.p (.mov (.val (.bool true))),none⟩] [] [6])
 (.ret))))
def M16 (F : Nat → Nat) : Fun := ⟨32,3,(K16 F).erase,[.tmp 6]⟩
abbrev K17 (F : Nat → Nat) : KC := .seq (.region [⟨some 4,.p (.mov (.val (.bool false))),none⟩] [] [0,1])
 (.seq (.region [⟨some 5,.p (.mov (.tmp 0)),none⟩,⟨some 6,.p (.mov (.tmp 1)),none⟩,⟨some 7,.e (.call (F 21) [(.tmp 5),(.tmp 6),(.val (.func (F 6) [] []))]),none⟩,⟨some 4,.p (.mov (.tmp 7)),none⟩] [] [4])
 (.ret))
def M17 (F : Nat → Nat) : Fun := ⟨8,2,(K17 F).erase,[.tmp 4]⟩
abbrev K18 (_F : Nat → Nat) : KC := .seq (.region [⟨some 2,.p (.mov (.val (.bool false))),none⟩] [] [0])
 (.seq (.region [⟨some 3,.p (.mov (.tmp 0)),none⟩,⟨some 4,.p (.mov (.tmp 0)),none⟩,⟨some 5,.p (.bin .neq (.tmp 3) (.tmp 4)),none⟩,⟨some 2,.p (.mov (.tmp 5)),none⟩] [] [2])
 (.ret))
def M18 (F : Nat → Nat) : Fun := ⟨6,1,(K18 F).erase,[.tmp 2]⟩
theorem ok18 {F : Nat → Nat} : (K18 F).ok = true := rfl
abbrev K19 (_F : Nat → Nat) : KC := .seq (.region [⟨some 2,.p (.mov (.val (.bool false))),none⟩] [] [0])
 (.seq (.region [⟨some 3,.p (.mov (.tmp 0)),none⟩,⟨some 4,.p (.mov (.tmp 0)),none⟩,⟨some 5,.p (.bin .neq (.tmp 3) (.tmp 4)),none⟩,⟨some 2,.p (.mov (.tmp 5)),none⟩] [] [2])
 (.ret))
def M19 (F : Nat → Nat) : Fun := ⟨6,1,(K19 F).erase,[.tmp 2]⟩
theorem ok19 {F : Nat → Nat} : (K19 F).ok = true := rfl
abbrev K21 (_F : Nat → Nat) : KC := .seq (.region [⟨some 6,.p (.mov (.val (.bool false))),none⟩] [] [0,1,2])
 (.seq (.seq (.region [⟨some 10,.p (.mov (.tmp 0)),none⟩,⟨some 11,.p (.lenb (.tmp 10)),none⟩,⟨some 12,.p (.mov (.tmp 1)),none⟩,⟨some 13,.p (.lenb (.tmp 12)),none⟩,⟨some 14,.p (.bin .neq (.tmp 11) (.tmp 13)),none⟩] [] [0,1,2,14])
 (.cond (.tmp 14) (.seq (.region [⟨some 6,.p (.mov (.val (.bool false))),none⟩] [] [6])
 (.ret))
 (.skip)))
 (.seq (.seq (.region [⟨some 15,.p (.mov (.tmp 0)),none⟩,⟨some 16,.p (.lenb (.tmp 15)),none⟩,⟨some 17,.p (.mov (.val (.int .i64 (.ofNat 0)))),none⟩] [] [1,2,15,16,17])
 (.block 0 (.loop (.seq (.region [⟨some 18,.p (.bin .lss (.tmp 17) (.tmp 16)),none⟩] [] [1,2,15,16,17,18])
 (.seq (.cond (.tmp 18) (.skip)
 (.exit 0))
 (.seq (.block 1 (.seq (.region [⟨some 19,.p (.mov (.tmp 17)),none⟩,⟨some 20,.p (.iaddr 4 (.tmp 15) (.tmp 17)),none⟩,⟨some 21,.loadn 4 (.tmp 20),none⟩,⟨some 8,.a (.new [.bool false,.int .i64 (.ofNat 0),.int .i64 (.ofNat 0),.nilslice]),none⟩,⟨some 7,.p (.mov (.tmp 19)),none⟩,⟨none,.e (.store 4 (.tmp 8) (.tmp 21)),none⟩] [] [1,2,7,8,15,16,17])
 (.seq (.region [⟨some 22,.p (.mov (.tmp 1)),none⟩,⟨some 23,.p (.mov (.tmp 7)),none⟩,⟨some 24,.p (.iaddr 4 (.tmp 22) (.tmp 23)),none⟩,⟨some 25,.loadn 4 (.tmp 24),none⟩,⟨some 9,.a (.new [.bool false,.int .i64 (.ofNat 0),.int .i64 (.ofNat 0),.nilslice]),none⟩,⟨none,.e (.store 4 (.tmp 9) (.tmp 25)),none⟩] [] [1,2,8,9,15,16,17])
 (.seq (.region [⟨some 26,.p (.mov (.tmp 2)),none⟩,⟨some 27,.loadn 4 (.tmp 8),none⟩,⟨some 28,.loadn 4 (.tmp 9),none⟩,⟨some 29,.e (.callv (.tmp 26) [(.tmp 27),(.tmp 28)]),none⟩,⟨some 30,.p (.not (.tmp 29)),none⟩] [] [1,2,15,16,17,30])
 (.cond (.tmp 30) (.seq (.region [⟨some 6,.p (.mov (.val (.bool false))),none⟩] [] [6])
 (.ret))
 (.skip))))))
 (.region [⟨some 31,.p (.bin .add (.tmp 17) (.val (.int .i64 (.ofNat 1)))),none⟩,⟨some 17,.p (.mov (.tmp 31)),none⟩] [] [1,2,15,16,17])))))))
 (.seq (.region [⟨some 6,.p (.mov (.val (.bool true))),none⟩] [] [6])
 (.ret))))
def M21 (F : Nat → Nat) : Fun := ⟨32,3,(K21 F).erase,[.tmp 6]⟩
end Go.Lib
end

section
namespace Go.Lib
open Go.Vm Go.Dv
abbrev By := Fin 256
structure Vl where
  null : Bool
  kind : Int
  n : Int
  bytes : List By
  small : bytes.length < 1000000
def byE (b : List By) : List (List D) := b.map fun c => [.lit (.int .u8 (c.val : Int))]
def byD (b : List By) : D := .row 1 .p (byE b)
def Vl.c (v : Vl) : List D := [.lit (.bool v.null), .lit (.int .i64 v.kind), .lit (.int .i64 v.n), byD v.bytes]
abbrev Row := List Vl
def rowE (r : Row) : List (List D) := r.map Vl.c
def rowD (r : Row) : D := .row 4 .p (rowE r)
def rowsE (l : List Row) : List (List D) := l.map fun r => [rowD r]
def rowsD (l : List Row) : D := .row 1 .p (rowsE l)
theorem by_under {n : Nat} {b : List By} : (byD b).under n := by
  simp only [byD, D.under]; exact underss_map (fun _ => by simp) _
theorem vl_unders {n : Nat} {v : Vl} : D.unders n v.c := by simp [Vl.c, by_under]
theorem row_under {n : Nat} {r : Row} : (rowD r).under n := by
  simp only [rowD, D.under]; exact underss_map (fun _ => vl_unders) _
theorem rows_under {n : Nat} {l : List Row} : (rowsD l).under n := by
  simp only [rowsD, D.under]; exact underss_map (fun _ => by simp [row_under]) _
theorem by_underss {n : Nat} {b : List By} : D.underss n (byE b) := underss_map (fun _ => by simp) _
theorem row_underss {n : Nat} {r : Row} : D.underss n (rowE r) := underss_map (fun _ => vl_unders) _
theorem rows_underss {n : Nat} {l : List Row} : D.underss n (rowsE l) := underss_map (fun _ => by simp [row_under]) _
theorem by_flat {b : List By} : flatD (byD b) = true := rfl
theorem row_flat {r : Row} : flatD (rowD r) = true := rfl
theorem rows_flat {l : List Row} : flatD (rowsD l) = true := rfl
theorem vl_len {v : Vl} : v.c.length = 4 := rfl
theorem vl_flats {v : Vl} : flatsD v.c = true := rfl
theorem vl_0 {v : Vl} : v.c[0]? = some (.lit (.bool v.null)) := rfl
theorem vl_1 {v : Vl} : v.c[1]? = some (.lit (.int .i64 v.kind)) := rfl
theorem vl_2 {v : Vl} : v.c[2]? = some (.lit (.int .i64 v.n)) := rfl
theorem vl_3 {v : Vl} : v.c[3]? = some (byD v.bytes) := rfl
theorem vl_take {v : Vl} : v.c.take 4 = v.c := rfl
theorem vl_drop {v : Vl} : v.c.drop 4 = [] := rfl
theorem by_len {b : List By} : (byE b).length = b.length := by simp [byE]
theorem row_len {r : Row} : (rowE r).length = r.length := by simp [rowE]
theorem rows_len {l : List Row} : (rowsE l).length = l.length := by simp [rowsE]
theorem lenb_by {b : List By} : lenbD (byD b) = some (.lit (.int .i64 (b.length : Int))) := by simp [byD, by_len]
theorem lenb_row {r : Row} : lenbD (rowD r) = some (.lit (.int .i64 (r.length : Int))) := by simp [rowD, row_len]
theorem lenb_rows {l : List Row} : lenbD (rowsD l) = some (.lit (.int .i64 (l.length : Int))) := by simp [rowsD, rows_len]
theorem cellsD_by {b : List By} : cellsD (byD b) = some [byD b] := rfl
theorem cellsD_rowD {r : Row} : cellsD (rowD r) = some [rowD r] := rfl
theorem cellsD_rowsD {l : List Row} : cellsD (rowsD l) = some [rowsD l] := rfl
def bys (b : List By) : List Nat := b.map fun c => c.val
theorem bys_inj {a b : List By} : bys a = bys b ↔ a = b := by
  constructor
  · intro h
    induction a generalizing b with
    | nil => cases b with
      | nil => rfl
      | cons y b => simp [bys] at h
    | cons x a ih => cases b with
      | nil => simp [bys] at h
      | cons y b =>
        simp only [bys, List.map_cons, List.cons.injEq] at h;rw [Fin.ext h.1, ih h.2]
  · rintro rfl; rfl
theorem toVs_by : ∀ b : List By, toVs (byE b).flatten = some (b.map fun c => V.int .u8 (c.val : Int))
  | [] => rfl
  | c :: b => by
    have := toVs_by b;simp only [byE] at this;simp only [byE, List.map_cons, List.flatten_cons, List.singleton_append, toVs, toV, this]
theorem bytesOf_by : ∀ b : List By, eV.bytesOf (b.map fun c => V.int .u8 (c.val : Int)) = some (bys b)
  | [] => rfl
  | c :: b => by
    show cond (Nat.blt c.val 256) _ none = _;rw [show Nat.blt c.val 256 = true from nblt.2 c.isLt, cond_true, bytesOf_by b]; rfl
theorem text_by {H : HpD} {b : List By} : textD H (byD b) = some (.lit (.str (bys b)), H) := by
  simp only [byD, textD, Nat.beq, cond_true, strD, toVs_by, bytesOf_by]
theorem neqs_iff : ∀ {a b : List Nat}, neqs a b = true ↔ a = b
  | [], [] => by simp [neqs]
  | [], _ :: _ => by simp [neqs]
  | _ :: _, [] => by simp [neqs]
  | x :: a, y :: b => by
    simp only [neqs, cond_eq_ite]
    by_cases h : Nat.beq x y = true
    · rw [if_pos h, neqs_iff]; rw [nbeq] at h; simp [h]
    · rw [if_neg h]; rw [nbeq] at h; simp [h]
theorem neqs_bys {a b : List By} : neqs (bys a) (bys b) = decide (a = b) := by
  rw [Bool.eq_iff_iff, neqs_iff, bys_inj, decide_eq_true_iff]
theorem str_eql {tab : Tab} {a b : List Nat} : binV tab .eql (.str a) (.str b) = some (.bool (neqs a b)) := rfl
theorem str_neq {tab : Tab} {a b : List Nat} : binV tab .neq (.str a) (.str b) = some (.bool (!neqs a b)) := rfl
theorem str_lss {tab : Tab} {a b : List Nat} : binV tab .lss (.str a) (.str b) = some (.bool (slt a b)) := rfl
theorem bytesV_by {h : Hp} {ψ : Nat → Option Nat} {S : Nat → Prop} {b : List By} {v : V} (k : VD h ψ S (byD b) v) : bytesV h v = some (bys b) := by
  simp only [byD, VD] at k;rcases k with ⟨rfl, hb⟩ | ⟨c, o, cp, ex, rfl, h1, h2, k⟩
  · cases b with
    | nil => rfl
    | cons x b => simp [byE] at hb
  · rcases k with ⟨hm, _⟩ | ⟨cs, ro, hs, hb, hp⟩
    · cases hm
    · obtain ⟨us, e1, k1⟩ := VDss.cells hp
      rw [Nat.mul_one] at e1;have := toVs_ok _ (toVs_by b) k1;subst this
      have hr : h.read c o (byE b).length = some (b.map fun c => V.int .u8 (c.val : Int)) := by unfold Hp.read; rw [hb]; exact e1
      simp only [bytesV, hr];exact bytesOf_by b
theorem vl_set3 {v : Vl} : spliceD v.c 3 [byD v.bytes] = v.c := rfl
theorem by_one {b : List By} : ∀ e, e ∈ byE b → e.length = 1 := by simp [byE]
theorem by_flats {b : List By} : ∀ e, e ∈ byE b → flatsD e = true := by simp [byE]
theorem row_four {r : Row} : ∀ e, e ∈ rowE r → e.length = 4 := by simp [rowE]; exact fun _ _ => rfl
theorem at_row {r : Row} {n : Nat} : atO 4 (rowD r) (some n) = elemD (r[n]?.map Vl.c) := by simp [rowD, rowE]
theorem at_rows {l : List Row} {n : Nat} : atO 1 (rowsD l) (some n) = elemD (l[n]?.map fun r => [rowD r]) := by simp [rowsD, rowsE]
theorem at_by {b : List By} {n : Nat} : atO 1 (byD b) (some n) = elemD (b[n]?.map fun c => [.lit (.int .u8 (c.val : Int))]) := by simp [byD, byE]
theorem rowE_snoc {r : Row} {i : Nat} {x : Vl} (hx : r[i]? = some x) : rowE (r.take i) ++ [x.c] = rowE (r.take (i + 1)) := by
  rw [List.take_add_one, hx]; simp [rowE]
theorem rowsE_snoc {l : List Row} {i : Nat} {x : Row} (hx : l[i]? = some x) : rowsE (l.take i) ++ [[rowD x]] = rowsE (l.take (i + 1)) := by
  rw [List.take_add_one, hx]; simp [rowsE]
attribute [simp] at_row at_rows at_by
theorem rows_one {l : List Row} : ∀ e, e ∈ rowsE l → e.length = 1 := by simp [rowsE]
theorem rows_flats {l : List Row} : ∀ e, e ∈ rowsE l → flatsD e = true := by simp [rowsE]; exact fun _ _ => rfl
def zv : Vl := ⟨false, 0, 0, [], by simp⟩
theorem zv_le : D.le (.agg [.lit (.bool false), .lit (.int .i64 0), .lit (.int .i64 0), .lit .nilslice]) (.agg zv.c) := by
  simp [Vl.c, zv, byD, byE, D.le]
attribute [simp] vl_set3 vl_0 vl_1 vl_2 vl_3 vl_take vl_drop by_len row_len rows_len lenb_by lenb_row lenb_rows cellsD_by cellsD_rowD cellsD_rowsD text_by neqs_bys str_eql str_neq str_lss
attribute [simp] by_underss row_underss rows_underss by_under vl_unders row_under rows_under by_flat row_flat rows_flat vl_len vl_flats
end Go.Lib
end

section
set_option maxRecDepth 10000
namespace Go.Lib
open Go.Vm Go.Dv
variable {p : Prog} {ext : Ext} {F : Nat → Nat}
structure HSchm (p : Prog) (ext : Ext) (F : Nat → Nat) : Prop where
  h1 : Has p ext F 1 M1
  h2 : Has p ext F 2 M2
  h3 : Has p ext F 3 M3
  h4 : Has p ext F 4 M4
  h5 : Has p ext F 5 M5
  h6 : Has p ext F 6 M6
  h7 : Has p ext F 7 M7
  h8 : Has p ext F 8 M8
  h9 : Has p ext F 9 M9
  h10 : Has p ext F 10 M10
  h11 : Has p ext F 11 M11
  h12 : Has p ext F 12 M12
  h13 : Has p ext F 13 M13
  h14 : Has p ext F 14 M14
  h15 : Has p ext F 15 M15
  h16 : Has p ext F 16 M16
  h17 : Has p ext F 17 M17
  h18 : Has p ext F 18 M18
  h19 : Has p ext F 19 M19
  h21 : Has p ext F 21 M21
  x20 : ∀ args h, ext (F 20) args h = extV .cmp args h
theorem isNaN_int (L : HSchm p ext F) {n : Int} : FnD p ext (F 18) [.lit (.int .i64 n)] (.lit (.bool false)) := by
  refine fn_of L.h18 (M := M18) rfl ok18 rfl fun H => sem_run 9000 _ ?_;simp;refine sem_ret ?_;simp [M18];exact .same (by simp)
theorem isNaN_int64 (L : HSchm p ext F) {n : Int} : FnD p ext (F 19) [.lit (.int .i64 n)] (.lit (.bool false)) := by
  refine fn_of L.h19 (M := M19) rfl ok19 rfl fun H => sem_run 9000 _ ?_;simp;refine sem_ret ?_;simp [M19];exact .same (by simp)
def cmpI (a b : Int) : Int := if a < b then -1 else if b < a then 1 else 0
theorem compare_int (L : HSchm p ext F) {a b : Int} : FnD p ext (F 9) [.lit (.int .i64 a), .lit (.int .i64 b)] (.lit (.int .i64 (cmpI a b))) := by
  refine fn_of L.h9 (M := M9) rfl ok9 rfl fun H => sem_run 9000 _ ?_;simp;refine sem_fn (isNaN_int L) (by first | exact D.les_refl _ | simp) (sem_run 9000 _ ?_);simp;refine sem_fn (isNaN_int L) (by first | exact D.les_refl _ | simp) (sem_run 9000 _ ?_);simp;refine sem_if (fun h => ?_) fun h => ?_
  · simp
    refine sem_ret ?_;simp [M9, cmpI, h];exact .same (by simp)
  · simp
    refine sem_if (fun h2 => ?_) fun h2 => ?_
    · simp
      refine sem_ret ?_;simp [M9, cmpI, h, h2];exact .same (by simp)
    · simp
      refine sem_ret ?_;simp [M9, cmpI, h, h2];exact .same (by simp)
theorem compare_int64 (L : HSchm p ext F) {a b : Int} : FnD p ext (F 10) [.lit (.int .i64 a), .lit (.int .i64 b)] (.lit (.int .i64 (cmpI a b))) := by
  refine fn_of L.h10 (M := M10) rfl ok10 rfl fun H => sem_run 9000 _ ?_;simp;refine sem_fn (isNaN_int64 L) (by first | exact D.les_refl _ | simp) (sem_run 9000 _ ?_);simp;refine sem_fn (isNaN_int64 L) (by first | exact D.les_refl _ | simp) (sem_run 9000 _ ?_);simp;refine sem_if (fun h => ?_) fun h => ?_
  · simp
    refine sem_ret ?_;simp [M10, cmpI, h];exact .same (by simp)
  · simp
    refine sem_if (fun h2 => ?_) fun h2 => ?_
    · simp
      refine sem_ret ?_;simp [M10, cmpI, h, h2];exact .same (by simp)
    · simp
      refine sem_ret ?_;simp [M10, cmpI, h, h2];exact .same (by simp)
def rankV (v : Vl) : Int := if v.null then 0 else 1
theorem rank (L : HSchm p ext F) {v : Vl} : FnD p ext (F 8) [.agg v.c] (.lit (.int .i64 (rankV v))) := by
  refine fn_of L.h8 (M := M8) rfl ok8 rfl fun H => sem_run 9000 _ ?_;simp [Vl.c];refine sem_br (fun h => ?_) fun h => ?_
  · simp
    refine sem_ret ?_;simp [M8, rankV, h];exact .same (by simp)
  · simp
    refine sem_ret ?_;simp [M8, rankV, h];exact .same (by simp)
def cmpB (a b : List By) : Int := cmpL (bys a) (bys b)
theorem cmp_ext (L : HSchm p ext F) {a b : List By} : FnD p ext (F 20) [byD a, byD b] (.lit (.int .i64 (cmpB a b))) := by
  intro H ψ S h vs s k;simp only [VDl] at k;obtain ⟨v, r, rfl, k1, w, r2, rfl, k2, rfl⟩ := k;refine wpc_ext (v := .int .i64 (cmpB a b)) (h' := h) ?_ ⟨ψ, S, _, H, .refl, s, ?_, rfl, rfl⟩
  · rw [L.x20]
    simp only [extV, bytesV_by k1, bytesV_by k2]
    rfl
  · simp [VD, atomV]
theorem bytes_compare (L : HSchm p ext F) {a b : List By} : FnD p ext (F 11) [byD a, byD b] (.lit (.int .i64 (cmpB a b))) := by
  refine fn_of L.h11 (M := M11) rfl ok11 rfl fun H => sem_run 9000 _ ?_;simp;refine sem_fn (cmp_ext L) (by first | exact D.les_refl _ | simp) (sem_run 9000 _ ?_);simp;refine sem_ret ?_;simp [M11];exact .same (by simp)
def cmpV (a b : Vl) : Int := if cmpI (rankV a) (rankV b) ≠ 0 ∨ a.null = true then cmpI (rankV a) (rankV b) else if a.kind = 1 then cmpI a.n b.n else if a.kind = 2 then cmpB a.bytes b.bytes else 0
theorem schm_compare (L : HSchm p ext F) {a b : Vl} : FnD p ext (F 1) [.agg a.c, .agg b.c] (.lit (.int .i64 (cmpV a b))) := by
  refine fn_of L.h1 (M := M1) rfl ok1 rfl fun H => sem_run 9000 _ ?_;simp;refine sem_dfn (rank L) (by first | exact D.les_refl _ | simp) (sem_run 9000 _ ?_);simp;refine sem_dfn (rank L) (by first | exact D.les_refl _ | simp) (sem_run 9000 _ ?_);simp;refine sem_dfn (compare_int L) (by first | exact D.les_refl _ | simp) (sem_run 9000 _ ?_);simp
  by_cases h1 : cmpI (rankV a) (rankV b) = 0
  · cases h2 : a.null
    · by_cases h3 : a.kind = 1
      · simp [h1, h2, h3]
        refine sem_fn (compare_int64 L) (by first | exact D.les_refl _ | simp) (sem_run 9000 _ ?_);simp;refine sem_ret ?_;simp [M1, cmpV, h1, h2, h3];exact .same (by simp)
      · by_cases h4 : a.kind = 2
        · simp [h1, h2, h4]
          refine sem_fn (bytes_compare L) (by first | exact D.les_refl _ | simp) (sem_run 9000 _ ?_);simp;refine sem_ret ?_;simp [M1, cmpV, h1, h2, h4];exact .same (by simp)
        · simp [h1, h2, h3, h4]
          refine sem_ret ?_;simp [M1, cmpV, h1, h2, h3, h4];exact .same (by simp)
    · simp [h1, h2]
      refine sem_ret ?_;simp [M1, cmpV, h1, h2];exact .same (by simp)
  · simp [h1]
    refine sem_ret ?_;simp [M1, cmpV, h1];exact .same (by simp)
theorem slcRow_eq {sz : Nat} {m : Md} {l : List (List D)} {lo hi mx : Option V} : slcD sz (.row sz m l) (lo.map .lit) (hi.map .lit) (mx.map .lit) = cond (needH hi mx) (slcRow sz m l lo hi mx) none := by
  cases lo <;> cases hi <;> cases mx <;> simp only [slcD, Option.map, bndD, beq_d, decide_true, cond_true]
theorem slc_clip {sz : Nat} {m : Md} {l : List (List D)} (hm : m ≠ .w) : slcD sz (.row sz m l) none (some (.lit (.int .i64 (l.length : Int)))) (some (.lit (.int .i64 (l.length : Int)))) = some (.row sz .c l) := by
  have := slcRow_eq (sz := sz) (m := m) (l := l) (lo := none) (hi := some (.int .i64 (l.length : Int))) (mx := some (.int .i64 (l.length : Int)));simp only [Option.map] at this;rw [this];simp only [needH, cond_true, slcRow, boundM, natOf_cast, ble_d, Nat.le_refl, decide_true, boundH, boundL, cutMd, beq_d]
  cases m <;> simp at hm ⊢
theorem clip_val (L : HSchm p ext F) {r : Row} : FnD p ext (F 13) [rowD r] (rowD r) := by
  refine fn_of L.h13 (M := M13) rfl ok13 rfl fun H => sem_run 9000 _ ?_;simp [rowD];have := slc_clip (sz := 4) (m := .p) (l := rowE r) (by simp);simp only [row_len] at this;simp [this];refine sem_ret ?_;simp [M13];exact .le .refl (by simp [D.le]) (by simp)
theorem clone_by (L : HSchm p ext F) {b : List By} (hb : b.length < 1000000) : FnD p ext (F 14) [byD b] (byD b) := by
  refine fn_of L.h14 (M := M14) rfl ok14 rfl fun H => sem_run 9000 _ ?_;simp [byD];refine ⟨?_, ?_⟩
  · intro h0
    refine sem_ret ?_;simp [M14];exact .le .refl (by rw [h0]; simp [D.le]) (by simp)
  · obtain ⟨s', H', e, g, _⟩ := (Gr.lit (el := []) (sz := 1) (H := H) (ex := true) (c := []) (n := 0) Sub.refl (by simp) rfl rfl).app (by_ := 1) (m := .p) (new := byE b) by_one by_flats (roomyD (by simp; omega) (by simp; omega))
    simp [e];refine sem_ret ?_;simp [M14];exact g.fin (by simp) (by simp)
theorem schm_val (L : HSchm p ext F) {v : Vl} : FnD p ext (F 5) [.agg v.c] (.agg v.c) := by
  refine fn_of L.h5 (M := M5) rfl ok5 rfl fun H => sem_run 9000 _ ?_;simp;refine sem_fn (clone_by L v.small) (by first | exact D.les_refl _ | simp) (sem_run 9000 _ ?_);simp;refine sem_ret ?_;simp [M5, Vl.c];exact .le (by repeat (first | exact Sub.refl | apply Sub.new | refine Sub.put ?_ (by first | omega | (simp only [put_next, new_next]; omega)))) (by simp) (by simp)
def RowI (H0 : HpD) (r : Row) (k : Nat) (fr : FrD) (H : HpD) : Prop :=
  ∃ (i : Nat) (s : D), k = r.length - i ∧ i ≤ r.length ∧ fr = [(3, s), (6, rowD r), (7, .lit (.int .i64 (r.length : Int))), (8, .lit (.int .i64 (i : Int)))] ∧ Gr H0 H 4 s (rowE (r.take i))
theorem schm_row (L : HSchm p ext F) {r : Row} (hr : r.length < 1000000) : FnD p ext (F 4) [rowD r] (rowD r) := by
  refine fn_of L.h4 (M := M4) rfl ok4 rfl fun H => sem_run 9000 _ ?_;simp;refine sem_loop (RowI H r) ?_ (k := r.length) ⟨0, .lit .nilslice, by simp, by simp, rfl, by simpa [rowE] using Gr.start⟩;rintro k fr H' ⟨i, s, rfl, hi, rfl, g⟩;refine sem_run 9000 _ ?_;simp
  by_cases c : i < r.length
  · have hx : r[i]? = some r[i] := by simp
    simp [c];refine sem_fn (schm_val L) (by first | exact D.les_refl _ | simp) (sem_run 9000 _ ?_);simp;refine sem_push (g.mono (by repeat (first | exact Sub.refl | apply Sub.new | refine Sub.put ?_ (by first | omega | (simp only [put_next, new_next]; omega))))) rfl rfl (roomyD (by simp; omega) (by simp; omega)) fun s' H1 g1 _ _ => ?_;simp;refine sem_ok ?_
    have hw : wr .i64 ((i : Int) + 1) = ((i + 1 : Nat) : Int) := by rw [wr_of] <;> omega
    rw [rowE_snoc hx] at g1;exact ⟨_, by omega, i + 1, s', rfl, by omega, by rw [hw], g1⟩
  · simp [c]
    refine sem_exit (sem_run 9000 _ ?_)
    have : i = r.length := by omega
    subst this;rw [List.take_length] at g;simp;refine sem_row g 0 rfl fun H2 s2 _ _ => ?_;refine sem_fn (clip_val L) (by first | exact D.les_refl _ | simp) (sem_run 9000 _ ?_);simp;refine sem_ret ?_;simp [M4];exact .le s2 (D.le_refl _) (by simp)
def atV (r : Row) (c : Int) : Vl := if c < 0 then zv else (r[c.toNat]?).getD zv
theorem schm_at (L : HSchm p ext F) {r : Row} {c : Int} : FnD p ext (F 3) [rowD r, .lit (.int .i64 c)] (.agg (atV r c).c) := by
  refine fn_of L.h3 (M := M3) rfl ok3 rfl fun H => sem_run 9000 _ ?_;simp
  by_cases h1 : c < 0
  · simp [h1]
    refine sem_ret ?_;simp [M3];exact .le (by repeat (first | exact Sub.refl | apply Sub.new | refine Sub.put ?_ (by first | omega | (simp only [put_next, new_next]; omega)))) (by rw [atV, if_pos h1]; exact zv_le) (by simp)
  · obtain ⟨n, rfl⟩ : ∃ n : Nat, c = n := ⟨c.toNat, by omega⟩
    by_cases h2 : r.length ≤ n
    · simp [h1, h2]
      refine sem_ret ?_;simp [M3];exact .le (by repeat (first | exact Sub.refl | apply Sub.new | refine Sub.put ?_ (by first | omega | (simp only [put_next, new_next]; omega)))) (by rw [atV, if_neg h1]; simp [h2]; exact zv_le) (by simp)
    · have h3 : n < r.length := by omega
      simp [h1, h2, h3];refine sem_fn (schm_val L) (by first | exact D.les_refl _ | simp) (sem_run 9000 _ ?_);simp;refine sem_ret ?_;simp [M3];exact .le (by repeat (first | exact Sub.refl | apply Sub.new | refine Sub.put ?_ (by first | omega | (simp only [put_next, new_next]; omega)))) (by rw [atV, if_neg h1]; simp [h3]) (by simp)
def cmpRow (cmp : Vl → Vl → Int) : Row → Row → Int
  | [], [] => 0
  | [], _ :: _ => -1
  | _ :: _, [] => 1
  | a :: x, b :: y => if cmp a b ≠ 0 then cmp a b else cmpRow cmp x y
theorem compareFunc (L : HSchm p ext F) {f : Nat} {cmp : Vl → Vl → Int} (hf : ∀ a b : Vl, FnD p ext f [.agg a.c, .agg b.c] (.lit (.int .i64 (cmp a b)))) {x y : Row} (hx : x.length < 1000000) : FnD p ext (F 12) [rowD x, rowD y, .func f [] []] (.lit (.int .i64 (cmpRow cmp x y))) := by
  refine fn_of L.h12 (M := M12) rfl ok12 rfl fun H => sem_run 9000 _ ?_;simp;refine sem_loop (fun k fr H' => ∃ i : Nat, k = x.length - i ∧ i ≤ x.length ∧ i ≤ y.length ∧ cmpRow cmp x y = cmpRow cmp (x.drop i) (y.drop i) ∧ fr = [(0, rowD x), (1, rowD y), (2, .func f [] []), (11, rowD x), (12, .lit (.int .i64 (x.length : Int))), (13, .lit (.int .i64 (i : Int)))] ∧ Sub H H') ?_ (k := x.length) ⟨0, by simp, by simp, by simp, by simp, rfl, .refl⟩;rintro k fr H' ⟨i, rfl, hi, hi2, hc, rfl, hs⟩;refine sem_run 9000 _ ?_;simp
  by_cases c : i < x.length
  · by_cases c2 : y.length ≤ i
    · simp [c, c2]
      refine sem_ret ?_;simp;refine sem_ret ?_;simp [M12];have : y.drop i = [] := List.drop_eq_nil_of_le (by omega);rw [hc, this, List.drop_eq_getElem_cons c];exact .le (by have := hs.next; repeat (first | exact hs | apply Sub.new | refine Sub.put ?_ (by first | omega | (simp only [put_next, new_next]; omega)))) (by simp [cmpRow]) trivial
    · have c3 : i < y.length := by omega
      simp [c, c2, c3];refine sem_fn (hf x[i] y[i]) (by first | exact D.les_refl _ | simp) (sem_run 9000 _ ?_);simp;rw [List.drop_eq_getElem_cons c, List.drop_eq_getElem_cons c3] at hc
      by_cases c4 : cmp x[i] y[i] = 0
      · simp [c4]
        refine sem_ok ?_
        have hw : wr .i64 ((i : Int) + 1) = ((i + 1 : Nat) : Int) := by rw [wr_of] <;> omega
        exact ⟨_, by omega, i + 1, rfl, by omega, by omega, by rw [hc]; simp [cmpRow, c4], by rw [hw], (by have := hs.next; repeat (first | exact hs | apply Sub.new | refine Sub.put ?_ (by first | omega | (simp only [put_next, new_next]; omega))))⟩
      · simp [c4]
        refine sem_ret ?_;simp;refine sem_ret ?_;simp [M12];exact .le (by have := hs.next; repeat (first | exact hs | apply Sub.new | refine Sub.put ?_ (by first | omega | (simp only [put_next, new_next]; omega)))) (by rw [hc]; simp [cmpRow, c4]) trivial
  · simp [c]
    refine sem_exit (sem_run 9000 _ ?_);have hd : x.drop i = [] := List.drop_eq_nil_of_le (by omega)
    have hl : i = x.length := by omega
    by_cases c2 : x.length < y.length
    · simp [c2]
      refine sem_ret ?_;simp [M12];rw [hc, hd, List.drop_eq_getElem_cons (by omega)];exact .le (by have := hs.next; repeat (first | exact hs | apply Sub.new | refine Sub.put ?_ (by first | omega | (simp only [put_next, new_next]; omega)))) (by simp [cmpRow]) trivial
    · simp [c2]
      refine sem_ret ?_;simp [M12];rw [hc, hd, List.drop_eq_nil_of_le (by omega : y.length ≤ i)];exact .le (by have := hs.next; repeat (first | exact hs | apply Sub.new | refine Sub.put ?_ (by first | omega | (simp only [put_next, new_next]; omega)))) (by simp [cmpRow]) trivial
theorem schm_rows (L : HSchm p ext F) {x y : Row} (hx : x.length < 1000000) : FnD p ext (F 2) [rowD x, rowD y] (.lit (.int .i64 (cmpRow cmpV x y))) := by
  refine fn_of L.h2 (M := M2) rfl ok2 rfl fun H => sem_run 9000 _ ?_;simp;refine sem_fn (compareFunc L (fun a b => schm_compare L) hx) (by first | exact D.les_refl _ | simp) (sem_run 9000 _ ?_);simp;refine sem_ret ?_;simp [M2];exact .same (by simp)
theorem vl_ext {a b : Vl} : a = b ↔ a.null = b.null ∧ a.kind = b.kind ∧ a.n = b.n ∧ a.bytes = b.bytes := by
  cases a; cases b; simp
instance : DecidableEq Vl := fun _a _b => decidable_of_iff _ vl_ext.symm
end Go.Lib
end

section
set_option maxRecDepth 10000
namespace Go.Lib
open Go.Vm Go.Dv
variable {α : Type}
structure Ord3 (G : α → Prop) (cmp : α → α → Int) : Prop where
  sym : ∀ x y, G x → G y → cmp x y = - cmp y x
  tr : ∀ x y z, G x → G y → G z → cmp x y ≤ 0 → cmp y z ≤ 0 → cmp x z ≤ 0
namespace Ord3
variable {G : α → Prop} {cmp : α → α → Int}
theorem lt_le (o : Ord3 G cmp) {x y z : α} (hx : G x) (hy : G y) (hz : G z) (h1 : cmp x y < 0) (h2 : cmp y z ≤ 0) : cmp x z < 0 := by
  have h3 := o.tr x y z hx hy hz (by omega) h2;rcases Int.lt_or_eq_of_le h3 with h | h
  · exact h
  · have := o.sym x z hx hz
    have h4 := o.tr y z x hy hz hx h2 (by omega);have := o.sym x y hx hy;omega
theorem le_lt (o : Ord3 G cmp) {x y z : α} (hx : G x) (hy : G y) (hz : G z) (h1 : cmp x y ≤ 0) (h2 : cmp y z < 0) : cmp x z < 0 := by
  have h3 := o.tr x y z hx hy hz h1 (by omega);rcases Int.lt_or_eq_of_le h3 with h | h
  · exact h
  · have := o.sym x z hx hz
    have h4 := o.tr z x y hz hx hy (by omega) h1;have := o.sym y z hy hz;omega
theorem eq_eq (o : Ord3 G cmp) {x y z : α} (hx : G x) (hy : G y) (hz : G z) (h1 : cmp x y = 0) (h2 : cmp y z = 0) : cmp x z = 0 := by
  have h3 := o.tr x y z hx hy hz (by omega) (by omega);have e1 := o.sym x y hx hy;have e2 := o.sym y z hy hz;have e3 := o.sym x z hx hz;have h4 := o.tr z y x hz hy hx (by omega) (by omega);omega
theorem anti (o : Ord3 G cmp) : ∀ x y, G x → G y → cmp x y < 0 → ¬ cmp y x < 0 := fun x y hx hy h => by
  have := o.sym x y hx hy; omega
theorem trans (o : Ord3 G cmp) : ∀ x y z, G x → G y → G z → ¬ cmp y x < 0 → ¬ cmp z y < 0 → ¬ cmp z x < 0 := fun x y z hx hy hz h1 h2 => by
  have e1 := o.sym x y hx hy;have e2 := o.sym y z hy hz;have e3 := o.sym x z hx hz;have := o.tr x y z hx hy hz (by omega) (by omega);omega
end Ord3
theorem cmpI_ord : Ord3 (fun _ => True) cmpI :=
  ⟨fun x y _ _ => by unfold cmpI; repeat' split <;> omega, fun x y z _ _ _ h1 h2 => by unfold cmpI at *; split at h1 <;> split at h2 <;> (repeat' split) <;> omega⟩
theorem cmpI_eq {x y : Int} : cmpI x y = 0 ↔ x = y := by unfold cmpI; repeat' split <;> omega
theorem cmpL_cons {a b : Nat} {x y : List Nat} : cmpL (a :: x) (b :: y) = if cmpI a b ≠ 0 then cmpI a b else cmpL x y := by
  simp only [cmpL, cmpI, cond_eq_ite, nblt]
  repeat' split
  all_goals first | rfl | omega
theorem cmpL_ord : Ord3 (fun _ => True) cmpL := by
  refine ⟨fun x y _ _ => ?_, fun x y z _ _ _ => ?_⟩
  · induction x generalizing y with
    | nil => cases y <;> rfl
    | cons a x ih => cases y with
      | nil => rfl
      | cons b y =>
        rw [cmpL_cons, cmpL_cons];have := cmpI_ord.sym (a : Int) b trivial trivial;have := ih y
        split <;> split <;> omega
  · induction x generalizing y z with
    | nil => intro _ _; cases z <;> simp [cmpL]
    | cons a x ih => cases y with
      | nil => intro h; simp [cmpL] at h
      | cons b y => cases z with
        | nil => intro _ h; simp [cmpL] at h
        | cons c z =>
          rw [cmpL_cons, cmpL_cons, cmpL_cons];intro h1 h2;have ih := ih y z;have o := cmpI_ord;have t := o.tr (a : Int) b c trivial trivial trivial;have t1 := o.lt_le (x := (a : Int)) (y := b) (z := c) trivial trivial trivial;have t2 := o.le_lt (x := (a : Int)) (y := b) (z := c) trivial trivial trivial;have t3 := o.eq_eq (x := (a : Int)) (y := b) (z := c) trivial trivial trivial
          split at h1 <;> split at h2 <;> split <;> first | omega | (exact ih (by omega) (by omega)) | skip
theorem cmpB_ord : Ord3 (fun _ => True) cmpB := ⟨fun _ _ _ _ => cmpL_ord.sym _ _ trivial trivial, fun _ _ _ _ _ _ h1 h2 => cmpL_ord.tr _ _ _ trivial trivial trivial h1 h2⟩
theorem cmpL_eq : ∀ {x y : List Nat}, cmpL x y = 0 ↔ x = y
  | [], [] => by simp [cmpL]
  | [], _ :: _ => by simp [cmpL]
  | _ :: _, [] => by simp [cmpL]
  | a :: x, b :: y => by
    rw [cmpL_cons];have := cmpI_eq (x := (a : Int)) (y := b)
    split
    · constructor
      · intro h; omega
      · intro h; simp only [List.cons.injEq] at h; omega
    · rw [cmpL_eq]
      constructor
      · rintro rfl; simp; omega
      · intro h; exact (List.cons.inj h).2
theorem cmpB_eq {x y : List By} : cmpB x y = 0 ↔ x = y := by unfold cmpB; rw [cmpL_eq, bys_inj]
theorem cmpV_null {a b : Vl} : cmpV a b = if a.null = true then (if b.null = true then 0 else -1) else if b.null = true then 1 else if a.kind = 1 then cmpI a.n b.n else if a.kind = 2 then cmpB a.bytes b.bytes else 0 := by
  unfold cmpV rankV cmpI
  cases a.null <;> cases b.null <;> simp
theorem cmpV_ord {k : Int} : Ord3 (fun v : Vl => v.kind = k) cmpV := by
  refine ⟨fun x y hx hy => ?_, fun x y z hx hy hz h1 h2 => ?_⟩
  · rw [cmpV_null, cmpV_null, hx, hy]
    have := cmpI_ord.sym x.n y.n trivial trivial;have := cmpB_ord.sym x.bytes y.bytes trivial trivial
    repeat' split
    all_goals omega
  · rw [cmpV_null] at *
    rw [hx] at *;rw [hy] at h2;have := cmpI_ord.tr x.n y.n z.n trivial trivial trivial;have := cmpB_ord.tr x.bytes y.bytes z.bytes trivial trivial trivial
    cases hx0 : x.null <;> cases hy0 : y.null <;> cases hz0 : z.null <;> simp [hx0, hy0, hz0] at h1 h2 ⊢
    split at h1
    · rename_i e
      simp only [e] at h2 ⊢;simp at h2 ⊢; omega
    · rename_i e
      simp only [e] at h2 ⊢
      split at h1
      · rename_i e2
        simp [e2] at h2 ⊢; omega
      · rename_i e2
        simp [e2]
theorem cmpL_abs : ∀ {x y : List Nat}, -1 ≤ cmpL x y ∧ cmpL x y ≤ 1
  | [], [] => by simp [cmpL]
  | [], _ :: _ => by simp [cmpL]
  | _ :: _, [] => by simp [cmpL]
  | a :: x, b :: y => by
    rw [cmpL_cons];have := cmpL_abs (x := x) (y := y);unfold cmpI
    repeat' split
    all_goals omega
theorem cmpV_abs {a b : Vl} : -1 ≤ cmpV a b ∧ cmpV a b ≤ 1 := by
  rw [cmpV_null];have := cmpL_abs (x := bys a.bytes) (y := bys b.bytes);unfold cmpI cmpB
  repeat' split
  all_goals omega
def Kin (ks : List Int) (r : Row) : Prop := r.map Vl.kind = ks
theorem cmpRow_ord : ∀ {ks : List Int}, Ord3 (Kin ks) (cmpRow cmpV) := by
  intro ks;refine ⟨?_, ?_⟩
  · induction ks with
    | nil =>
      intro x y hx hy;simp only [Kin, List.map_eq_nil_iff] at hx hy;subst hx; subst hy; rfl
    | cons k ks ih =>
      intro x y hx hy
      cases x with
      | nil => simp [Kin] at hx
      | cons a x => cases y with
        | nil => simp [Kin] at hy
        | cons b y =>
          simp only [Kin, List.map_cons, List.cons.injEq] at hx hy;have := ih x y hx.2 hy.2;have := (cmpV_ord (k := k)).sym a b hx.1 hy.1;simp only [cmpRow]
          split <;> split <;> omega
  · induction ks with
    | nil =>
      intro x y z hx hy hz;simp only [Kin, List.map_eq_nil_iff] at hx hy hz;subst hx; subst hy; subst hz; simp [cmpRow]
    | cons k ks ih =>
      intro x y z hx hy hz
      cases x with
      | nil => simp [Kin] at hx
      | cons a x => cases y with
        | nil => simp [Kin] at hy
        | cons b y => cases z with
          | nil => simp [Kin] at hz
          | cons c z =>
            simp only [Kin, List.map_cons, List.cons.injEq] at hx hy hz;have ih := ih x y z hx.2 hy.2 hz.2;have o := cmpV_ord (k := k);have t := o.tr a b c hx.1 hy.1 hz.1;have t1 := o.lt_le hx.1 hy.1 hz.1;have t2 := o.le_lt hx.1 hy.1 hz.1;have t3 := o.eq_eq hx.1 hy.1 hz.1;simp only [cmpRow];intro h1 h2
            split at h1 <;> split at h2 <;> split <;> first | omega | (exact ih (by omega) (by omega)) | skip
end Go.Lib
end

section
set_option maxRecDepth 10000
namespace Go.Lib
open Go.Vm Go.Dv Go.Srt
variable {p : Prog} {ext : Ext} {F : Nat → Nat}
structure HAggr (p : Prog) (ext : Ext) (F : Nat → Nat) : Prop where
  srt : HSrt p ext F
  schm : HSchm p ext F
  h32 : Has p ext F 32 M32
  h33 : Has p ext F 33 M33
  h34 : Has p ext F 34 M34
  h35 : Has p ext F 35 M35
  h36 : Has p ext F 36 M36
  h37 : Has p ext F 37 M37
  h38 : Has p ext F 38 M38
  h39 : Has p ext F 39 M39
  h40 : Has p ext F 40 M40
  h41 : Has p ext F 41 M41
  h42 : Has p ext F 42 M42
  h43 : Has p ext F 43 M43
  h44 : Has p ext F 44 M44
theorem slc_own {sz b n : Nat} {ex : Bool} : slcD sz (.slice b 0 sz n n ex) none (some (.lit (.int .i64 (n : Int)))) (some (.lit (.int .i64 (n : Int)))) = some (.slice b 0 sz n n true) := by
  simp [slcD, bndD, slcV, sliceO, needH, boundM, boundH, boundL, ble_d]
theorem slc_nil {sz : Nat} : slcD sz (.lit .nilslice) none (some (.lit (.int .i64 0))) (some (.lit (.int .i64 0))) = some (.lit .nilslice) := rfl
theorem clip_own (L : HAggr p ext F) {H0 H : HpD} {s : D} {el : List (List D)} (g : Gr H0 H 1 s el) : WcD p ext (F 39) [s] H (fun d H' => Gr H0 H' 1 d el) := by
  refine wc_of L.h39 (M := M39) rfl ok39 rfl (sem_run 9000 _ ?_);rcases g.at_ with ⟨rfl, rfl⟩ | ⟨b, ex, el0, rfl, h1, h2, h3, h4⟩
  · simp [slc_nil]
    refine sem_ret ?_;simp [M39];exact g
  · simp [slc_own]
    refine sem_ret ?_;simp [M39];exact ⟨g.sub, g.len, .inr ⟨b, true, el0, rfl, h1, h2, h3, h4⟩⟩
def StillI (H0 : HpD) (l : List Row) (k : Nat) (fr : FrD) (H : HpD) : Prop :=
  ∃ (i : Nat) (s : D), k = l.length - i ∧ i ≤ l.length ∧ fr = [(3, s), (6, rowsD l), (7, .lit (.int .i64 (l.length : Int))), (8, .lit (.int .i64 (i : Int)))] ∧ Gr H0 H 1 s (rowsE (l.take i))
def Fine (l : List Row) : Prop := l.length < 1000000 ∧ ∀ r, r ∈ l → r.length < 1000000
theorem still_own (L : HAggr p ext F) {l : List Row} {H : HpD} (hl : Fine l) : WcD p ext (F 37) [rowsD l] H (fun d H' => Gr H H' 1 d (rowsE l)) := by
  refine wc_of L.h37 (M := M37) rfl ok37 rfl (sem_run 9000 _ ?_);simp;refine sem_loop (StillI H l) ?_ (k := l.length) ⟨0, .lit .nilslice, by simp, by simp, rfl, by simpa [rowsE] using Gr.start⟩;rintro k fr H' ⟨i, s, rfl, hi, rfl, g⟩;refine sem_run 9000 _ ?_;simp;have hl1 := hl.1
  by_cases c : i < l.length
  · have hx : l[i]? = some l[i] := by simp
    have hr := hl.2 l[i] (by simp);simp [c];refine sem_fn (schm_row L.schm hr) (by first | exact D.les_refl _ | simp) (sem_run 9000 _ ?_);simp;refine sem_push (g.mono (by repeat (first | exact Sub.refl | apply Sub.new | refine Sub.put ?_ (by first | omega | (simp only [put_next, new_next]; omega))))) rfl rfl (roomyD (by simp; omega) (by simp; omega)) fun s' H1 g1 _ _ => ?_;simp;refine sem_ok ?_
    have hw : wr .i64 ((i : Int) + 1) = ((i + 1 : Nat) : Int) := by rw [wr_of] <;> omega
    rw [rowsE_snoc hx] at g1;exact ⟨_, by omega, i + 1, s', rfl, by omega, by rw [hw], g1⟩
  · simp [c]
    refine sem_exit (sem_run 9000 _ ?_)
    have : i = l.length := by omega
    subst this;rw [List.take_length] at g;simp;refine sem_call (clip_own L g) fun d H2 g2 => ?_;refine sem_run 9000 _ ?_;simp;refine sem_ret ?_;simp [M37];exact g2
def rowEnc : Enc Row := ⟨rowD, fun _ => rfl, fun _ => rfl⟩
theorem rowsE_flat {l : List Row} : (rowsE l).flatten = l.map rowEnc.d := by
  induction l with
  | nil => rfl
  | cons r l ih => simp only [rowsE, List.map_cons, List.flatten_cons] at ih ⊢; rw [ih]; rfl
def NilI (fr0 : FrD) (H0 : HpD) (k : Nat) (fr : FrD) (H : HpD) : Prop := k = 0 ∧ fr = fr0 ∧ H = H0
theorem insertion_nil (L : HSrt p ext F) {H : HpD} {cv : D} : WcD p ext (F 28) [.lit .nilslice, .lit (.int .i64 0), .lit (.int .i64 0), cv] H (fun d H' => d = .tup [] ∧ H' = H) := by
  refine wc_of L.h28 (M := M28) rfl ok28 rfl (sem_run 9000 _ ?_);simp;refine sem_loop (NilI [(0, .lit .nilslice), (1, .lit (.int .i64 0)), (2, .lit (.int .i64 0)), (3, cv), (8, .lit (.int .i64 1))] H) ?_ (k := 0) ⟨rfl, rfl, rfl⟩;rintro k fr H' ⟨rfl, rfl, rfl⟩;refine sem_run 9000 _ ?_;simp;refine sem_exit (sem_run 9000 _ ?_);simp;refine sem_ok ?_;simp [M28]
theorem stable_nil (L : HSrt p ext F) {H : HpD} {cv : D} : WcD p ext (F 27) [.lit .nilslice, .lit (.int .i64 0), cv] H (fun d H' => d = .tup [] ∧ H' = H) := by
  refine wc_of L.h27 (M := M27) rfl ok27 rfl (sem_run 9000 _ ?_);simp;refine sem_loop (NilI [(0, .lit .nilslice), (1, .lit (.int .i64 0)), (2, cv), (6, .lit (.int .i64 20)), (7, .lit (.int .i64 0)), (8, .lit (.int .i64 20))] H) ?_ (k := 0) ⟨rfl, rfl, rfl⟩;rintro k fr H' ⟨rfl, rfl, rfl⟩;refine sem_run 9000 _ ?_;simp;refine sem_exit (sem_run 9000 _ ?_);simp;refine sem_call (insertion_nil L) ?_;rintro _ _ ⟨rfl, rfl⟩;refine sem_run 9000 _ ?_;simp;refine sem_loop (NilI [(0, .lit .nilslice), (1, .lit (.int .i64 0)), (2, cv), (6, .lit (.int .i64 20))] _) ?_ (k := 0) ⟨rfl, rfl, rfl⟩;rintro k fr H' ⟨rfl, rfl, rfl⟩
  refine sem_run 9000 _ ?_;simp;refine sem_exit (sem_run 9000 _ ?_);simp;refine sem_ok ?_;simp [M27]
theorem sortStable_nil (L : HSrt p ext F) {H : HpD} {cv : D} : WcD p ext (F 26) [.lit .nilslice, cv] H (fun d H' => d = .tup [] ∧ H' = H) := by
  refine wc_of L.h26 (M := M26) rfl ok26 rfl (sem_run 9000 _ ?_);simp;refine sem_call (stable_nil L) ?_;rintro _ _ ⟨rfl, rfl⟩;refine sem_run 9000 _ ?_;simp;refine sem_ok ?_;simp [M26]
theorem sort_own (L : HAggr p ext F) {H0 H : HpD} {s : D} {l : List Row} {cv : D} {G : Row → Prop} {cmp : Row → Row → Int} (hc : Cmp p ext rowEnc G cv cmp) (hl : l.length < 1000000) (hG : ∀ r, r ∈ l → G r) (g : GrX H0 H 1 s (rowsE l)) :
    WcD p ext (F 26) [s, cv] H (fun d H' => d = .tup [] ∧ ∃ l', Gr H0 H' 1 s (rowsE l') ∧ l'.Perm l ∧ Srt cmp l' 0 l.length) := by
  rcases g.at_ with ⟨rfl, h⟩ | ⟨b, ex, rfl, h1, h2, h3⟩
  · have : l = [] := by simpa [rowsE] using h
    subst this;refine (sortStable_nil L.srt).mono ?_;rintro d H' ⟨rfl, rfl⟩;exact ⟨rfl, [], g.gr, .refl _, fun p q x y h1 h2 h3 => by simp at h3⟩
  · rw [rowsE_flat] at h3
    have sp := sortStable L.srt (E := rowEnc) (H := H) (bs := b) (c := l.length) (ex := ex) (X := l) (n := l.length) hc h2 rfl hl hG;rw [hp_self h3] at sp;rw [rows_len];refine sp.mono ?_;rintro d H' ⟨rfl, l', rfl, hp1, hs⟩;refine ⟨rfl, l', ⟨g.gr.sub.put h1, by simpa using rows_one, .inr ⟨b, ex, rowsE l', ?_, h1, h2, ?_, D.less_refl _⟩⟩, hp1, hs⟩
    · rw [rows_len, hp1.length_eq]
    · rw [rowsE_flat]; simp
def cmpR (a b : Row) : Int := cmpRow cmpV a b
theorem cmpR_ok (L : HAggr p ext F) {ks : List Int} : Cmp p ext rowEnc (fun r => Kin ks r ∧ r.length < 1000000) (.func (F 2) [] []) cmpR :=
  ⟨⟨F 2, [], [], rfl, fun x y hx _ => by simpa [rowEnc, cmpR] using schm_rows L.schm hx.2⟩, fun x y hx hy => cmpRow_ord.anti x y hx.1 hy.1, fun x y z hx hy hz => cmpRow_ord.trans x y z hx.1 hy.1 hz.1⟩
theorem aggr_sort_own (L : HAggr p ext F) {l : List Row} {ks : List Int} {H : HpD} (hl : Fine l) (hks : ∀ r, r ∈ l → Kin ks r) : WcD p ext (F 33) [rowsD l] H (fun d H' => ∃ l', Gr H H' 1 d (rowsE l') ∧ l'.Perm l ∧ Srt cmpR l' 0 l.length) := by
  refine wc_of L.h33 (M := M33) rfl ok33 rfl (sem_run 9000 _ ?_);simp;refine sem_call (still_own L hl) fun d H1 g1 => ?_;refine sem_run 9000 _ ?_;simp;refine sem_exact_call g1 fun H2 g2 _ _ => ?_;refine sem_call (sort_own L (cmpR_ok L) hl.1 (fun r hr => ⟨hks r hr, hl.2 r hr⟩) g2) ?_;rintro _ H3 ⟨rfl, l', g3, hp1, hs⟩;refine sem_run 9000 _ ?_;simp;refine sem_ret ?_;simp [M33];exact ⟨l', g3, hp1, hs⟩
end Go.Lib
end

section
set_option maxRecDepth 10000
namespace Go.Lib
open Go.Vm Go.Dv Go.Srt
variable {p : Prog} {ext : Ext} {F : Nat → Nat}
theorem add64_ext (hx : ∀ args h, ext (F 45) args h = extV .add64 args h) {x y : Nat} : FnD p ext (F 45) [.lit (.int .u64 (x : Int)), .lit (.int .u64 (y : Int)), .lit (.int .u64 0)] (.tup [.lit (.int .u64 (((x + y) % 18446744073709551616 : Nat) : Int)), .lit (.int .u64 (((x + y) / 18446744073709551616 : Nat) : Int))]) := by
  intro H ψ S h vs s k;simp only [VDl, VD, atomV] at k;obtain ⟨v, r, rfl, ⟨rfl, -⟩, w, r2, rfl, ⟨rfl, -⟩, u, r3, rfl, ⟨rfl, -⟩, rfl⟩ := k;refine wpc_ext (v := .tup [.int .u64 (((x + y) % 18446744073709551616 : Nat) : Int), .int .u64 (((x + y) / 18446744073709551616 : Nat) : Int)]) (h' := h) ?_ ⟨ψ, S, _, H, .refl, s, ?_, rfl, rfl⟩
  · rw [hx]; rfl
  · simp [VD, VDl, atomV]
theorem wr_u64m {n : Int} : wr .u64 n = n % 18446744073709551616 := by
  rw [wr_eq]; rfl
theorem wr_i64m {n : Int} (h1 : 0 ≤ n) (h2 : n < 18446744073709551616) : wr .i64 n = if n < 9223372036854775808 then n else n - 18446744073709551616 := by
  rw [wr_eq]
  have e : n % 18446744073709551616 = n := by omega
  have : IntKind.wrap .i64 n = if (decide (n % 18446744073709551616 ≥ 9223372036854775808)) = true then n % 18446744073709551616 - 18446744073709551616 else n % 18446744073709551616 := rfl
  rw [this, e]
  by_cases h : n < 9223372036854775808
  · rw [if_neg (by simp; omega), if_pos h]
  · rw [if_pos (by simp; omega), if_neg h]
theorem shr63 {n : Int} : shrI .i64 n 63 = n / 9223372036854775808 := by
  rw [shr_eq, Int.fdiv_eq_ediv_of_nonneg _ (by decide)]
  rfl
def hiT (t : Int) : D := .lit (.int .i64 (t / 18446744073709551616))
def loT (t : Int) : D := .lit (.int .u64 (t % 18446744073709551616))
def In64 (n : Int) : Prop := -9223372036854775808 ≤ n ∧ n < 9223372036854775808
theorem wide_sum {t n : Int} (hn : In64 n) : ∃ x y z q : Nat, t % 18446744073709551616 = x ∧ n % 18446744073709551616 = y ∧ (t + n) % 18446744073709551616 = z ∧ (x + y) % 18446744073709551616 = z ∧ (x + y) / 18446744073709551616 = q ∧ q ≤ 1 ∧
    t / 18446744073709551616 + (n / 9223372036854775808 + (q : Int)) = (t + n) / 18446744073709551616 := by
  unfold In64 at hn;exact ⟨(t % 18446744073709551616).toNat, (n % 18446744073709551616).toNat, ((t + n) % 18446744073709551616).toNat, _, by omega, by omega, by omega, by omega, rfl, by omega, by omega⟩
theorem wide_add (L : HAggr p ext F) (hx : ∀ args h, ext (F 45) args h = extV .add64 args h) {H : HpD} {b : Nat} {t n : Int} (hb : H.blk b = .cells [hiT t, loT t] false) (_hlt : b < H.next) (ht : -1000000000000000000000000000000000000 < t ∧ t < 1000000000000000000000000000000000000) (hn : In64 n) : WcD p ext (F 42) [.ptr b 0, .lit (.int .i64 n)] H (fun d H' => d = .tup [] ∧ H' = H.put b (.cells [hiT (t + n), loT (t + n)] false)) := by
  refine wc_of L.h42 (M := M42) rfl ok42 rfl (sem_run 9000 _ ?_);simp [hb, hiT, loT, wr_u64m];obtain ⟨x, y, z, q, e1, e2, e3, s1, s2, s3, s4⟩ := wide_sum (t := t) hn;rw [e1, e2, e3];refine sem_fn (add64_ext hx) (by first | exact D.les_refl _ | simp) (sem_run 9000 _ ?_);rw [s1, s2];have hn' := hn;unfold In64 at hn'
  have w1 : wr .i64 (q : Int) = q := by rw [wr_of] <;> omega
  have w2 : wr .i64 (n / 9223372036854775808 + (q : Int)) = n / 9223372036854775808 + (q : Int) := by rw [wr_of] <;> omega
  have w3 : wr .i64 (t / 18446744073709551616 + (n / 9223372036854775808 + (q : Int))) = (t + n) / 18446744073709551616 := by rw [s4, wr_of] <;> omega
  simp [hb, shr63, w1, w2, w3, hiT, loT];refine sem_ok ?_;simp [M42]
def term (c : Int) (r : Row) : Int := if (atV r c).null = true then 0 else (atV r c).n
def sumT (c : Int) (l : List Row) : Int := (l.map (term c)).sum
def Nums (c : Int) (l : List Row) : Prop := ∀ r, r ∈ l → In64 (atV r c).n
theorem sumT_snoc {c : Int} {l : List Row} {i : Nat} {r : Row} (h : l[i]? = some r) : sumT c (l.take (i + 1)) = sumT c (l.take i) + term c r := by
  rw [List.take_add_one, h]; simp [sumT]
theorem sumT_le {c : Int} : ∀ {l : List Row}, Nums c l → -(9223372036854775808 * (l.length : Int)) ≤ sumT c l ∧ sumT c l ≤ 9223372036854775808 * (l.length : Int)
  | [], _ => by simp [sumT]
  | r :: l, h => by
    have ih := sumT_le (c := c) (l := l) fun r hr => h r (by simp [hr]);have h0 := h r (by simp);unfold In64 at h0
    have : sumT c (r :: l) = term c r + sumT c l := by simp [sumT]
    rw [this, List.length_cons];unfold term
    split <;> omega
theorem Nums.take {c : Int} {l : List Row} (h : Nums c l) (i : Nat) : Nums c (l.take i) := fun r hr => h r (List.mem_of_mem_take hr)
instance {n : Int} : Decidable (In64 n) := by unfold In64; exact inferInstance
def numV (n : Int) : Vl := ⟨false, 1, n, [], by simp⟩
def sumV (c : Int) (l : List Row) : Vl × Bool := if In64 (sumT c l) then (numV (sumT c l), true) else (zv, false)
theorem wide_end {t : Int} (ht : -1000000000000000000000000000000000000 < t ∧ t < 1000000000000000000000000000000000000) : (¬ t / 18446744073709551616 = (wr .i64 (t % 18446744073709551616)) / 9223372036854775808) ↔ ¬ In64 t := by
  rw [wr_i64m (by omega) (by omega)];unfold In64
  split <;> omega
theorem wide_low {t : Int} (h : In64 t) : wr .i64 (t % 18446744073709551616) = t := by
  rw [wr_i64m (by omega) (by omega)];unfold In64 at h
  split <;> omega
def zeroC : List D := [.lit (.bool false), .lit (.int .i64 0), .lit (.int .i64 0), .lit .nilslice]
def SumI (H0 : HpD) (c : Int) (l : List Row) (k : Nat) (fr : FrD) (H : HpD) : Prop :=
  ∃ (i : Nat) (t : Int), k = l.length - i ∧ i ≤ l.length ∧ t = sumT c (l.take i) ∧ fr = [(1, .lit (.int .i64 c)), (4, .ptr H0.next 0), (6, .ptr (H0.next + 1) 0), (10, rowsD l), (11, .lit (.int .i64 (l.length : Int))), (12, .lit (.int .i64 (i : Int)))] ∧
    Sub H0 H ∧ H.blk (H0.next + 1) = .cells [hiT t, loT t] false ∧ H.blk H0.next = .cells zeroC false ∧ H0.next + 1 < H.next
theorem aggr_sum (L : HAggr p ext F) (hx : ∀ args h, ext (F 45) args h = extV .add64 args h) {l : List Row} {c : Int} (hl : Fine l) (hn : Nums c l) : FnD p ext (F 43) [rowsD l, .lit (.int .i64 c)] (.tup [.agg (sumV c l).1.c, .lit (.bool (sumV c l).2)]) := by
  refine fn_of L.h43 (M := M43) rfl ok43 rfl fun H => sem_run 9000 _ ?_;simp;refine sem_loop (SumI H c l) ?_ (k := l.length) ⟨0, 0, by simp, by simp, by simp [sumT], rfl, (by repeat (first | exact Sub.refl | apply Sub.new | refine Sub.put ?_ (by first | omega | (simp only [put_next, new_next]; omega)))), by simp [hiT, loT], by simp [zeroC], by simp⟩;rintro k fr H' ⟨i, t, rfl, hi, ht, rfl, hs, h1, h0, hlt⟩;refine sem_run 9000 _ ?_;simp;have hl1 := hl.1
  by_cases c1 : i < l.length
  · have hx' : l[i]? = some l[i] := by simp
    simp [c1];refine sem_fn (schm_at L.schm) (by first | exact D.les_refl _ | simp) (sem_run 9000 _ ?_);simp;have hb := sumT_le (hn.take i);rw [← ht, List.length_take, Nat.min_eq_left hi] at hb
    have hw : wr .i64 ((i : Int) + 1) = ((i + 1 : Nat) : Int) := by rw [wr_of] <;> omega
    have hterm := sumT_snoc (c := c) hx';rw [← ht] at hterm
    have hne : H.next + 1 ≠ H'.next := by omega
    have hne0 : H.next ≠ H'.next := by omega
    cases hnul : (atV l[i] c).null with
    | false =>
      simp;refine sem_call (wide_add L hx (t := t) (n := (atV l[i] c).n) (by simp [hne, h1]) (by simp; omega) (by omega) (hn _ (by simp))) ?_;rintro _ H2 ⟨rfl, rfl⟩;refine sem_run 9000 _ ?_;simp;refine sem_ok ?_;refine ⟨_, by omega, i + 1, t + (atV l[i] c).n, rfl, by omega, ?_, by simp [hw], (by have := hs.next; repeat (first | exact hs | apply Sub.new | refine Sub.put ?_ (by first | omega | (simp only [put_next, new_next]; omega)))), by simp, ?_, by simp; omega⟩
      · rw [hterm, term, hnul]; simp
      · simp [hne0, h0]
    | true =>
      simp;refine sem_ok ?_;refine ⟨_, by omega, i + 1, t, rfl, by omega, ?_, by simp [hw], (by have := hs.next; repeat (first | exact hs | apply Sub.new | refine Sub.put ?_ (by first | omega | (simp only [put_next, new_next]; omega)))), ?_, ?_, by simp; omega⟩
      · rw [hterm, term, hnul]; simp
      · simp [hne, h1]
      · simp [hne0, h0]
  · have : i = l.length := by omega
    subst this;simp;refine sem_exit (sem_run 9000 _ ?_);have hb := sumT_le hn;rw [List.take_length] at ht;rw [← ht] at hb;have he := wide_end (t := t) (by omega)
    by_cases c2 : In64 t
    · have hq : t / 18446744073709551616 = (wr .i64 (t % 18446744073709551616)) / 9223372036854775808 := Decidable.byContradiction fun h => he.1 h c2
      rw [wide_low c2] at hq;simp [h1, hiT, loT, shr63, hq, wide_low c2, h0, zeroC];refine sem_ret ?_;simp [M43]
      have e : sumV c l = (numV t, true) := by rw [sumV, ← ht, if_pos c2]
      rw [e];exact .le (by have := hs.next; repeat (first | exact hs | apply Sub.new | refine Sub.put ?_ (by first | omega | (simp only [put_next, new_next]; omega)))) (by simp [Vl.c, numV, byD, byE, D.le]) (by simp)
    · have hq := he.2 c2
      simp [h1, hiT, loT, shr63, hq, h0, zeroC];refine sem_ret ?_;simp [M43]
      have e : sumV c l = (zv, false) := by rw [sumV, ← ht, if_neg c2]
      rw [e];exact .le (by have := hs.next; repeat (first | exact hs | apply Sub.new | refine Sub.put ?_ (by first | omega | (simp only [put_next, new_next]; omega)))) (by simp [Vl.c, zv, byD, byE, D.le]) (by simp)
end Go.Lib
end

section
set_option maxRecDepth 10000
namespace Go.Lib
open Go.Vm Go.Dv Go.Srt
variable {p : Prog} {ext : Ext} {F : Nat → Nat}
def setKind (v : Vl) (k : Int) : Vl := ⟨v.null, k, v.n, v.bytes, v.small⟩
theorem vl_setk {v : Vl} {k : Int} : spliceD v.c 1 [.lit (.int .i64 k)] = (setKind v k).c := rfl
def endS (sg : Int) (out v : Vl) : Vl := if v.null = true then setKind out v.kind else if out.null = true ∨ 0 < cmpV v out * sg then v else out
def nullV : Vl := ⟨true, 0, 0, [], by simp⟩
def endF (c sg : Int) (l : List Row) : Vl := (l.map fun r => atV r c).foldl (endS sg) nullV
theorem endF_snoc {c sg : Int} {l : List Row} {i : Nat} {r : Row} (h : l[i]? = some r) : endF c sg (l.take (i + 1)) = endS sg (endF c sg (l.take i)) (atV r c) := by
  rw [List.take_add_one, h]; simp [endF]
def EndI (H0 : HpD) (c sg : Int) (l : List Row) (k : Nat) (fr : FrD) (H : HpD) : Prop :=
  ∃ (i : Nat) (o : Vl), k = l.length - i ∧ i ≤ l.length ∧ o = endF c sg (l.take i) ∧ fr = [(1, .lit (.int .i64 c)), (2, .lit (.int .i64 sg)), (6, .ptr H0.next 0), (7, .ptr (H0.next + 1) 0), (12, rowsD l), (13, .lit (.int .i64 (l.length : Int))), (14, .lit (.int .i64 (i : Int)))] ∧
    Sub H0 H ∧ H.blk (H0.next + 1) = .cells o.c false ∧ H.blk H0.next = .cells zeroC false ∧ H0.next + 1 < H.next
theorem aggr_end (L : HAggr p ext F) {l : List Row} {c sg : Int} (hl : Fine l) (hsg : sg = 1 ∨ sg = -1) : FnD p ext (F 44) [rowsD l, .lit (.int .i64 c), .lit (.int .i64 sg)] (.agg (endF c sg l).c) := by
  refine fn_of L.h44 (M := M44) rfl ok44 rfl fun H => sem_run 9000 _ ?_;simp;refine sem_weak (Weak.tell (b := H.next + 1) (ro := false) (cs := [.lit (.bool true), .lit (.int .i64 0), .lit (.int .i64 0), .lit .nilslice]) (cs' := nullV.c) (by simp) (by simp [Vl.c, nullV, byD, byE, D.le, D.les])) ?_;refine sem_loop (EndI H c sg l) ?_ (k := l.length) ⟨0, nullV, by simp, by simp, by simp [endF], rfl, (by repeat (first | exact Sub.refl | apply Sub.new | refine Sub.put ?_ (by first | omega | (simp only [put_next, new_next]; omega)))), by simp, by simp [zeroC], by simp⟩;rintro k fr H' ⟨i, o, rfl, hi, ho, rfl, hs, h1, h0, hlt⟩
  refine sem_run 9000 _ ?_;simp;have hl1 := hl.1
  by_cases c1 : i < l.length
  · have hx' : l[i]? = some l[i] := by simp
    simp [c1];refine sem_fn (schm_at L.schm) (by first | exact D.les_refl _ | simp) (sem_run 9000 _ ?_);simp
    have hw : wr .i64 ((i : Int) + 1) = ((i + 1 : Nat) : Int) := by rw [wr_of] <;> omega
    have hterm := endF_snoc (c := c) (sg := sg) hx';rw [← ho] at hterm
    have hne : H.next + 1 ≠ H'.next := by omega
    have hne0 : H.next ≠ H'.next := by omega
    have hlt2 : H.next + 1 < H'.next + 1 := by omega
    cases hnul : (atV l[i] c).null with
    | true =>
      simp [hne, h1, vl_setk];refine sem_ok ?_;refine ⟨_, by omega, i + 1, setKind o (atV l[i] c).kind, rfl, by omega, ?_, by simp [hw], (by have := hs.next; repeat (first | exact hs | apply Sub.new | refine Sub.put ?_ (by first | omega | (simp only [put_next, new_next]; omega)))), by simp, ?_, by simp; omega⟩
      · rw [hterm, endS, if_pos hnul]
      · simp [hne0, h0]
    | false =>
      cases honul : o.null with
      | true =>
        simp [hne, h1, honul];refine sem_ok ?_;refine ⟨_, by omega, i + 1, atV l[i] c, rfl, by omega, ?_, by simp [hw], (by have := hs.next; repeat (first | exact hs | apply Sub.new | refine Sub.put ?_ (by first | omega | (simp only [put_next, new_next]; omega)))), by simp, ?_, by simp; omega⟩
        · rw [hterm, endS, if_neg (by simp [hnul]), if_pos (.inl honul)]
        · simp [hne0, h0]
      | false =>
        simp [hne, h1, honul];refine sem_fn (schm_compare L.schm) (by first | exact D.les_refl _ | simp) (sem_run 9000 _ ?_);simp;have hab := cmpV_abs (a := atV l[i] c) (b := o)
        have hm : -1 ≤ cmpV (atV l[i] c) o * sg ∧ cmpV (atV l[i] c) o * sg ≤ 1 := by
          rcases hsg with rfl | rfl <;> omega
        rw [wr_of (by omega) (by omega)]
        by_cases c3 : 0 < cmpV (atV l[i] c) o * sg
        · simp [c3, hne, h1]
          refine sem_ok ?_;refine ⟨_, by omega, i + 1, atV l[i] c, rfl, by omega, ?_, by simp [hw], (by have := hs.next; repeat (first | exact hs | apply Sub.new | refine Sub.put ?_ (by first | omega | (simp only [put_next, new_next]; omega)))), by simp, ?_, by simp; omega⟩
          · rw [hterm, endS, if_neg (by simp [hnul]), if_pos (.inr c3)]
          · simp [hne0, h0]
        · simp [c3]
          refine sem_ok ?_;refine ⟨_, by omega, i + 1, o, rfl, by omega, ?_, by simp [hw], (by have := hs.next; repeat (first | exact hs | apply Sub.new | refine Sub.put ?_ (by first | omega | (simp only [put_next, new_next]; omega)))), by simp [hne, h1], ?_, by simp; omega⟩
          · rw [hterm, endS, if_neg (by simp [hnul]), if_neg (by simp [honul, c3])]
          · simp [hne0, h0]
  · have : i = l.length := by omega
    subst this;simp;refine sem_exit (sem_run 9000 _ ?_)
    have hlt0 : H.next < H'.next := by omega
    simp [h1, h0, zeroC];refine sem_ret ?_;simp [M44];rw [List.take_length] at ho;rw [← ho];exact .le (by have := hs.next; repeat (first | exact hs | apply Sub.new | refine Sub.put ?_ (by first | omega | (simp only [put_next, new_next]; omega)))) (by simp) (by simp)
end Go.Lib
end

section
set_option maxRecDepth 10000
namespace Go.Lib
open Go.Vm Go.Dv Go.Srt
variable {p : Prog} {ext : Ext} {F : Nat → Nat}
structure Ag where
  kind : Int
  col : Int
def Ag.c (a : Ag) : List D := [.lit (.int .i64 a.kind), .lit (.int .i64 a.col)]
def agsE (l : List Ag) : List (List D) := l.map Ag.c
def agsD (l : List Ag) : D := .row 2 .p (agsE l)
theorem ags_len {l : List Ag} : (agsE l).length = l.length := by simp [agsE]
theorem lenb_ags {l : List Ag} : lenbD (agsD l) = some (.lit (.int .i64 (l.length : Int))) := by simp [agsD, ags_len]
theorem at_ags {l : List Ag} {n : Nat} : atO 2 (agsD l) (some n) = elemD (l[n]?.map Ag.c) := by simp [agsD, agsE]
theorem ag_len {a : Ag} : a.c.length = 2 := rfl
theorem ag_flats {a : Ag} : flatsD a.c = true := rfl
theorem ag_take {a : Ag} : a.c.take 2 = a.c := rfl
theorem ag_drop {a : Ag} : a.c.drop 2 = [] := rfl
attribute [simp] ags_len lenb_ags at_ags ag_len ag_flats ag_take ag_drop
def oneF (l : List Row) (a : Ag) : Vl × Bool :=
  if a.kind = 1 then (numV l.length, true) else if a.kind = 2 then sumV a.col l else if a.kind = 3 then (endF a.col (-1) l, true) else (endF a.col 1 l, true)
def AgOk (l : List Row) (a : Ag) : Prop := a.kind = 2 → Nums a.col l
theorem aggr_one (L : HAggr p ext F) (hx : ∀ args h, ext (F 45) args h = extV .add64 args h) {l : List Row} {a : Ag} (hl : Fine l) (ha : AgOk l a) : FnD p ext (F 41) [rowsD l, .agg a.c] (.tup [.agg (oneF l a).1.c, .lit (.bool (oneF l a).2)]) := by
  refine fn_of L.h41 (M := M41) rfl ok41 rfl fun H => sem_run 9000 _ ?_;simp [Ag.c];have e : ∀ {x y : Vl × Bool} {c : Prop} [Decidable c], c → (if c then x else y) = x := fun h => if_pos h;refine sem_if (fun c1 => ?_) fun c1 => ?_
  · simp
    refine sem_ret ?_;simp [M41];rw [oneF, if_pos c1];exact .le (by repeat (first | exact Sub.refl | apply Sub.new | refine Sub.put ?_ (by first | omega | (simp only [put_next, new_next]; omega)))) (by simp [Vl.c, numV, byD, byE, D.le]) (by simp)
  simp;refine sem_if (fun c2 => ?_) fun c2 => ?_
  · simp
    refine sem_fn (aggr_sum L hx hl (ha c2)) (by first | exact D.les_refl _ | simp) (sem_run 9000 _ ?_);simp;refine sem_ret ?_;simp [M41];rw [oneF, if_neg c1, if_pos c2];exact .le (by repeat (first | exact Sub.refl | apply Sub.new | refine Sub.put ?_ (by first | omega | (simp only [put_next, new_next]; omega)))) (by simp) (by simp)
  simp;refine sem_if (fun c3 => ?_) fun c3 => ?_
  · simp
    refine sem_fn (aggr_end L hl (.inr rfl)) (by first | exact D.les_refl _ | simp) (sem_run 9000 _ ?_);simp;refine sem_ret ?_;simp [M41];rw [oneF, if_neg c1, if_neg c2, if_pos c3];exact .le (by repeat (first | exact Sub.refl | apply Sub.new | refine Sub.put ?_ (by first | omega | (simp only [put_next, new_next]; omega)))) (by simp) (by simp)
  simp;refine sem_fn (aggr_end L hl (.inl rfl)) (by first | exact D.les_refl _ | simp) (sem_run 9000 _ ?_);simp;refine sem_ret ?_;simp [M41];rw [oneF, if_neg c1, if_neg c2, if_neg c3];exact .le (by repeat (first | exact Sub.refl | apply Sub.new | refine Sub.put ?_ (by first | omega | (simp only [put_next, new_next]; omega)))) (by simp) (by simp)
theorem clip4_own (L : HSchm p ext F) {H0 H : HpD} {s : D} {el : List (List D)} (g : Gr H0 H 4 s el) : WcD p ext (F 13) [s] H (fun d H' => Gr H0 H' 4 d el) := by
  refine wc_of L.h13 (M := M13) rfl ok13 rfl (sem_run 9000 _ ?_);rcases g.at_ with ⟨rfl, rfl⟩ | ⟨b, ex, el0, rfl, h1, h2, h3, h4⟩
  · simp [slc_nil]
    refine sem_ret ?_;simp [M13];exact g
  · simp [slc_own]
    refine sem_ret ?_;simp [M13];exact ⟨g.sub, g.len, .inr ⟨b, true, el0, rfl, h1, h2, h3, h4⟩⟩
def oks (l : List Row) (ags : List Ag) : Bool := ags.all fun a => (oneF l a).2
def vals (l : List Row) (ags : List Ag) : Row := ags.map fun a => (oneF l a).1
theorem oks_snoc {l : List Row} {ags : List Ag} {i : Nat} {a : Ag} (h : ags[i]? = some a) : oks l (ags.take (i + 1)) = (oks l (ags.take i) && (oneF l a).2) := by
  rw [List.take_add_one, h]; simp [oks]
theorem vals_snoc {l : List Row} {ags : List Ag} {i : Nat} {a : Ag} (h : ags[i]? = some a) : vals l (ags.take (i + 1)) = vals l (ags.take i) ++ [(oneF l a).1] := by
  rw [List.take_add_one, h]; simp [vals]
def AllI (H0 : HpD) (r : Row) (l : List Row) (ags : List Ag) (k : Nat) (fr : FrD) (H : HpD) : Prop :=
  ∃ (i : Nat) (s : D), k = ags.length - i ∧ i ≤ ags.length ∧ fr = [(1, rowsD l), (8, s), (14, agsD ags), (15, .lit (.int .i64 (ags.length : Int))), (16, .lit (.int .i64 (i : Int)))] ∧ Gr H0 H 4 s (rowE (r ++ vals l (ags.take i))) ∧ oks l (ags.take i) = true
def AllR (H0 : HpD) (r : Row) (l : List Row) (ags : List Ag) (d : D) (H' : HpD) : Prop :=
  (oks l ags = true ∧ ∃ s', d = .tup [s', .lit (.bool true)] ∧ Gr H0 H' 4 s' (rowE (r ++ vals l ags))) ∨ (oks l ags = false ∧ d = .tup [.lit .nilslice, .lit (.bool false)] ∧ Sub H0 H')
theorem oks_take {l : List Row} {ags : List Ag} {i : Nat} (h : oks l (ags.take i) = false) : oks l ags = false := by
  rw [oks, ← Bool.not_eq_true, List.all_eq_true] at h ⊢;exact fun hh => h fun a ha => hh a (List.mem_of_mem_take ha)
theorem all_own (L : HAggr p ext F) (hx : ∀ args h, ext (F 45) args h = extV .add64 args h) {H0 H : HpD} {s : D} {r : Row} {l : List Row} {ags : List Ag} (hl : Fine l) (ha : ∀ a, a ∈ ags → AgOk l a) (hb : r.length + ags.length < 1000) (g : Gr H0 H 4 s (rowE r)) : WcD p ext (F 36) [s, rowsD l, agsD ags] H (fun d H' => AllR H0 r l ags d H') := by
  refine wc_of L.h36 (M := M36) rfl ok36 rfl (sem_run 9000 _ ?_);simp;refine sem_loop (AllI H0 r l ags) ?_ (k := ags.length) ⟨0, s, by simp, by simp, rfl, by simpa [vals] using g, by simp [oks]⟩;rintro k fr H' ⟨i, s, rfl, hi, rfl, g, hok⟩;refine sem_run 9000 _ ?_;simp
  by_cases c : i < ags.length
  · have hx' : ags[i]? = some ags[i] := by simp
    simp [c];refine sem_fn (aggr_one L hx hl (ha ags[i] (by simp))) (by first | exact D.les_refl _ | simp) (sem_run 9000 _ ?_);simp
    have hw : wr .i64 ((i : Int) + 1) = ((i + 1 : Nat) : Int) := by rw [wr_of] <;> omega
    have ho := oks_snoc (l := l) hx';rw [hok, Bool.true_and] at ho;have hv := vals_snoc (l := l) hx'
    cases hk : (oneF l ags[i]).2 with
    | false =>
      rw [hk] at ho;simp;refine sem_ret ?_;simp [M36];refine sem_ret ?_;simp;exact .inr ⟨oks_take ho, rfl, (by have := g.sub.next; repeat (first | exact g.sub | apply Sub.new | refine Sub.put ?_ (by first | omega | (simp only [put_next, new_next]; omega))))⟩
    | true =>
      rw [hk] at ho;simp;refine sem_push (g.mono (by repeat (first | exact Sub.refl | apply Sub.new | refine Sub.put ?_ (by first | omega | (simp only [put_next, new_next]; omega))))) rfl rfl (roomyD (by simp [row_len, vals]; omega) (by simp [row_len, vals]; omega)) fun s' H1 g1 _ _ => ?_;simp;refine sem_ok ?_
      have e : rowE (r ++ vals l (ags.take i)) ++ [(oneF l ags[i]).1.c] = rowE (r ++ vals l (ags.take (i + 1))) := by rw [hv]; simp [rowE]
      rw [e] at g1;exact ⟨_, by omega, i + 1, s', rfl, by omega, by rw [hw], g1, ho⟩
  · have : i = ags.length := by omega
    subst this;simp;refine sem_exit (sem_run 9000 _ ?_);rw [List.take_length] at g hok;simp;refine sem_call (clip4_own L.schm g) fun d H2 g2 => ?_;refine sem_run 9000 _ ?_;simp;refine sem_ret ?_;simp [M36];exact .inl ⟨hok, d, rfl, g2⟩
end Go.Lib
end

section
set_option maxRecDepth 10000
namespace Go.Lib
open Go.Vm Go.Dv Go.Srt
variable {p : Prog} {ext : Ext} {F : Nat → Nat}
theorem WeakV.tup2 {d d2 : D} {H H2 : HpD} {w : V} (k : WeakV d H d2 H2) : WeakV (.tup [d, .lit w]) H (.tup [d2, .lit w]) H2 := by
  intro ψ S h v s kv;simp only [VD, VDl] at kv;obtain ⟨l', rfl, x, r, rfl, kx, y, r2, rfl, ky, rfl⟩ := kv;obtain ⟨ψ', S', x1, s1, k1⟩ := k ψ S h x s kx;refine ⟨ψ', S', x1, s1, ?_⟩;simp only [VD, VDl];exact ⟨_, rfl, x, _, rfl, k1, y, _, rfl, ky, rfl⟩
theorem all_row (L : HAggr p ext F) (hx : ∀ args h, ext (F 45) args h = extV .add64 args h) {H0 H : HpD} {s : D} {r : Row} {l : List Row} {ags : List Ag} (hl : Fine l) (ha : ∀ a, a ∈ ags → AgOk l a) (hb : r.length + ags.length < 1000) (g : Gr H0 H 4 s (rowE r)) :
    WcD p ext (F 36) [s, rowsD l, agsD ags] H fun d H' => d = .tup [rowD (if oks l ags then r ++ vals l ags else []), .lit (.bool (oks l ags))] ∧ Sub H0 H' := by
  refine WcD.weak ((all_own L hx hl ha hb g).mono ?_);rintro d H' (⟨hk, s', rfl, g'⟩ | ⟨hk, rfl, hs⟩)
  · obtain ⟨H2, w, sub, _⟩ := g'.fin row_underss (m := .p) (by simp)
    refine ⟨_, H2, WeakV.tup2 w, ?_, sub⟩;rw [hk]; rfl
  · refine ⟨_, H', WeakV.tup2 (WeakV.le (d' := rowD []) (by simp [rowD, rowE, D.le])), ?_, hs⟩
    rw [hk]; rfl
def cmpC (c : Int) (a b : Row) : Int := cmpV (atV a c) (atV b c)
theorem groups1 (L : HAggr p ext F) {a b : Row} {c : Int} : FnD p ext (F 38) [rowD a, rowD b, .rptr [.lit (.int .i64 c)] 0] (.lit (.int .i64 (cmpC c a b))) := by
  refine fn_of L.h38 (M := M38) rfl ok38 rfl fun H => sem_run 9000 _ ?_;simp;refine sem_dfn (schm_at L.schm) (by first | exact D.les_refl _ | simp) (sem_run 9000 _ ?_);simp;refine sem_dfn (schm_at L.schm) (by first | exact D.les_refl _ | simp) (sem_run 9000 _ ?_);simp;refine sem_dfn (schm_compare L.schm) (by first | exact D.les_refl _ | simp) (sem_run 9000 _ ?_);simp;refine sem_ret ?_;simp [M38, cmpC];exact .same (by simp)
theorem cmpC_ok (L : HAggr p ext F) {c : Int} {k : Int} : Cmp p ext rowEnc (fun r => (atV r c).kind = k) (.func (F 38) [] [.rptr [.lit (.int .i64 c)] 0]) (cmpC c) :=
  ⟨⟨F 38, [], [.rptr [.lit (.int .i64 c)] 0], rfl, fun x y _ _ => by simpa [rowEnc] using groups1 L⟩, fun x y hx hy => cmpV_ord.anti _ _ hx hy, fun x y z hx hy hz => cmpV_ord.trans _ _ _ hx hy hz⟩
theorem groups_neg (L : HAggr p ext F) (hx : ∀ args h, ext (F 45) args h = extV .add64 args h) {l : List Row} {c : Int} {ags : List Ag} (hl : Fine l) (ha : ∀ a, a ∈ ags → AgOk l a) (hb : ags.length < 1000) (hc : c < 0) : FnD p ext (F 32) [rowsD l, .lit (.int .i64 c), agsD ags] (.tup [rowsD (if oks l ags then [vals l ags] else []), .lit (.bool (oks l ags))]) := by
  refine fn_of L.h32 (M := M32) rfl ok32 rfl fun H => sem_run 9000 _ ?_;simp [hc];refine sem_call (all_row L hx (H0 := H) (r := []) hl ha (by simpa using hb) (by simpa [rowE] using Gr.start)) ?_;rintro _ H2 ⟨rfl, hs⟩;refine sem_run 9000 _ ?_;simp
  cases hk : oks l ags with
  | true =>
    simp;refine sem_ret ?_;simp [M32];exact .le (by have := hs.next; repeat (first | exact hs | apply Sub.new | refine Sub.put ?_ (by first | omega | (simp only [put_next, new_next]; omega)))) (by simp [rowsD, rowsE, D.le]) (by simp)
  | false =>
    simp;refine sem_ret ?_;simp [M32];exact .le (by have := hs.next; repeat (first | exact hs | apply Sub.new | refine Sub.put ?_ (by first | omega | (simp only [put_next, new_next]; omega)))) (by simp [rowsD, rowsE, D.le]) (by simp)
def cnt (c : Int) (r : Row) (t : List Row) : Nat := 1 + (t.takeWhile fun x => decide (cmpV (atV x c) (atV r c) = 0)).length
theorem takeWhile_len {p : Row → Bool} : ∀ {t : List Row} {n : Nat}, n ≤ t.length → (∀ q x, q < n → t[q]? = some x → p x = true) → (n = t.length ∨ ∃ x, t[n]? = some x ∧ p x = false) → (t.takeWhile p).length = n
  | [], n, h, _, _ => by simp at h; simp [h]
  | x :: t, 0, _, _, h => by
    rcases h with h | ⟨y, e, hy⟩
    · simp at h
    · simp at e; subst e; simp [hy]
  | x :: t, n + 1, h1, h2, h3 => by
    have := h2 0 x (by omega) rfl;rw [List.takeWhile_cons, if_pos this, List.length_cons, takeWhile_len (n := n) (by simpa using h1) (fun q y hq hy => h2 (q + 1) y (by omega) (by simpa using hy)) (by simpa using h3)]
theorem cnt_eq {c : Int} {r : Row} {t : List Row} {i : Nat} (h1 : 1 ≤ i) (h2 : i ≤ t.length + 1) (hq : ∀ q x, q + 1 < i → t[q]? = some x → cmpV (atV x c) (atV r c) = 0) (h3 : i = t.length + 1 ∨ ∃ x, t[i - 1]? = some x ∧ ¬ cmpV (atV x c) (atV r c) = 0) : i = cnt c r t := by
  unfold cnt
  rw [takeWhile_len (n := i - 1) (by omega) (fun q x h e => by simpa using hq q x (by omega) e) (by
    rcases h3 with h | ⟨x, e, h⟩
    · left; omega
    · right; exact ⟨x, e, by simpa using h⟩)]
  omega
def runG (c : Int) (ags : List Ag) : Nat → List Row → List Row × Bool
  | _, [] => ([], true)
  | 0, _ => ([], true)
  | w + 1, r :: t => if oks ((r :: t).take (cnt c r t)) ags then
      match runG c ags w ((r :: t).drop (cnt c r t)) with
      | (x, true) => ((atV r c :: vals ((r :: t).take (cnt c r t)) ags) :: x, true)
      | (_, false) => ([], false)
    else ([], false)
theorem runG_false {c : Int} {ags : List Ag} : ∀ {w : Nat} {l : List Row}, (runG c ags w l).2 = false → runG c ags w l = ([], false)
  | w, [], h => by unfold runG at h; cases w <;> simp at h
  | 0, _ :: _, h => by simp [runG] at h
  | w + 1, r :: t, h => by
    unfold runG at h ⊢
    split
    · rename_i hk
      rw [if_pos hk] at h
      split
      · rename_i x he
        rw [he] at h; simp at h
      · rfl
    · rfl
theorem runG_fuel {c : Int} {ags : List Ag} : ∀ {w : Nat} {l : List Row}, l.length ≤ w → runG c ags w l = runG c ags l.length l
  | w, [], _ => by cases w <;> simp [runG]
  | 0, _ :: _, h => by simp at h
  | w + 1, r :: t, h => by
    have hd : ((r :: t).drop (cnt c r t)).length ≤ t.length := by
      have : 1 ≤ cnt c r t := by unfold cnt; omega
      simp only [List.length_drop, List.length_cons]; omega
    rw [List.length_cons];unfold runG;rw [runG_fuel (w := w) (by simp at h; omega), runG_fuel (w := t.length) hd]
theorem runG_step {c : Int} {ags : List Ag} {r : Row} {t : List Row} {i : Nat} (hi : i = cnt c r t) (hk : oks ((r :: t).take i) ags = true) :
    runG c ags (r :: t).length (r :: t) = if (runG c ags ((r :: t).drop i).length ((r :: t).drop i)).2 then ((atV r c :: vals ((r :: t).take i) ags) :: (runG c ags ((r :: t).drop i).length ((r :: t).drop i)).1, true) else ([], false) := by
  subst hi
  have hd : ((r :: t).drop (cnt c r t)).length ≤ t.length := by
    have : 1 ≤ cnt c r t := by unfold cnt; omega
    simp only [List.length_drop, List.length_cons]; omega
  rw [← runG_fuel hd]
  conv => lhs; rw [List.length_cons]; unfold runG
  rw [if_pos hk]
  split
  · rename_i x e; simp [e]
  · rename_i x e; simp [e]
theorem runG_stop {c : Int} {ags : List Ag} {r : Row} {t : List Row} {i : Nat} (hi : i = cnt c r t) (hk : oks ((r :: t).take i) ags = false) : runG c ags (r :: t).length (r :: t) = ([], false) := by
  subst hi;rw [List.length_cons]; unfold runG;rw [if_neg (by simp [hk])]
theorem rowsE_drop {l : List Row} {n : Nat} : (rowsE l).drop n = rowsE (l.drop n) := by simp [rowsE, List.map_drop]
theorem rowsE_take {l : List Row} {n : Nat} : (rowsE l).take n = rowsE (l.take n) := by simp [rowsE, List.map_take]
theorem slc_take {l : List Row} {i : Nat} (h : i ≤ l.length) : slcD 1 (rowsD l) none (some (.lit (.int .i64 (i : Int)))) none = some (rowsD (l.take i)) := by
  have := slcRow_eq (sz := 1) (m := .p) (l := rowsE l) (lo := none) (hi := some (.int .i64 (i : Int))) (mx := none);simp only [Option.map] at this;rw [rowsD, this];simp [needH, slcRow, boundM, boundH, boundL, cutMd, ble_d, h, rowsD, rowsE_take]
theorem slc_drop {l : List Row} {i : Nat} (h : i ≤ l.length) : slcD 1 (rowsD l) (some (.lit (.int .i64 (i : Int)))) none none = some (rowsD (l.drop i)) := by
  have := slcRow_eq (sz := 1) (m := .p) (l := rowsE l) (lo := some (.int .i64 (i : Int))) (hi := none) (mx := none);simp only [Option.map] at this;rw [rowsD, this];simp [needH, slcRow, boundM, boundH, boundL, cutMd, ble_d, h, rowsD];rw [← rowsE_drop, List.take_of_length_le (by simp)]
def GrpI (H0 : HpD) (c : Int) (ags : List Ag) (l' : List Row) (k : Nat) (fr : FrD) (H : HpD) : Prop :=
  ∃ (rest done : List Row) (s : D), k = rest.length ∧ (∀ r, r ∈ rest → r ∈ l') ∧ done.length + rest.length ≤ l'.length ∧ fr = [(2, agsD ags), (4, .rptr [.lit (.int .i64 c)] 0), (10, rowsD rest), (11, s)] ∧ Gr H0 H 1 s (rowsE done) ∧
    runG c ags l'.length l' = (if (runG c ags rest.length rest).2 then (done ++ (runG c ags rest.length rest).1, true) else ([], false))
def CntI (H0 : HpD) (c : Int) (ags : List Ag) (r : Row) (t : List Row) (s : D) (k : Nat) (fr : FrD) (H : HpD) : Prop :=
  ∃ i : Nat, k = t.length + 1 - i ∧ 1 ≤ i ∧ i ≤ t.length + 1 ∧ (∀ q x, q + 1 < i → t[q]? = some x → cmpV (atV x c) (atV r c) = 0) ∧
    (lk fr 2 = agsD ags ∧ lk fr 4 = .rptr [.lit (.int .i64 c)] 0 ∧ lk fr 10 = rowsD (r :: t) ∧ lk fr 11 = s ∧ lk fr 12 = .rptr (atV r c).c 0 ∧ lk fr 13 = .lit (.int .i64 (i : Int))) ∧ Sub H0 H
def GrpR (c : Int) (ags : List Ag) (l : List Row) (d : D) : Prop :=
  ∃ l' : List Row, l'.Perm l ∧ Srt (cmpC c) l' 0 l.length ∧ d = .tup [rowsD (runG c ags l'.length l').1, .lit (.bool (runG c ags l'.length l').2)]
def GrpQ (H0 : HpD) (c : Int) (ags : List Ag) (l : List Row) (d : D) (H' : HpD) : Prop := ∃ d2 H2, WeakV d H' d2 H2 ∧ GrpR c ags l d2 ∧ Sub H0 H2
set_option maxHeartbeats 1000000 in
theorem groups_own (L : HAggr p ext F) (hx : ∀ args h, ext (F 45) args h = extV .add64 args h) {l : List Row} {c k : Int} {ags : List Ag} {H : HpD} (hl : Fine l) (hk : ∀ r, r ∈ l → (atV r c).kind = k) (ha : ∀ l', (∀ r, r ∈ l' → r ∈ l) → ∀ a, a ∈ ags → AgOk l' a) (hb : ags.length < 900) (hc : ¬ c < 0) : WcD p ext (F 32) [rowsD l, .lit (.int .i64 c), agsD ags] H (fun d H' => GrpQ H c ags l d H') := by
  refine wc_of L.h32 (M := M32) rfl ok32 rfl (sem_run 9000 _ ?_);simp [hc];refine sem_call (still_own L hl) fun d H1 g1 => ?_;refine sem_run 9000 _ ?_;simp;refine sem_exact_call g1 fun H2 g2 _ _ => ?_;refine sem_call (sort_own L (cmpC_ok L (c := c) (k := k)) hl.1 hk g2) ?_;rintro _ H3 ⟨rfl, l', g3, hp1, hsrt⟩;refine sem_turn_ops g3 10 (by simp) fun H4 s4 k4 n4 => sem_run 9000 _ ?_;simp;have hl' : Fine l' := ⟨by rw [hp1.length_eq]; exact hl.1, fun r hr => hl.2 r (hp1.mem_iff.1 hr)⟩;have hl1 := hl'.1
  refine sem_loop (GrpI H4 c ags l') ?_ (k := l'.length) ⟨l', [], .lit .nilslice, rfl, fun _ h => h, by simp, rfl, by simpa [rowsE] using Gr.start, by
    cases h : (runG c ags l'.length l').2 with
    | true => simp [← h]
    | false => rw [runG_false h]; simp⟩
  rintro k' fr H' ⟨rest, done, s, rfl, hsub, hlen, rfl, g, heq⟩;refine sem_run 9000 _ ?_;simp
  cases rest with
  | nil =>
    simp;refine sem_exit (sem_run 9000 _ ?_);simp [runG] at heq;simp;refine sem_call (clip_own L g) fun d H5 g5 => ?_;refine sem_run 9000 _ ?_;simp;refine sem_ret ?_;simp [M32];obtain ⟨H6, w, sub, _⟩ := g5.fin rows_underss (m := .p) (by simp);refine ⟨_, H6, WeakV.tup2 w, ⟨l', hp1, hsrt, ?_⟩, s4.trans sub⟩;rw [heq]; rfl
  | cons r t =>
    simp;refine sem_dfn (schm_at L.schm) (by first | exact D.les_refl _ | simp) (sem_run 9000 _ ?_);simp
    have hlt : H'.next < H'.next + 1 := by omega
    refine sem_box (b := H'.next) (cs := (atV r c).c) (ro := false) 12 (by simp) (by simp) ?_;refine sem_loop (CntI H' c ags r t s) ?_ (k := t.length) ⟨1, by omega, by omega, by omega, fun q x h => by omega, by simp, (by repeat (first | exact Sub.refl | apply Sub.new | refine Sub.put ?_ (by first | omega | (simp only [put_next, new_next]; omega))))⟩;rintro k'' fr H5 ⟨i, rfl, hi1, hi2, hq, ⟨e2, e4, e10, e11, e12, e13⟩, hs5⟩;refine sem_run 9000 _ ?_;simp [e10, e13]
    have hlen' : i ≤ l'.length := by simp at hlen; omega
    have hw : wr .i64 ((i : Int) + 1) = ((i + 1 : Nat) : Int) := by rw [wr_of] <;> omega
    by_cases c1 : i < t.length + 1
    · have c1' : (i : Int) < (t.length : Int) + 1 := by omega
      obtain ⟨x, gx⟩ : ∃ x, t[i - 1]? = some x := ⟨t[i - 1]'(by omega), by simp⟩
      have gx' : (r :: t)[i]? = some x := by rw [List.getElem?_cons, if_neg (by omega)]; exact gx
      simp [c1', gx', e4, e10, e13];refine sem_dfn (schm_at L.schm) (by first | exact D.les_refl _ | simp) (sem_run 9000 _ ?_);simp [e12];refine sem_dfn (schm_compare L.schm) (by first | exact D.les_refl _ | simp) (sem_run 9000 _ ?_);simp [e2, e4, e10, e11, e12, e13]
      by_cases c2 : cmpV (atV x c) (atV r c) = 0
      · simp [c2, hw]
        refine sem_ok ?_;refine ⟨t.length + 1 - (i + 1), by omega, i + 1, rfl, by omega, by omega, fun q y h e => ?_, by simp, hs5⟩
        by_cases hqi : q + 1 < i
        · exact hq q y hqi e
        · obtain rfl : q = i - 1 := by omega
          rw [gx] at e; cases e; exact c2
      · have hcnt := cnt_eq hi1 hi2 hq (.inr ⟨x, gx, c2⟩)
        simp [c2];refine sem_exit (sem_run 9000 _ ?_);simp [slc_take (l := r :: t) (i := i) (by simpa using hi2)];have gl : Gr H5 (H5.new (.cells (atV r c).c false)) 4 (.slice H5.next 0 4 1 1 true) (rowE [atV r c]) := Gr.lit Sub.refl (by simp [rowE]) (by simp [rowE]) (by simp [rowE]);refine sem_dcall (all_row L hx (H0 := H5) (r := [atV r c]) (l := (r :: t).take i) (ags := ags) ⟨by simp only [List.length_take, List.length_cons]; omega, fun y hy => hl'.2 y (hsub y (List.mem_of_mem_take hy))⟩ (ha _ fun y hy => hp1.mem_iff.1 (hsub y (List.mem_of_mem_take hy))) (by simp only [List.length_cons, List.length_nil]; omega) gl) ?_
        rintro _ H6 ⟨rfl, hs6⟩;refine sem_run 9000 _ ?_
        cases hok : oks ((r :: t).take i) ags with
        | false =>
          rw [runG_stop hcnt hok] at heq;simp;refine sem_ret ?_;simp;refine sem_ret ?_;simp [M32];refine ⟨_, H6, WeakV.tup2 (WeakV.le (d' := rowsD []) (by simp [rowsD, rowsE, D.le])), ⟨l', hp1, hsrt, ?_⟩, s4.trans (g.sub.trans (hs5.trans hs6))⟩;rw [heq]; rfl
        | true =>
          rw [runG_step hcnt hok] at heq;simp;simp only [List.length_cons] at hlen;refine sem_push (g.mono (hs5.trans hs6)) rfl rfl (roomyD (by simp; omega) (by simp; omega)) fun s' H7 g7 _ _ => ?_;simp [slc_drop (l := r :: t) (i := i) (by simpa using hi2)];refine sem_ok ?_
          have e : rowsE done ++ [[rowD (atV r c :: vals ((r :: t).take i) ags)]] = rowsE (done ++ [atV r c :: vals ((r :: t).take i) ags]) := by simp [rowsE]
          rw [e] at g7;refine ⟨((r :: t).drop i).length, by simp only [List.length_drop, List.length_cons]; omega, (r :: t).drop i, done ++ [atV r c :: vals ((r :: t).take i) ags], s', rfl, fun y hy => hsub y (List.mem_of_mem_drop hy), by simp only [List.length_drop, List.length_cons, List.length_append, List.length_nil]; omega, by simp, g7, ?_⟩;rw [heq]
          cases hz : (runG c ags ((r :: t).drop i).length ((r :: t).drop i)).2 <;> simp
    · have c1' : ¬ (i : Int) < (t.length : Int) + 1 := by omega
      have hcnt := cnt_eq hi1 hi2 hq (.inl (by omega));simp [c1', e2, e4, e10, e11, e12, e13];refine sem_exit (sem_run 9000 _ ?_);simp [slc_take (l := r :: t) (i := i) (by simpa using hi2)];have gl : Gr H5 (H5.new (.cells (atV r c).c false)) 4 (.slice H5.next 0 4 1 1 true) (rowE [atV r c]) := Gr.lit Sub.refl (by simp [rowE]) (by simp [rowE]) (by simp [rowE]);refine sem_dcall (all_row L hx (H0 := H5) (r := [atV r c]) (l := (r :: t).take i) (ags := ags) ⟨by simp only [List.length_take, List.length_cons]; omega, fun y hy => hl'.2 y (hsub y (List.mem_of_mem_take hy))⟩ (ha _ fun y hy => hp1.mem_iff.1 (hsub y (List.mem_of_mem_take hy))) (by simp only [List.length_cons, List.length_nil]; omega) gl) ?_
      rintro _ H6 ⟨rfl, hs6⟩;refine sem_run 9000 _ ?_
      cases hok : oks ((r :: t).take i) ags with
      | false =>
        rw [runG_stop hcnt hok] at heq;simp;refine sem_ret ?_;simp;refine sem_ret ?_;simp [M32];refine ⟨_, H6, WeakV.tup2 (WeakV.le (d' := rowsD []) (by simp [rowsD, rowsE, D.le])), ⟨l', hp1, hsrt, ?_⟩, s4.trans (g.sub.trans (hs5.trans hs6))⟩;rw [heq]; rfl
      | true =>
        rw [runG_step hcnt hok] at heq;simp;simp only [List.length_cons] at hlen;refine sem_push (g.mono (hs5.trans hs6)) rfl rfl (roomyD (by simp; omega) (by simp; omega)) fun s' H7 g7 _ _ => ?_;simp [slc_drop (l := r :: t) (i := i) (by simpa using hi2)];refine sem_ok ?_
        have e : rowsE done ++ [[rowD (atV r c :: vals ((r :: t).take i) ags)]] = rowsE (done ++ [atV r c :: vals ((r :: t).take i) ags]) := by simp [rowsE]
        rw [e] at g7;refine ⟨((r :: t).drop i).length, by simp only [List.length_drop, List.length_cons]; omega, (r :: t).drop i, done ++ [atV r c :: vals ((r :: t).take i) ags], s', rfl, fun y hy => hsub y (List.mem_of_mem_drop hy), by simp only [List.length_drop, List.length_cons, List.length_append, List.length_nil]; omega, by simp, g7, ?_⟩;rw [heq]
        cases hz : (runG c ags ((r :: t).drop i).length ((r :: t).drop i)).2 <;> simp
theorem groups_pos (L : HAggr p ext F) (hx : ∀ args h, ext (F 45) args h = extV .add64 args h) {l : List Row} {c k : Int} {ags : List Ag} {H : HpD} (hl : Fine l) (hk : ∀ r, r ∈ l → (atV r c).kind = k) (ha : ∀ l', (∀ r, r ∈ l' → r ∈ l) → ∀ a, a ∈ ags → AgOk l' a) (hb : ags.length < 900) (hc : ¬ c < 0) :
    WcD p ext (F 32) [rowsD l, .lit (.int .i64 c), agsD ags] H fun d H' => GrpR c ags l d ∧ Sub H H' :=
  WcD.weak ((groups_own L hx hl hk ha hb hc).mono fun _ _ ⟨d2, H2, w, h⟩ => ⟨d2, H2, w, h⟩)
end Go.Lib
end

section
set_option maxRecDepth 10000
namespace Go.Lib
open Go.Vm Go.Dv Go.Srt
def cs2 : List Ag := [⟨1, 0⟩, ⟨2, 0⟩]
def Low (l : List Row) : Prop := ∀ r, r ∈ l → 0 ≤ (atV r 0).n ∧ (atV r 0).n ≤ 1000
theorem Low.sum : ∀ {l : List Row}, Low l → 0 ≤ sumT 0 l ∧ sumT 0 l ≤ 1000 * (l.length : Int)
  | [], _ => by simp [sumT]
  | r :: l, h => by
    have ih := Low.sum (l := l) fun r hr => h r (by simp [hr]);have h0 := h r (by simp)
    have : sumT 0 (r :: l) = term 0 r + sumT 0 l := by simp [sumT]
    rw [this, List.length_cons];unfold term
    split <;> omega
theorem Low.in {l : List Row} (h : Low l) (hl : l.length < 1000000) : In64 (sumT 0 l) := by
  have := h.sum;unfold In64; omega
def grow (x : Vl × Nat × Int) : Row := [x.1, numV x.2.1, numV x.2.2]
structure GOk (c : Int) (l : List Row) (T : List (Vl × Nat × Int)) : Prop where
  ones : ∀ x, x ∈ T → 1 ≤ x.2.1
  pos : ∀ x, x ∈ T → 0 ≤ x.2.2
  cnt : (T.map fun x => x.2.1).sum = l.length
  sum : (T.map fun x => x.2.2).sum = sumT 0 l
  up : ∀ i a b, T[i]? = some a → T[i + 1]? = some b → cmpV a.1 b.1 < 0
  hd : ∀ a, T[0]? = some a → ∃ r, l[0]? = some r ∧ a.1 = atV r c
def cS (T : List (Vl × Nat × Int)) (i : Nat) : Nat := ((T.take i).map fun x => x.2.1).sum
def sS (T : List (Vl × Nat × Int)) (i : Nat) : Int := ((T.take i).map fun x => x.2.2).sum
theorem sum_pos : ∀ {T : List (Vl × Nat × Int)}, (∀ x, x ∈ T → 0 ≤ x.2.2) → 0 ≤ (T.map fun x => x.2.2).sum
  | [], _ => by simp
  | x :: T, h => by
    have := sum_pos (T := T) fun y hy => h y (by simp [hy]);have := h x (by simp);simp only [List.map_cons, List.sum_cons]; omega
theorem GOk.le {c : Int} {l : List Row} {T : List (Vl × Nat × Int)} (ok : GOk c l T) (i : Nat) : cS T i ≤ l.length ∧ 0 ≤ sS T i ∧ sS T i ≤ sumT 0 l := by
  have e : T = T.take i ++ T.drop i := (List.take_append_drop i T).symm;have h1 := ok.cnt;have h2 := ok.sum;rw [e, List.map_append, List.sum_append] at h1 h2;have h3 := sum_pos (T := T.drop i) fun x hx => ok.pos x (List.mem_of_mem_drop hx);have h4 := sum_pos (T := T.take i) fun x hx => ok.pos x (List.mem_of_mem_take hx);unfold cS sS;omega
theorem len_sum : ∀ {T : List (Vl × Nat × Int)}, (∀ x, x ∈ T → 1 ≤ x.2.1) → T.length ≤ (T.map fun x => x.2.1).sum
  | [], _ => by simp
  | x :: T, h => by
    have := len_sum (T := T) fun y hy => h y (by simp [hy]);have := h x (by simp);simp only [List.map_cons, List.sum_cons, List.length_cons]; omega
theorem GOk.len {c : Int} {l : List Row} {T : List (Vl × Nat × Int)} (ok : GOk c l T) : T.length ≤ l.length := ok.cnt ▸ len_sum ok.ones
theorem GOk.all {c : Int} {l : List Row} {T : List (Vl × Nat × Int)} (ok : GOk c l T) : cS T T.length = l.length ∧ sS T T.length = sumT 0 l := by
  unfold cS sS;rw [List.take_length];exact ⟨ok.cnt, ok.sum⟩
end Go.Lib
end

section
set_option maxRecDepth 10000
namespace Go.Lib
open Go.Vm Go.Dv Go.Srt
structure Vl.Good (v : Vl) : Prop where
  nul : v.null = true → v.n = 0 ∧ v.bytes = []
  kd : (v.kind = 1 ∧ v.bytes = []) ∨ (v.kind = 2 ∧ v.n = 0)
  int : In64 v.n
theorem cmpV_zero {a b : Vl} (ha : a.Good) (hb : b.Good) (hk : a.kind = b.kind) (h : cmpV a b = 0) : a = b := by
  rw [cmpV_null] at h;rw [vl_ext]
  cases ha0 : a.null <;> cases hb0 : b.null <;> simp [ha0, hb0] at h ⊢
  · rcases ha.kd with ⟨k1, b1⟩ | ⟨k1, n1⟩ <;> rcases hb.kd with ⟨k2, b2⟩ | ⟨k2, n2⟩
    · simp [k1, cmpI_eq] at h
      exact ⟨hk, h, by rw [b1, b2]⟩
    · omega
    · omega
    · simp [k1, cmpB_eq] at h
      exact ⟨hk, by rw [n1, n2], h⟩
  · obtain ⟨h1, h2⟩ := ha.nul ha0
    obtain ⟨h3, h4⟩ := hb.nul hb0;exact ⟨hk, by rw [h1, h3], by rw [h2, h4]⟩
theorem cmpV_self {a : Vl} : cmpV a a = 0 := by
  have := (cmpV_ord (k := a.kind)).sym a a rfl rfl; omega
structure GoodR (ks : List Int) (r : Row) : Prop where
  kin : Kin ks r
  good : ∀ v, v ∈ r → v.Good
theorem cmpRow_zero : ∀ {ks : List Int} {a b : Row}, GoodR ks a → GoodR ks b → cmpRow cmpV a b = 0 → a = b
  | [], a, b, ha, hb, _ => by
    have h1 := ha.kin; have h2 := hb.kin;simp only [Kin, List.map_eq_nil_iff] at h1 h2;rw [h1, h2]
  | k :: ks, a, b, ha, hb, h => by
    have h1 := ha.kin; have h2 := hb.kin
    cases a with
    | nil => simp [Kin] at h1
    | cons x a => cases b with
      | nil => simp [Kin] at h2
      | cons y b =>
        simp only [Kin, List.map_cons, List.cons.injEq] at h1 h2;simp only [cmpRow] at h
        by_cases e : cmpV x y = 0
        · simp [e] at h
          rw [cmpV_zero (ha.good x (by simp)) (hb.good y (by simp)) (by rw [h1.1, h2.1]) e, cmpRow_zero (ks := ks) ⟨h1.2, fun v hv => ha.good v (by simp [hv])⟩ ⟨h2.2, fun v hv => hb.good v (by simp [hv])⟩ h]
        · simp [e] at h
section
variable {α : Type} {G : α → Prop} {cmp : α → α → Int}
def Rise (cmp : α → α → Int) (l : List α) : Prop := l.Pairwise fun x y => cmp x y ≤ 0
theorem Ord3.self (o : Ord3 G cmp) {x : α} (hx : G x) : cmp x x = 0 := by
  have := o.sym x x hx hx; omega
theorem Srt.rise (o : Ord3 G cmp) {l : List α} (hG : ∀ x, x ∈ l → G x) (h : Srt cmp l 0 l.length) : Rise cmp l := by
  rw [Rise, List.pairwise_iff_getElem];intro i j hi hj hij;have := h i j l[i] l[j] (by omega) hij hj (by simp) (by simp);have := o.sym l[i] l[j] (hG _ (by simp)) (hG _ (by simp));omega
theorem rise_uniq (o : Ord3 G cmp) (hz : ∀ x y, G x → G y → cmp x y = 0 → x = y) {l l' : List α} (hp : l.Perm l') (hG : ∀ x, x ∈ l → G x) (h1 : Rise cmp l) (h2 : Rise cmp l') : l = l' := by
  refine List.Perm.eq_of_pairwise (le := fun x y => cmp x y ≤ 0) (fun a b ha hb h3 h4 => ?_) h1 h2 hp;have hb' := hG b (hp.mem_iff.2 hb);have := o.sym a b (hG a ha) hb';exact hz a b (hG a ha) hb' (by omega)
def insL (cmp : α → α → Int) (x : α) : List α → List α
  | [] => [x]
  | y :: l => if cmp y x ≤ 0 then y :: insL cmp x l else x :: y :: l
def sortL (cmp : α → α → Int) (l : List α) : List α := l.foldr (insL cmp) []
theorem insL_perm {x : α} : ∀ {l : List α}, (insL cmp x l).Perm (x :: l)
  | [] => .refl _
  | y :: l => by
    unfold insL
    split
    · exact (insL_perm.cons y).trans (.swap ..)
    · exact .refl _
theorem sortL_perm : ∀ {l : List α}, (sortL cmp l).Perm l
  | [] => .refl _
  | x :: _l => insL_perm.trans (sortL_perm.cons x)
theorem insL_rise (o : Ord3 G cmp) {x : α} (hx : G x) : ∀ {l : List α}, (∀ y, y ∈ l → G y) → Rise cmp l → Rise cmp (insL cmp x l)
  | [], _, _ => by simp [insL, Rise]
  | y :: l, hG, h => by
    have hy := hG y (by simp);have h' := List.pairwise_cons.1 h;unfold insL
    split
    · rename_i e
      refine List.pairwise_cons.2 ⟨fun z hz => ?_, insL_rise o hx (fun z hz => hG z (by simp [hz])) h'.2⟩;rcases List.mem_cons.1 (insL_perm.mem_iff.1 hz) with rfl | hz
      · exact e
      · exact h'.1 z hz
    · rename_i e
      have := o.sym y x hy hx;refine List.pairwise_cons.2 ⟨fun z hz => ?_, h⟩;rcases List.mem_cons.1 hz with rfl | hz
      · omega
      · exact o.tr x y z hx hy (hG z (by simp [hz])) (by omega) (h'.1 z hz)
theorem sortL_rise (o : Ord3 G cmp) : ∀ {l : List α}, (∀ y, y ∈ l → G y) → Rise cmp (sortL cmp l)
  | [], _ => by simp [sortL, Rise]
  | x :: l, h => insL_rise o (h x (by simp)) (fun y hy => h y (by simp [sortL_perm.mem_iff.1 hy])) (sortL_rise o fun y hy => h y (by simp [hy]))
theorem rise_sort (o : Ord3 G cmp) (hz : ∀ x y, G x → G y → cmp x y = 0 → x = y) {l l' : List α} (hG : ∀ x, x ∈ l → G x) (hp : l'.Perm l) (h : Rise cmp l') : l' = sortL cmp l :=
  rise_uniq o hz (hp.trans sortL_perm.symm) (fun x hx => hG x (hp.mem_iff.1 hx)) h (sortL_rise o hG)
theorem srt_sort (o : Ord3 G cmp) (hz : ∀ x y, G x → G y → cmp x y = 0 → x = y) {l l' : List α} (hG : ∀ x, x ∈ l → G x) (hp : l'.Perm l) (h : Srt cmp l' 0 l.length) : l' = sortL cmp l :=
  rise_sort o hz hG hp (Srt.rise o (fun x hx => hG x (hp.mem_iff.1 hx)) (by rw [hp.length_eq]; exact h))
theorem tw_filter {p : α → Bool} : ∀ {t : List α}, t.Pairwise (fun x y => p y = true → p x = true) → t.takeWhile p = t.filter p ∧ t.dropWhile p = t.filter (fun x => !p x)
  | [], _ => by simp
  | x :: t, h => by
    have h' := List.pairwise_cons.1 h;have ih := tw_filter h'.2
    cases hp : p x with
    | true => simp [hp, ih.1, ih.2]
    | false =>
      have hn : ∀ y, y ∈ t → p y = false := fun y hy => by
        cases hy2 : p y with
        | false => rfl
        | true => have := h'.1 y hy hy2; rw [hp] at this; cases this
      have h1 : t.filter p = [] := List.filter_eq_nil_iff.2 fun y hy => by simp [hn y hy]
      have h2 : t.filter (fun x => !p x) = t := List.filter_eq_self.2 fun y hy => by simp [hn y hy]
      simp [hp, h1, h2]
theorem take_tw {p : α → Bool} {t : List α} : t.take (t.takeWhile p).length = t.takeWhile p := by
  rw [← List.prefix_iff_eq_take.1 (List.takeWhile_prefix p)]
theorem drop_tw {p : α → Bool} : ∀ {t : List α}, t.drop (t.takeWhile p).length = t.dropWhile p
  | [] => rfl
  | x :: t => by
    have ih := drop_tw (p := p) (t := t)
    cases h : p x <;> simp [h, ih]
end
def IsEnd (sg : Int) (L : List Vl) (o : Vl) : Prop :=
  (L = [] ∧ o = nullV) ∨ (o ∈ L ∧ ∀ v, v ∈ L → v.null = true) ∨ (o ∈ L ∧ o.null = false ∧ ∀ v, v ∈ L → v.null = false → cmpV v o * sg ≤ 0)
theorem null_eq {v w : Vl} (hv : v.Good) (hw : w.Good) (hk : v.kind = w.kind) (h1 : v.null = true) (h2 : w.null = true) : v = w := by
  obtain ⟨a, b⟩ := hv.nul h1;obtain ⟨c, d⟩ := hw.nul h2;exact vl_ext.2 ⟨by rw [h1, h2], hk, by rw [a, c], by rw [b, d]⟩
theorem null_set {v : Vl} (hv : v.Good) (h : v.null = true) : setKind nullV v.kind = v := by
  obtain ⟨a, b⟩ := hv.nul h;exact vl_ext.2 ⟨by simp [setKind, nullV, h], rfl, by simp [setKind, nullV, a], by simp [setKind, nullV, b]⟩
theorem set_self {o : Vl} {k : Int} (h : o.kind = k) : setKind o k = o := by subst h; rfl
def GoodL (k : Int) (L : List Vl) : Prop := ∀ v, v ∈ L → v.kind = k ∧ v.Good
theorem IsEnd.step {sg k : Int} (hsg : sg = 1 ∨ sg = -1) {L : List Vl} {o v : Vl} (hL : GoodL k (L ++ [v])) (h : IsEnd sg L o) : IsEnd sg (L ++ [v]) (endS sg o v) := by
  obtain ⟨hvk, hv⟩ := hL v (by simp);have hm : ∀ x, x ∈ L → x.kind = k ∧ x.Good := fun x hx => hL x (by simp [hx]);unfold endS
  by_cases hn : v.null = true
  · rw [if_pos hn]
    rcases h with ⟨rfl, rfl⟩ | ⟨ho, ha⟩ | ⟨ho, hon, ha⟩
    · rw [null_set hv hn]
      exact .inr (.inl ⟨by simp, fun w hw => by simp at hw; rw [hw, hn]⟩)
    · rw [set_self (by rw [(hm o ho).1, hvk])]
      exact .inr (.inl ⟨by simp [ho], fun w hw => by
        rcases List.mem_append.1 hw with hw | hw
        · exact ha w hw
        · simp at hw; rw [hw, hn]⟩)
    · rw [set_self (by rw [(hm o ho).1, hvk])]
      exact .inr (.inr ⟨by simp [ho], hon, fun w hw hwn => by
        rcases List.mem_append.1 hw with hw | hw
        · exact ha w hw hwn
        · simp at hw; rw [hw, hn] at hwn; cases hwn⟩)
  · rw [if_neg hn]
    have hn' : v.null = false := by simpa using hn
    rcases h with ⟨rfl, rfl⟩ | ⟨ho, ha⟩ | ⟨ho, hon, ha⟩
    · rw [if_pos (.inl rfl)]
      exact .inr (.inr ⟨by simp, hn', fun w hw _ => by simp at hw; rw [hw, cmpV_self]; omega⟩)
    · rw [if_pos (.inl (ha o ho))]
      refine .inr (.inr ⟨by simp, hn', fun w hw hwn => ?_⟩);rcases List.mem_append.1 hw with hw | hw
      · rw [ha w hw] at hwn; cases hwn
      · simp at hw; rw [hw, cmpV_self]; omega
    · have oo := cmpV_ord (k := k)
      have s1 := oo.sym v o hvk (hm o ho).1
      split
      · rename_i e
        have e : 0 < cmpV v o * sg := by
          rcases e with e | e
          · rw [hon] at e; cases e
          · exact e
        refine .inr (.inr ⟨by simp, hn', fun w hw hwn => ?_⟩);rcases List.mem_append.1 hw with hw | hw
        · have h1 := ha w hw hwn
          have hwk := (hm w hw).1;have s2 := oo.sym w o hwk (hm o ho).1;have s3 := oo.sym w v hwk hvk;have t1 := oo.tr w o v hwk (hm o ho).1 hvk;have t2 := oo.tr v o w hvk (hm o ho).1 hwk
          rcases hsg with rfl | rfl <;> omega
        · simp at hw; rw [hw, cmpV_self]; omega
      · rename_i e
        have e : ¬ 0 < cmpV v o * sg := fun h => e (.inr h);refine .inr (.inr ⟨by simp [ho], hon, fun w hw hwn => ?_⟩);rcases List.mem_append.1 hw with hw | hw
        · exact ha w hw hwn
        · simp at hw; subst hw; omega
theorem IsEnd.fold {sg k : Int} (hsg : sg = 1 ∨ sg = -1) : ∀ {M L : List Vl} {o : Vl}, GoodL k (L ++ M) → IsEnd sg L o → IsEnd sg (L ++ M) (M.foldl (endS sg) o)
  | [], L, o, _, h => by simpa using h
  | v :: M, L, o, hL, h => by
    have := IsEnd.fold hsg (M := M) (L := L ++ [v]) (o := endS sg o v) (by simpa using hL) (h.step hsg fun x hx => hL x (by simp at hx ⊢; rcases hx with hx | hx <;> simp [hx]))
    simpa using this
theorem IsEnd.uniq {sg k : Int} (hsg : sg = 1 ∨ sg = -1) {L : List Vl} {o o' : Vl} (hL : GoodL k L) (h : IsEnd sg L o) (h' : IsEnd sg L o') : o = o' := by
  rcases h with ⟨rfl, rfl⟩ | ⟨ho, ha⟩ | ⟨ho, hon, ha⟩ <;> rcases h' with ⟨e, rfl⟩ | ⟨ho', ha'⟩ | ⟨ho', hon', ha'⟩
  · rfl
  · simp at ho'
  · simp at ho'
  · subst e; simp at ho
  · exact null_eq (hL o ho).2 (hL o' ho').2 (by rw [(hL o ho).1, (hL o' ho').1]) (ha o ho) (ha' o' ho')
  · rw [ha o' ho'] at hon'; cases hon'
  · subst e; simp at ho
  · rw [ha' o ho] at hon; cases hon
  · have h1 := ha o' ho' hon'
    have h2 := ha' o ho hon;have s := (cmpV_ord (k := k)).sym o o' (hL o ho).1 (hL o' ho').1
    exact cmpV_zero (hL o ho).2 (hL o' ho').2 (by rw [(hL o ho).1, (hL o' ho').1]) (by rcases hsg with rfl | rfl <;> omega)
theorem IsEnd.perm {sg : Int} {L L' : List Vl} {o : Vl} (hp : L.Perm L') (h : IsEnd sg L o) : IsEnd sg L' o := by
  rcases h with ⟨rfl, rfl⟩ | ⟨ho, ha⟩ | ⟨ho, hon, ha⟩
  · exact .inl ⟨hp.nil_eq.symm, rfl⟩
  · exact .inr (.inl ⟨hp.mem_iff.1 ho, fun v hv => ha v (hp.mem_iff.2 hv)⟩)
  · exact .inr (.inr ⟨hp.mem_iff.1 ho, hon, fun v hv => ha v (hp.mem_iff.2 hv)⟩)
def GoodRs (ks : List Int) (l : List Row) : Prop := ∀ r, r ∈ l → GoodR ks r
def InK (ks : List Int) (c : Int) : Prop := 0 ≤ c ∧ c < ks.length
theorem GoodRs.perm {ks : List Int} {l l' : List Row} (hp : l.Perm l') (h : GoodRs ks l) : GoodRs ks l' := fun r hr => h r (hp.mem_iff.2 hr)
theorem atV_mem {r : Row} {c : Int} (h0 : 0 ≤ c) (h : c < r.length) : atV r c ∈ r ∧ r[c.toNat]? = some (atV r c) := by
  have hl : c.toNat < r.length := by omega
  rw [atV, if_neg (by omega)];simp [hl]
theorem GoodR.at_ {ks : List Int} {r : Row} {c : Int} (h : GoodR ks r) (hc : InK ks c) : (atV r c).kind = (ks[c.toNat]?).getD 0 ∧ (atV r c).Good := by
  have hk := h.kin;unfold Kin at hk
  have hl : r.length = ks.length := by rw [← hk]; simp
  obtain ⟨h1, h2⟩ := atV_mem (r := r) hc.1 (by have := hc.2; omega);refine ⟨?_, h.good _ h1⟩;rw [← hk, List.getElem?_map, h2]; rfl
theorem GoodRs.col {ks : List Int} {l : List Row} {c : Int} (h : GoodRs ks l) (hc : InK ks c) : GoodL ((ks[c.toNat]?).getD 0) (l.map fun r => atV r c) := by
  intro v hv;obtain ⟨r, hr, rfl⟩ := List.mem_map.1 hv;exact (h r hr).at_ hc
theorem endF_is {sg c : Int} (hsg : sg = 1 ∨ sg = -1) {ks : List Int} {l : List Row} (h : GoodRs ks l) (hc : InK ks c) : IsEnd sg (l.map fun r => atV r c) (endF c sg l) := by
  have := IsEnd.fold (sg := sg) (k := (ks[c.toNat]?).getD 0) hsg (M := l.map fun r => atV r c) (L := []) (o := nullV) (by simpa using h.col hc) (.inl ⟨rfl, rfl⟩)
  simpa [endF] using this
theorem endF_perm {sg c : Int} (hsg : sg = 1 ∨ sg = -1) {ks : List Int} {l l' : List Row} (hp : l.Perm l') (h : GoodRs ks l) (hc : InK ks c) : endF c sg l = endF c sg l' :=
  IsEnd.uniq hsg ((h.perm hp).col hc) ((endF_is hsg h hc).perm (hp.map _)) (endF_is hsg (h.perm hp) hc)
theorem sumT_permC {c : Int} {a b : List Row} (h : a.Perm b) : sumT c a = sumT c b := by
  unfold sumT
  induction h with
  | nil => rfl
  | cons x _ ih => simp [ih]
  | swap x y l => simp; omega
  | trans _ _ h1 h2 => exact h1.trans h2
theorem oneF_perm {ks : List Int} {l l' : List Row} {a : Ag} (hp : l.Perm l') (h : GoodRs ks l) (hc : InK ks a.col) : oneF l a = oneF l' a := by
  unfold oneF sumV;rw [hp.length_eq, sumT_permC hp, endF_perm (.inl rfl) hp h hc, endF_perm (.inr rfl) hp h hc]
theorem oks_perm {ks : List Int} {l l' : List Row} {ags : List Ag} (hp : l.Perm l') (h : GoodRs ks l) (hc : ∀ a, a ∈ ags → InK ks a.col) : oks l ags = oks l' ags := by
  unfold oks;rw [Bool.eq_iff_iff, List.all_eq_true, List.all_eq_true]
  constructor <;> intro k a ha
  · rw [← oneF_perm hp h (hc a ha)]; exact k a ha
  · rw [oneF_perm hp h (hc a ha)]; exact k a ha
theorem vals_perm {ks : List Int} {l l' : List Row} {ags : List Ag} (hp : l.Perm l') (h : GoodRs ks l) (hc : ∀ a, a ∈ ags → InK ks a.col) : vals l ags = vals l' ags := by
  unfold vals
  exact List.map_congr_left fun a ha => by rw [oneF_perm hp h (hc a ha)]
theorem cmpC_ord {c : Int} {ks : List Int} (hc : InK ks c) : Ord3 (GoodR ks) (cmpC c) :=
  ⟨fun _ _ hx hy => (cmpV_ord (k := (ks[c.toNat]?).getD 0)).sym _ _ (hx.at_ hc).1 (hy.at_ hc).1, fun _ _ _ hx hy hz => (cmpV_ord (k := (ks[c.toNat]?).getD 0)).tr _ _ _ (hx.at_ hc).1 (hy.at_ hc).1 (hz.at_ hc).1⟩
theorem cmpC_zero {c : Int} {ks : List Int} (hc : InK ks c) {a b : Row} (ha : GoodR ks a) (hb : GoodR ks b) (h : cmpC c a b = 0) : atV a c = atV b c :=
  cmpV_zero (ha.at_ hc).2 (hb.at_ hc).2 (by rw [(ha.at_ hc).1, (hb.at_ hc).1]) h
theorem first_group {c : Int} {ks : List Int} (hc : InK ks c) {r : Row} {t : List Row} (hg : GoodRs ks (r :: t)) (h : Rise (cmpC c) (r :: t)) :
    (r :: t).take (cnt c r t) = (r :: t).filter (fun x => decide (cmpC c x r = 0)) ∧ (r :: t).drop (cnt c r t) = (r :: t).filter (fun x => !decide (cmpC c x r = 0)) := by
  have o := cmpC_ord hc;have h' := List.pairwise_cons.1 h;have hr := hg r (by simp)
  have hpw : t.Pairwise (fun x y => decide (cmpC c y r = 0) = true → decide (cmpC c x r = 0) = true) := by
    refine List.Pairwise.imp_of_mem ?_ h'.2;intro x y hx hy hxy e;have hx' := hg x (by simp [hx]);have hy' := hg y (by simp [hy])
    have e : cmpC c y r = 0 := by simpa using e
    have h1 := h'.1 x hx;have h2 := o.tr x y r hx' hy' hr hxy (by omega);have := o.sym x r hx' hr;simp; omega
  obtain ⟨h1, h2⟩ := tw_filter hpw;have hs : cmpC c r r = 0 := o.self hr;have e : cnt c r t = (t.takeWhile fun x => decide (cmpC c x r = 0)).length + 1 := Nat.add_comm ..;rw [e, List.take_succ_cons, List.drop_succ_cons, take_tw, drop_tw, h1, h2];simp [hs]
theorem runG_perm {c : Int} {ks : List Int} {ags : List Ag} (hc : InK ks c) (ha : ∀ a, a ∈ ags → InK ks a.col) : ∀ (w : Nat) (l1 l2 : List Row), l1.length ≤ w → l1.Perm l2 → GoodRs ks l1 → Rise (cmpC c) l1 → Rise (cmpC c) l2 → runG c ags w l1 = runG c ags w l2
  | w, [], l2, _, hp, _, _, _ => by rw [hp.nil_eq]
  | 0, _ :: _, _, h, _, _, _, _ => by simp at h
  | w + 1, r1 :: t1, [], _, hp, _, _, _ => by have := hp.length_eq; simp at this
  | w + 1, r1 :: t1, r2 :: t2, hw, hp, hg, h1, h2 => by
    have o := cmpC_ord hc;have hg2 := hg.perm hp;have k1 := hg r1 (by simp);have k2 := hg2 r2 (by simp)
    have le1 : cmpC c r1 r2 ≤ 0 := by
      have : r2 ∈ r1 :: t1 := hp.mem_iff.2 (by simp);rcases List.mem_cons.1 this with e | e
      · rw [e, o.self k1]; omega
      · exact (List.pairwise_cons.1 h1).1 r2 e
    have le2 : cmpC c r2 r1 ≤ 0 := by
      have : r1 ∈ r2 :: t2 := hp.mem_iff.1 (by simp);rcases List.mem_cons.1 this with e | e
      · rw [e, o.self k2]; omega
      · exact (List.pairwise_cons.1 h2).1 r1 e
    have s := o.sym r1 r2 k1 k2;have e0 := cmpC_zero hc k1 k2 (by omega);obtain ⟨a1, b1⟩ := first_group hc hg h1;obtain ⟨a2, b2⟩ := first_group hc hg2 h2
    have ef : ∀ x, cmpC c x r1 = cmpC c x r2 := fun x => by unfold cmpC; rw [e0]
    simp only [ef] at a1 b1
    have pt : ((r1 :: t1).take (cnt c r1 t1)).Perm ((r2 :: t2).take (cnt c r2 t2)) := by rw [a1, a2]; exact hp.filter _
    have pd : ((r1 :: t1).drop (cnt c r1 t1)).Perm ((r2 :: t2).drop (cnt c r2 t2)) := by rw [b1, b2]; exact hp.filter _
    have hgt : GoodRs ks ((r1 :: t1).take (cnt c r1 t1)) := fun x hx => hg x (List.mem_of_mem_take hx)
    have hc1 : 1 ≤ cnt c r1 t1 := by unfold cnt; omega
    have ih := runG_perm hc ha w _ _ (by simp only [List.length_drop, List.length_cons]; simp at hw; omega) pd (fun x hx => hg x (List.mem_of_mem_drop hx)) (h1.drop) (h2.drop);unfold runG;rw [oks_perm pt hgt ha, vals_perm pt hgt ha, ih, e0]
def grpF (c : Int) (ags : List Ag) (l : List Row) : List Row × Bool := runG c ags l.length (sortL (cmpC c) l)
theorem grp_rise {c : Int} {ks : List Int} {ags : List Ag} (hc : InK ks c) (ha : ∀ a, a ∈ ags → InK ks a.col) {l l' : List Row} (hg : GoodRs ks l) (hp : l'.Perm l) (h : Rise (cmpC c) l') : runG c ags l'.length l' = grpF c ags l := by
  unfold grpF;rw [← hp.length_eq];exact runG_perm hc ha _ _ _ (Nat.le_refl _) (hp.trans sortL_perm.symm) (hg.perm hp.symm) h (sortL_rise (cmpC_ord hc) hg)
theorem grp_srt {c : Int} {ks : List Int} {ags : List Ag} (hc : InK ks c) (ha : ∀ a, a ∈ ags → InK ks a.col) {l l' : List Row} (hg : GoodRs ks l) (hp : l'.Perm l) (h : Srt (cmpC c) l' 0 l.length) : runG c ags l'.length l' = grpF c ags l :=
  grp_rise hc ha hg hp (Srt.rise (cmpC_ord hc) (hg.perm hp.symm) (by rw [hp.length_eq]; exact h))
def grpsF (c : Int) (ags : List Ag) (l : List Row) : List Row × Bool := if c < 0 then (if oks l ags then [vals l ags] else [], oks l ags) else grpF c ags l
end Go.Lib
end
