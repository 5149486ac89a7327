/-
 Texts that the claim's last one rests on, joined.
-/
import Derived.Test.YtcpfgjkhjadgoaaGreatDoorBProgBackf
import Derived.Test.YtcpfgjkhjadgoaaGreatDoorBProgBackh
import Derived.Test.YtcpfgjkhjadgoaaGreatDoorBProgBackg

section
namespace Go.Lib
open Go.Vm Go.Dv
set_option maxRecDepth 100000
abbrev K229 (F : Nat → Nat) : KC := .seq (.region [⟨some 2,.a (.box (.tmp 0)),none⟩,⟨some 3,.a (.box (.tmp 1)),none⟩,⟨some 4,.p (.mov (.val (.bool false))),none⟩] [2,3] [2,3])
 (.seq (.seq (.region [fa 6 0 2,l1 7 6,fa 8 0 3,l1 9 8,bt 10 .neq 7 9,mv 11 10,⟨some 12,.p (.faddr 1 (.tmp 2)),(some (11,false))⟩,⟨some 13,.load1 (.tmp 12),(some (11,false))⟩,⟨some 14,.p (.faddr 1 (.tmp 3)),(some (11,false))⟩,⟨some 15,.load1 (.tmp 14),(some (11,false))⟩,⟨some 16,.p (.bin .neq (.tmp 13) (.tmp 15)),(some (11,false))⟩,⟨some 17,.p (.pick (.tmp 11) (.val (.bool true)) (.tmp 16)),none⟩,mv 18 17,⟨some 19,.p (.faddr 2 (.tmp 2)),(some (18,false))⟩,⟨some 20,.load1 (.tmp 19),(some (18,false))⟩,⟨some 21,.p (.faddr 2 (.tmp 3)),(some (18,false))⟩,⟨some 22,.load1 (.tmp 21),(some (18,false))⟩,⟨some 23,.p (.bin .neq (.tmp 20) (.tmp 22)),(some (18,false))⟩,⟨some 24,.p (.pick (.tmp 18) (.val (.bool true)) (.tmp 23)),none⟩,mv 25 24,⟨some 26,.p (.faddr 3 (.tmp 2)),(some (25,false))⟩,⟨some 27,.loadn 4 (.tmp 26),(some (25,false))⟩,⟨some 28,.p (.faddr 3 (.tmp 3)),(some (25,false))⟩,⟨some 29,.loadn 4 (.tmp 28),(some (25,false))⟩,⟨some 30,.e (.call (F 50) [(.tmp 27),(.tmp 29)]),(some (25,false))⟩,⟨some 31,.p (.not (.tmp 30)),(some (25,false))⟩,⟨some 32,.p (.pick (.tmp 25) (.val (.bool true)) (.tmp 31)),none⟩,mv 33 32,⟨some 34,.p (.faddr 7 (.tmp 2)),(some (33,false))⟩,⟨some 35,.load1 (.tmp 34),(some (33,false))⟩,⟨some 36,.p (.lenb (.tmp 35)),(some (33,false))⟩,⟨some 37,.p (.faddr 7 (.tmp 3)),(some (33,false))⟩,⟨some 38,.load1 (.tmp 37),(some (33,false))⟩,⟨some 39,.p (.lenb (.tmp 38)),(some (33,false))⟩,⟨some 40,.p (.bin .neq (.tmp 36) (.tmp 39)),(some (33,false))⟩,⟨some 41,.p (.pick (.tmp 33) (.val (.bool true)) (.tmp 40)),none⟩] [] [2,3,41])
 (.cond (.tmp 41) (.seq (.region [⟨some 4,.p (.mov (.val (.bool false))),none⟩] [] [4])
 (.ret))
 (.skip)))
 (.seq (.seq (.region [mi 5 0] [] [2,3,5])
 (.block 0 (.loop (.seq (.seq (.region [mv 42 5,fa 43 7 2,l1 44 43,lb 45 44,bt 46 .lss 42 45] [] [2,3,5,46])
 (.cond (.tmp 46) (.skip)
 (.exit 0)))
 (.seq (.block 1 (.seq (.dregion [⟨fa 49 7 2,0,10⟩,⟨l1 50 49,0,10⟩,⟨mv 51 5,0,10⟩,⟨ix 52 8 50 51,0,10⟩,⟨ln 53 8 52,0,10⟩,⟨fa 54 7 3,0,10⟩,⟨l1 55 54,0,10⟩,⟨mv 56 5,0,10⟩,⟨ix 57 8 55 56,0,10⟩,⟨ln 58 8 57,0,10⟩,⟨⟨some 59,.e (.call (F 229) [(.tmp 53),(.tmp 58)]),none⟩,0,12⟩,⟨⟨some 60,.p (.not (.tmp 59)),none⟩,11,12⟩] [2,3,5,60])
 (.cond (.tmp 60) (.seq (.region [⟨some 4,.p (.mov (.val (.bool false))),none⟩] [] [4])
 (.ret))
 (.skip))))
 (.region [mv 47 5,bi 48 .add 47 1,mv 5 48] [] [2,3,5]))))))
 (.seq (.region [⟨some 4,.p (.mov (.val (.bool true))),none⟩] [] [4])
 (.ret))))
def M229 (F : Nat → Nat) : Fun := ⟨61,2,(K229 F).erase,[.tmp 4]⟩
theorem ok229 {F : Nat → Nat} : (K229 F).ok = true := by kernel_rfl
end Go.Lib
end

section
set_option maxRecDepth 10000
namespace Go.Lib
open Go.Vm Go.Dv
variable {p : Prog} {ext : Ext} {F : Nat → Nat}
attribute [-simp] bin_and
def hexD : List Nat := [48,49,50,51,52,53,54,55,56,57,97,98,99,100,101,102]
def hexN (b : By) : List Nat := [hexD.getD (b.val / 16) 0, hexD.getD (b.val % 16) 0]
def valN (v : Vl) : List Nat := if v.null = true then [110,117,108,108] else if v.kind = 1 then itoaN v.n else 120 :: (v.bytes.map hexN).flatten
structure HVal (p : Prog) (ext : Ext) (F : Nat → Nat) (g : SG) : Prop where
 h213 : Has p ext F 213 M213
 x209 : ∀ args h, ext (F 209) args h = strV g .fmt args h
 pow : PowGl p g
def hexE (l : List Nat) : List (List D) := l.map fun c => [.lit (.int .u8 ((c : Nat) : Int))]
theorem hexE_append {a b : List Nat} : hexE (a ++ b) = hexE a ++ hexE b := by simp [hexE]
theorem hexE_len {a : List Nat} : (hexE a).length = a.length := by simp [hexE]
def hexHi (c : Nat) : V := .int .u8 ((hexD.getD (c / 16) 0 : Nat) : Int)
def hexLo (c : Nat) : V := .int .u8 ((hexD.getD (c % 16) 0 : Nat) : Int)
def asU8 : Option V → Int
 | some (.int .u8 n) => n
 | _ => -1
theorem asU8_of {o : Option V} {n : Nat} (h : asU8 o = (n : Int)) : o = some (.int .u8 (n : Int)) := by
 unfold asU8 at h;split at h
 ·rw [h]
 ·omega
theorem hex_hi_all : ∀ b : By, asU8 (idxsV (.str [48,49,50,51,52,53,54,55,56,57,97,98,99,100,101,102]) (.int .u8 (shrI .u8 ((b.val : Nat) : Int) 4))) = ((hexD.getD (b.val / 16) 0 : Nat) : Int) := by decide +kernel
theorem hex_lo_all : ∀ b : By, asU8 (idxsV (.str [48,49,50,51,52,53,54,55,56,57,97,98,99,100,101,102]) (.int .u8 ((b.val % 16 : Nat) : Int))) = ((hexD.getD (b.val % 16) 0 : Nat) : Int) := by decide +kernel
theorem hex_and_all : ∀ b : By, wr .u8 (toU .u8 ((b.val : Nat) : Int) &&& toU .u8 15 : Nat) = ((b.val % 16 : Nat) : Int) := by decide +kernel
theorem hex_hi {b : By} : idxsV (.str [48,49,50,51,52,53,54,55,56,57,97,98,99,100,101,102]) (.int .u8 (shrI .u8 ((b.val : Nat) : Int) 4)) = some (hexHi b.val) := asU8_of (hex_hi_all b)
theorem hex_lo {b : By} : idxsV (.str [48,49,50,51,52,53,54,55,56,57,97,98,99,100,101,102]) (.int .u8 ((b.val : Int) % 16)) = some (hexLo b.val) := by
 rw [show ((b.val : Int) % 16) = ((b.val % 16 : Nat) : Int) by omega]; exact asU8_of (hex_lo_all b)
theorem hex_and {tab : Tab} {b : By} : binV tab .and (.int .u8 ((b.val : Nat) : Int)) (.int .u8 15) = some (.int .u8 ((b.val : Int) % 16)) := by
 rw [show ((b.val : Int) % 16) = ((b.val % 16 : Nat) : Int) by omega, ← hex_and_all b]; simp [binV]; rfl
theorem toVs_hex : ∀ l : List Nat, toVs (hexE l).flatten = some (l.map fun c => V.int .u8 ((c : Nat) : Int))
 | [] => rfl
 | s :: l => by
  have := toVs_hex l;simp only [hexE] at this;simp [hexE, toVs, toV, this]
theorem bytesOf_map : ∀ l : List Nat, (∀ c, c ∈ l → c < 256) → eV.bytesOf (l.map fun c => V.int .u8 ((c : Nat) : Int)) = some l
 | [], _ => rfl
 | c :: l, h => by
  have h1 := bytesOf_map l (fun x hx => h x (List.mem_cons_of_mem _ hx));have h2 : Nat.blt c 256 = true := (by have := h c List.mem_cons_self; simp [Nat.blt]; omega);show eV.bytesOf (V.int .u8 (.ofNat c) :: _) = _;unfold eV.bytesOf;rw [h2, h1]; rfl
theorem text_hex {H0 H : HpD} {s : D} {l : List Nat} (g : GrX H0 H 1 s (hexE l)) (hl : ∀ c, c ∈ l → c < 256) : textD H s = some (.lit (.str l), H) := by
 rcases g.at_ with ⟨rfl, h⟩ | ⟨b, ex, rfl, h1, h2, h3⟩
 ·have : l = [] := (by simpa [hexE] using h);subst this; rfl
 ·have hr : readD H b 0 (hexE l).length = some (hexE l).flatten := by
   have : (hexE l).flatten.length = (hexE l).length := by
    rw [flatten_len (sz := 1) (by simp [hexE]), Nat.mul_one]
   rw [readD_eq, h3];simp only [Nat.zero_add, this, Nat.le_refl, if_true, List.drop_zero];rw [List.take_of_length_le (Nat.le_of_eq this)]
  simp only [textD, hr, strD, toVs_hex, bytesOf_map l hl];rfl
theorem hexN_small {b : By} : ∀ c, c ∈ hexN b → c < 256 := by
 have : ∀ b : By, ∀ c, c ∈ hexN b → c < 256 := (by decide +kernel);exact this b
theorem appendD_two {H : HpD} {s x y : D} {by_ b : Nat} {ex : Bool} (hb : H.blk b = .cells [x, y] false) : appendD 1 by_ H s (.slice b 0 1 2 2 ex) = appendD 1 by_ H s (.row 1 .p [[x], [y]]) := by
 simp only [appendD, lenD, List.length_cons, List.length_nil]
 have h1 : srcD H 1 (0 + 1 + 1) (.slice b 0 1 2 2 ex) = some [x, y] := by
  simp only [srcD];rw [readD_eq, hb];simp
 have h2 : srcD H 1 (0 + 1 + 1) (.row 1 .p [[x], [y]]) = some [x, y] := by
  simp only [srcD];simp
 rw [h1, h2]
theorem hexs_len : ∀ {l : List By}, ((l.map hexN).flatten).length = 2 * l.length
 | [] => rfl
 | b :: l => by
  have := hexs_len (l := l);simp only [List.map_cons, List.flatten_cons, List.length_append, this, List.length_cons];have : (hexN b).length = 2 := rfl;omega
theorem hexs_small {l : List By} : ∀ c, c ∈ 120 :: (l.map hexN).flatten → c < 256 := by
 intro c hc;rcases List.mem_cons.1 hc with rfl | hc
 ·decide
 ·obtain ⟨x, hx, hc⟩ := List.mem_flatten.1 hc;obtain ⟨b, _, rfl⟩ := List.mem_map.1 hx;exact hexN_small _ hc
def ValI (H0 : HpD) (v : Vl) (k : Nat) (fr : FrD) (H : HpD) : Prop :=
 ∃ (i : Nat) (s : D), k = v.bytes.length - i ∧ i ≤ v.bytes.length ∧ fr = [(3, s), (18, byD v.bytes), (19, .lit (.int .i64 (v.bytes.length : Int))), (20, .lit (.int .i64 (i : Int)))] ∧ Gr H0 H 1 s (hexE (120 :: ((v.bytes.take i).map hexN).flatten))
theorem text_val {g : SG} (L : HVal p ext F g) {v : Vl} (hn : wr .i64 v.n = v.n) : FnD p ext (F 213) [.agg v.c] (.lit (.str (valN v))) := by
 refine fn_of L.h213 (M := M213) rfl ok213 rfl fun H => sem_run 9000 _ ?_;simp [Vl.c]
 by_cases h1 : v.null = true
 ·simp [h1];refine sem_ret ?_;simp [M213];rw [show valN v = [110, 117, 108, 108] by simp [valN, h1]];exact .same (by simp)
 ·simp [h1]
  by_cases h2 : v.kind = 1
  ·simp [h2];refine sf (fmt_ext L.x209 L.pow hn) ?_;simp;refine sem_ret ?_;simp [M213];rw [show valN v = itoaN v.n by simp [valN, h1, h2]];exact .same (by simp)
  ·simp [h2];refine sem_loop (ValI H v) ?_ (k := v.bytes.length) ⟨0, _, by simp, by simp, rfl, ?_⟩
   ·rintro k fr H' ⟨i, s, rfl, hi, rfl, gr⟩;refine sem_exact gr fun H1 g1 _ _ => ?_;refine sem_run 9000 _ ?_;simp
    by_cases c : i < v.bytes.length
    ·have hx : v.bytes[i]? = some v.bytes[i] := (by simp);simp [c, hex_and, hex_hi, hex_lo, hexHi, hexLo];rw [appendD_two (x := .lit (.int .u8 ((hexD.getD (v.bytes[i].val / 16) 0 : Nat) : Int))) (y := .lit (.int .u8 ((hexD.getD (v.bytes[i].val % 16) 0 : Nat) : Int))) (by simp)];have hsm := v.small
     have hle : (hexE (120 :: ((v.bytes.take i).map hexN).flatten)).length = 2 * i + 1 := by
      rw [hexE_len, List.length_cons, hexs_len, List.length_take]; omega
     refine sem_app (g1.gr.mono (Sub.refl.new)) (by simp) (by simp) (roomyD (by rw [hle]; simp; omega) (by rw [hle]; simp; omega)) fun s1 H2 g2 k1 n1 => ?_;simp;refine sem_ok ?_;have hw : wr .i64 ((i : Int) + 1) = ((i + 1 : Nat) : Int) := (by rw [wr_of] <;> omega);refine ⟨_, by omega, i + 1, s1, rfl, by omega, by rw [hw], ?_⟩
     have e : hexE (120 :: ((v.bytes.take (i + 1)).map hexN).flatten) = hexE (120 :: ((v.bytes.take i).map hexN).flatten) ++ [[.lit (.int .u8 ((hexD.getD (v.bytes[i].val / 16) 0 : Nat) : Int))], [.lit (.int .u8 ((hexD.getD (v.bytes[i].val % 16) 0 : Nat) : Int))]] := by
      rw [List.take_succ_eq_append_getElem c, List.map_append, List.flatten_append, ← List.cons_append, hexE_append]; rfl
     rw [e]; exact g2
    ·simp [c];refine sem_exit (sem_run 9000 _ ?_);have : i = v.bytes.length := (by omega);subst this;rw [List.take_length] at g1;simp [text_hex g1 hexs_small];refine sem_ret ?_;simp [M213];rw [show valN v = 120 :: (v.bytes.map hexN).flatten by simp [valN, h1, h2]];exact .le g1.gr.sub (D.le_refl _) (by simp)
   ·exact Gr.lit Sub.refl (by simp [hexE]) (by simp [hexE]) (by simp [hexE])
end Go.Lib
end

section
namespace Go.Lib
open Go.Vm Go.Dv
set_option maxRecDepth 100000
end Go.Lib
end

section
namespace Go.Lib
open Go.Vm Go.Dv
set_option maxRecDepth 100000
end Go.Lib
end

section
namespace Go.Lib
open Go.Vm Go.Dv
set_option maxRecDepth 100000
end Go.Lib
end

section
namespace Go.Lib
open Go.Vm Go.Dv
set_option maxRecDepth 100000
abbrev K49 (F : Nat → Nat) : KC := .seq (.region [⟨some 4,.p (.mov (.val (.bool false))),none⟩] [] [0,1])
 (.seq (.seq (.region [mv 6 0,lb 7 6,mv 8 1,lb 9 8,bt 10 .neq 7 9] [] [0,1,10])
 (.cond (.tmp 10) (.seq (.region [⟨some 4,.p (.mov (.val (.bool false))),none⟩] [] [4])
 (.ret))
 (.skip)))
 (.seq (.seq (.region [mi 5 0] [] [0,1,5])
 (.block 0 (.loop (.seq (.seq (.region [mv 11 5,mv 12 0,lb 13 12,bt 14 .lss 11 13] [] [0,1,5,14])
 (.cond (.tmp 14) (.skip)
 (.exit 0)))
 (.seq (.block 1 (.seq (.dregion [⟨mv 17 0,0,8⟩,⟨mv 18 5,0,8⟩,⟨ix 19 4 17 18,0,8⟩,⟨ln 20 4 19,0,8⟩,⟨mv 21 1,0,8⟩,⟨mv 22 5,0,8⟩,⟨ix 23 4 21 22,0,8⟩,⟨ln 24 4 23,0,8⟩,⟨⟨some 25,.e (.call (F 50) [(.tmp 20),(.tmp 24)]),none⟩,0,10⟩,⟨⟨some 26,.p (.not (.tmp 25)),none⟩,9,10⟩] [0,1,5,26])
 (.cond (.tmp 26) (.seq (.region [⟨some 4,.p (.mov (.val (.bool false))),none⟩] [] [4])
 (.ret))
 (.skip))))
 (.region [mv 15 5,bi 16 .add 15 1,mv 5 16] [] [0,1,5]))))))
 (.seq (.region [⟨some 4,.p (.mov (.val (.bool true))),none⟩] [] [4])
 (.ret))))
def M49 (F : Nat → Nat) : Fun := ⟨27,2,(K49 F).erase,[.tmp 4]⟩
theorem ok49 {F : Nat → Nat} : (K49 F).ok = true := rfl
abbrev K50 (_F : Nat → Nat) : KC := .seq (.region [⟨some 2,.a (.box (.tmp 0)),none⟩,⟨some 3,.a (.box (.tmp 1)),none⟩,⟨some 4,.p (.mov (.val (.bool false))),none⟩] [2,3] [2,3])
 (.seq (.region [fa 5 0 2,l1 6 5,fa 7 0 3,l1 8 7,⟨some 9,.p (.eq .bool false (.tmp 6) (.tmp 8)),none⟩,mv 10 9,⟨some 11,.p (.faddr 1 (.tmp 2)),(some (10,true))⟩,⟨some 12,.load1 (.tmp 11),(some (10,true))⟩,⟨some 13,.p (.faddr 1 (.tmp 3)),(some (10,true))⟩,⟨some 14,.load1 (.tmp 13),(some (10,true))⟩,⟨some 15,.p (.bin .eql (.tmp 12) (.tmp 14)),(some (10,true))⟩,⟨some 16,.p (.pick (.tmp 10) (.tmp 15) (.val (.bool false))),none⟩,mv 17 16,⟨some 18,.p (.faddr 2 (.tmp 2)),(some (17,true))⟩,⟨some 19,.load1 (.tmp 18),(some (17,true))⟩,⟨some 20,.p (.faddr 2 (.tmp 3)),(some (17,true))⟩,⟨some 21,.load1 (.tmp 20),(some (17,true))⟩,⟨some 22,.p (.bin .eql (.tmp 19) (.tmp 21)),(some (17,true))⟩,⟨some 23,.p (.pick (.tmp 17) (.tmp 22) (.val (.bool false))),none⟩,mv 24 23,⟨some 25,.p (.faddr 3 (.tmp 2)),(some (24,true))⟩,⟨some 26,.load1 (.tmp 25),(some (24,true))⟩,⟨some 27,.e (.text (.tmp 26)),(some (24,true))⟩,⟨some 28,.p (.faddr 3 (.tmp 3)),(some (24,true))⟩,⟨some 29,.load1 (.tmp 28),(some (24,true))⟩,⟨some 30,.e (.text (.tmp 29)),(some (24,true))⟩,⟨some 31,.p (.bin .eql (.tmp 27) (.tmp 30)),(some (24,true))⟩,⟨some 32,.p (.pick (.tmp 24) (.tmp 31) (.val (.bool false))),none⟩,mv 4 32] [] [4])
 (.ret))
def M50 (F : Nat → Nat) : Fun := ⟨33,2,(K50 F).erase,[.tmp 4]⟩
theorem ok50 {F : Nat → Nat} : (K50 F).ok = true := rfl
end Go.Lib
end

section
set_option maxRecDepth 10000
namespace Go.Lib
open Go.Vm Go.Dv
variable {α : Type}
structure Ord3 (G : α → Prop) (cmp : α → α → Int) : Prop where
 sym : ∀ x y, G x → G y → cmp x y = - cmp y x
 tr : ∀ x y z, G x → G y → G z → cmp x y ≤ 0 → cmp y z ≤ 0 → cmp x z ≤ 0
namespace Ord3
variable {G : α → Prop} {cmp : α → α → Int}
theorem trans (o : Ord3 G cmp) : ∀ x y z, G x → G y → G z → ¬ cmp y x < 0 → ¬ cmp z y < 0 → ¬ cmp z x < 0 := fun x y z hx hy hz h1 h2 => by
 have e1 := o.sym x y hx hy;have e2 := o.sym y z hy hz;have e3 := o.sym x z hx hz;have := o.tr x y z hx hy hz (by omega) (by omega);omega
end Ord3
end Go.Lib
end

section
set_option maxRecDepth 10000
namespace Go.Lib
open Go.Vm Go.Dv
variable {p : Prog} {ext : Ext} {F : Nat → Nat}
structure HSame6v (p : Prog) (ext : Ext) (F : Nat → Nat) : Prop where
 h49 : Has p ext F 49 M49
 h50 : Has p ext F 50 M50
end Go.Lib
end

section
namespace Go.Lib
open Go.Vm Go.Dv
set_option maxRecDepth 100000
end Go.Lib
end

section
namespace Go.Lib
open Go.Vm Go.Dv
set_option maxRecDepth 100000
end Go.Lib
end

section
namespace Go.Srt
variable {α : Type}
def Srt (cmp : α → α → Int) (L : List α) (a b : Nat) : Prop := ∀ p q x y, a ≤ p → p < q → q < b → L[p]? = some x → L[q]? = some y → ¬ cmp y x < 0
theorem Srt.mono {cmp : α → α → Int} {L : List α} {a b a' b' : Nat} (h : Srt cmp L a b) (ha : a ≤ a') (hb : b' ≤ b) : Srt cmp L a' b' :=
 fun p q x y h1 h2 h3 => h p q x y (by omega) h2 (by omega)
def Parted (cmp : α → α → Int) (L : List α) (a m b : Nat) : Prop := ∀ p q x y, a ≤ p → p < m → m ≤ q → q < b → L[p]? = some x → L[q]? = some y → ¬ cmp y x < 0
theorem Srt.join {cmp : α → α → Int} {L : List α} {a m b : Nat} (h1 : Srt cmp L a m) (h2 : Srt cmp L m b) (h3 : Parted cmp L a m b) : Srt cmp L a b := fun p q x y k1 k2 k3 k4 k5 => by
 rcases Nat.lt_or_ge q m with c | c
 ·exact h1 p q x y k1 k2 c k4 k5
 ·rcases Nat.lt_or_ge p m with d | d
  ·exact h3 p q x y k1 d c k3 k4 k5
  ·exact h2 p q x y d k2 k3 k4 k5
theorem parts (M : List α) {a b : Nat} (h : a ≤ b) : M = M.take a ++ ((M.take b).drop a ++ M.drop b) := by
 rw [← List.append_assoc]
 have : M.take a ++ (M.take b).drop a = M.take b := by
  have := List.take_append_drop a (M.take b)
  rwa [List.take_take, Nat.min_eq_left h] at this
 rw [this, List.take_append_drop]
end Go.Srt
end

section
set_option maxRecDepth 10000
namespace Go.Lib
open Go.Vm Go.Dv Go.Srt
variable {p : Prog} {ext : Ext} {F : Nat → Nat} {α : Type}
structure Enc (α : Type) where
 d : α → D
 flat : ∀ x, flatD (d x) = true
 cells : ∀ x, cellsD (d x) = some [d x]
attribute [simp] Enc.flat Enc.cells
def hp (E : Enc α) (H : HpD) (bs : Nat) (L : List α) : HpD := H.put bs (.cells (L.map E.d) false)
theorem put_put {H : HpD} {bs : Nat} {x y : BD} : (H.put bs x).put bs y = H.put bs y := by
 simp only [HpD.put]
 congr 1
 funext c
 by_cases h : c = bs <;> simp [h]
theorem hp_next {E : Enc α} {H : HpD} {bs : Nat} {L : List α} : (hp E H bs L).next = H.next := rfl
attribute [simp] hp_next put_put
end Go.Lib
end

section
set_option maxRecDepth 10000
namespace Go.Lib
open Go.Vm Go.Dv Go.Srt
variable {p : Prog} {ext : Ext} {F : Nat → Nat} {α : Type}
def Blk (cmp : α → α → Int) (Y : List α) (z lo n : Nat) : Prop := ∀ a, lo ≤ a → z ∣ a → Srt cmp Y a (min (a + z) n)
end Go.Lib
end

section
set_option maxRecDepth 10000
namespace Go.Lib
open Go.Vm Go.Dv Go.Srt
variable {p : Prog} {ext : Ext} {F : Nat → Nat}
end Go.Lib
end

section
set_option maxRecDepth 10000
namespace Go.Lib
open Go.Vm Go.Dv
variable {p : Prog} {ext : Ext} {F : Nat → Nat}
theorem max2_int {tab : Tab} {a b : Int} : foldD (max2V tab) [.lit (.int .i64 a), .lit (.int .i64 b)] = some (.lit (.int .i64 (max a b))) := by
 show litO (some (V.int .i64 (cond (ilt a b) b a))) = _;rw [ilt_d]
 by_cases h : a < b
 ·simp only [h, decide_true, cond_true, litO_int]; rw [Int.max_def, if_pos (by omega)]
 ·simp only [h, decide_false, cond_false, litO_int];rw [Int.max_def]; split
  ·rw [show a = b by omega]
  ·rfl
attribute [simp] max2_int
theorem ref6_sameVal (L : HSame6v p ext F) {a b : Vl} : FnD p ext (F 50) [.agg a.c, .agg b.c] (.lit (.bool (decide (a = b)))) := by
 refine fn_of L.h50 (M := M50) rfl ok50 rfl fun H => sem_run 9000 _ ?_;simp
 by_cases h1 : a.null = b.null
 ·by_cases h2 : a.kind = b.kind
  ·by_cases h3 : a.n = b.n
   ·by_cases h4 : a.bytes = b.bytes
    ·simp [h1, h2, h3, h4];refine sem_ret ?_;simp [M50, vl_ext, h1, h2, h3, h4];exact .same (by simp)
    ·simp [h1, h2, h3, h4];refine sem_ret ?_;simp [M50, vl_ext, h4];exact .same (by simp)
   ·simp [h1, h2, h3];refine sem_ret ?_;simp [M50, vl_ext, h3];exact .same (by simp)
  ·simp [h1, h2];refine sem_ret ?_;simp [M50, vl_ext, h2];exact .same (by simp)
 ·simp [h1];refine sem_ret ?_;simp [M50, vl_ext, h1];exact .same (by simp)
def Same6I {α : Type} [DecidableEq α] (f : List α → D) (x y : List α) (H0 : HpD) (k : Nat) (fr : FrD) (H : HpD) : Prop :=
 ∃ i : Nat, k = x.length - i ∧ i ≤ x.length ∧ decide (x = y) = decide (x.drop i = y.drop i) ∧ fr = [(0, f x), (1, f y), (5, .lit (.int .i64 (i : Int)))] ∧ Sub H0 H
theorem ref6_sameRow (L : HSame6v p ext F) {x y : Row} (hx : x.length < 1000000) : FnD p ext (F 49) [rowD x, rowD y] (.lit (.bool (decide (x = y)))) := by
 refine fn_of L.h49 (M := M49) rfl ok49 rfl fun H => sem_run 9000 _ ?_;simp
 by_cases hl : x.length = y.length
 ·simp [hl];refine sem_loop (Same6I rowD x y H) ?_ (k := x.length) ⟨0, by simp, by simp, by simp, rfl, .refl⟩;rintro k fr H' ⟨i, rfl, hi, hc, rfl, hs⟩;refine sem_run 9000 _ ?_;simp
  by_cases c : i < x.length
  ·have c3 : i < y.length := (by omega);simp [c, c3];refine sem_dfn (ref6_sameVal L (a := x[i]) (b := y[i])) (by first | exact D.les_refl _ | simp) (sem_run 9000 _ ?_);simp;rw [List.drop_eq_getElem_cons c, List.drop_eq_getElem_cons c3] at hc
   by_cases c4 : x[i] = y[i]
   ·simp [c4];refine sem_ok ?_;have hw : wr .i64 ((i : Int) + 1) = ((i + 1 : Nat) : Int) := (by rw [wr_of] <;> omega);exact ⟨_, by omega, i + 1, rfl, by omega, by rw [hc]; simp only [c4, List.cons.injEq, true_and], by rw [hw], (sB hs)⟩
   ·simp [c4];refine sem_ret ?_;simp;refine sem_ret ?_;simp [M49];exact .le (sB hs) (by rw [hc]; simp only [c4, List.cons.injEq, false_and, decide_false, D.le_refl]) trivial
  ·simp [c];refine sem_exit (sem_run 9000 _ ?_);simp;refine sem_ret ?_;simp [M49];rw [hc, List.drop_eq_nil_of_le (by omega : x.length ≤ i), List.drop_eq_nil_of_le (by omega : y.length ≤ i)];exact .le (sB hs) (by simp) trivial
 ·have hl' : ¬ (x.length : Int) = y.length := (by omega);have hne : ¬ x = y := fun e => hl (by rw [e]);simp [hl'];refine sem_ret ?_;simp [M49];exact .le .refl (by simp [hne]) trivial
end Go.Lib
end

section
set_option maxRecDepth 10000
namespace Go.Lib
open Go.Vm Go.Dv Go.Srt
variable {p : Prog} {ext : Ext} {F : Nat → Nat}
def In64 (n : Int) : Prop := -9223372036854775808 ≤ n ∧ n < 9223372036854775808
instance {n : Int} : Decidable (In64 n) := by unfold In64; exact inferInstance
def numV (n : Int) : Vl := ⟨false, 1, n, [], by simp⟩
end Go.Lib
end

section
set_option maxRecDepth 10000
namespace Go.Lib
open Go.Vm Go.Dv Go.Srt
variable {p : Prog} {ext : Ext} {F : Nat → Nat}
def setKind (v : Vl) (k : Int) : Vl := ⟨v.null, k, v.n, v.bytes, v.small⟩
def endS (sg : Int) (out v : Vl) : Vl := if v.null = true then setKind out v.kind else if out.null = true ∨ 0 < cmpV v out * sg then v else out
end Go.Lib
end

section
set_option maxRecDepth 10000
namespace Go.Lib
open Go.Vm Go.Dv Go.Srt
variable {p : Prog} {ext : Ext} {F : Nat → Nat}
structure Ag where
 kind : Int
 col : Int
def Ag.c (a : Ag) : List D := [.lit (.int .i64 a.kind), .lit (.int .i64 a.col)]
def agsE (l : List Ag) : List (List D) := l.map Ag.c
def agsD (l : List Ag) : D := .row 2 .p (agsE l)
theorem ags_len {l : List Ag} : (agsE l).length = l.length := by simp [agsE]
theorem lenb_ags {l : List Ag} : lenbD (agsD l) = some (.lit (.int .i64 (l.length : Int))) := by simp [agsD, ags_len]
theorem at_ags {l : List Ag} {n : Nat} : atO 2 (agsD l) (some n) = elemD (l[n]?.map Ag.c) := by simp [agsD, agsE]
theorem ag_len {a : Ag} : a.c.length = 2 := rfl
theorem ag_flats {a : Ag} : flatsD a.c = true := rfl
theorem ag_take {a : Ag} : a.c.take 2 = a.c := rfl
theorem ag_drop {a : Ag} : a.c.drop 2 = [] := rfl
attribute [simp] ags_len lenb_ags at_ags ag_len ag_flats ag_take ag_drop
end Go.Lib
end

section
set_option maxRecDepth 10000
namespace Go.Lib
open Go.Vm Go.Dv Go.Srt
variable {p : Prog} {ext : Ext} {F : Nat → Nat}
end Go.Lib
end

section
set_option maxRecDepth 10000
namespace Go.Lib
open Go.Vm Go.Dv Go.Srt
def cs2 : List Ag := [⟨1, 0⟩, ⟨2, 0⟩]
def grow (x : Vl × Nat × Int) : Row := [x.1, numV x.2.1, numV x.2.2]
end Go.Lib
end

section
set_option maxRecDepth 10000
namespace Go.Lib
open Go.Vm Go.Dv Go.Srt
structure Vl.Good (v : Vl) : Prop where
 nul : v.null = true → v.n = 0 ∧ v.bytes = []
 kd : (v.kind = 1 ∧ v.bytes = []) ∨ (v.kind = 2 ∧ v.n = 0)
 int : In64 v.n
section
variable {α : Type} {G : α → Prop} {cmp : α → α → Int}
end
end Go.Lib
end

section
set_option maxRecDepth 10000
namespace Go.Lib
open Go.Vm Go.Dv Go.Srt
variable {p : Prog} {ext : Ext} {F : Nat → Nat}
end Go.Lib
end

section
set_option maxRecDepth 10000
namespace Go.Lib
open Go.Vm Go.Dv Go.Srt
variable {p : Prog} {ext : Ext} {F : Nat → Nat}
end Go.Lib
end

section
set_option maxRecDepth 10000
namespace Go.Lib
open Go.Vm Go.Dv Go.Srt
variable {p : Prog} {ext : Ext} {F : Nat → Nat}
structure Sx where
 col : Int
 add : Bool
 v : Vl
def Sx.c (x : Sx) : List D := .lit (.int .i64 x.col) :: .lit (.bool x.add) :: x.v.c
def sxsE (l : List Sx) : List (List D) := l.map Sx.c
def sxsD (l : List Sx) : D := .row 6 .p (sxsE l)
theorem sxs_len {l : List Sx} : (sxsE l).length = l.length := by simp [sxsE]
theorem lenb_sxs {l : List Sx} : lenbD (sxsD l) = some (.lit (.int .i64 (l.length : Int))) := by simp [sxsD, sxs_len]
theorem at_sxs {l : List Sx} {n : Nat} : atO 6 (sxsD l) (some n) = elemD (l[n]?.map Sx.c) := by simp [sxsD, sxsE]
theorem sx_len {a : Sx} : a.c.length = 6 := rfl
theorem sx_flats {a : Sx} : flatsD a.c = true := rfl
theorem sx_take {a : Sx} : a.c.take 6 = a.c := rfl
theorem sx_drop {a : Sx} : a.c.drop 6 = [] := rfl
theorem sx_0 {a : Sx} : a.c[0]? = some (.lit (.int .i64 a.col)) := rfl
theorem sx_1 {a : Sx} : a.c[1]? = some (.lit (.bool a.add)) := rfl
theorem sx_4 {a : Sx} : a.c[4]? = some (.lit (.int .i64 a.v.n)) := rfl
theorem sx_v {a : Sx} : (a.c.drop 2).take 4 = a.v.c := rfl
theorem sx_unders {n : Nat} {a : Sx} : D.unders n a.c := by simp [Sx.c]
attribute [simp] sxs_len lenb_sxs at_sxs sx_len sx_flats sx_take sx_drop sx_0 sx_1 sx_4 sx_v sx_unders
def withN (v : Vl) (n : Int) : Vl := ⟨v.null, v.kind, n, v.bytes, v.small⟩
def setS (r : Row) (x : Sx) : Option Row :=
 if x.col < 0 ∨ (r.length : Int) ≤ x.col then some r else
 if x.add = false then some (r.set x.col.toNat x.v) else
 if (atV r x.col).null = true then some r else
 if In64 ((atV r x.col).n + x.v.n) then some (r.set x.col.toNat (withN (atV r x.col) ((atV r x.col).n + x.v.n))) else none
def setF : Row → List Sx → Option Row
 | r, [] => some r
 | r, x :: l => match setS r x with
  | some r' => setF r' l
  | none => none
def setD (o : Option Row) : D := .tup [rowD (o.getD []), .lit (.bool o.isSome)]
end Go.Lib
end

section
set_option maxRecDepth 10000
namespace Go.Lib
open Go.Vm Go.Dv Go.Srt
attribute [-simp] bin_and bin_xor
theorem valF_kind {c : Cl} {n : Int} : (valF c n).kind = c.kind := by
 unfold valF; split
 ·rfl
 ·split <;> rfl
def GoodS (s : Sch) : Prop := ∀ c, c ∈ s → c.kind = 1 ∨ c.kind = 2
theorem in64_wr {n : Int} : In64 (wr .i64 n) := by
 rw [wr_eq]
 have : IntKind.wrap .i64 n = if (decide (n % 18446744073709551616 ≥ 9223372036854775808)) = true then n % 18446744073709551616 - 18446744073709551616 else n % 18446744073709551616 := rfl
 rw [this];unfold In64
 by_cases h : n % 18446744073709551616 ≥ 9223372036854775808
 ·rw [if_pos (by simpa using h)]; omega
 ·rw [if_neg (by simpa using h)]; omega
theorem in64_and {n : Int} {m : Nat} (hm : m < 65536) : In64 (andI n (m : Int)) := by
 obtain ⟨q, hq, h1⟩ := andI_small (a := n) hm;rw [hq]; unfold In64; omega
theorem valF_good {c : Cl} (hc : c.kind = 1 ∨ c.kind = 2) {n : Int} : (valF c n).Good := by
 unfold valF;split
 ·exact ⟨fun _ => ⟨rfl, rfl⟩, by rcases hc with h | h <;> simp [h], by unfold In64; simp⟩
 ·split
  ·rename_i h;refine ⟨fun h2 => by simp at h2, .inl ⟨h, rfl⟩, ?_⟩;show In64 (if _ then _ else _);split
   ·exact in64_wr
   ·split
    ·exact in64_wr
    ·split
     ·exact in64_wr
     ·exact in64_and (m := 7) (by simp)
  ·rename_i h;exact ⟨fun h2 => by simp at h2, .inr ⟨by rcases hc with k | k; exact absurd k h; exact k, rfl⟩, by show In64 0; unfold In64; simp⟩
theorem schF_kinds {n : Int} : GoodS (schF n) := by
 intro c hc;rcases List.mem_cons.1 hc with rfl | hc
 ·exact .inl rfl
 ·obtain ⟨i, _, rfl⟩ := List.mem_map.1 hc;have := bitI_01 (n := n) (k := 8 + 2 * i);show bitI n (8 + 2 * i) + 1 = 1 ∨ bitI n (8 + 2 * i) + 1 = 2;omega
theorem schF_cons {n : Int} : schF n = keyC :: (List.range (moreF n)).map (colF n) := rfl
end Go.Lib
end

section
set_option maxRecDepth 10000
namespace Go.Lib
open Go.Vm Go.Dv Go.Srt
variable {p : Prog} {ext : Ext} {F : Nat → Nat}
end Go.Lib
end

section
set_option maxRecDepth 10000
namespace Go.Lib
open Go.Vm Go.Dv Go.Srt
variable {p : Prog} {ext : Ext} {F : Nat → Nat}
inductive Pr where
 | mk (kind col op : Int) (v : Vl) (l : List Pr)
def Pr.kind : Pr → Int | .mk k _ _ _ _ => k
def Pr.col : Pr → Int | .mk _ c _ _ _ => c
def Pr.op : Pr → Int | .mk _ _ o _ _ => o
def Pr.v : Pr → Vl | .mk _ _ _ v _ => v
def Pr.l : Pr → List Pr | .mk _ _ _ _ l => l
mutual
def Pr.c : Pr → List D
 | .mk k c o v l => [.lit (.int .i64 k), .lit (.int .i64 c), .lit (.int .i64 o), .lit (.bool v.null), .lit (.int .i64 v.kind), .lit (.int .i64 v.n), byD v.bytes, .row 8 .p (Pr.cs l)]
def Pr.cs : List Pr → List (List D)
 | [] => []
 | p :: l => p.c :: Pr.cs l
end
theorem Pr.cs_map : ∀ {l : List Pr}, Pr.cs l = l.map Pr.c
 | [] => by simp [Pr.cs]
 | p :: l => by simp [Pr.cs, Pr.cs_map (l := l)]
def prsD (l : List Pr) : D := .row 8 .p (l.map Pr.c)
theorem pr_c {q : Pr} : q.c = [.lit (.int .i64 q.kind), .lit (.int .i64 q.col), .lit (.int .i64 q.op), .lit (.bool q.v.null), .lit (.int .i64 q.v.kind), .lit (.int .i64 q.v.n), byD q.v.bytes, prsD q.l] := by
 cases q; simp [Pr.c, Pr.kind, Pr.col, Pr.op, Pr.v, Pr.l, prsD, Pr.cs_map]
theorem pr_0 {q : Pr} : q.c[0]? = some (.lit (.int .i64 q.kind)) := by rw [pr_c]; rfl
theorem pr_1 {q : Pr} : q.c[1]? = some (.lit (.int .i64 q.col)) := by rw [pr_c]; rfl
theorem pr_2 {q : Pr} : q.c[2]? = some (.lit (.int .i64 q.op)) := by rw [pr_c]; rfl
theorem pr_7 {q : Pr} : q.c[7]? = some (prsD q.l) := by rw [pr_c]; rfl
theorem pr_len {q : Pr} : q.c.length = 8 := by rw [pr_c]; rfl
theorem pr_g {q : Pr} {i : Nat} {d : D} (h : q.c[i]? = some d) (hi : i < q.c.length) : q.c[i] = d := (List.getElem?_eq_some_iff.1 h).2
theorem pr_g0 {q : Pr} (h : 0 < q.c.length) : q.c[0] = .lit (.int .i64 q.kind) := pr_g pr_0 h
theorem pr_g1 {q : Pr} (h : 1 < q.c.length) : q.c[1] = .lit (.int .i64 q.col) := pr_g pr_1 h
theorem pr_g2 {q : Pr} (h : 2 < q.c.length) : q.c[2] = .lit (.int .i64 q.op) := pr_g pr_2 h
theorem pr_g7 {q : Pr} (h : 7 < q.c.length) : q.c[7] = prsD q.l := pr_g pr_7 h
theorem pr_v {q : Pr} : (q.c.drop 3).take 4 = q.v.c := by rw [pr_c]; rfl
theorem pr_take {q : Pr} : q.c.take 8 = q.c := List.take_of_length_le (by rw [pr_len]; exact Nat.le_refl _)
theorem pr_drop {q : Pr} : q.c.drop 8 = [] := List.drop_eq_nil_of_le (by rw [pr_len]; exact Nat.le_refl _)
theorem pr_flats {q : Pr} : flatsD q.c = true := by rw [pr_c]; rfl
theorem prs_len {l : List Pr} : lenbD (prsD l) = some (.lit (.int .i64 (l.length : Int))) := by simp [prsD]
theorem at_prs {l : List Pr} {n : Nat} : atO 8 (prsD l) (some n) = elemD (l[n]?.map Pr.c) := by simp [prsD]
theorem pr_unders {n : Nat} : ∀ q : Pr, D.unders n q.c := by
 have key : ∀ (k : Nat) (q : Pr), SizeOf.sizeOf q < k → D.unders n q.c := by
  intro k
  induction k with
  | zero => intro q h; omega
  | succ k ih =>
   intro q h
   cases q with
   | mk kd c o v l =>
    simp only [Pr.c, Pr.cs_map, D.unders, D.under, by_under, true_and, and_true]
    have : ∀ l' : List Pr, (∀ q, q ∈ l' → D.unders n q.c) → D.underss n (l'.map Pr.c) := by
     intro l'
     induction l' with
     | nil => intro _; simp [D.underss]
     | cons q l' ih2 => intro h; simp only [List.map_cons, D.underss]; exact ⟨h q (by simp), ih2 fun x hx => h x (by simp [hx])⟩
    refine this l fun q hq => ih q ?_;have := List.sizeOf_lt_of_mem hq;simp at h; omega
 exact fun q => key (SizeOf.sizeOf q + 1) q (by omega)
theorem prs_under {n : Nat} {l : List Pr} : (prsD l).under n := by simp only [prsD, D.under]; exact underss_map (fun q => pr_unders q) _
theorem cellsD_prs {l : List Pr} : cellsD (prsD l) = some [prsD l] := rfl
theorem prs_flat {l : List Pr} : flatD (prsD l) = true := rfl
attribute [simp] pr_g0 pr_g1 pr_g2 pr_g7 pr_0 pr_1 pr_2 pr_7 pr_len pr_v pr_take pr_drop pr_flats prs_len at_prs pr_unders prs_under cellsD_prs prs_flat
end Go.Lib
end

section
set_option maxRecDepth 10000
namespace Go.Lib
open Go.Vm Go.Dv Go.Srt
def isB (v : Vl) : Bool := decide ((v.kind = 1 ∨ v.kind = 2) ∧ (if v.null = true then v.n = 0 ∧ v.bytes = [] else if v.kind = 1 then v.bytes = [] else v.n = 0 ∧ v.bytes.length ≤ 64))
def OneP (s : Sch) (q : Pr) : Prop :=
 (q.kind = 1 ∧ q.col = 0 ∧ q.op = 0 ∧ q.v = zv ∧ q.l = []) ∨
 (q.kind = 2 ∧ (0 ≤ q.col ∧ q.col < s.length) ∧ (1 ≤ q.op ∧ q.op ≤ 6) ∧ q.v.null = false ∧ isB q.v = true ∧ (∃ c, s[q.col.toNat]? = some c ∧ q.v.kind = c.kind) ∧ q.l = [] ∧ In64 q.v.n) ∨
 (q.kind = 3 ∧ (0 ≤ q.col ∧ q.col < s.length) ∧ q.op = 0 ∧ q.v = zv ∧ q.l = []) ∨
 ((q.kind = 4 ∨ q.kind = 5) ∧ q.col = 0 ∧ q.op = 0 ∧ q.v = zv ∧ q.l.length ≤ 8) ∨
 (q.kind = 6 ∧ q.col = 0 ∧ q.op = 0 ∧ q.v = zv ∧ q.l.length = 1)
def PrL (s : Sch) : Nat → Pr → Prop
 | 0, _ => False
 | d + 1, q => OneP s q ∧ ∀ x, x ∈ q.l → PrL s d x
def nameS (s : Sch) (c : Int) : List Nat := match s[c.toNat]? with
 | some c => c.name
 | none => []
def opN (o : Int) : List Nat := if o = 1 then [61] else if o = 2 then [33, 61] else if o = 3 then [60] else if o = 4 then [60, 61] else if o = 5 then [62] else [62, 61]
mutual
def toldN (s : Sch) : Pr → List Nat
 | .mk k c o v l => if k = 2 then nameS s c ++ [32] ++ opN o ++ [32] ++ valN v else if k = 3 then [110, 117, 108, 108, 32] ++ nameS s c
   else if k = 4 then [97, 110, 100] ++ ([40] ++ joinN (toldsN s l) [44] ++ [41]) else if k = 5 then [111, 114] ++ ([40] ++ joinN (toldsN s l) [44] ++ [41]) else if k = 6 then [110, 111, 116] ++ ([40] ++ joinN (toldsN s l) [44] ++ [41])
   else [116, 114, 117, 101]
def toldsN (s : Sch) : List Pr → List (List Nat)
 | [] => []
 | x :: l => toldN s x :: toldsN s l
end
theorem toldsN_map {s : Sch} : ∀ {l : List Pr}, toldsN s l = l.map (toldN s)
 | [] => by simp [toldsN]
 | x :: l => by simp [toldsN, toldsN_map (l := l)]
theorem toldN_eq {s : Sch} {q : Pr} : toldN s q = if q.kind = 2 then nameS s q.col ++ [32] ++ opN q.op ++ [32] ++ valN q.v else if q.kind = 3 then [110, 117, 108, 108, 32] ++ nameS s q.col
   else if q.kind = 4 then [97, 110, 100] ++ ([40] ++ joinN (q.l.map (toldN s)) [44] ++ [41]) else if q.kind = 5 then [111, 114] ++ ([40] ++ joinN (q.l.map (toldN s)) [44] ++ [41]) else if q.kind = 6 then [110, 111, 116] ++ ([40] ++ joinN (q.l.map (toldN s)) [44] ++ [41])
   else [116, 114, 117, 101] := by
 cases q; simp only [toldN, Pr.kind, Pr.col, Pr.op, Pr.v, Pr.l, toldsN_map]; rfl
def unD (l : List Nat) : Nat := l.foldl (fun a c => a * 10 + (c - 48)) 0
theorem unD_snoc {l : List Nat} {c : Nat} : unD (l ++ [c]) = unD l * 10 + (c - 48) := by simp [unD]
theorem unD_dig : ∀ {f u : Nat}, u < 10 ^ (f + 1) → unD (digN f u) = u
 | 0, u, h => by
  have : u < 10 := (by simpa using h);simp [digN, unD];show u % 10 = u;omega
 | f + 1, u, h => by
  unfold digN
  by_cases c : u < 10
  ·rw [show Nat.blt u 10 = true from nblt.2 c]; simp [unD]
  ·rw [show Nat.blt u 10 = false from by rw [Bool.eq_false_iff]; exact fun h => c (nblt.1 h)];show unD (digN f (u / 10) ++ [48 + u % 10]) = u;rw [unD_snoc, unD_dig (f := f) (by rw [Nat.pow_succ] at h; omega)];omega
theorem dig_chars : ∀ {f u c : Nat}, c ∈ digN f u → 48 ≤ c ∧ c ≤ 57
 | 0, u, c, h => by
  simp [digN] at h;have : u.mod 10 < 10 := Nat.mod_lt _ (by omega);omega
 | f + 1, u, c, h => by
  unfold digN at h;have hm : u.mod 10 < 10 := Nat.mod_lt _ (by omega)
  by_cases k : u < 10
  ·rw [show Nat.blt u 10 = true from nblt.2 k] at h; simp at h; omega
  ·rw [show Nat.blt u 10 = false from by rw [Bool.eq_false_iff]; exact fun h => k (nblt.1 h)] at h;rcases List.mem_append.1 h with h | h
   ·exact dig_chars h
   ·simp at h; omega
theorem itoa_chars {n : Int} {c : Nat} (h : c ∈ itoaN n) : (48 ≤ c ∧ c ≤ 57) ∨ c = 45 := by
 cases n with
 | ofNat n => exact .inl (dig_chars h)
 | negSucc n =>
  simp only [itoaN, List.mem_cons] at h;rcases h with h | h
  ·exact .inr h
  ·exact .inl (dig_chars h)
theorem hexN_chars {b : By} {c : Nat} (h : c ∈ hexN b) : (48 ≤ c ∧ c ≤ 57) ∨ (97 ≤ c ∧ c ≤ 102) := by
 have : ∀ b : By, ∀ c, c ∈ hexN b → (48 ≤ c ∧ c ≤ 57) ∨ (97 ≤ c ∧ c ≤ 102) := (by decide +kernel);exact this b c h
def WdC (c : Nat) : Prop := c ≠ 32 ∧ c ≠ 40 ∧ c ≠ 41 ∧ c ≠ 44
theorem val_chars {v : Vl} (h : v.null = false) {c : Nat} (hc : c ∈ valN v) : WdC c := by
 unfold valN at hc;rw [if_neg (by simp [h])] at hc;unfold WdC;split at hc
 ·have := itoa_chars hc; omega
 ·rcases List.mem_cons.1 hc with rfl | hc
  ·omega
  ·obtain ⟨x, hx, hc⟩ := List.mem_flatten.1 hc;obtain ⟨b, _, rfl⟩ := List.mem_map.1 hx;have := hexN_chars hc; omega
def Wf (l : List Nat) : Prop := ∀ c, c ∈ l → c ≠ 40 ∧ c ≠ 41 ∧ c ≠ 44
def Ends (t : List Nat) : Prop := t = [] ∨ ∃ r, t = 41 :: r ∨ t = 44 :: r
structure Names (s : Sch) : Prop where
 chars : ∀ c, c ∈ s → ∀ x, x ∈ c.name → WdC x
 inj : ∀ (i j : Nat) (c c' : Cl), s[i]? = some c → s[j]? = some c' → c.name = c'.name → i = j
theorem nameS_chars {s : Sch} (hs : Names s) {i : Int} {x : Nat} (h : x ∈ nameS s i) : WdC x := by
 unfold nameS at h;split at h
 ·rename_i c hc; exact hs.chars c (List.mem_of_getElem? hc) x h
 ·simp at h
theorem opN_chars {o : Int} {x : Nat} (h : x ∈ opN o) : WdC x := by
 unfold opN at h;unfold WdC
 repeat' split at h
 all_goals (simp at h; omega)
def wordN (s : Sch) (q : Pr) : List Nat := if q.kind = 2 then nameS s q.col ++ 32 :: (opN q.op ++ 32 :: valN q.v) else if q.kind = 3 then [110, 117, 108, 108] ++ 32 :: nameS s q.col
 else if q.kind = 4 then [97, 110, 100] else if q.kind = 5 then [111, 114] else if q.kind = 6 then [110, 111, 116] else [116, 114, 117, 101]
def restN (s : Sch) (q : Pr) (t : List Nat) : List Nat := if q.kind = 4 ∨ q.kind = 5 ∨ q.kind = 6 then 40 :: (joinN (q.l.map (toldN s)) [44] ++ 41 :: t) else t
theorem told_split {s : Sch} {q : Pr} {t : List Nat} : toldN s q ++ t = wordN s q ++ restN s q t := by
 rw [toldN_eq];unfold wordN restN
 by_cases h2 : q.kind = 2
 ·simp [h2]
 ·by_cases h3 : q.kind = 3
  ·simp [h3]
  ·by_cases h4 : q.kind = 4
   ·simp [h4]
   ·by_cases h5 : q.kind = 5
    ·simp [h5]
    ·by_cases h6 : q.kind = 6
     ·simp [h6]
     ·simp [h2, h3, h4, h5, h6]
theorem word_wf {s : Sch} (hs : Names s) {q : Pr} (hq : OneP s q) : Wf (wordN s q) := by
 intro c hc;unfold wordN at hc;split at hc
 ·rename_i k
  have hv : q.v.null = false := by rcases hq with h | h | h | h | h <;> first | exact h.2.2.2.1 | (exfalso; have := h.1; omega)
  have key : WdC c ∨ c = 32 := by
   simp only [List.mem_append, List.mem_cons] at hc;rcases hc with h | h | h | h | h
   ·exact .inl (nameS_chars hs h)
   ·exact .inr h
   ·exact .inl (opN_chars h)
   ·exact .inr h
   ·exact .inl (val_chars hv h)
  rcases key with h | h
  ·exact ⟨h.2.1, h.2.2.1, h.2.2.2⟩
  ·omega
 ·split at hc
  ·have key : WdC c ∨ (c = 32 ∨ c = 110 ∨ c = 117 ∨ c = 108) := by
    simp only [List.mem_append, List.mem_cons, List.not_mem_nil, or_false] at hc;rcases hc with (h | h | h | h) | h | h
    ·omega
    ·omega
    ·omega
    ·omega
    ·omega
    ·exact .inl (nameS_chars hs h)
   rcases key with h | h
   ·exact ⟨h.2.1, h.2.2.1, h.2.2.2⟩
   ·omega
  ·repeat' split at hc
   all_goals (simp at hc; omega)
section
variable {s : Sch} {d : Nat} (hs : Names s) (ih : ∀ p q t t', PrL s d p → PrL s d q → Ends t → Ends t' → toldN s p ++ t = toldN s q ++ t' → p = q ∧ t = t')
include ih
end
theorem pr_ext {a b : Pr} (h1 : a.kind = b.kind) (h2 : a.col = b.col) (h3 : a.op = b.op) (h4 : a.v = b.v) (h5 : a.l = b.l) : a = b := by
 cases a; cases b; simp [Pr.kind, Pr.col, Pr.op, Pr.v, Pr.l] at *; exact ⟨h1, h2, h3, h4, h5⟩
end Go.Lib
end

section
namespace Go.Lib
open Go.Vm Go.Dv
set_option maxRecDepth 100000
end Go.Lib
end

section
namespace Go.Lib
open Go.Vm Go.Dv
set_option maxRecDepth 100000
end Go.Lib
end

section
set_option maxRecDepth 10000
namespace Go.Lib
open Go.Vm Go.Dv Go.Srt
variable {p : Prog} {ext : Ext} {F : Nat → Nat}
attribute [-simp] bin_and bin_xor
end Go.Lib
end

section
set_option maxRecDepth 10000
namespace Go.Lib
open Go.Vm Go.Dv Go.Srt
variable {p : Prog} {ext : Ext} {F : Nat → Nat}
attribute [-simp] bin_and bin_xor
theorem digN_len : ∀ {f u : Nat}, (digN f u).length ≤ f + 1
 | 0, u => by simp [digN]
 | f + 1, u => by
  have := digN_len (f := f) (u := Nat.div u 10);unfold digN;cases Nat.blt u 10
  ·simp; exact this
  ·simp
theorem itoa_short {n : Int} : (itoaN n).length < 100 := by
 cases n with
 | ofNat n => have := digN_len (f := 20) (u := n); simp only [itoaN]; omega
 | negSucc n => have := digN_len (f := 20) (u := n + 1); simp only [itoaN, List.length_cons]; omega
end Go.Lib
end

section
set_option maxRecDepth 10000
namespace Go.Lib
open Go.Vm Go.Dv Go.Srt
variable {p : Prog} {ext : Ext} {F : Nat → Nat}
attribute [-simp] bin_and bin_xor
structure HText (p : Prog) (ext : Ext) (F : Nat → Nat) : Prop where
 schm : HSchmE p ext F
 h214 : Has p ext F 214 M214
 h216 : Has p ext F 216 M216
 h218 : Has p ext F 218 M218
 h219 : Has p ext F 219 M219
 h220 : Has p ext F 220 M220
 h221 : Has p ext F 221 M221
theorem pred_none (L : HText p ext F) {v : Vl} : FnD p ext (F 221) [.agg v.c] (.lit (.bool (decide (v = zv)))) := by
 refine fn_of L.h221 (M := M221) rfl ok221 rfl fun H => sem_run 9000 _ ?_;simp;refine sem_fn (schm_equal L.schm (a := v) (b := zv)) (by first | exact D.les_refl _ | simp [D.les, D.le, Vl.c, zv, byD, byE]) (sem_run 9000 _ ?_);simp;refine sem_ret ?_;simp [M221];exact .le sR (D.le_refl _) (by simp)
def bareB (q : Pr) : Bool := decide (q.col = 0 ∧ q.op = 0 ∧ q.v = zv)
theorem pred_bare (L : HText p ext F) {q : Pr} : FnD p ext (F 219) [.agg q.c] (.lit (.bool (bareB q))) := by
 refine fn_of L.h219 (M := M219) rfl ok219 rfl fun H => sem_run 9000 _ ?_;simp
 by_cases h1 : q.col = 0
 ·by_cases h2 : q.op = 0
  ·simp [h1, h2];refine sf (pred_none L) ?_;simp;refine sem_ret ?_;simp [M219, bareB, h1, h2];exact .same (by simp)
  ·simp [h1, h2];refine sem_ret ?_;simp [M219, bareB, h1, h2];exact .same (by simp)
 ·simp [h1];refine sem_ret ?_;simp [M219, bareB, h1];exact .same (by simp)
theorem schm_is (L : HText p ext F) {v : Vl} (hn : v.null = false) : FnD p ext (F 220) [.agg v.c] (.lit (.bool (isB v))) := by
 refine fn_of L.h220 (M := M220) rfl ok220 rfl fun H => sem_run 9000 _ ?_;simp
 by_cases h1 : v.kind = 1
 ·simp [h1, hn];refine sem_ret ?_;simp [M220, isB, h1, hn];exact .same (by simp)
 ·by_cases h2 : v.kind = 2
  ·simp [h2, hn]
   by_cases h3 : v.n = 0
   ·by_cases h4 : v.bytes.length ≤ 64
    ·have h4' : (v.bytes.length : Int) ≤ 64 := (by omega);simp [h3, h4'];refine sem_ret ?_;simp [M220, isB, h2, h3, h4, hn];exact .same (by simp)
    ·have h4' : ¬ (v.bytes.length : Int) ≤ 64 := (by omega);simp [h3, h4'];refine sem_ret ?_;simp [M220, isB, h2, h3, h4, hn];exact .same (by simp)
   ·simp [h3];refine sem_ret ?_;simp [M220, isB, h2, h3, hn];exact .same (by simp)
  ·simp [h1, h2];refine sem_ret ?_;simp [M220, isB, h1, h2, hn];exact .same (by simp)
theorem pr_g3 {q : Pr} (h : 3 < q.c.length) : q.c[3] = .lit (.bool q.v.null) := pr_g (by rw [pr_c]; rfl) h
theorem pr_g4 {q : Pr} (h : 4 < q.c.length) : q.c[4] = .lit (.int .i64 q.v.kind) := pr_g (by rw [pr_c]; rfl) h
attribute [simp] pr_g3 pr_g4
theorem pred_one (L : HText p ext F) {s : Sch} {q : Pr} (h : OneP s q) : FnD p ext (F 218) [schD s, .agg q.c] (.lit (.bool true)) := by
 refine fn_of L.h218 (M := M218) rfl ok218 rfl fun H => sem_run 9000 _ ?_;simp;rcases h with ⟨k, c, o, v, l⟩ | ⟨k, ⟨c1, c2⟩, ⟨o1, o2⟩, nu, is, ⟨cl, hc, kk⟩, l, _⟩ | ⟨k, ⟨c1, c2⟩, o, v, l⟩ | ⟨k, c, o, v, l⟩ | ⟨k, c, o, v, l⟩
 ·have c0 : (0 : Int) ≤ q.col := (by omega);simp [k, c0];refine sf (pred_bare L) ?_;simp;simp [bareB, c, o, v, l];refine sem_ret ?_;simp [M218];exact .same (by simp)
 ·simp [k, c1, c2, o1, o2];have hci : q.col.toNat < s.length := (by omega);have hcc : s[q.col.toNat] = cl := (by rw [List.getElem?_eq_getElem hci] at hc; exact Option.some.inj hc);refine sem_dfn (schm_is L nu) (by first | exact D.les_refl _ | simp) (sem_run 9000 _ ?_);simp [is, nu, hc, c1, kk, l];refine sem_ret ?_;simp [M218];exact .same (by simp)
 ·simp [k, c1, c2, o];refine sf (pred_none L) ?_;simp;simp [v, l];refine sem_ret ?_;simp [M218];exact .same (by simp)
 ·have c0 : (0 : Int) ≤ q.col := (by omega);have l' : (q.l.length : Int) ≤ 8 := (by omega);rcases k with k | k
  ·simp [k, c0];refine sf (pred_bare L) ?_;simp;simp [bareB, c, o, v, l'];refine sem_ret ?_;simp [M218];exact .same (by simp)
  ·simp [k, c0];refine sf (pred_bare L) ?_;simp;simp [bareB, c, o, v, l'];refine sem_ret ?_;simp [M218];exact .same (by simp)
 ·have c0 : (0 : Int) ≤ q.col := (by omega);simp [k, c0];refine sf (pred_bare L) ?_;simp;simp [bareB, c, o, v, l];refine sem_ret ?_;simp [M218];exact .same (by simp)
mutual
def cntP : Pr → Nat
 | .mk _ _ _ _ l => 1 + cntPs l
def cntPs : List Pr → Nat
 | [] => 0
 | x :: l => cntP x + cntPs l
end
theorem cntP_eq {q : Pr} : cntP q = 1 + cntPs q.l := by cases q; simp [cntP, Pr.l]
theorem cntPs_append : ∀ {a b : List Pr}, cntPs (a ++ b) = cntPs a + cntPs b
 | [], b => by simp [cntPs]
 | x :: a, b => by simp [cntPs, cntPs_append (a := a)]; omega
def LookR (H : HpD) (b : Nat) (m : Nat) (d : D) (H' : HpD) : Prop :=
 d = .lit (.bool true) ∧ H'.blk b = .cells [.lit (.int .i64 (m : Int))] false ∧ H.next ≤ H'.next ∧ ∀ x, x < H.next → x ≠ b → H'.blk x = H.blk x
def LookI (H : HpD) (s : Sch) (q : Pr) (k b n : Nat) (w : Nat) (fr : FrD) (H' : HpD) : Prop :=
 ∃ i : Nat, w = q.l.length - i ∧ i ≤ q.l.length ∧ fr = [(2, .lit (.int .i64 ((k : Int) + 1))), (3, .ptr b 0), (4, .rptr [schR s] 0), (31, prsD q.l), (32, .lit (.int .i64 (q.l.length : Int))), (33, .lit (.int .i64 (i : Int)))] ∧
  H'.blk b = .cells [.lit (.int .i64 ((n + 1 + cntPs (q.l.take i) : Nat) : Int))] false ∧ H.next ≤ H'.next ∧ ∀ x, x < H.next → x ≠ b → H'.blk x = H.blk x
theorem pred_look (L : HText p ext F) {s : Sch} : ∀ (k : Nat) (q : Pr) (H : HpD) (n b : Nat), PrL s k q → H.blk b = .cells [.lit (.int .i64 (n : Int))] false → b < H.next → n + cntP q ≤ 64 → k < 100 →
  WcD p ext (F 216) [schD s, .agg q.c, .lit (.int .i64 (k : Int)), .ptr b 0] H (LookR H b (n + cntP q))
 | 0, _, _, _, _, h, _, _, _, _ => h.elim
 | k + 1, q, H, n, b, ⟨h1, h2⟩, hb, hlt, hn, hk => by
  refine wc_of L.h216 (M := M216) rfl ok216 rfl (sem_run 9000 _ ?_);have hc := cntP_eq (q := q);have w1 : wr .i64 ((n : Int) + 1) = (n : Int) + 1 := (by rw [wr_of] <;> omega);have z1 : ¬ ((k : Int) + 1 = 0) := (by omega);have z2 : ¬ (64 < (n : Int) + 1) := (by omega);simp [hb, w1, z1, z2];refine sf (pred_one L h1) ?_;simp;have hkl : k + 1 < 100 := hk
  have hql : q.l.length ≤ 8 := by
   rcases h1 with h | h | h | h | h
   ·rw [h.2.2.2.2]; simp
   ·rw [h.2.2.2.2.2.2.1]; simp
   ·rw [h.2.2.2.2]; simp
   ·exact h.2.2.2.2
   ·rw [h.2.2.2.2]; omega
  refine sem_loop (LookI H s q k b n) ?_ (k := q.l.length) ⟨0, by simp, by simp, rfl, by simp [cntPs], by simp, fun x hx hne => by rw [put_blk, if_neg hne]⟩;rintro w fr H' ⟨i, rfl, hi, rfl, b1, b2, b3⟩
  by_cases c : i < q.l.length
  ·obtain ⟨x, hx⟩ : ∃ x, q.l[i]? = some x := ⟨q.l[i], by simp⟩;have hxi : q.l[i] = x := (by rw [List.getElem?_eq_getElem c] at hx; exact Option.some.inj hx);have htk : q.l.take (i + 1) = q.l.take i ++ [x] := (by rw [List.take_succ_eq_append_getElem c, hxi])
   have hct : cntPs (q.l.take (i + 1)) = cntPs (q.l.take i) + cntP x := by rw [htk, cntPs_append]; simp [cntPs]
   have hcl : cntPs (q.l.take (i + 1)) ≤ cntPs q.l := by
    have := cntPs_append (a := q.l.take (i + 1)) (b := q.l.drop (i + 1));rw [List.take_append_drop] at this; omega
   have w2 : wr .i64 ((k : Int) + 1 - 1) = (k : Int) := (by rw [wr_of] <;> omega);have w3 : wr .i64 (k : Int) = (k : Int) := (by rw [wr_of] <;> omega);refine sem_run 9000 _ ?_;simp;simp [c, hxi, w3];refine sem_call (pred_look L k x _ (n + 1 + cntPs (q.l.take i)) b (h2 x (by rw [← hxi]; simp)) (by rw [put_blk, if_neg (by omega), new_blk, if_neg (by omega)]; exact b1) (by simp; omega) (by omega) (by omega)) ?_;rintro d H2 ⟨rfl, e1, e2, e3⟩;refine sem_run 9000 _ ?_;simp;refine sem_ok ?_;have hw : wr .i64 ((i : Int) + 1) = ((i + 1 : Nat) : Int) := (by rw [wr_of] <;> omega);have e2 : H'.next + 1 ≤ H2.next := e2
   refine ⟨_, by omega, i + 1, rfl, by omega, by rw [hw], ?_, by omega, fun y hy hne => ?_⟩
   ·rw [e1, hct]; congr 4; omega
   ·rw [e3 y (by simp; omega) hne, put_blk, if_neg (by omega), new_blk, if_neg (by omega)]; exact b3 y hy hne
  ·have : i = q.l.length := (by omega);subst this;rw [List.take_length] at b1;refine sem_run 9000 _ ?_;simp;refine sem_exit (sem_run 9000 _ ?_);simp;refine sem_ret ?_;simp [M216];refine ⟨rfl, ?_, b2, b3⟩;rw [b1, hc]; congr 4; omega
theorem pred_ok (L : HText p ext F) {s : Sch} {q : Pr} (h : PrL s 5 q) (hc : cntP q ≤ 64) : FnD p ext (F 214) [schD s, .agg q.c] (.lit (.bool true)) := by
 refine fn_of L.h214 (M := M214) rfl ok214 rfl fun H => sem_run 9000 _ ?_;simp;refine sem_call (pred_look L 5 q _ 0 H.next h (by simp) (by simp) (by omega) (by omega)) ?_;rintro d H2 ⟨rfl, e1, e2, e3⟩;refine sem_run 9000 _ ?_;simp;refine sem_ret ?_;simp [M214];simp at e2;exact .le ⟨by omega, fun x hx => by rw [e3 x (by simp; omega) (by omega), put_blk, if_neg (by omega), new_blk, if_neg (by omega)]⟩ (D.le_refl _) (by simp)
structure HTold (p : Prog) (ext : Ext) (F : Nat → Nat) (g : SG) : Prop where
 text : HText p ext F
 val : HVal p ext F g
 x207 : ∀ args h, ext (F 207) args h = strV g .join args h
 h212 : Has p ext F 212 M212
 h215 : Has p ext F 215 M215
 h217 : Has p ext F 217 M217
def opsL : List (List Nat) := [[], [61], [33, 61], [60], [60, 61], [62], [62, 61]]
theorem text_ops {g : SG} (L : HTold p ext F g) : FnD p ext (F 217) [] (strsD opsL) := by
 refine fn_of L.h217 (M := M217) rfl ok217 rfl fun H => sem_run 9000 _ ?_;simp;refine sem_ret ?_;simp [M217];exact .le .refl (by simp [strsD, strE, opsL, D.le, D.less_refl]) (by simp)
def Shorts (s : Sch) : Prop := ∀ c, c ∈ s → c.name.length ≤ 100
def capN : Nat → Nat
 | 0 => 0
 | k + 1 => 8 * (capN k + 1) + 1000
theorem join_le {B : Nat} : ∀ {l : List (List Nat)}, (∀ x, x ∈ l → x.length ≤ B) → (joinT [44] l).length ≤ l.length * (B + 1)
 | [], _ => by simp [joinT]
 | x :: l, h => by
  have h1 := join_le (l := l) (fun y hy => h y (List.mem_cons_of_mem _ hy));have h2 := h x List.mem_cons_self;simp only [joinT, List.length_append, List.length_cons, List.length_nil];rw [Nat.add_mul]; omega
theorem joinN_le {B : Nat} {l : List (List Nat)} (h : ∀ x, x ∈ l → x.length ≤ B) : (joinN l [44]).length ≤ l.length * (B + 1) := by
 cases l with
 | nil => simp [joinN]
 | cons x l =>
  have h1 := join_le (l := l) (fun y hy => h y (List.mem_cons_of_mem _ hy));have h2 := h x List.mem_cons_self;simp only [joinN, List.length_append, List.length_cons];rw [Nat.add_mul]; omega
theorem nameS_len {s : Sch} (hs : Shorts s) {c : Int} : (nameS s c).length ≤ 100 := by
 unfold nameS;split
 ·rename_i c hc; exact hs c (List.mem_of_getElem? hc)
 ·simp
theorem opN_len {o : Int} : (opN o).length ≤ 2 := by
 unfold opN
 repeat' split
 all_goals simp
theorem val_len {v : Vl} (hn : v.null = false) (h : isB v = true) : (valN v).length ≤ 200 := by
 unfold isB at h;rw [decide_eq_true_iff, if_neg (by simp [hn])] at h;unfold valN;rw [if_neg (by simp [hn])];split
 ·have := itoa_short (n := v.n); omega
 ·rename_i k;rw [if_neg k] at h;rw [List.length_cons, hexs_len]; omega
theorem one_short {s : Sch} {q : Pr} (h1 : OneP s q) : q.l.length ≤ 8 := by
 rcases h1 with h | h | h | h | h
 ·rw [h.2.2.2.2]; simp
 ·rw [h.2.2.2.2.2.2.1]; simp
 ·rw [h.2.2.2.2]; simp
 ·exact h.2.2.2.2
 ·rw [h.2.2.2.2]; omega
theorem told_len {s : Sch} (hs : Shorts s) : ∀ {k : Nat} {q : Pr}, PrL s k q → (toldN s q).length ≤ capN k
 | 0, _, h => h.elim
 | k + 1, q, ⟨h1, h2⟩ => by
  have hj := joinN_le (B := capN k) (l := q.l.map (toldN s)) (fun x hx => by
   obtain ⟨y, hy, rfl⟩ := List.mem_map.1 hx; exact told_len hs (h2 y hy))
  rw [List.length_map] at hj;have hl := one_short h1;have hm := Nat.mul_le_mul_right (capN k + 1) hl;have e : capN (k + 1) = 8 * (capN k + 1) + 1000 := rfl;rw [toldN_eq, e];have hn := nameS_len hs (c := q.col);have ho := opN_len (o := q.op);split
  ·rename_i k2
   have hv : (valN q.v).length ≤ 200 := by
    rcases h1 with h | h | h | h | h
    ·exfalso; have := h.1; omega
    ·exact val_len h.2.2.2.1 h.2.2.2.2.1
    ·exfalso; have := h.1; omega
    ·exfalso; have := h.1; omega
    ·exfalso; have := h.1; omega
   simp only [List.length_append, List.length_cons, List.length_nil]; omega
  ·repeat' split
   all_goals (simp only [List.length_append, List.length_cons, List.length_nil]; omega)
theorem cap_5 : ∀ k, k ≤ 5 → capN k ≤ 100000000 := by decide
def TelI (H0 : HpD) (s : Sch) (q : Pr) (w : Nat) (fr : FrD) (H : HpD) : Prop :=
 ∃ (i : Nat) (t : D), w = q.l.length - i ∧ i ≤ q.l.length ∧ fr = [(2, .rptr [schR s] 0), (3, .rptr q.c 0), (5, t), (10, prsD q.l), (11, .lit (.int .i64 (q.l.length : Int))), (12, .lit (.int .i64 (i : Int)))] ∧ Gr H0 H 1 t (strE ((q.l.take i).map (toldN s)))
theorem text_told {g : SG} (L : HTold p ext F g) {s : Sch} (hs : Shorts s) : ∀ (k : Nat) (q : Pr), PrL s k q → k ≤ 5 → FnD p ext (F 215) [schD s, .agg q.c] (.lit (.str (toldN s q)))
 | 0, _, h, _ => h.elim
 | k + 1, q, hq, hk => by
  obtain ⟨h1, h2⟩ := hq;have hql := one_short h1;refine fn_of L.h215 (M := M215) rfl ok215 rfl fun H => sem_run 9000 _ ?_;simp;refine sem_loop (TelI H s q) ?_ (k := q.l.length) ⟨0, .lit .nilslice, by simp, by simp, rfl, by simpa [strE] using Gr.start⟩;rintro w fr H' ⟨i, t, rfl, hi, rfl, gr⟩
  by_cases c : i < q.l.length
  ·obtain ⟨x, hx⟩ : ∃ x, q.l[i]? = some x := ⟨q.l[i], by simp⟩;have hxi : q.l[i] = x := (by rw [List.getElem?_eq_getElem c] at hx; exact Option.some.inj hx);refine sem_run 9000 _ ?_;simp;simp [c, hxi];refine sem_fn (text_told L hs k x (h2 x (by rw [← hxi]; simp)) (by omega)) (by first | exact D.les_refl _ | simp [schD, D.les_refl]) (sem_run 9000 _ ?_);simp;refine sem_push (gr.mono sR) rfl rfl (roomyD (by simp [str_len]; omega) (by simp [str_len]; omega)) fun s' H1 g1 _ _ => ?_;simp;refine sem_ok ?_;have hw : wr .i64 ((i : Int) + 1) = ((i + 1 : Nat) : Int) := (by rw [wr_of] <;> omega);refine ⟨_, by omega, i + 1, s', rfl, by omega, by rw [hw], ?_⟩
   rw [List.take_succ_eq_append_getElem c, List.map_append, strE_append, hxi]; exact g1
  ·have : i = q.l.length := (by omega);subst this;rw [List.take_length] at gr;refine sem_turn gr 5 (by simp) fun H1 s1 _ _ => ?_
   have hj := joinN_le (B := capN k) (l := q.l.map (toldN s)) (fun x hx => by
    obtain ⟨y, hy, rfl⟩ := List.mem_map.1 hx; exact told_len hs (h2 y hy))
   rw [List.length_map] at hj;have hm := Nat.mul_le_mul_right (capN k + 1) hql;have hcap := cap_5 k (by omega);refine sem_run 9000 _ ?_;simp;refine sem_exit (sem_run 9000 _ ?_);simp;refine sem_fn (join_ext L.x207 (l := q.l.map (toldN s)) (sep := [44]) (by omega) (by simp; omega)) (by first | exact D.les_refl _ | simp [strsD]) (sem_run 9000 _ ?_);simp;rw [sadd_of (by simp; omega)];simp;rw [sadd_of (by simp; omega)];simp;rcases h1 with ⟨k1, _⟩ | ⟨k1, ⟨c1, c2⟩, ⟨o1, o2⟩, nu, is, _, hl, nn⟩ | ⟨k1, ⟨c1, c2⟩, _⟩ | ⟨k1 | k1, _⟩ | ⟨k1, _⟩
   ·simp [k1];refine sem_ret ?_;simp [M215];rw [show toldN s q = [116, 114, 117, 101] by rw [toldN_eq]; simp [k1]];exact .le s1 (D.le_refl _) (by simp)
   ·have hci : q.col.toNat < s.length := (by omega);have hnm : nameS s q.col = (s[q.col.toNat]).name := (by unfold nameS; rw [List.getElem?_eq_getElem hci]);have hnl := nameS_len hs (c := q.col);rw [hnm] at hnl;have hvl := val_len nu is
    have hop : opsL[q.op.toNat]? = some (opN q.op) := by
     rcases (by omega : q.op = 1 ∨ q.op = 2 ∨ q.op = 3 ∨ q.op = 4 ∨ q.op = 5 ∨ q.op = 6) with h | h | h | h | h | h <;> rw [h] <;> rfl
    have hol := opN_len (o := q.op);have w64 : wr .i64 q.v.n = q.v.n := (by unfold In64 at nn; rw [wr_of] <;> omega);have o0 : (0 : Int) ≤ q.op := (by omega);simp [k1];refine sem_dfn (text_ops L) (by first | exact D.les_refl _ | simp) (sem_run 9000 _ ?_);simp;refine sem_dfn (text_val L.val w64) (by first | exact D.les_refl _ | simp) (sem_run 9000 _ ?_);simp [c1, c2];rw [sadd_of (by simp; omega)];simp [o0, hop];rw [sadd_of (by simp; omega)];simp;rw [sadd_of (by simp; omega)];simp;rw [sadd_of (by simp; omega)];simp;refine sem_ret ?_;simp [M215];rw [show toldN s q = (s[q.col.toNat]).name ++ 32 :: (opN q.op ++ 32 :: valN q.v) by rw [toldN_eq]; simp [k1, hnm]]
    exact .le s1 (D.le_refl _) (by simp)
   ·have hci : q.col.toNat < s.length := (by omega);have hnm : nameS s q.col = (s[q.col.toNat]).name := (by unfold nameS; rw [List.getElem?_eq_getElem hci]);have hnl := nameS_len hs (c := q.col);rw [hnm] at hnl;simp [k1, c1, c2];rw [sadd_of (by simp; omega)];simp;refine sem_ret ?_;simp [M215];rw [show toldN s q = [110, 117, 108, 108, 32] ++ nameS s q.col by rw [toldN_eq]; simp [k1], hnm];exact .le s1 (D.le_refl _) (by simp)
   ·simp [k1];rw [sadd_of (by simp; omega)];simp;refine sem_ret ?_;simp [M215];rw [show toldN s q = [97, 110, 100] ++ ([40] ++ joinN (q.l.map (toldN s)) [44] ++ [41]) by rw [toldN_eq]; simp [k1]];exact .le s1 (D.le_refl _) (by simp)
   ·simp [k1];rw [sadd_of (by simp; omega)];simp;refine sem_ret ?_;simp [M215];rw [show toldN s q = [111, 114] ++ ([40] ++ joinN (q.l.map (toldN s)) [44] ++ [41]) by rw [toldN_eq]; simp [k1]];exact .le s1 (D.le_refl _) (by simp)
   ·simp [k1];rw [sadd_of (by simp; omega)];simp;refine sem_ret ?_;simp [M215];rw [show toldN s q = [110, 111, 116] ++ ([40] ++ joinN (q.l.map (toldN s)) [44] ++ [41]) by rw [toldN_eq]; simp [k1]];exact .le s1 (D.le_refl _) (by simp)
theorem text_pred {g : SG} (L : HTold p ext F g) {s : Sch} (hs : Shorts s) {q : Pr} (hq : PrL s 5 q) (hc : cntP q ≤ 64) : FnD p ext (F 212) [schD s, .agg q.c] (.lit (.str (toldN s q))) := by
 refine fn_of L.h212 (M := M212) rfl ok212 rfl fun H => sem_run 9000 _ ?_;simp;refine sem_fn (pred_ok L.text hq hc) (by first | exact D.les_refl _ | simp [schD, D.les_refl]) (sem_run 9000 _ ?_);simp;refine sem_fn (text_told L hs 5 q hq (by omega)) (by first | exact D.les_refl _ | simp [schD, D.les_refl]) (sem_run 9000 _ ?_);simp;refine sem_ret ?_;simp [M212];exact .le sR (D.le_refl _) (by simp)
structure HSamP (p : Prog) (ext : Ext) (F : Nat → Nat) : Prop where
 ref6 : HSame6v p ext F
 h229 : Has p ext F 229 M229
def SamI (H0 : HpD) (a b : Pr) (w : Nat) (fr : FrD) (H : HpD) : Prop :=
 ∃ i : Nat, w = a.l.length - i ∧ i ≤ a.l.length ∧ a.l.take i = b.l.take i ∧ fr = [(2, .rptr a.c 0), (3, .rptr b.c 0), (5, .lit (.int .i64 (i : Int)))] ∧ Sub H0 H
theorem ref6_samePred (L : HSamP p ext F) {s : Sch} : ∀ (k : Nat) (a b : Pr), PrL s k a → PrL s k b → ∃ r : Bool, (r = true ↔ a = b) ∧ FnD p ext (F 229) [.agg a.c, .agg b.c] (.lit (.bool r))
 | 0, _, _, h, _ => h.elim
 | k + 1, a, b, ⟨a1, a2⟩, ⟨b1, b2⟩ => by
  have hal := one_short a1;have hbl := one_short b1
  have key : ∀ r : Bool, (r = true ↔ a = b) → FnD p ext (F 229) [.agg a.c, .agg b.c] (.lit (.bool r)) := fun r hr => by
   refine fn_of L.h229 (M := M229) rfl ok229 rfl fun H => sem_run 9000 _ ?_;have hrt : a = b → r = true := hr.2
   have hrf : ¬ a = b → r = false := fun h => by cases r with
    | false => rfl
    | true => exact absurd (hr.1 rfl) h
   by_cases e1 : a.kind = b.kind
   ·by_cases e2 : a.col = b.col
    ·by_cases e3 : a.op = b.op
     ·simp [e1, e2, e3];refine sf (ref6_sameVal L.ref6) ?_;simp
      by_cases e4 : a.v = b.v
      ·by_cases e5 : a.l.length = b.l.length
       ·simp [e4, e5];refine sem_loop (SamI H a b) ?_ (k := a.l.length) ⟨0, by simp, by simp, by simp, rfl, sR⟩;rintro w fr H' ⟨i, rfl, hi, ht, rfl, sb⟩
        by_cases c : i < a.l.length
        ·have c' : i < b.l.length := (by omega);obtain ⟨x, hx⟩ : ∃ x, x = a.l[i] := ⟨_, rfl⟩;obtain ⟨y, hy⟩ : ∃ y, y = b.l[i] := ⟨_, rfl⟩;obtain ⟨r2, hr2, f2⟩ := ref6_samePred L k x y (a2 x (by rw [hx]; simp)) (b2 y (by rw [hy]; simp));refine sem_run 9000 _ ?_;simp;simp [c, c', ← hx, ← hy];refine sem_dfn f2 (by first | exact D.les_refl _ | simp) (sem_run 9000 _ ?_)
         cases r2 with
         | true =>
          have hxy := hr2.1 rfl;simp;refine sem_ok ?_;have hw : wr .i64 ((i : Int) + 1) = ((i + 1 : Nat) : Int) := (by rw [wr_of] <;> omega);refine ⟨_, by omega, i + 1, rfl, by omega, ?_, by rw [hw], sb⟩;rw [List.take_succ_eq_append_getElem c, List.take_succ_eq_append_getElem c', ht, ← hx, ← hy, hxy]
         | false =>
          simp;refine sem_ret ?_;simp [M229];refine sem_ret ?_;simp
          rw [hrf fun h => by
           have hxy : x = y := (by subst h; rw [hx, hy]);have := hr2.2 hxy
           cases this]
          exact .le sb (D.le_refl _) (by simp)
        ·have : i = a.l.length := (by omega);subst this;rw [List.take_length, e5, List.take_length] at ht;refine sem_run 9000 _ ?_;simp;simp [e5];refine sem_exit (sem_run 9000 _ ?_);simp;refine sem_ret ?_;simp [M229];rw [hrt (pr_ext e1 e2 e3 e4 ht)];exact .le sb (D.le_refl _) (by simp)
       ·have e5' : ¬ (a.l.length : Int) = b.l.length := (by omega);simp [e4, e5'];refine sem_ret ?_;simp [M229];rw [hrf fun h => e5 (by rw [h])];exact .le sR (D.le_refl _) (by simp)
      ·simp [e4];refine sem_ret ?_;simp [M229];rw [hrf fun h => e4 (by rw [h])];exact .le sR (D.le_refl _) (by simp)
     ·simp [e1, e2, e3];refine sem_ret ?_;simp [M229];rw [hrf fun h => e3 (by rw [h])];exact .le sR (D.le_refl _) (by simp)
    ·simp [e1, e2];refine sem_ret ?_;simp [M229];rw [hrf fun h => e2 (by rw [h])];exact .le sR (D.le_refl _) (by simp)
   ·simp [e1];refine sem_ret ?_;simp [M229];rw [hrf fun h => e1 (by rw [h])];exact .le sR (D.le_refl _) (by simp)
  by_cases h : a = b
  ·exact ⟨true, by simp [h], key true (by simp [h])⟩
  ·exact ⟨false, by simp [h], key false (by simp [h])⟩
end Go.Lib
end

section
set_option maxRecDepth 10000
namespace Go.Lib
open Go.Vm Go.Dv Go.Srt
variable {p : Prog} {ext : Ext} {F : Nat → Nat}
attribute [-simp] bin_and bin_xor
structure HIdx (p : Prog) (ext : Ext) (F : Nat → Nat) : Prop where
 h234 : Has p ext F 234 M234
 h236 : Has p ext F 236 M236
 h238 : Has p ext F 238 M238
 h239 : Has p ext F 239 M239
def findN (l : List (List Nat)) (x : List Nat) : Int := match l.findIdx? (fun y => decide (x = y)) with
 | some i => i
 | none => -1
def FndI (H0 : HpD) (l : List (List Nat)) (x : List Nat) (w : Nat) (fr : FrD) (H : HpD) : Prop :=
 ∃ i : Nat, w = l.length - i ∧ i ≤ l.length ∧ (∀ j, j < i → ¬ l[j]? = some x) ∧ fr = [(0, strsD l), (1, .lit (.str x)), (7, .lit (.int .i64 (l.length : Int))), (8, .lit (.int .i64 (i : Int)))] ∧ Sub H0 H
theorem find_at {l : List (List Nat)} {x : List Nat} {i : Nat} (h1 : ∀ j, j < i → ¬ l[j]? = some x) (h2 : l[i]? = some x) : findN l x = i := by
 obtain ⟨hi, h3⟩ := List.getElem?_eq_some_iff.1 h2
 have : l.findIdx? (fun y => decide (x = y)) = some i := by
  rw [List.findIdx?_eq_some_iff_getElem];refine ⟨hi, by simp [h3], fun j hj => ?_⟩;have := h1 j hj;rw [List.getElem?_eq_getElem (by omega)] at this;simp only [Option.some.injEq] at this;simp; exact fun e => this e.symm
 unfold findN; rw [this]
theorem find_no {l : List (List Nat)} {x : List Nat} (h : ∀ j, j < l.length → ¬ l[j]? = some x) : findN l x = -1 := by
 have : l.findIdx? (fun y => decide (x = y)) = none := by
  rw [List.findIdx?_eq_none_iff];intro y hy;obtain ⟨j, hj, e⟩ := List.getElem_of_mem hy;have := h j hj;rw [List.getElem?_eq_getElem hj, e] at this;simp only [Option.some.injEq] at this;simp; exact fun e => this e.symm
 unfold findN; rw [this]
theorem slices_index (L : HIdx p ext F) {l : List (List Nat)} {x : List Nat} (hl : l.length < 1000000) : FnD p ext (F 234) [strsD l, .lit (.str x)] (.lit (.int .i64 (findN l x))) := by
 refine fn_of L.h234 (M := M234) rfl ok234 rfl fun H => sem_run 9000 _ ?_;simp;refine sem_loop (FndI H l x) ?_ (k := l.length) ⟨0, by simp, by simp, by simp, rfl, sR⟩;rintro w fr H' ⟨i, rfl, hi, hn, rfl, sb⟩
 by_cases c : i < l.length
 ·obtain ⟨y, hy⟩ : ∃ y, l[i]? = some y := ⟨l[i], by simp⟩;have hyi : l[i] = y := (by rw [List.getElem?_eq_getElem c] at hy; exact Option.some.inj hy);refine sem_run 9000 _ ?_;simp
  by_cases e : x = y
  ·subst e;simp [c, hyi, neqs_dec];refine sem_ret ?_;simp [M234];refine sem_ret ?_;simp;rw [find_at hn hy];exact .le sb (D.le_refl _) (by simp)
  ·simp [c, hyi, neqs_dec, e];refine sem_ok ?_;have hw : wr .i64 ((i : Int) + 1) = ((i + 1 : Nat) : Int) := (by rw [wr_of] <;> omega);refine ⟨_, by omega, i + 1, rfl, by omega, fun j hj => ?_, by rw [hw], sb⟩;rcases (by omega : j < i ∨ j = i) with h | rfl
   ·exact hn j h
   ·rw [hy]; simp; exact fun h => e h.symm
 ·have : i = l.length := (by omega);subst this;refine sem_run 9000 _ ?_;simp;refine sem_exit (sem_run 9000 _ ?_);simp;refine sem_ret ?_;simp [M234];rw [find_no hn];exact .le sb (D.le_refl _) (by simp)
theorem col_name (L : HIdx p ext F) {c : Cl} {x : List Nat} : FnD p ext (F 238) [.agg c.c, .rptr [.lit (.str x)] 0] (.lit (.bool (decide (c.name = x)))) := by
 refine fn_of L.h238 (M := M238) rfl ok238 rfl fun H => sem_run 9000 _ ?_;simp [Cl.c];simp [neqs_dec];refine sem_ret ?_;simp [M238];exact .same (by simp)
def findC (s : Sch) (x : List Nat) : Int := findN (s.map Cl.name) x
def FncI (H0 : HpD) (s : Sch) (x : List Nat) (fv : D) (w : Nat) (fr : FrD) (H : HpD) : Prop :=
 ∃ i : Nat, w = s.length - i ∧ i ≤ s.length ∧ (∀ j, j < i → ¬ (s.map Cl.name)[j]? = some x) ∧ fr = [(0, schR s), (1, fv), (7, .lit (.int .i64 (s.length : Int))), (8, .lit (.int .i64 (i : Int)))] ∧ Sub H0 H
theorem cols_index (L : HIdx p ext F) {s : Sch} {x : List Nat} (hl : s.length < 1000000) : FnD p ext (F 239) [schR s, .func (F 238) [] [.rptr [.lit (.str x)] 0]] (.lit (.int .i64 (findC s x))) := by
 refine fn_of L.h239 (M := M239) rfl ok239 rfl fun H => sem_run 9000 _ ?_;simp;refine sem_loop (FncI H s x (.func (F 238) [] [.rptr [.lit (.str x)] 0])) ?_ (k := s.length) ⟨0, by simp, by simp, by simp, rfl, sR⟩;rintro w fr H' ⟨i, rfl, hi, hn, rfl, sb⟩
 by_cases c : i < s.length
 ·obtain ⟨y, hy⟩ : ∃ y, s[i]? = some y := ⟨s[i], by simp⟩;have hyi : s[i] = y := (by rw [List.getElem?_eq_getElem c] at hy; exact Option.some.inj hy);have hyn : (s.map Cl.name)[i]? = some y.name := (by rw [List.getElem?_map, hy]; rfl);refine sem_run 9000 _ ?_;simp;simp [c, hyi];refine sf (col_name L) ?_
  by_cases e : y.name = x
  ·subst e;simp;refine sem_ret ?_;simp [M239];refine sem_ret ?_;simp;rw [show findC s y.name = i from find_at hn hyn];exact .le sb (D.le_refl _) (by simp)
  ·simp [e];refine sem_ok ?_;have hw : wr .i64 ((i : Int) + 1) = ((i + 1 : Nat) : Int) := (by rw [wr_of] <;> omega);refine ⟨_, by omega, i + 1, rfl, by omega, fun j hj => ?_, by rw [hw], sb⟩;rcases (by omega : j < i ∨ j = i) with h | rfl
   ·exact hn j h
   ·rw [hyn]; simp; exact e
 ·have : i = s.length := (by omega);subst this;refine sem_run 9000 _ ?_;simp;refine sem_exit (sem_run 9000 _ ?_);simp;refine sem_ret ?_;simp [M239];rw [show findC s x = -1 from find_no (by simpa using hn)];exact .le sb (D.le_refl _) (by simp)
def colI (s : Sch) (x : List Nat) : Int := max (findC s x) 0
theorem text_col (L : HIdx p ext F) {s : Sch} {x : List Nat} (hl : s.length < 1000000) : FnD p ext (F 236) [schD s, .lit (.str x)] (.tup [.lit (.int .i64 (colI s x)), .lit (.bool (decide (0 ≤ findC s x)))]) := by
 refine fn_of L.h236 (M := M236) rfl ok236 rfl fun H => sem_run 9000 _ ?_;simp;refine sf (cols_index L hl) ?_;simp;refine sem_ret ?_;simp [M236];exact .le sR (D.le_refl _) (by simp)
structure HUnhex (p : Prog) (ext : Ext) (F : Nat → Nat) (g : SG) : Prop where
 h240 : Has p ext F 240 M240
 h241 : Has p ext F 241 M241
 x206 : ∀ args h, ext (F 206) args h = strV g .idxB args h
def nibN (c : Nat) : Nat := (idxBN hexD c).getD 0
theorem nib_all : ∀ c : Fin 256, nibN c.val < 16 ∧ (max (oInt (idxBN hexD c.val)) 0 = (nibN c.val : Int)) := by decide +kernel
theorem nib_lt {c : Nat} (h : c < 256) : nibN c < 16 := (nib_all ⟨c, h⟩).1
theorem nib_max {c : Nat} (h : c < 256) : max (oInt (idxBN hexD c)) 0 = (nibN c : Int) := (nib_all ⟨c, h⟩).2
theorem unhex_nib {g : SG} (L : HUnhex p ext F g) {c : Nat} (hc : c < 256) : FnD p ext (F 241) [.lit (.int .u8 (c : Int))] (.lit (.int .u8 (nibN c : Int))) := by
 refine fn_of L.h241 (M := M241) rfl ok241 rfl fun H => sem_run 9000 _ ?_;simp;refine sem_fn (idxB_ext L.x206 (s := hexD) hc) (by first | exact D.les_refl _ | simp [hexD]) (sem_run 9000 _ ?_);have hn := nib_lt hc
 have hw : wr .u8 (nibN c : Int) = (nibN c : Int) := by
  have key : ∀ n : Fin 16, wr .u8 (n.val : Int) = (n.val : Int) := (by decide);exact key ⟨_, hn⟩
 simp [nib_max hc, hw];refine sem_ret ?_;simp [M241];exact .le sR (D.le_refl _) (by simp)
def byOf (a b : Nat) : By := ⟨(nibN a * 16 + nibN b) % 256, by omega⟩
def unhexB : List Nat → List By
 | a :: b :: l => byOf a b :: unhexB l
 | _ => []
theorem unhex_len : ∀ l : List Nat, (unhexB l).length = l.length / 2
 | [] => rfl
 | [_] => by simp [unhexB]
 | a :: b :: l => by simp only [unhexB, List.length_cons, unhex_len l]; omega
theorem unhex_take : ∀ (l : List Nat) (j : Nat) (a b : Nat), l[2 * j]? = some a → l[2 * j + 1]? = some b → unhexB (l.take (2 * j + 2)) = unhexB (l.take (2 * j)) ++ [byOf a b]
 | [], j, a, b, h, _ => by simp at h
 | [x], j, a, b, h, h2 => by
  cases j with
  | zero => simp at h2
  | succ j => simp at h2
 | x :: y :: l, 0, a, b, h, h2 => by
  simp at h h2;subst h; subst h2;simp [unhexB]
 | x :: y :: l, j + 1, a, b, h, h2 => by
  have e1 : 2 * (j + 1) = 2 * j + 1 + 1 := (by omega);have e2 : 2 * (j + 1) + 1 = 2 * j + 1 + 1 + 1 := (by omega);have e3 : 2 * (j + 1) + 2 = 2 * j + 2 + 1 + 1 := (by omega);rw [e1, List.getElem?_cons_succ, List.getElem?_cons_succ] at h;rw [e2, List.getElem?_cons_succ, List.getElem?_cons_succ] at h2;rw [e3, e1, List.take_succ_cons, List.take_succ_cons, List.take_succ_cons, List.take_succ_cons, unhexB, unhexB, unhex_take l j a b h h2];rfl
theorem shl_or_all : ∀ a b : Fin 16, wr .u8 (toU .u8 (shlI .u8 (a.val : Int) 4) ||| toU .u8 (b.val : Int) : Nat) = ((a.val * 16 + b.val : Nat) : Int) := by decide +kernel
theorem sem_opt_eq {Q : ResD → Prop} {A B : Option (D × HpD)} {k : D → HpD → Cfg} (h : A = B) (hs : Dv.Sem p ext Q (optH B k)) : Dv.Sem p ext Q (optH A k) := by rw [h]; exact hs
theorem idxs_at {s : List Nat} {n : Int} {i a : Nat} (hn : n = (i : Int)) (h : s[i]? = some a) : idxsV (.str s) (.int .i64 n) = some (.int .u8 (a : Int)) := by
 subst hn;simp only [idxsV, natOf_cast, Go.Dv.getX_eq, h];rfl
theorem shl_or {a b : Nat} (ha : a < 256) (hb : b < 256) : wr .u8 (toU .u8 (shlI .u8 (nibN a : Int) 4) ||| toU .u8 (nibN b : Int) : Nat) = (((byOf a b).val : Nat) : Int) := by
 have h1 := nib_lt ha;have h2 := nib_lt hb;have := shl_or_all ⟨nibN a, h1⟩ ⟨nibN b, h2⟩;simp only at this;rw [this];show _ = (((nibN a * 16 + nibN b) % 256 : Nat) : Int);omega
theorem byE_snoc {l : List By} {b : By} : byE (l ++ [b]) = byE l ++ [[.lit (.int .u8 (b.val : Int))]] := by simp [byE]
def UhI (H0 : HpD) (s : List Nat) (fv : D) (w : Nat) (fr : FrD) (H : HpD) : Prop :=
 ∃ (j : Nat) (t : D), w = s.length - 2 * j ∧ 2 * j ≤ s.length ∧ fr = [(0, .lit (.str s)), (3, t), (4, fv), (5, .lit (.int .i64 ((2 * j : Nat) : Int)))] ∧ Gr H0 H 1 t (byE (unhexB (s.take (2 * j))))
theorem text_unhex {g : SG} (L : HUnhex p ext F g) {s : List Nat} (hl : s.length < 1000000) (hs : ∀ c, c ∈ s → c < 256) : FnD p ext (F 240) [.lit (.str s)] (byD (unhexB s)) := by
 refine fn_of L.h240 (M := M240) rfl ok240 rfl fun H => sem_run 9000 _ ?_;simp;refine sem_loop (UhI H s (.func (F 241) [] [])) ?_ (k := s.length) ⟨0, .lit .nilslice, by simp, by simp, rfl, by simpa [byE, unhexB] using Gr.start⟩;rintro w fr H' ⟨j, t, rfl, hj, rfl, gr⟩
 have w1 : wr .i64 (2 * (j : Int) + 1) = 2 * (j : Int) + 1 := by rw [wr_of] <;> omega
 by_cases c : 2 * j + 1 < s.length
 ·obtain ⟨a, ha⟩ : ∃ a, s[2 * j]? = some a := ⟨_, List.getElem?_eq_getElem (by omega)⟩;obtain ⟨b, hb⟩ : ∃ b, s[2 * j + 1]? = some b := ⟨_, List.getElem?_eq_getElem (by omega)⟩;have c' : 2 * (j : Int) + 1 < s.length := (by omega);refine sem_run 9000 _ ?_;obtain ⟨y, hy⟩ : ∃ y, y = byOf a b := ⟨_, rfl⟩;have hso : wr .u8 (toU .u8 (shlI .u8 (nibN a : Int) 4) ||| toU .u8 (nibN b : Int) : Nat) = ((y.val : Nat) : Int) := (by rw [hy]; exact shl_or (hs a (List.mem_of_getElem? ha)) (hs b (List.mem_of_getElem? hb)));simp [w1, c'];rw [idxs_at (i := 2 * j) (by omega) ha];simp;refine sem_dfn (unhex_nib L (hs a (List.mem_of_getElem? ha))) (by first | exact D.les_refl _ | simp) (sem_run 9000 _ ?_)
  simp [w1];rw [idxs_at (i := 2 * j + 1) (by omega) hb];simp;refine sem_dfn (unhex_nib L (hs b (List.mem_of_getElem? hb))) (by first | exact D.les_refl _ | simp) (sem_run 9000 _ ?_);simp [hso]
  have hel : (byE (unhexB (s.take (2 * j)))).length ≤ 1000000 := by
   simp only [byE, List.length_map, unhex_len, List.length_take]; omega
  have eap : appendD 1 1 (H'.new (.cells [.lit (.int .u8 (y.val : Int))] false)) t (.slice H'.next 0 1 1 1 true) = appendD 1 1 (H'.new (.cells [.lit (.int .u8 (y.val : Int))] false)) t (.row 1 .p [[.lit (.int .u8 (y.val : Int))]]) := by
   have := appendD_slice1 (H := H'.new (.cells [.lit (.int .u8 (y.val : Int))] false)) (s := t) (sz := 1) (by_ := 1) (b := H'.next) (o := 0) (cap := 1) (ex := true) (ro := false) (cs := [.lit (.int .u8 (y.val : Int))]) (by rw [new_blk, if_pos rfl]) (Nat.le_refl _);exact this
  refine sem_opt_eq eap ?_;refine sem_push (gr.mono (Sub.refl.new)) (by simp) (by simp) (roomyD (by omega) (by omega)) fun s' H1 g1 _ _ => ?_;simp;refine sem_ok ?_;have hw : wr .i64 (2 * (j : Int) + 2) = ((2 * (j + 1) : Nat) : Int) := (by rw [wr_of] <;> omega);refine ⟨_, by omega, j + 1, s', rfl, by omega, by rw [hw], ?_⟩;rw [show 2 * (j + 1) = 2 * j + 2 by omega, unhex_take s j a b ha hb, byE_snoc, ← hy];exact g1
 ·have c' : ¬ 2 * (j : Int) + 1 < s.length := by omega
  have he : unhexB (s.take (2 * j)) = unhexB s := by
   rcases (by omega : s.length = 2 * j ∨ s.length = 2 * j + 1) with h | h
   ·rw [List.take_of_length_le (by omega)]
   ·have key : ∀ (j : Nat) (l : List Nat), l.length = 2 * j + 1 → unhexB (l.take (2 * j)) = unhexB l := by
     intro j
     induction j with
     | zero => intro l hl; cases l with
      | nil => simp at hl
      | cons x l => cases l with
       | nil => simp [unhexB]
       | cons y l => simp at hl
     | succ j ih => intro l hl; cases l with
      | nil => simp at hl
      | cons x l => cases l with
       | nil => simp at hl
       | cons y l =>
        rw [show 2 * (j + 1) = 2 * j + 1 + 1 by omega, List.take_succ_cons, List.take_succ_cons, unhexB, unhexB, ih l (by simp at hl; omega)]
    exact key j s h
  rw [he] at gr;refine sem_turn gr 3 (by simp) fun H1 s1 _ _ => ?_;refine sem_run 9000 _ ?_;simp [w1, c'];refine sem_exit (sem_run 9000 _ ?_);simp;refine sem_ret ?_;simp [M240];exact .le s1 (D.le_refl _) by_under
end Go.Lib
end

section
set_option maxRecDepth 10000
namespace Go.Lib
open Go.Vm Go.Dv Go.Srt
variable {p : Prog} {ext : Ext} {F : Nat → Nat}
attribute [-simp] bin_and bin_xor
theorem sign_in {neg : Bool} {q : Pe} {n : Int} (h : signN neg q = .ok n) : In64 n := by
 unfold In64
 cases q with
 | syn => cases h
 | rng => cases h
 | ok m => cases m with
  | negSucc u => cases h
  | ofNat u =>
   cases neg with
   | true =>
    simp only [signN, cond_true] at h
    by_cases c : 9223372036854775808 < u
    ·rw [show Nat.blt 9223372036854775808 u = true from nblt.2 c] at h; cases h
    ·rw [show Nat.blt 9223372036854775808 u = false from by rw [Bool.eq_false_iff]; exact fun e => c (nblt.1 e)] at h;cases h;show -9223372036854775808 ≤ -(u : Int) ∧ -(u : Int) < 9223372036854775808;omega
   | false =>
    simp only [signN, cond_false] at h
    by_cases c : 9223372036854775808 ≤ u
    ·rw [show Nat.ble 9223372036854775808 u = true from nble.2 c] at h; cases h
    ·rw [show Nat.ble 9223372036854775808 u = false from by rw [Bool.eq_false_iff]; exact fun e => c (nble.1 e)] at h;cases h;show -9223372036854775808 ≤ (u : Int) ∧ (u : Int) < 9223372036854775808;omega
theorem parse_in {s : List Nat} : In64 (parseI s) := by
 unfold parseI;split
 ·rename_i n h
  cases s with
  | nil => cases h
  | cons c r =>
   simp only [parseN] at h;cases h1 : Nat.beq c 45 <;> rw [h1] at h
   ·cases h2 : Nat.beq c 43 <;> rw [h2] at h <;> exact sign_in h
   ·exact sign_in h
 ·unfold In64; omega
 ·cases s with
  | nil => unfold In64; decide
  | cons c r =>
   have : satN (c :: r) = -9223372036854775808 ∨ satN (c :: r) = 9223372036854775807 := by
    simp only [satN];cases Nat.beq c 45
    ·exact .inr rfl
    ·exact .inl rfl
   unfold In64; omega
theorem schm_is_null (L : HText p ext F) {v : Vl} (hn : v.null = true) : FnD p ext (F 220) [.agg v.c] (.lit (.bool (isB v))) := by
 refine fn_of L.h220 (M := M220) rfl ok220 rfl fun H => sem_run 9000 _ ?_;simp
 by_cases h1 : v.kind = 1
 ·by_cases h3 : v.n = 0
  ·simp [h1, hn, h3];refine sem_ret ?_;simp [M220, isB, h1, hn, h3];exact .same (by simp)
  ·simp [h1, hn, h3];refine sem_ret ?_;simp [M220, isB, h1, hn, h3];exact .same (by simp)
 ·by_cases h2 : v.kind = 2
  ·by_cases h3 : v.n = 0
   ·simp [h2, hn, h3];refine sem_ret ?_;simp [M220, isB, h2, hn, h3];exact .same (by simp)
   ·simp [h2, hn, h3];refine sem_ret ?_;simp [M220, isB, h2, hn, h3];exact .same (by simp)
  ·simp [h1, h2];refine sem_ret ?_;simp [M220, isB, h1, h2, hn];exact .same (by simp)
theorem schm_is_any (L : HText p ext F) {v : Vl} : FnD p ext (F 220) [.agg v.c] (.lit (.bool (isB v))) := by
 cases h : v.null with
 | true => exact schm_is_null L h
 | false => exact schm_is L h
def nullN : List Nat := [110, 117, 108, 108]
def asV (kind : Int) (s : List Nat) : Vl := if s = nullN then ⟨true, kind, 0, [], by simp⟩ else if kind = 2 then ⟨false, kind, 0, (unhexB (trimPN s [120])).take 999999, by rw [List.length_take]; omega⟩ else ⟨false, kind, parseI s, [], by simp⟩
def parseV (kind : Int) (s : List Nat) : Vl × Bool := if isB (asV kind s) = true ∧ valN (asV kind s) = s then (asV kind s, true) else (zv, false)
structure HPrsV (p : Prog) (ext : Ext) (F : Nat → Nat) (g : SG) : Prop where
 text : HText p ext F
 val : HVal p ext F g
 unhex : HUnhex p ext F g
 full : FullGl p g
 x204 : ∀ args h, ext (F 204) args h = strV g .trimP args h
 x210 : ∀ args h, ext (F 210) args h = strV g .parse args h
 h237 : Has p ext F 237 M237
theorem trim_le {s q : List Nat} : (trimPN s q).length ≤ s.length ∧ ∀ c, c ∈ trimPN s q → c ∈ s := by
 unfold trimPN;cases pfx q s
 ·exact ⟨Nat.le_refl _, fun c h => h⟩
 ·exact ⟨by show (s.drop q.length).length ≤ _; simp, fun c h => List.mem_of_mem_drop h⟩
theorem text_parseVal {g : SG} (L : HPrsV p ext F g) {kind : Int} {s : List Nat} (hl : s.length < 1000000) (hs : ∀ c, c ∈ s → c < 256) : FnD p ext (F 237) [.lit (.int .i64 kind), .lit (.str s)] (.tup [.agg (parseV kind s).1.c, .lit (.bool (parseV kind s).2)]) := by
 refine fn_of L.h237 (M := M237) rfl ok237 rfl fun H => sem_run 9000 _ ?_
 have hw : wr .i64 (asV kind s).n = (asV kind s).n := by
  unfold asV;split
  ·rfl
  ·split
   ·rfl
   ·have := parse_in (s := s); unfold In64 at this; show wr .i64 (parseI s) = parseI s; rw [wr_of] <;> omega
 by_cases h1 : s = [110, 117, 108, 108]
 ·subst h1;have h1 : ([110, 117, 108, 108] : List Nat) = nullN := rfl;obtain ⟨v, hv⟩ : ∃ v, asV kind [110, 117, 108, 108] = v := ⟨_, rfl⟩;rw [hv] at hw;have f1 : v.null = true := (by rw [← hv]; unfold asV; rw [if_pos h1]);have f2 : v.kind = kind := (by rw [← hv]; unfold asV; rw [if_pos h1]);have f3 : v.n = 0 := (by rw [← hv]; unfold asV; rw [if_pos h1]);have f4 : v.bytes = [] := (by rw [← hv]; unfold asV; rw [if_pos h1]);simp [neqs_dec];refine sem_fn (schm_is_any L.text (v := v)) (by simp [D.les, D.le, Vl.c, f1, f2, f3, f4, byD, byE]) (sem_run 9000 _ ?_)
  by_cases hb : isB v = true
  ·simp [hb];refine sem_fn (text_val L.val (v := v) hw) (by simp [D.les, D.le, Vl.c, f1, f2, f3, f4, byD, byE]) (sem_run 9000 _ ?_)
   by_cases ht : valN v = [110, 117, 108, 108]
   ·simp [neqs_dec, ht];refine sem_ret ?_;simp [M237];rw [show parseV kind [110, 117, 108, 108] = (v, true) by unfold parseV; rw [hv, if_pos ⟨hb, ht⟩]];exact .le sR (by simp [D.les, D.le, Vl.c, f1, f2, f3, f4, byD, byE]) (by simp [D.under])
   ·simp [neqs_dec, ht];refine sem_ret ?_;simp [M237];rw [show parseV kind [110, 117, 108, 108] = (zv, false) by unfold parseV; rw [hv, if_neg fun h => ht h.2]];exact .le sR (by simp [D.les, D.le, Vl.c, zv, byD, byE]) (by simp [D.under])
  ·simp [hb];refine sem_ret ?_;simp [M237];rw [show parseV kind [110, 117, 108, 108] = (zv, false) by unfold parseV; rw [hv, if_neg fun h => hb h.1]];exact .le sR (by simp [D.les, D.le, Vl.c, zv, byD, byE]) (by simp [D.under])
 ·obtain ⟨v, hv⟩ : ∃ v, asV kind s = v := ⟨_, rfl⟩;rw [hv] at hw;have h1' : ¬ s = nullN := h1;simp [neqs_dec, h1]
  by_cases h2 : kind = 2
  ·have f1 : v.null = false := (by rw [← hv]; unfold asV; rw [if_neg h1', if_pos h2]);have f2 : v.kind = 2 := (by rw [← hv]; unfold asV; rw [if_neg h1', if_pos h2]; exact h2);have f3 : v.n = 0 := (by rw [← hv]; unfold asV; rw [if_neg h1', if_pos h2]);have tl := trim_le (s := s) (q := [120])
   have f4 : v.bytes = unhexB (trimPN s [120]) := by
    rw [← hv]; unfold asV; rw [if_neg h1', if_pos h2];exact List.take_of_length_le (by rw [unhex_len]; omega)
   subst h2;simp;refine sf (trimP_ext L.x204) ?_;simp;refine sf (text_unhex L.unhex (s := trimPN s [120]) (by omega) (fun c h => hs c (tl.2 c h))) ?_;simp;refine sem_fn (schm_is_any L.text (v := v)) (by simp [D.les, D.le, Vl.c, f1, f2, f3, f4, byD, byE]) (sem_run 9000 _ ?_)
   by_cases hb : isB v = true
   ·simp [hb];refine sem_fn (text_val L.val (v := v) hw) (by simp [D.les, D.le, Vl.c, f1, f2, f3, f4, byD, byE]) (sem_run 9000 _ ?_)
    by_cases ht : valN v = s
    ·simp [neqs_dec, ht];refine sem_ret ?_;simp [M237];rw [show parseV 2 s = (v, true) by unfold parseV; rw [hv, if_pos ⟨hb, ht⟩]];exact .le sR (by simp [D.les, D.le, Vl.c, f1, f2, f3, f4, byD, byE]) (by simp [D.under])
    ·simp [neqs_dec, ht];refine sem_ret ?_;simp [M237];rw [show parseV 2 s = (zv, false) by unfold parseV; rw [hv, if_neg fun h => ht h.2]];exact .le sR (by simp [D.les, D.le, Vl.c, zv, byD, byE]) (by simp [D.under])
   ·simp [hb];refine sem_ret ?_;simp [M237];rw [show parseV 2 s = (zv, false) by unfold parseV; rw [hv, if_neg fun h => hb h.1]];exact .le sR (by simp [D.les, D.le, Vl.c, zv, byD, byE]) (by simp [D.under])
  ·have f1 : v.null = false := (by rw [← hv]; unfold asV; rw [if_neg h1', if_neg h2]);have f2 : v.kind = kind := (by rw [← hv]; unfold asV; rw [if_neg h1', if_neg h2]);have f3 : v.n = parseI s := (by rw [← hv]; unfold asV; rw [if_neg h1', if_neg h2]);have f4 : v.bytes = [] := (by rw [← hv]; unfold asV; rw [if_neg h1', if_neg h2]);simp [h2];refine sf (parse_ext L.x210 L.full (s := s) (by omega)) ?_;simp;refine sem_fn (schm_is_any L.text (v := v)) (by simp [D.les, D.le, Vl.c, f1, f2, f3, f4, byD, byE]) (sem_run 9000 _ ?_)
   by_cases hb : isB v = true
   ·simp [hb];refine sem_fn (text_val L.val (v := v) hw) (by simp [D.les, D.le, Vl.c, f1, f2, f3, f4, byD, byE]) (sem_run 9000 _ ?_)
    by_cases ht : valN v = s
    ·simp [neqs_dec, ht];refine sem_ret ?_;simp [M237];rw [show parseV kind s = (v, true) by unfold parseV; rw [hv, if_pos ⟨hb, ht⟩]];exact .le sR (by simp [D.les, D.le, Vl.c, f1, f2, f3, f4, byD, byE]) (by simp [D.under])
    ·simp [neqs_dec, ht];refine sem_ret ?_;simp [M237];rw [show parseV kind s = (zv, false) by unfold parseV; rw [hv, if_neg fun h => ht h.2]];exact .le sR (by simp [D.les, D.le, Vl.c, zv, byD, byE]) (by simp [D.under])
   ·simp [hb];refine sem_ret ?_;simp [M237];rw [show parseV kind s = (zv, false) by unfold parseV; rw [hv, if_neg fun h => hb h.1]];exact .le sR (by simp [D.les, D.le, Vl.c, zv, byD, byE]) (by simp [D.under])
end Go.Lib
end

section
set_option maxRecDepth 10000
namespace Go.Lib
open Go.Vm Go.Dv Go.Srt
variable {p : Prog} {ext : Ext} {F : Nat → Nat}
attribute [-simp] bin_and bin_xor
def partsGo : List Nat → Int → List Nat → List (List Nat)
 | [], _, cur => [cur]
 | c :: r, o, cur => if c = 40 then partsGo r (o + 1) (cur ++ [c]) else if c = 41 then partsGo r (o - 1) (cur ++ [c]) else if c = 44 ∧ o = 0 then cur :: partsGo r o [] else partsGo r o (cur ++ [c])
def partsN (t : List Nat) : List (List Nat) := if t = [] then [] else partsGo t 0 []
theorem go_len : ∀ {r : List Nat} {o : Int} {cur : List Nat}, (partsGo r o cur).length ≤ r.length + 1
 | [], o, cur => by simp [partsGo]
 | c :: r, o, cur => by
  unfold partsGo;split
  ·have := go_len (r := r) (o := o + 1) (cur := cur ++ [c]); simp only [List.length_cons]; omega
  ·split
   ·have := go_len (r := r) (o := o - 1) (cur := cur ++ [c]); simp only [List.length_cons]; omega
   ·split
    ·have := go_len (r := r) (o := o) (cur := []); simp only [List.length_cons]; omega
    ·have := go_len (r := r) (o := o) (cur := cur ++ [c]); simp only [List.length_cons]; omega
theorem sls_at {s : List Nat} {a b : Nat} (h1 : a ≤ b) (h2 : b ≤ s.length) : slsD (.lit (.str s)) (some (.lit (.int .i64 (a : Int)))) (some (.lit (.int .i64 (b : Int)))) = some (.lit (.str ((s.take b).drop a))) := by
 rw [slsD_lit (lo := some (.int .i64 (a : Int))) (hi := some (.int .i64 (b : Int))) rfl rfl];simp only [slsV, boundH, boundL, natOf_cast];rw [nble.2 h2];simp only [cond_true];rw [nble.2 h1];rfl
theorem sls_end {s : List Nat} {a : Nat} (h1 : a ≤ s.length) : slsD (.lit (.str s)) (some (.lit (.int .i64 (a : Int)))) none = some (.lit (.str ((s.take s.length).drop a))) := by
 rw [slsD_lit (lo := some (.int .i64 (a : Int))) (hi := none) rfl rfl];simp only [slsV, boundH, boundL, natOf_cast];rw [nble.2 h1];rfl
def PtsI (H0 : HpD) (t : List Nat) (w : Nat) (fr : FrD) (H : HpD) : Prop :=
 ∃ (i fm : Nat) (o : Int) (s : D) (out : List (List Nat)), w = t.length - i ∧ i ≤ t.length ∧ fm ≤ i ∧ (-(i : Int) ≤ o ∧ o ≤ i) ∧ out.length ≤ i ∧ partsGo t 0 [] = out ++ partsGo (t.drop i) o ((t.take i).drop fm) ∧
  fr = [(0, .lit (.str t)), (3, s), (4, .lit (.int .i64 o)), (5, .lit (.int .i64 (fm : Int))), (10, .lit (.int .i64 (t.length : Int))), (11, .lit (.int .i64 (i : Int)))] ∧ Gr H0 H 1 s (strE out)
structure HParts (p : Prog) (ext : Ext) (F : Nat → Nat) : Prop where
 h235 : Has p ext F 235 M235
theorem text_parts (L : HParts p ext F) {t : List Nat} (hl : t.length < 1000000) : FnD p ext (F 235) [.lit (.str t)] (strsD (partsN t)) := by
 refine fn_of L.h235 (M := M235) rfl ok235 rfl fun H => sem_run 9000 _ ?_;simp
 by_cases h0 : t = []
 ·subst h0;simp [neqs_dec];refine sem_ret ?_;simp [M235];exact .le sR (by simp [partsN, strsD, strE, D.le]) (by simp)
 ·simp [neqs_dec, h0];refine sem_loop (PtsI H t) ?_ (k := t.length) ⟨0, 0, 0, .lit .nilslice, [], by simp, by simp, by simp, by simp, by simp, by simp, rfl, by simpa [strE] using Gr.start⟩;rintro w fr H' ⟨i, fm, o, s, out, rfl, hi, hf, ho, hol, hp, rfl, gr⟩
  by_cases c : i < t.length
  ·obtain ⟨x, hx⟩ : ∃ x, t[i]? = some x := ⟨_, List.getElem?_eq_getElem c⟩
   have hd : t.drop i = x :: t.drop (i + 1) := by
    rw [List.drop_eq_getElem_cons c]; congr; exact (List.getElem?_eq_some_iff.1 hx).2
   have hc : (t.take (i + 1)).drop fm = (t.take i).drop fm ++ [x] := by
    rw [List.take_add_one, hx, List.drop_append_of_le_length (by rw [List.length_take]; omega)]; rfl
   have hw : wr .i64 ((i : Int) + 1) = ((i + 1 : Nat) : Int) := (by rw [wr_of] <;> omega);have w1 : wr .i64 (o + 1) = o + 1 := (by rw [wr_of] <;> omega);have w2 : wr .i64 (o - 1) = o - 1 := (by rw [wr_of] <;> omega);refine sem_run 9000 _ ?_;simp;simp [c];rw [idxs_at (i := i) rfl hx];simp
   by_cases k1 : x = 40
   ·subst k1;simp [w1];refine sem_ok ?_;refine ⟨_, by omega, i + 1, fm, o + 1, s, out, rfl, by omega, by omega, by omega, by omega, ?_, by rw [hw], gr⟩;rw [hp, hd, hc];simp [partsGo]
   ·have k1' : ¬ (x : Int) = 40 := (by omega);simp [k1']
    by_cases k2 : x = 41
    ·subst k2;simp [w2];refine sem_ok ?_;refine ⟨_, by omega, i + 1, fm, o - 1, s, out, rfl, by omega, by omega, by omega, by omega, ?_, by rw [hw], gr⟩;rw [hp, hd, hc];simp [partsGo]
    ·have k2' : ¬ (x : Int) = 41 := (by omega);simp [k2']
     by_cases k3 : x = 44
     ·subst k3
      by_cases k4 : o = 0
      ·subst k4;simp;rw [sls_at hf (by omega)];simp;refine sem_push gr rfl rfl (roomyD (by simp [str_len]; omega) (by simp [str_len]; omega)) fun s' H1 g1 _ _ => ?_;simp;refine sem_ok ?_;refine ⟨_, by omega, i + 1, i + 1, 0, s', out ++ [(t.take i).drop fm], rfl, by omega, by omega, by omega, by simp; omega, ?_, by rw [hw], ?_⟩
       ·rw [hp, hd];have : (t.take (i + 1)).drop (i + 1) = [] := List.drop_eq_nil_of_le (by rw [List.length_take]; omega);rw [this];simp [partsGo]
       ·rw [strE_append]; exact g1
      ·simp [k4];refine sem_ok ?_;refine ⟨_, by omega, i + 1, fm, o, s, out, rfl, by omega, by omega, by omega, by omega, ?_, by rw [hw], gr⟩;rw [hp, hd, hc];simp [partsGo, k4]
     ·have k3' : ¬ (x : Int) = 44 := (by omega);simp [k3'];refine sem_ok ?_;refine ⟨_, by omega, i + 1, fm, o, s, out, rfl, by omega, by omega, by omega, by omega, ?_, by rw [hw], gr⟩;rw [hp, hd, hc];simp [partsGo, k1, k2, k3]
  ·have : i = t.length := (by omega);subst this;refine sem_run 9000 _ ?_;simp;refine sem_exit (sem_run 9000 _ ?_);simp;rw [sls_end hf];simp;refine sem_push gr rfl rfl (roomyD (by simp [str_len]; omega) (by simp [str_len]; omega)) fun s' H1 g1 _ _ => ?_;simp;refine sem_ret ?_;simp [M235]
   have e : partsN t = out ++ [(t.take t.length).drop fm] := by
    unfold partsN; rw [if_neg h0, hp]; simp [partsGo]
   rw [e];have := g1.fin (m := .p) (by rw [← List.map_singleton (f := fun s : List Nat => [D.lit (V.str s)]), ← strE, ← strE_append]; exact str_underss) (by simp);rw [strsD, strE_append];simpa [strE] using this
end Go.Lib
end

section
set_option maxRecDepth 10000
namespace Go.Lib
open Go.Vm Go.Dv Go.Srt
variable {p : Prog} {ext : Ext} {F : Nat → Nat}
attribute [-simp] bin_and bin_xor
theorem split_parts {sep : List Nat} : ∀ {f : Nat} {s : List Nat}, (splitF f s sep).length ≤ f + 1 ∧ ∀ x, x ∈ splitF f s sep → x.length ≤ s.length ∧ ∀ c, c ∈ x → c ∈ s
 | 0, s => by simp [splitF]
 | f + 1, s => by
  unfold splitF;split
  ·rename_i i _;obtain ⟨h1, h2⟩ := split_parts (sep := sep) (f := f) (s := s.drop (i + sep.length));refine ⟨by simp only [List.length_cons]; omega, fun x hx => ?_⟩;rcases List.mem_cons.1 hx with rfl | hx
   ·exact ⟨by rw [List.length_take]; omega, fun c h => List.mem_of_mem_take h⟩
   ·obtain ⟨h3, h4⟩ := h2 x hx;exact ⟨by rw [List.length_drop] at h3; omega, fun c h => List.mem_of_mem_drop (h4 c h)⟩
  ·simp
def prN (k : Int) : Pr := .mk k 0 0 zv []
theorem findN_in {l : List (List Nat)} {x : List Nat} (h : 0 ≤ findN l x) : ∃ k : Nat, findN l x = k ∧ k < l.length := by
 unfold findN at h ⊢;split at h
 ·rename_i i hi;rw [List.findIdx?_eq_some_iff_getElem] at hi;obtain ⟨h1, _⟩ := hi;exact ⟨i, rfl, h1⟩
 ·omega
def wordsL (s : Sch) (t : List Nat) : List (List Nat) → Pr × Bool
 | [a, b] => if a = nullN then (.mk 3 (colI s b) 0 zv [], decide (0 ≤ findC s b)) else (prN 1, decide (t = [116, 114, 117, 101]))
 | [a, b, c] => if findC s a < 0 then (prN 0, false) else (.mk 2 (colI s a) (max (findN opsL b) 0) (parseV ((s[(colI s a).toNat]?).elim 0 Cl.kind) c).1 [], (parseV ((s[(colI s a).toNat]?).elim 0 Cl.kind) c).2)
 | _ => (prN 1, decide (t = [116, 114, 117, 101]))
def wordsF (s : Sch) (t : List Nat) : Pr × Bool := wordsL s t (Vm.splitN t [32])
structure HWords (p : Prog) (ext : Ext) (F : Nat → Nat) (g : SG) : Prop where
 idx : HIdx p ext F
 prs : HPrsV p ext F g
 ops : FnD p ext (F 217) [] (strsD opsL)
 x202 : ∀ args h, ext (F 202) args h = strV g .split args h
 h233 : Has p ext F 233 M233
theorem text_words {g : SG} (L : HWords p ext F g) {s : Sch} {t : List Nat} (hs : s.length < 1000000) (hl : t.length < 1000000) (ht : ∀ c, c ∈ t → c < 256) : FnD p ext (F 233) [schD s, .lit (.str t)] (.tup [.agg (wordsF s t).1.c, .lit (.bool (wordsF s t).2)]) := by
 refine fn_of L.h233 (M := M233) rfl ok233 rfl fun H => sem_run 9000 _ ?_;obtain ⟨l, hsp⟩ : ∃ l, Vm.splitN t [32] = l := ⟨_, rfl⟩
 have hlen : l.length ≤ t.length + 2 := by rw [← hsp]; exact (split_parts (f := t.length + 1) (s := t)).1
 have hmem : ∀ x, x ∈ l → x.length < 1000000 ∧ ∀ c, c ∈ x → c < 256 := fun x hx => by
  rw [← hsp] at hx;obtain ⟨h1, h2⟩ := (split_parts (f := t.length + 1) (s := t)).2 x hx;exact ⟨by omega, fun c h => ht c (h2 c h)⟩
 simp;refine sf (split_ext L.x202 L.prs.full (s := t) (c := 32) (sep := []) (by omega)) ?_;rw [hsp];have hw : wordsF s t = wordsL s t l := (by unfold wordsF; rw [hsp]);rw [hw];clear hsp hw;rcases l with _ | ⟨a, _ | ⟨b, _ | ⟨c, _ | ⟨d, l⟩⟩⟩⟩
 ·simp [neqs_dec];refine sem_ret ?_;simp [M233];rw [show wordsL s t [] = (prN 1, decide (t = [116, 114, 117, 101])) by rfl];exact .le sR (by simp [prN, Pr.c, Pr.cs_map, zv, byD, byE, D.le, D.les]) (by simp [D.under])
 ·simp [neqs_dec];refine sem_ret ?_;simp [M233];rw [show wordsL s t [a] = (prN 1, decide (t = [116, 114, 117, 101])) by rfl];exact .le sR (by simp [prN, Pr.c, Pr.cs_map, zv, byD, byE, D.le, D.les]) (by simp [D.under])
 ·by_cases ha : a = [110, 117, 108, 108]
  ·simp [neqs_dec, ha];refine sem_dfn (text_col L.idx (x := b) hs) (by first | exact D.les_refl _ | simp [schD, D.les_refl]) (sem_run 9000 _ ?_);simp;refine sem_ret ?_;simp [M233];rw [show wordsL s t [[110, 117, 108, 108], b] = (.mk 3 (colI s b) 0 zv [], decide (0 ≤ findC s b)) by simp [wordsL, nullN]];exact .le sR (by simp [Pr.c, Pr.cs_map, zv, byD, byE, D.le, D.les]) (by simp [D.under])
  ·simp [neqs_dec, ha];refine sem_ret ?_;simp [M233];rw [show wordsL s t [a, b] = (prN 1, decide (t = [116, 114, 117, 101])) by simp [wordsL, nullN, ha]];exact .le sR (by simp [prN, Pr.c, Pr.cs_map, zv, byD, byE, D.le, D.les]) (by simp [D.under])
 ·simp;refine sem_dfn (text_col L.idx (x := a) hs) (by first | exact D.les_refl _ | simp [schD, D.les_refl]) (sem_run 9000 _ ?_)
  by_cases hf : 0 ≤ findC s a
  ·obtain ⟨k, hk, hkl⟩ := findN_in hf;have hk' : findC s a = (k : Int) := hk;have hkl' : k < s.length := (by simpa using hkl);have hcol : colI s a = (k : Int) := (by unfold colI; rw [hk']; omega);have hgk : s[(colI s a).toNat]? = some s[k] := (by rw [hcol]; simp);have hc := hmem c (by simp);simp [hf, hcol, hkl'];refine sem_dfn (text_parseVal L.prs (kind := (s[k]).kind) (s := c) hc.1 hc.2) (by first | exact D.les_refl _ | simp) (sem_run 8 _ ?_);obtain ⟨v, hv⟩ : ∃ v, (parseV (s[k]).kind c).1 = v := ⟨_, rfl⟩;rw [hv];simp;refine sem_box (ro := false) (b := H.next + 1) (cs := v.c) 11 (by simp) (by simp) ?_
   refine sem_run 9000 _ ?_;simp;refine sem_dfn L.ops (by first | exact D.les_refl _ | simp) (sem_run 9000 _ ?_);simp;refine sem_dfn (slices_index L.idx (l := opsL) (x := b) (by decide)) (by first | exact D.les_refl _ | simp) (sem_run 9000 _ ?_);have hfl : flatsD (v.c ++ [.lit .nilslice]) = true := rfl;simp [hfl];refine sem_ret ?_;simp [M233]
   have hwl : wordsL s t [a, b, c] = (.mk 2 (k : Int) (max (findN opsL b) 0) v [], (parseV (s[k]).kind c).2) := by
    have hng : ¬ findC s a < 0 := (by omega);show (if findC s a < 0 then (prN 0, false) else (Pr.mk 2 (colI s a) (max (findN opsL b) 0) (parseV ((s[(colI s a).toNat]?).elim 0 Cl.kind) c).1 [], (parseV ((s[(colI s a).toNat]?).elim 0 Cl.kind) c).2)) = _;rw [if_neg hng, hgk, hcol];show (Pr.mk 2 (k : Int) (max (findN opsL b) 0) (parseV (s[k]).kind c).1 [], (parseV (s[k]).kind c).2) = _;rw [hv]
   rw [hwl];exact .le sR (by simp [Pr.c, Pr.cs_map, Vl.c, D.le, D.les, D.le_refl]) (by simp [D.under])
  ·simp [hf];refine sem_ret ?_;simp [M233];rw [show wordsL s t [a, b, c] = (prN 0, false) by simp [wordsL]; omega];exact .le sR (by simp [prN, Pr.c, Pr.cs_map, zv, byD, byE, D.le, D.les]) (by simp [D.under])
 ·have z2 : ¬ ((l.length : Int) + 1 + 1 + 1 + 1 = 2) := (by omega);have z3 : ¬ ((l.length : Int) + 1 + 1 + 1 + 1 = 3) := (by omega);simp [neqs_dec, z2, z3];refine sem_ret ?_;simp [M233];rw [show wordsL s t (a :: b :: c :: d :: l) = (prN 1, decide (t = [116, 114, 117, 101])) by rfl];exact .le sR (by simp [prN, Pr.c, Pr.cs_map, zv, byD, byE, D.le, D.les]) (by simp [D.under])
end Go.Lib
end

section
set_option maxRecDepth 10000
namespace Go.Lib
open Go.Vm Go.Dv Go.Srt
variable {p : Prog} {ext : Ext} {F : Nat → Nat}
attribute [-simp] bin_and bin_xor
theorem parts_go : ∀ {r : List Nat} {o : Int} {cur x : List Nat}, x ∈ partsGo r o cur → x.length ≤ cur.length + r.length ∧ ∀ c, c ∈ x → c ∈ cur ∨ c ∈ r
 | [], o, cur, x, h => by simp [partsGo] at h; subst h; exact ⟨by simp, fun c h => .inl h⟩
 | y :: r, o, cur, x, h => by
  have step : ∀ {o : Int}, x ∈ partsGo r o (cur ++ [y]) → x.length ≤ cur.length + (y :: r).length ∧ ∀ c, c ∈ x → c ∈ cur ∨ c ∈ y :: r := fun h => by
   obtain ⟨h1, h2⟩ := parts_go h;refine ⟨by simp only [List.length_append, List.length_cons, List.length_nil] at h1 ⊢; omega, fun c hc => ?_⟩;rcases h2 c hc with h | h
   ·rcases List.mem_append.1 h with h | h
    ·exact .inl h
    ·simp at h; subst h; exact .inr List.mem_cons_self
   ·exact .inr (List.mem_cons_of_mem _ h)
  unfold partsGo at h;split at h
  ·exact step h
  ·split at h
   ·exact step h
   ·split at h
    ·rcases List.mem_cons.1 h with rfl | h
     ·exact ⟨by omega, fun c h => .inl h⟩
     ·obtain ⟨h1, h2⟩ := parts_go h;refine ⟨by simp only [List.length_cons, List.length_nil] at h1 ⊢; omega, fun c hc => ?_⟩;rcases h2 c hc with h | h
      ·simp at h
      ·exact .inr (List.mem_cons_of_mem _ h)
    ·exact step h
theorem parts_mem {t x : List Nat} (h : x ∈ partsN t) : x.length ≤ t.length ∧ ∀ c, c ∈ x → c ∈ t := by
 unfold partsN at h;split at h
 ·simp at h
 ·obtain ⟨h1, h2⟩ := parts_go h;exact ⟨by simpa using h1, fun c hc => by rcases h2 c hc with h | h; simp at h; exact h⟩
theorem parts_len {t : List Nat} : (partsN t).length ≤ t.length + 1 := by
 unfold partsN;split
 ·simp
 ·exact go_len
theorem cut_mem {s sep nm rs : List Nat} {b : Bool} (h : cutN s sep = (nm, rs, b)) : rs.length ≤ s.length ∧ ∀ c, c ∈ rs → c ∈ s := by
 unfold cutN at h;split at h
 ·simp only [Prod.mk.injEq] at h;obtain ⟨_, rfl, _⟩ := h;exact ⟨by rw [List.length_drop]; omega, fun c hc => List.mem_of_mem_drop hc⟩
 ·simp only [Prod.mk.injEq] at h;obtain ⟨_, rfl, _⟩ := h;exact ⟨by simp, fun c hc => by simp at hc⟩
theorem cutS_mem {s q nm : List Nat} {b : Bool} (h : cutSN s q = (nm, b)) : nm.length ≤ s.length ∧ ∀ c, c ∈ nm → c ∈ s := by
 unfold cutSN at h;cases e : sfx q s <;> rw [e] at h
 ·simp only [cond_false, Prod.mk.injEq] at h;obtain ⟨rfl, _⟩ := h;exact ⟨Nat.le_refl _, fun c hc => hc⟩
 ·simp only [cond_true, Prod.mk.injEq] at h;obtain ⟨rfl, _⟩ := h;exact ⟨by rw [List.length_take]; omega, fun c hc => List.mem_of_mem_take hc⟩
theorem findN_le {l : List (List Nat)} {x : List Nat} : -1 ≤ findN l x ∧ findN l x < l.length := by
 by_cases h : 0 ≤ findN l x
 ·obtain ⟨k, hk, hl⟩ := findN_in h; omega
 ·unfold findN at h ⊢;split at h
  ·omega
  ·omega
def wordsK : List (List Nat) := [[97, 110, 100], [111, 114], [110, 111, 116]]
def kindN (name : List Nat) : Int := max (findN wordsK name + 4) 0
def allF (f : List Nat → Pr × Bool) (k : Int) : List (List Nat) → List Pr → Pr × Bool
 | [], acc => (.mk k 0 0 zv acc, true)
 | x :: l, acc => if (f x).2 = true then allF f k l (acc ++ [(f x).1]) else (prN 0, false)
def readF (s : Sch) : Nat → List Nat → Pr × Bool
 | 0, t => if (cutN t [40]).2.2 = false then wordsF s t else (prN 0, false)
 | d + 1, t => if (cutN t [40]).2.2 = false then wordsF s t else if kindN (cutN t [40]).1 < 4 ∨ (cutSN (cutN t [40]).2.1 [41]).2 = false then (prN 0, false) else allF (readF s d) (kindN (cutN t [40]).1) (partsN (cutSN (cutN t [40]).2.1 [41]).1) []
structure HRead (p : Prog) (ext : Ext) (F : Nat → Nat) (g : SG) : Prop where
 words : HWords p ext F g
 parts : HParts p ext F
 x200 : ∀ args h, ext (F 200) args h = strV g .cut args h
 x203 : ∀ args h, ext (F 203) args h = strV g .cutS args h
 h232 : Has p ext F 232 M232
def nil8 : List D := [.lit (.int .i64 0), .lit (.int .i64 0), .lit (.int .i64 0), .lit (.bool false), .lit (.int .i64 0), .lit (.int .i64 0), .lit .nilslice, .lit .nilslice]
def hd7 (k : Int) (s : D) : List D := [.lit (.int .i64 k), .lit (.int .i64 0), .lit (.int .i64 0), .lit (.bool false), .lit (.int .i64 0), .lit (.int .i64 0), .lit .nilslice, s]
def RdI (H0 : HpD) (s : Sch) (d : Nat) (k : Int) (l : List (List Nat)) (w : Nat) (fr : FrD) (H : HpD) : Prop :=
 ∃ (i : Nat) (t : D) (acc : List Pr), w = l.length - i ∧ i ≤ l.length ∧ acc.length = i ∧ allF (readF s d) k l [] = allF (readF s d) k (l.drop i) acc ∧
  fr = [(2, .lit (.int .i64 ((d : Int) + 1))), (3, .rptr [schR s] 0), (6, .ptr H0.next 0), (11, .ptr (H0.next + 1) 0), (55, strsD l), (56, .lit (.int .i64 (l.length : Int))), (57, .lit (.int .i64 (i : Int)))] ∧
  H.blk H0.next = .cells nil8 false ∧ H.blk (H0.next + 1) = .cells (hd7 k t) false ∧ H0.next + 2 ≤ H.next ∧ (∃ HB, HB.next = H0.next + 2 ∧ Gr HB H 8 t (acc.map Pr.c)) ∧ Sub H0 H
theorem text_read {g : SG} (L : HRead p ext F g) {s : Sch} (hs : s.length < 1000000) : ∀ (d : Nat) (t : List Nat), d < 100 → t.length < 100000 → (∀ c, c ∈ t → c < 256) → FnD p ext (F 232) [schD s, .lit (.str t), .lit (.int .i64 (d : Int))] (.tup [.agg (readF s d t).1.c, .lit (.bool (readF s d t).2)]) := by
 intro d
 induction d with
 | zero =>
  intro t hd hl ht;refine fn_of L.h232 (M := M232) rfl ok232 rfl fun H => sem_run 9000 _ ?_;simp;refine sf (cut_ext L.x200 L.words.prs.full (s := t) (sep := [40]) (by omega)) ?_;obtain ⟨nm, rs, op, hcut⟩ : ∃ nm rs op, cutN t [40] = (nm, rs, op) := ⟨_, _, _, rfl⟩;rw [hcut]
  have hr : readF s 0 t = if op = false then wordsF s t else (prN 0, false) := by
   unfold readF; rw [hcut]
  cases op with
  | false =>
   simp;refine sem_fn (text_words L.words hs (by omega) ht) (by first | exact D.les_refl _ | simp [schD, D.les_refl]) (sem_run 9000 _ ?_);have hfl : flatsD (wordsF s t).1.c = true := pr_flats;simp [hfl];refine sem_ret ?_;simp [M232];rw [hr, if_pos rfl];exact .le sR (D.le_refl _) (by simp [D.under])
  | true =>
   obtain ⟨m1, m2⟩ := cut_mem hcut;have hfk := findN_le (l := wordsK) (x := nm);have hfk2 : findN wordsK nm < 3 := hfk.2;have w4 : wr .i64 (findN wordsK nm + 4) = findN wordsK nm + 4 := (by rw [wr_of] <;> omega);obtain ⟨kk, hkk⟩ : ∃ kk, kindN nm = kk := ⟨_, rfl⟩;have hkk' : max (findN wordsK nm + 4) 0 = kk := hkk;simp;refine sem_fn (slices_index L.words.idx (l := wordsK) (x := nm) (by decide)) (by first | exact D.les_refl _ | simp [strsD, strE, wordsK, D.les, D.le, D.less_refl]) (sem_run 9000 _ ?_);simp [w4, hkk'];refine sf (cutS_ext L.x203 (s := rs) (sep := [41]) (by omega)) ?_;obtain ⟨inn, cl, hcs⟩ : ∃ inn cl, cutSN rs [41] = (inn, cl) := ⟨_, _, rfl⟩
   rw [hcs]
   have fin : readF s 0 t = (prN 0, false) := by rw [hr, if_neg (by simp)]
   by_cases hk4 : kk < 4
   ·simp [hk4];refine sem_ret ?_;simp [M232];rw [fin];exact .le sR (by simp [prN, Pr.c, Pr.cs_map, zv, byD, byE, D.le, D.les]) (by simp [D.under])
   ·cases cl with
    | false =>
     simp [hk4];refine sem_ret ?_;simp [M232];rw [fin];exact .le sR (by simp [prN, Pr.c, Pr.cs_map, zv, byD, byE, D.le, D.les]) (by simp [D.under])
    | true =>
     simp [hk4];refine sem_ret ?_;simp [M232];rw [fin];exact .le sR (by simp [prN, Pr.c, Pr.cs_map, zv, byD, byE, D.le, D.les]) (by simp [D.under])
 | succ d ih =>
  intro t hd hl ht;refine fn_of L.h232 (M := M232) rfl ok232 rfl fun H => sem_run 9000 _ ?_;simp;refine sf (cut_ext L.x200 L.words.prs.full (s := t) (sep := [40]) (by omega)) ?_;obtain ⟨nm, rs, op, hcut⟩ : ∃ nm rs op, cutN t [40] = (nm, rs, op) := ⟨_, _, _, rfl⟩;rw [hcut]
  have hr : readF s (d + 1) t = if op = false then wordsF s t else if kindN nm < 4 ∨ (cutSN rs [41]).2 = false then (prN 0, false) else allF (readF s d) (kindN nm) (partsN (cutSN rs [41]).1) [] := by
   unfold readF; rw [hcut]
  cases op with
  | false =>
   simp;refine sem_fn (text_words L.words hs (by omega) ht) (by first | exact D.les_refl _ | simp [schD, D.les_refl]) (sem_run 9000 _ ?_);have hfl : flatsD (wordsF s t).1.c = true := pr_flats;simp [hfl];refine sem_ret ?_;simp [M232];rw [hr, if_pos rfl];exact .le sR (D.le_refl _) (by simp [D.under])
  | true =>
   obtain ⟨m1, m2⟩ := cut_mem hcut;have hfk := findN_le (l := wordsK) (x := nm);have hfk2 : findN wordsK nm < 3 := hfk.2;have w4 : wr .i64 (findN wordsK nm + 4) = findN wordsK nm + 4 := (by rw [wr_of] <;> omega);obtain ⟨kk, hkk⟩ : ∃ kk, kindN nm = kk := ⟨_, rfl⟩;have hkk' : max (findN wordsK nm + 4) 0 = kk := hkk;simp;refine sem_fn (slices_index L.words.idx (l := wordsK) (x := nm) (by decide)) (by first | exact D.les_refl _ | simp [strsD, strE, wordsK, D.les, D.le, D.less_refl]) (sem_run 9000 _ ?_);simp [w4, hkk'];refine sf (cutS_ext L.x203 (s := rs) (sep := [41]) (by omega)) ?_;obtain ⟨inn, cl, hcs⟩ : ∃ inn cl, cutSN rs [41] = (inn, cl) := ⟨_, _, rfl⟩
   obtain ⟨m3, m4⟩ := cutS_mem hcs;rw [hcs];rw [hcs, hkk] at hr
   by_cases hk4 : kk < 4
   ·simp [hk4];refine sem_ret ?_;simp [M232];rw [hr, if_neg (by simp), if_pos (.inl hk4)];exact .le sR (by simp [prN, Pr.c, Pr.cs_map, zv, byD, byE, D.le, D.les]) (by simp [D.under])
   ·cases cl with
    | false =>
     simp [hk4];refine sem_ret ?_;simp [M232];rw [hr, if_neg (by simp), if_pos (.inr rfl)];exact .le sR (by simp [prN, Pr.c, Pr.cs_map, zv, byD, byE, D.le, D.les]) (by simp [D.under])
    | true =>
     have z1 : ¬ ((d : Int) + 1 = 0) := by omega
     have hr2 : readF s (d + 1) t = allF (readF s d) kk (partsN inn) [] := by
      rw [hr, if_neg (by simp), if_neg (by rintro (h | h); exact hk4 h; cases h)]
     simp [hk4, z1];refine sf (text_parts L.parts (t := inn) (by omega)) ?_;simp;have hpl := parts_len (t := inn)
     have hpm : ∀ x, x ∈ partsN inn → x.length < 100000 ∧ ∀ c, c ∈ x → c < 256 := fun x hx => by
      obtain ⟨h1, h2⟩ := parts_mem hx;exact ⟨by omega, fun c hc => ht c (m2 c (m4 c (h2 c hc)))⟩
     generalize partsN inn = l at hr2 hpl hpm;refine sem_loop (RdI H s d kk l) ?_ (k := l.length) ⟨0, .lit .nilslice, [], by simp, by simp, rfl, by simp, rfl, by simp [nil8], by simp [hd7], by simp, ⟨⟨H.next + 2, _⟩, rfl, ⟨⟨by simp, fun b _ => rfl⟩, by simp, .inl ⟨rfl, rfl⟩⟩⟩, sR⟩;rintro w fr H' ⟨i, tt, acc, rfl, hi, hacc, hall, rfl, b2, b3, hn, ⟨HB, hB, gr⟩, sb⟩
     have far : ¬ D.hasB (H.next + 1) tt := fun h => by have := gr.far h; omega
     by_cases c : i < l.length
     ·obtain ⟨x, hx⟩ : ∃ x, l[i]? = some x := ⟨_, List.getElem?_eq_getElem c⟩;have hxi : l[i] = x := (by rw [List.getElem?_eq_getElem c] at hx; exact Option.some.inj hx);have hdr : l.drop i = x :: l.drop (i + 1) := (by rw [List.drop_eq_getElem_cons c, hxi]);have hxm := hpm x (by rw [← hxi]; simp);have w2 : wr .i64 ((d : Int) + 1 - 1) = (d : Int) := (by rw [wr_of] <;> omega);have w3 : wr .i64 (d : Int) = (d : Int) := (by rw [wr_of] <;> omega);have hw : wr .i64 ((i : Int) + 1) = ((i + 1 : Nat) : Int) := (by rw [wr_of] <;> omega);have n1 : ¬ (H.next + 1 = H'.next) := (by omega);refine sem_run 9000 _ ?_
      simp;simp [c, hxi, w3];refine sem_fn (ih x (by omega) hxm.1 hxm.2) (by first | exact D.les_refl _ | simp [schD, D.les_refl]) (sem_run 9000 _ ?_)
      cases hb : (readF s d x).2 with
      | false =>
       have n0 : ¬ (H.next = H'.next) := (by omega);simp [b2, n0, nil8];refine sem_ret ?_;simp [M232];refine sem_ret ?_;simp;rw [hr2, hall, hdr];rw [show allF (readF s d) kk (x :: l.drop (i + 1)) acc = (prN 0, false) by unfold allF; rw [if_neg (by rw [hb]; simp)]];refine .le (((sb.trans (by exact Sub.refl.new)).put (by omega)).put (by omega)) (by simp [prN, Pr.c, Pr.cs_map, zv, byD, byE, D.le, D.les]) (by simp [D.under])
      | true =>
       simp [b3, n1, hd7];have hal : (acc.map Pr.c).length ≤ 100001 := (by rw [List.length_map]; omega);refine sem_push (gr.mono sR) (by simp) (by simp) (roomyD (by omega) (by omega)) fun s' H4 g4 k4 n4 => ?_;obtain ⟨n4', e4⟩ := n4;simp at n4'
       have c4 : H4.blk (H.next + 1) = .cells (hd7 kk tt) false := by
        rw [k4 _ (by simp; omega) far, put_blk, if_neg (by omega), new_blk, if_neg (by omega)]; exact b3
       subst e4;simp [c4, hd7];refine sem_ok ?_;have er : acc.map Pr.c ++ [(readF s d x).1.c] = (acc ++ [(readF s d x).1]).map Pr.c := (by simp);rw [er, List.length_map] at g4;have g5 := g4.rest (H3 := H4.put (H.next + 1) (.cells (hd7 kk (.slice (H'.next + 1) 0 8 (acc.length + 1) (acc.length + 1) false)) false)) (by simp) (fun y hy => by have := g4.far hy; rw [put_blk, if_neg (by omega)]);refine ⟨_, by omega, i + 1, _, acc ++ [(readF s d x).1], rfl, by omega, by simp [hacc], ?_, by rw [hw], ?_, put_blk.trans (if_pos rfl), ?_, ⟨_, ?_, g5⟩, ?_⟩
       ·rw [hall, hdr];show (if (readF s d x).2 = true then _ else _) = _;rw [if_pos hb]
       ·rw [put_blk, if_neg (by omega), k4 _ (by simp; omega) (fun h => by have := gr.far h; omega), put_blk, if_neg (by omega), new_blk, if_neg (by omega)]; exact b2
       ·show H.next + 2 ≤ H4.next;omega
       ·exact hB
       ·have := sb.next;refine ⟨by show H.next ≤ H4.next; omega, fun b hb' => ?_⟩;rw [put_blk, if_neg (by omega), k4 _ (by simp; omega) (fun h => by have := gr.far h; omega), put_blk, if_neg (by omega), new_blk, if_neg (by omega)];exact sb.blk _ hb'
     ·have : i = l.length := (by omega);subst this;obtain ⟨H5, w5, c5, k5, n5, sub5⟩ := gr.incell b3 (j := 7) (by simp [hd7]) far;refine sem_weak (w5 _ _) ?_;refine sem_run 9000 _ ?_;simp;refine sem_exit (sem_run 9000 _ ?_);simp [hd7] at c5;have b5 : H5.blk H.next = .cells nil8 false := (k5 _ (by omega) (fun h => by have := gr.far h; omega)).trans b2;simp [c5, b5, nil8];refine sem_ret ?_;simp [M232];rw [hr2, hall, List.drop_length];have hsn := sb.next;refine .le ((sub5 H sb (by omega) (by omega)).put (Nat.le_refl _)) (by simp [allF, Pr.c, Pr.cs_map, zv, byD, byE, D.le, D.les, D.less_refl]) (by simp [D.under])
end Go.Lib
end

section
set_option maxRecDepth 10000
namespace Go.Lib
open Go.Vm Go.Dv Go.Srt
variable {p : Prog} {ext : Ext} {F : Nat → Nat}
attribute [-simp] bin_and bin_xor
def oneB (s : Sch) (q : Pr) : Bool :=
 if q.kind = 1 then bareB q && decide (q.l.length = 0)
 else if q.kind = 2 then decide (0 ≤ q.col ∧ q.col < s.length ∧ 1 ≤ q.op ∧ q.op ≤ 6 ∧ isB q.v = true ∧ q.v.null = false ∧ q.v.kind = (s[q.col.toNat]?).elim 0 Cl.kind ∧ q.l.length = 0)
 else if q.kind = 3 then decide (0 ≤ q.col ∧ q.col < s.length ∧ q.op = 0 ∧ q.v = zv ∧ q.l.length = 0)
 else if q.kind = 4 ∨ q.kind = 5 then bareB q && decide ((q.l.length : Int) ≤ 8)
 else if q.kind = 6 then bareB q && decide ((q.l.length : Int) = 1)
 else false
theorem pred_oneB (L : HText p ext F) {s : Sch} {q : Pr} : FnD p ext (F 218) [schD s, .agg q.c] (.lit (.bool (oneB s q))) := by
 refine fn_of L.h218 (M := M218) rfl ok218 rfl fun H => sem_run 9000 _ ?_;simp
 by_cases c0 : 0 ≤ q.col
 ·by_cases c1 : q.col < s.length
  ·have hgk : s[q.col.toNat]? = some (s[q.col.toNat]'(by omega)) := List.getElem?_eq_getElem (by omega)
   by_cases k1 : q.kind = 1
   ·simp [k1, c0, c1];refine sf (pred_bare L) ?_
    cases hb : bareB q with
    | false =>
     simp;refine sem_ret ?_;simp [M218, oneB, k1, hb]
     try exact .le sR (D.le_refl _) (by simp)
    | true =>
     simp;refine sem_ret ?_;simp [M218, oneB, k1, hb]
     try exact .le sR (D.le_refl _) (by simp)
   ·by_cases k2 : q.kind = 2
    ·by_cases o1 : 1 ≤ q.op
     ·by_cases o2 : q.op ≤ 6
      ·simp [k2, o1, o2, c0, c1];refine sem_dfn (schm_is_any L) (by first | exact D.les_refl _ | simp) (sem_run 9000 _ ?_)
       cases is : isB q.v with
       | false =>
        simp;refine sem_ret ?_;simp [M218, oneB, k2, is]
        try exact .le sR (D.le_refl _) (by simp)
       | true =>
        cases nu : q.v.null with
        | true =>
         simp [nu];refine sem_ret ?_;simp [M218, oneB, k2, is, nu]
         try exact .le sR (D.le_refl _) (by simp)
        | false =>
         by_cases kk : q.v.kind = (s[q.col.toNat]'(by omega)).kind
         ·simp [nu, kk, c0, c1];refine sem_ret ?_;simp [M218, oneB, k2, is, nu, kk, o1, o2, c0, c1]
          try exact .le sR (D.le_refl _) (by simp)
         ·simp [nu, kk, c0, c1];refine sem_ret ?_;simp [M218, oneB, k2, is, nu, hgk, kk]
          try exact .le sR (D.le_refl _) (by simp)
      ·simp [k2, o1, o2, c0, c1];refine sem_ret ?_;simp [M218, oneB, k2, o2]
       try exact .le sR (D.le_refl _) (by simp)
     ·simp [k2, o1, c0, c1];refine sem_ret ?_;simp [M218, oneB, k2, o1]
      try exact .le sR (D.le_refl _) (by simp)
    ·by_cases k3 : q.kind = 3
     ·by_cases o0 : q.op = 0
      ·simp [k3, o0, c0, c1];refine sf (pred_none L) ?_
       by_cases hz : q.v = zv
       ·simp [hz];refine sem_ret ?_;simp [M218, oneB, k3, hz, o0, c0, c1]
        try exact .le sR (D.le_refl _) (by simp)
       ·simp [hz];refine sem_ret ?_;simp [M218, oneB, k3, hz]
        try exact .le sR (D.le_refl _) (by simp)
      ·simp [k3, o0, c0, c1];refine sem_ret ?_;simp [M218, oneB, k3, o0]
       try exact .le sR (D.le_refl _) (by simp)
     ·by_cases k4 : q.kind = 4 ∨ q.kind = 5
      ·rcases k4 with k | k
       ·simp [k, c0, c1];refine sf (pred_bare L) ?_
        cases hb : bareB q with
        | false =>
         simp;refine sem_ret ?_;simp [M218, oneB, k, hb]
         try exact .le sR (D.le_refl _) (by simp)
        | true =>
         simp;refine sem_ret ?_;simp [M218, oneB, k, hb]
         try exact .le sR (D.le_refl _) (by simp)
       ·simp [k, c0, c1];refine sf (pred_bare L) ?_
        cases hb : bareB q with
        | false =>
         simp;refine sem_ret ?_;simp [M218, oneB, k, hb]
         try exact .le sR (D.le_refl _) (by simp)
        | true =>
         simp;refine sem_ret ?_;simp [M218, oneB, k, hb]
         try exact .le sR (D.le_refl _) (by simp)
      ·have k5 : ¬ q.kind = 4 := fun e => k4 (.inl e);have k6 : ¬ q.kind = 5 := fun e => k4 (.inr e)
       by_cases k7 : q.kind = 6
       ·simp [k7, c0, c1];refine sf (pred_bare L) ?_
        cases hb : bareB q with
        | false =>
         simp;refine sem_ret ?_;simp [M218, oneB, k7, hb]
         try exact .le sR (D.le_refl _) (by simp)
        | true =>
         simp;refine sem_ret ?_;simp [M218, oneB, k7, hb]
         try exact .le sR (D.le_refl _) (by simp)
       ·simp [k1, k2, k3, k5, k6, k7, c0, c1];refine sem_ret ?_;simp [M218, oneB, k1, k2, k3, k5, k6, k7]
        try exact .le sR (D.le_refl _) (by simp)
  ·have hin : ¬ (0 ≤ q.col ∧ q.col < s.length) := fun h => c1 h.2
   by_cases k1 : q.kind = 1
   ·simp [k1, c0, c1];refine sf (pred_bare L) ?_
    cases hb : bareB q with
    | false =>
     simp;refine sem_ret ?_;simp [M218, oneB, k1, hb]
     try exact .le sR (D.le_refl _) (by simp)
    | true =>
     simp;refine sem_ret ?_;simp [M218, oneB, k1, hb]
     try exact .le sR (D.le_refl _) (by simp)
   ·by_cases k2 : q.kind = 2
    ·simp [k2, c0, c1];refine sem_ret ?_;simp [M218, oneB, k2, c0, c1]
     try exact .le sR (D.le_refl _) (by simp)
    ·by_cases k3 : q.kind = 3
     ·simp [k3, c0, c1];refine sem_ret ?_;simp [M218, oneB, k3, c0, c1]
      try exact .le sR (D.le_refl _) (by simp)
     ·by_cases k4 : q.kind = 4 ∨ q.kind = 5
      ·rcases k4 with k | k
       ·simp [k, c0, c1];refine sf (pred_bare L) ?_
        cases hb : bareB q with
        | false =>
         simp;refine sem_ret ?_;simp [M218, oneB, k, hb]
         try exact .le sR (D.le_refl _) (by simp)
        | true =>
         simp;refine sem_ret ?_;simp [M218, oneB, k, hb]
         try exact .le sR (D.le_refl _) (by simp)
       ·simp [k, c0, c1];refine sf (pred_bare L) ?_
        cases hb : bareB q with
        | false =>
         simp;refine sem_ret ?_;simp [M218, oneB, k, hb]
         try exact .le sR (D.le_refl _) (by simp)
        | true =>
         simp;refine sem_ret ?_;simp [M218, oneB, k, hb]
         try exact .le sR (D.le_refl _) (by simp)
      ·have k5 : ¬ q.kind = 4 := fun e => k4 (.inl e);have k6 : ¬ q.kind = 5 := fun e => k4 (.inr e)
       by_cases k7 : q.kind = 6
       ·simp [k7, c0, c1];refine sf (pred_bare L) ?_
        cases hb : bareB q with
        | false =>
         simp;refine sem_ret ?_;simp [M218, oneB, k7, hb]
         try exact .le sR (D.le_refl _) (by simp)
        | true =>
         simp;refine sem_ret ?_;simp [M218, oneB, k7, hb]
         try exact .le sR (D.le_refl _) (by simp)
       ·simp [k1, k2, k3, k5, k6, k7, c0, c1];refine sem_ret ?_;simp [M218, oneB, k1, k2, k3, k5, k6, k7]
        try exact .le sR (D.le_refl _) (by simp)
 ·have hin : ¬ (0 ≤ q.col ∧ q.col < s.length) := fun h => c0 h.1
  by_cases k1 : q.kind = 1
  ·simp [k1, c0];refine sf (pred_bare L) ?_
   cases hb : bareB q with
   | false =>
    simp;refine sem_ret ?_;simp [M218, oneB, k1, hb]
    try exact .le sR (D.le_refl _) (by simp)
   | true =>
    simp;refine sem_ret ?_;simp [M218, oneB, k1, hb]
    try exact .le sR (D.le_refl _) (by simp)
  ·by_cases k2 : q.kind = 2
   ·simp [k2, c0];refine sem_ret ?_;simp [M218, oneB, k2, c0]
    try exact .le sR (D.le_refl _) (by simp)
   ·by_cases k3 : q.kind = 3
    ·simp [k3, c0];refine sem_ret ?_;simp [M218, oneB, k3, c0]
     try exact .le sR (D.le_refl _) (by simp)
    ·by_cases k4 : q.kind = 4 ∨ q.kind = 5
     ·rcases k4 with k | k
      ·simp [k, c0];refine sf (pred_bare L) ?_
       cases hb : bareB q with
       | false =>
        simp;refine sem_ret ?_;simp [M218, oneB, k, hb]
        try exact .le sR (D.le_refl _) (by simp)
       | true =>
        simp;refine sem_ret ?_;simp [M218, oneB, k, hb]
        try exact .le sR (D.le_refl _) (by simp)
      ·simp [k, c0];refine sf (pred_bare L) ?_
       cases hb : bareB q with
       | false =>
        simp;refine sem_ret ?_;simp [M218, oneB, k, hb]
        try exact .le sR (D.le_refl _) (by simp)
       | true =>
        simp;refine sem_ret ?_;simp [M218, oneB, k, hb]
        try exact .le sR (D.le_refl _) (by simp)
     ·have k5 : ¬ q.kind = 4 := fun e => k4 (.inl e);have k6 : ¬ q.kind = 5 := fun e => k4 (.inr e)
      by_cases k7 : q.kind = 6
      ·simp [k7, c0];refine sf (pred_bare L) ?_
       cases hb : bareB q with
       | false =>
        simp;refine sem_ret ?_;simp [M218, oneB, k7, hb]
        try exact .le sR (D.le_refl _) (by simp)
       | true =>
        simp;refine sem_ret ?_;simp [M218, oneB, k7, hb]
        try exact .le sR (D.le_refl _) (by simp)
      ·simp [k1, k2, k3, k5, k6, k7, c0];refine sem_ret ?_;simp [M218, oneB, k1, k2, k3, k5, k6, k7]
       try exact .le sR (D.le_refl _) (by simp)
end Go.Lib
end

section
set_option maxRecDepth 10000
namespace Go.Lib
open Go.Vm Go.Dv Go.Srt
variable {p : Prog} {ext : Ext} {F : Nat → Nat}
attribute [-simp] bin_and bin_xor
def lookL (f : Pr → Nat → Bool × Nat) : List Pr → Nat → Bool × Nat
 | [], n => (true, n)
 | x :: l, n => if (f x n).1 = true then lookL f l (f x n).2 else (false, (f x n).2)
def lookF (s : Sch) : Nat → Pr → Nat → Bool × Nat
 | 0, _, n => (false, n + 1)
 | d + 1, q, n => if 64 < n + 1 ∨ oneB s q = false then (false, n + 1) else lookL (lookF s d) q.l (n + 1)
theorem oneB_len {s : Sch} {q : Pr} (h : oneB s q = true) : q.l.length ≤ 8 := by
 unfold oneB at h;split at h
 ·simp at h; rw [h.2]; simp
 ·split at h
  ·simp at h; rw [h.2.2.2.2.2.2.2]; simp
  ·split at h
   ·simp at h; rw [h.2.2.2.2]; simp
   ·split at h
    ·simp at h; omega
    ·split at h
     ·simp at h; omega
     ·cases h
theorem lookL_le {f : Pr → Nat → Bool × Nat} (hf : ∀ x n, (f x n).1 = true → (f x n).2 ≤ 64) : ∀ {l : List Pr} {n : Nat}, n ≤ 64 → (lookL f l n).1 = true → (lookL f l n).2 ≤ 64
 | [], n, h, _ => h
 | x :: l, n, h, h2 => by
  unfold lookL at h2 ⊢
  by_cases c : (f x n).1 = true
  ·rw [if_pos c] at h2 ⊢; exact lookL_le hf (hf x n c) h2
  ·rw [if_neg c] at h2; cases h2
theorem lookF_le {s : Sch} : ∀ {d : Nat} {q : Pr} {n : Nat}, (lookF s d q n).1 = true → (lookF s d q n).2 ≤ 64
 | 0, q, n, h => by cases h
 | d + 1, q, n, h => by
  unfold lookF at h ⊢
  by_cases c : 64 < n + 1 ∨ oneB s q = false
  ·rw [if_pos c] at h; cases h
  ·rw [if_neg c] at h ⊢;exact lookL_le (fun x m hx => lookF_le hx) (by omega) h
def LookG (H : HpD) (b : Nat) (r : Bool × Nat) (d : D) (H' : HpD) : Prop :=
 d = .lit (.bool r.1) ∧ H'.blk b = .cells [.lit (.int .i64 (r.2 : Int))] false ∧ H.next ≤ H'.next ∧ ∀ x, x < H.next → x ≠ b → H'.blk x = H.blk x
def LkI (H : HpD) (s : Sch) (q : Pr) (k b n : Nat) (w : Nat) (fr : FrD) (H' : HpD) : Prop :=
 ∃ i m : Nat, w = q.l.length - i ∧ i ≤ q.l.length ∧ m ≤ 64 ∧ lookL (lookF s k) q.l (n + 1) = lookL (lookF s k) (q.l.drop i) m ∧
  fr = [(2, .lit (.int .i64 ((k : Int) + 1))), (3, .ptr b 0), (4, .rptr [schR s] 0), (31, prsD q.l), (32, .lit (.int .i64 (q.l.length : Int))), (33, .lit (.int .i64 (i : Int)))] ∧
  H'.blk b = .cells [.lit (.int .i64 (m : Int))] false ∧ H.next ≤ H'.next ∧ ∀ x, x < H.next → x ≠ b → H'.blk x = H.blk x
theorem pred_lookG (L : HText p ext F) {s : Sch} : ∀ (k : Nat) (q : Pr) (H : HpD) (n b : Nat), H.blk b = .cells [.lit (.int .i64 (n : Int))] false → b < H.next → n ≤ 64 → k < 100 →
  WcD p ext (F 216) [schD s, .agg q.c, .lit (.int .i64 (k : Int)), .ptr b 0] H (LookG H b (lookF s k q n))
 | 0, q, H, n, b, hb, hlt, hn, hk => by
  refine wc_of L.h216 (M := M216) rfl ok216 rfl (sem_run 9000 _ ?_);have w1 : wr .i64 ((n : Int) + 1) = (n : Int) + 1 := (by rw [wr_of] <;> omega);simp [hb, w1];refine sem_ret ?_;simp [M216];exact ⟨rfl, by simp [lookF], by simp, fun x hx hne => by rw [put_blk, if_neg hne]⟩
 | k + 1, q, H, n, b, hb, hlt, hn, hk => by
  refine wc_of L.h216 (M := M216) rfl ok216 rfl (sem_run 9000 _ ?_);have w1 : wr .i64 ((n : Int) + 1) = (n : Int) + 1 := (by rw [wr_of] <;> omega)
  have z1 : ¬ ((k : Int) + 1 = 0) := by omega
  by_cases h64 : 64 < n + 1
  ·have z2 : 64 < (n : Int) + 1 := (by omega);simp [hb, w1, z1, z2];refine sem_ret ?_;simp [M216];rw [show lookF s (k + 1) q n = (false, n + 1) by unfold lookF; rw [if_pos (.inl h64)]];exact ⟨rfl, by simp, by simp, fun x hx hne => by rw [put_blk, if_neg hne]⟩
  ·have z2 : ¬ (64 < (n : Int) + 1) := (by omega);simp [hb, w1, z1, z2];refine sem_fn (pred_oneB L) (by first | exact D.les_refl _ | simp [schD, D.les_refl]) (sem_run 9000 _ ?_)
   cases ho : oneB s q with
   | false =>
    simp;refine sem_ret ?_;simp [M216];rw [show lookF s (k + 1) q n = (false, n + 1) by unfold lookF; rw [if_pos (.inr ho)]];exact ⟨rfl, by simp, by simp, fun x hx hne => by rw [put_blk, if_neg hne]⟩
   | true =>
    have hql := oneB_len ho
    have hlk : lookF s (k + 1) q n = lookL (lookF s k) q.l (n + 1) := by
     show (if 64 < n + 1 ∨ oneB s q = false then _ else _) = _;rw [if_neg (by rintro (h | h); exact h64 h; rw [ho] at h; cases h)]
    rw [hlk];simp;refine sem_loop (LkI H s q k b n) ?_ (k := q.l.length) ⟨0, n + 1, by simp, by simp, by omega, by simp, rfl, by simp, by simp, fun x hx hne => by rw [put_blk, if_neg hne]⟩;rintro w fr H' ⟨i, m, rfl, hi, hm, hall, rfl, b1, b2, b3⟩
    by_cases c : i < q.l.length
    ·obtain ⟨x, hx⟩ : ∃ x, q.l[i]? = some x := ⟨q.l[i], by simp⟩;have hxi : q.l[i] = x := (by rw [List.getElem?_eq_getElem c] at hx; exact Option.some.inj hx);have hdr : q.l.drop i = x :: q.l.drop (i + 1) := (by rw [List.drop_eq_getElem_cons c, hxi]);have w2 : wr .i64 ((k : Int) + 1 - 1) = (k : Int) := (by rw [wr_of] <;> omega);have w3 : wr .i64 (k : Int) = (k : Int) := (by rw [wr_of] <;> omega);refine sem_run 9000 _ ?_;simp;simp [c, hxi, w3];refine sem_call (pred_lookG L k x _ m b (by rw [put_blk, if_neg (by omega), new_blk, if_neg (by omega)]; exact b1) (by simp; omega) hm (by omega)) ?_
     rintro d H2 ⟨rfl, e1, e2, e3⟩;have e2 : H'.next + 1 ≤ H2.next := e2
     have keep : ∀ y, y < H.next → y ≠ b → H2.blk y = H.blk y := fun y hy hne => by
      rw [e3 y (by simp; omega) hne, put_blk, if_neg (by omega), new_blk, if_neg (by omega)]; exact b3 y hy hne
     cases hr : (lookF s k x m).1 with
     | true =>
      refine sem_run 9000 _ ?_;simp;refine sem_ok ?_;have hw : wr .i64 ((i : Int) + 1) = ((i + 1 : Nat) : Int) := (by rw [wr_of] <;> omega);refine ⟨_, by omega, i + 1, (lookF s k x m).2, rfl, by omega, lookF_le hr, ?_, by rw [hw], e1, by omega, keep⟩;rw [hall, hdr];show (if (lookF s k x m).1 = true then _ else _) = _;rw [if_pos hr]
     | false =>
      refine sem_run 9000 _ ?_;simp;refine sem_ret ?_;simp [M216];refine sem_ret ?_;simp
      have hz : lookL (lookF s k) (x :: q.l.drop (i + 1)) m = (false, (lookF s k x m).2) := by
       show (if (lookF s k x m).1 = true then _ else _) = _;rw [if_neg (by rw [hr]; simp)]
      rw [hall, hdr, hz];exact ⟨rfl, e1, by omega, keep⟩
    ·have : i = q.l.length := (by omega);subst this;rw [List.drop_length] at hall;refine sem_run 9000 _ ?_;simp;refine sem_exit (sem_run 9000 _ ?_);simp;refine sem_ret ?_;simp [M216];rw [hall];exact ⟨rfl, b1, b2, b3⟩
end Go.Lib
end
