/-
 Texts that the claim's last one rests on, joined.
-/
import Derived.Test.YtcpfgjkhjadgoaaGreatDoorBProgBackc
import Derived.Lib.SplitLaws
import Derived.Lib.ItoaNum
import Derived.Lib.ParseIntBTie
import Derived.Lib.Join
import Derived.Lib.Bytealg
import Derived.Lib.LaidTab
import Derived.Sort.Grow
import Derived.RowKit
import Derived.Deep.Draws
import Derived.Test.YtcpfgjkhjadgoaaGreatDoorBProgBackf

section
namespace Go.Vm
open Go.RowKit
variable {P : Program}
def pfx : List Nat → List Nat → Bool
 | [], _ => true
 | _ :: _, [] => false
 | a :: x, b :: y => cond (Nat.beq a b) (pfx x y) false
def indexN : List Nat → List Nat → Option Nat
 | [], sub => match sub with
  | [] => some 0
  | _ :: _ => none
 | b :: l, sub => cond (pfx sub (b :: l)) (some 0) (match indexN l sub with
  | some i => some (i + 1)
  | none => none)
def cutN (s sep : List Nat) : List Nat × List Nat × Bool := match indexN s sep with
 | some i => (s.take i, s.drop (i + sep.length), true)
 | none => (s, [], false)
def splitF : Nat → List Nat → List Nat → List (List Nat)
 | 0, s, _ => [s]
 | f + 1, s, sep => match indexN s sep with
  | some i => s.take i :: splitF f (s.drop (i + sep.length)) sep
  | none => [s]
def splitN (s sep : List Nat) : List (List Nat) := splitF (s.length + 1) s sep
def sfx (p s : List Nat) : Bool := pfx p.reverse s.reverse
def cutSN (s p : List Nat) : List Nat × Bool := cond (sfx p s) (s.take (s.length - p.length), true) (s, false)
def trimPN (s p : List Nat) : List Nat := cond (pfx p s) (s.drop p.length) s
def idxBN : List Nat → Nat → Option Nat
 | [], _ => none
 | b :: l, c => cond (Nat.beq b c) (some 0) (match idxBN l c with
  | some i => some (i + 1)
  | none => none)
def oInt : Option Nat → Int
 | some i => .ofNat i
 | none => .negSucc 0
def joinT (sep : List Nat) : List (List Nat) → List Nat
 | [] => []
 | x :: l => sep ++ (x ++ joinT sep l)
def joinN : List (List Nat) → List Nat → List Nat
 | [], _ => []
 | x :: l, sep => x ++ joinT sep l
def digN : Nat → Nat → List Nat
 | 0, u => [48 + Nat.mod u 10]
 | f + 1, u => cond (Nat.blt u 10) [48 + u] (digN f (Nat.div u 10) ++ [48 + Nat.mod u 10])
def itoaN : Int → List Nat
 | .ofNat n => digN 20 n
 | .negSucc n => 45 :: digN 20 (n + 1)
inductive Pe where
 | ok (n : Int)
 | syn
 | rng
def magN (acc : Nat) : List Nat → Pe
 | [] => .ok (.ofNat acc)
 | c :: r => cond (Nat.ble 48 c) (cond (Nat.ble c 57)
   (cond (Nat.ble 1844674407370955162 acc) .rng (cond (Nat.blt 18446744073709551615 (acc * 10 + (c - 48))) .rng (magN (acc * 10 + (c - 48)) r))) .syn) .syn
def signN (neg : Bool) : Pe → Pe
 | .ok (.ofNat u) => cond neg (cond (Nat.blt 9223372036854775808 u) .rng (.ok (Int.neg (.ofNat u)))) (cond (Nat.ble 9223372036854775808 u) .rng (.ok (.ofNat u)))
 | .ok (.negSucc _) => .rng
 | .syn => .syn
 | .rng => .rng
def mag0 (l : List Nat) : Pe := match l with
 | [] => .syn
 | _ :: _ => magN 0 l
def parseN (l : List Nat) : Pe := match l with
 | [] => .syn
 | c :: r => cond (Nat.beq c 45) (signN true (mag0 r)) (cond (Nat.beq c 43) (signN false (mag0 r)) (signN false (mag0 l)))
def satN (l : List Nat) : Int := match l with
 | [] => .ofNat 9223372036854775807
 | c :: _ => cond (Nat.beq c 45) (.negSucc 9223372036854775807) (.ofNat 9223372036854775807)
theorem oInt_next (x : Option Nat) : (if oInt x == -1 then -1 else oInt x + 1) = oInt (match x with
  | some i => some (i + 1)
  | none => none) := by
 cases x with
 | none => rfl
 | some i =>
  have : (oInt (some i) == -1) = false := (by rw [beq_eq_false_iff_ne]; show (i : Int) ≠ -1; omega);rw [this]; rfl
def nb (l : List UInt8) : List Nat := l.map UInt8.toNat
theorem beq_u8 (a b : UInt8) : Nat.beq a.toNat b.toNat = (a == b) := by
 by_cases h : a = b
 ·subst h; simp
 ·have : a.toNat ≠ b.toNat := fun e => h (UInt8.toNat_inj.1 e)
  have e1 : Nat.beq a.toNat b.toNat = false := by
   cases e : Nat.beq a.toNat b.toNat with
   | false => rfl
   | true => exact absurd (Nat.eq_of_beq_eq_true e) this
  rw [e1]; symm; simpa using h
theorem pfx_nb : ∀ a b : List UInt8, pfx (nb a) (nb b) = a.isPrefixOf b
 | [], b => by cases b <;> rfl
 | _ :: _, [] => rfl
 | a :: x, b :: y => by
  have := pfx_nb x y;simp only [nb, List.map_cons, pfx, beq_u8, List.isPrefixOf] at this ⊢;rw [this];cases a == b <;> rfl
theorem indexN_nb : ∀ l sub : List UInt8, Lib.index l sub = oInt (indexN (nb l) (nb sub))
 | [], sub => by cases sub <;> rfl
 | b :: l, sub => by
  have ih := indexN_nb l sub;have hp := pfx_nb sub (b :: l);have e : nb (b :: l) = b.toNat :: nb l := rfl;rw [e] at hp ⊢;unfold Lib.index;simp only [indexN, hp]
  cases hpp : sub.isPrefixOf (b :: l) with
  | true => rfl
  | false =>
   simp only [cond_false, Bool.false_eq_true, if_false];rw [ih];exact oInt_next _
theorem nb_take (n : Nat) (l : List UInt8) : nb (l.take n) = (nb l).take n := by simp [nb]
theorem nb_drop (n : Nat) (l : List UInt8) : nb (l.drop n) = (nb l).drop n := by simp [nb]
theorem nb_length (l : List UInt8) : (nb l).length = l.length := by simp [nb]
theorem nb_append (a b : List UInt8) : nb (a ++ b) = nb a ++ nb b := by simp [nb]
theorem cutN_nb (s sep : List UInt8) : cutN (nb s) (nb sep) = (nb (Lib.cut s sep).1, nb (Lib.cut s sep).2.1, (Lib.cut s sep).2.2) := by
 unfold cutN Lib.cut;have hi := indexN_nb s sep
 cases e : indexN (nb s) (nb sep) with
 | none =>
  rw [e] at hi;have hi : Lib.index s sep = -1 := hi;rw [hi, if_neg (by decide)];rfl
 | some i =>
  rw [e] at hi;have hi : Lib.index s sep = (i : Int) := hi;rw [hi, if_pos (Int.natCast_nonneg i)];simp [nb_take, nb_drop, nb_length]
theorem splitK_nb (sep : List UInt8) (hs : sep ≠ []) : ∀ (f : Nat) (s : List UInt8), s.length < f → (Lib.splitK sep 0 (Lib.count s sep) s).map nb = splitF f (nb s) (nb sep)
 | 0, s, h => by omega
 | f + 1, s, h => by
  have hi := indexN_nb s sep;simp only [splitF]
  cases e : indexN (nb s) (nb sep) with
  | none =>
   rw [e] at hi;rw [Lib.count_miss hi];rfl
  | some i =>
   rw [e] at hi;have hi : Lib.index s sep = (i : Int) := hi;rw [Lib.count_hit hs hi, Nat.add_comm];simp only [Lib.splitK, hi];rw [if_neg (by simp)];simp only [List.map_cons, Int.toNat_natCast, Nat.add_zero];rw [splitK_nb sep hs f]
   ·simp [nb_take, nb_drop, nb_length]
   ·have hr := Lib.index_room s sep (by rw [hi]; omega);rw [hi] at hr
    have : 1 ≤ sep.length := by cases sep with
     | nil => exact absurd rfl hs
     | cons => simp
    rw [List.length_drop]; omega
theorem sfx_nb (p s : List UInt8) : sfx (nb p) (nb s) = Lib.hasSuffix s p := by
 unfold sfx Lib.hasSuffix List.isSuffixOf;rw [← pfx_nb];simp [nb]
theorem cutSN_nb (s p : List UInt8) : cutSN (nb s) (nb p) = (nb (Lib.trimSuffix s p), Lib.hasSuffix s p) := by
 unfold cutSN Lib.trimSuffix;rw [sfx_nb];cases Lib.hasSuffix s p <;> simp [nb_take, nb_length]
theorem trimPN_nb (s p : List UInt8) : trimPN (nb s) (nb p) = nb (Lib.trimPrefix s p) := by
 unfold trimPN Lib.trimPrefix Lib.hasPrefix;rw [pfx_nb];cases p.isPrefixOf s <;> simp [nb_drop, nb_length]
theorem idxBN_nb : ∀ (l : List UInt8) (c : UInt8), Lib.indexByte l c = oInt (idxBN (nb l) c.toNat)
 | [], _ => rfl
 | b :: l, c => by
  have ih := idxBN_nb l c;have e : nb (b :: l) = b.toNat :: nb l := rfl;rw [e];unfold Lib.indexByte;simp only [idxBN, beq_u8]
  cases hb : b == c with
  | true => rfl
  | false =>
   simp only [cond_false, Bool.false_eq_true, if_false];rw [ih];exact oInt_next _
theorem joinT_nb (sep : List UInt8) : ∀ r : List (List UInt8), nb (Lib.joinTail sep r) = joinT (nb sep) (r.map nb)
 | [] => rfl
 | x :: r => by
  have := joinT_nb sep r;simp only [Lib.joinTail, List.map_cons, List.flatten_cons, nb_append, joinT] at this ⊢;rw [this, List.append_assoc]
theorem joinN_nb (xs : List (List UInt8)) (sep : List UInt8) : nb (Lib.join xs sep) = joinN (xs.map nb) (nb sep) := by
 cases xs with
 | nil => rfl
 | cons x r => rw [Lib.join_cons, nb_append, joinT_nb]; rfl
theorem digN_dec : ∀ (f u : Nat), u < 10 ^ (f + 1) → digN f u = nb (Lib.decDigits u)
 | 0, u, h => by
  have h : u < 10 := (by simpa using h);rw [Lib.decDigits, dif_pos h];show [48 + u % 10] = _;simp [nb, Nat.mod_eq_of_lt h];omega
 | f + 1, u, h => by
  simp only [digN]
  by_cases h10 : u < 10
  ·rw [show Nat.blt u 10 = true from nblt.2 h10, Lib.decDigits, dif_pos h10];simp [nb]; omega
  ·have : Nat.blt u 10 = false := by
    cases e : Nat.blt u 10 with
    | false => rfl
    | true => exact absurd (nblt.1 e) h10
   rw [this, Lib.decDigits, dif_neg h10, nb_append];show digN f (u / 10) ++ [48 + u % 10] = _;rw [digN_dec f (u / 10) (by rw [Nat.pow_succ] at h; omega)];simp [nb]; omega
theorem itoaN_nb {n : Int} (h0 : -9223372036854775808 ≤ n) (h1 : n ≤ 9223372036854775807) : itoaN n = nb (Lib.itoa n) := by
 have hp : (10 : Nat) ^ 21 = 1000000000000000000000 := by decide
 cases n with
 | ofNat n =>
  have h1 : (n : Int) ≤ 9223372036854775807 := h1;unfold Lib.itoa;rw [if_neg (by simp)];exact digN_dec 20 n (by omega)
 | negSucc n =>
  unfold Lib.itoa;rw [if_pos (by omega)];show 45 :: digN 20 (n + 1) = _;rw [digN_dec 20 (n + 1) (by omega)];rfl
def peOf : Lib.NumEnd Int → Pe
 | .ok v => .ok v
 | .range => .rng
 | _ => .syn
def peN : Lib.NumEnd Nat → Pe
 | .ok v => .ok (.ofNat v)
 | .range => .rng
 | _ => .syn
theorem magN_nb : ∀ (l : List UInt8) (acc : Nat), magN acc (nb l) = peN (Lib.parseUintM (2 ^ 64 - 1) acc l)
 | [], _ => rfl
 | c :: r, acc => by
  have e : nb (c :: r) = c.toNat :: nb r := rfl;rw [e];have hM : (2 : Nat) ^ 64 - 1 = 18446744073709551615 := (by decide);simp only [magN, Lib.parseUintM, hM];have ih := magN_nb r (acc * 10 + (c.toNat - 48));rw [hM] at ih;rw [ih]
  by_cases h1 : 48 ≤ c.toNat
  ·by_cases h2 : c.toNat ≤ 57
   ·rw [nble.2 h1, nble.2 h2, if_pos ⟨h1, h2⟩];simp only [cond_true]
    by_cases h3 : 1844674407370955162 ≤ acc
    ·rw [nble.2 h3, if_pos h3]; rfl
    ·rw [if_neg h3, show Nat.ble 1844674407370955162 acc = false from by rw [nble_d]; exact decide_eq_false h3];simp only [cond_false]
     by_cases h4 : 18446744073709551615 < acc * 10 + (c.toNat - 48)
     ·rw [nblt.2 h4, if_pos h4]; rfl
     ·rw [if_neg h4, show Nat.blt 18446744073709551615 (acc * 10 + (c.toNat - 48)) = false from by rw [nblt_d]; exact decide_eq_false h4];rfl
   ·rw [nble.2 h1, show Nat.ble c.toNat 57 = false from by rw [nble_d]; exact decide_eq_false h2, if_neg (fun h => h2 h.2)];rfl
  ·rw [show Nat.ble 48 c.toNat = false from by rw [nble_d]; exact decide_eq_false h1, if_neg (fun h => h1 h.1)];rfl
theorem mag0_nb (l : List UInt8) : mag0 (nb l) = peN (Lib.parseUintB 64 l) := by
 cases l with
 | nil => rfl
 | cons c r =>
  unfold Lib.parseUintB;rw [if_neg (by simp)];exact magN_nb (c :: r) 0
theorem parseN_nb (l : List UInt8) : parseN (nb l) = peOf (Lib.parseIntB 64 l) := by
 cases l with
 | nil => rfl
 | cons c r =>
  have e : nb (c :: r) = c.toNat :: nb r := rfl;have h63 : (2 : Nat) ^ (64 - 1) = 9223372036854775808 := (by decide);have hm := mag0_nb (c :: r);rw [e] at hm ⊢;simp only [parseN, Lib.parseIntB, mag0_nb r, hm, h63]
  by_cases h45 : c.toNat = 45
  ·rw [h45];simp only [or_true, if_true, not_true_eq_false, false_and, if_false, true_and];rw [show Nat.beq 45 45 = true from rfl];simp only [cond_true]
   have fin : ∀ u : Nat, signN true (.ok (.ofNat u)) = peOf (if 9223372036854775808 < u then Lib.NumEnd.range else .ok (-(u : Int))) := by
    intro u;simp only [signN, cond_true]
    by_cases hu : 9223372036854775808 < u
    ·rw [nblt.2 hu, if_pos hu]; rfl
    ·rw [if_neg hu, show Nat.blt 9223372036854775808 u = false from by rw [nblt_d]; exact decide_eq_false hu]; rfl
   cases Lib.parseUintB 64 r
   ·exact fin _
   ·rfl
   ·rfl
  ·have hb : Nat.beq c.toNat 45 = false := (by rw [nbeq_d]; exact decide_eq_false h45);rw [hb];simp only [h45, or_false, cond_false, not_false_eq_true, true_and, if_false, false_and]
   have fin : ∀ u : Nat, signN false (.ok (.ofNat u)) = peOf (if 9223372036854775808 ≤ u then Lib.NumEnd.range else .ok (u : Int)) := by
    intro u;simp only [signN, cond_false]
    by_cases hu : 9223372036854775808 ≤ u
    ·rw [nble.2 hu, if_pos hu]; rfl
    ·rw [if_neg hu, show Nat.ble 9223372036854775808 u = false from by rw [nble_d]; exact decide_eq_false hu]; rfl
   by_cases h43 : c.toNat = 43
   ·rw [h43];rw [show Nat.beq 43 43 = true from rfl];simp only [cond_true, if_true];cases Lib.parseUintB 64 r
    ·exact fin _
    ·rfl
    ·rfl
   ·rw [show Nat.beq c.toNat 43 = false from by rw [nbeq_d]; exact decide_eq_false h43];simp only [cond_false, h43, if_false];cases Lib.parseUintB 64 (c :: r)
    ·exact fin _
    ·rfl
    ·rfl
theorem satN_nb (l : List UInt8) : satN (nb l) = Lib.intSat 64 l := by
 cases l with
 | nil => rfl
 | cons c r =>
  have e : nb (c :: r) = c.toNat :: nb r := rfl;rw [e, Lib.intSat_64];simp only [satN, Lib.atoiSat, List.head?_cons, Option.map_some]
  by_cases h : c.toNat = 45
  ·rw [show Nat.beq c.toNat 45 = true from nbeq.2 h]; simp [h]
  ·rw [show Nat.beq c.toNat 45 = false from by rw [nbeq_d]; exact decide_eq_false h]; simp [h]
structure SG where
 max : Nat
 syn : Nat
 rng : Nat
 pow : Nat
 tE : Nat
inductive Sk where
 | cut | idx | split | cutS | trimP | trimS | idxB | join | itoa | fmt | parse | atoi
def intCell : Blk → Bool
 | .cells (.int .i64 _ :: _) true => true
 | _ => false
def errCell : Blk → Bool
 | .cells (.iface _ _ :: _) true => true
 | _ => false
def powL : Nat → Nat → List V
 | 0, _ => []
 | n + 1, x => .int .u64 (.ofNat x) :: powL n (x * 10)
def powCells : Blk → Bool
 | .whole l => V.sames l (powL 20 1)
 | _ => false
def strsOf : List V → Option (List (List Nat))
 | [] => some []
 | .str s :: l => match strsOf l with
  | some r => some (s :: r)
  | none => none
 | _ => none
def strsV (h : Hp) : V → Option (List (List Nat))
 | .nilslice => some []
 | .slice b o sz len _ _ => cond (Nat.beq sz 1) (match h.read b o len with
  | some l => strsOf l
  | none => none) none
 | _ => none
def numErr (g : SG) (n : Int) (h : Hp) : Option (V × Hp) := some (.tup [.int .i64 n, .iface g.tE (.ptr h.next 0)], h.new .gone)
def parsed (g : SG) (s : List Nat) (h : Hp) : Option (V × Hp) := cond (Nat.ble s.length 4294967280) (match parseN s with
 | .ok n => some (.tup [.int .i64 n, .niliface], h)
 | .syn => cond (errCell (h.blk g.syn)) (numErr g 0 h) none
 | .rng => cond (errCell (h.blk g.rng)) (numErr g (satN s) h) none) none
def strV (g : SG) (k : Sk) (args : List V) (h : Hp) : Option (V × Hp) :=
 match k with
 | .cut => match args with
  | [.str s, .str sep] => cond (intCell (h.blk g.max)) (cond (Nat.ble s.length 4294967280) (match cutN s sep with
   | (a, b, c) => some (.tup [.str a, .str b, .bool c], h)) none) none
  | _ => none
 | .idx => match args with
  | [.str s, .str sep] => cond (intCell (h.blk g.max)) (cond (Nat.ble s.length 4294967280) (some (.int .i64 (oInt (indexN s sep)), h)) none) none
  | _ => none
 | .split => match args with
  | [.str s, .str (c :: sep)] => cond (intCell (h.blk g.max)) (cond (Nat.ble s.length 4294967280)
    (match splitN s (c :: sep) with
    | l => some (.slice h.next 0 1 l.length l.length true, h.new (.cells (l.map .str) false))) none) none
  | _ => none
 | .cutS => match args with
  | [.str s, .str p] => cond (Nat.ble s.length 4294967280) (match cutSN s p with
   | (a, c) => some (.tup [.str a, .bool c], h)) none
  | _ => none
 | .trimP => match args with
  | [.str s, .str p] => some (.str (trimPN s p), h)
  | _ => none
 | .trimS => match args with
  | [.str s, .str p] => cond (Nat.ble s.length 4294967280) (some (.str (cutSN s p).1, h)) none
  | _ => none
 | .idxB => match args with
  | [.str s, .int .u8 (.ofNat c)] => cond (Nat.blt c 256) (some (.int .i64 (oInt (idxBN s c)), h)) none
  | _ => none
 | .join => match args with
  | [x, .str sep] => match strsV h x with
   | some xs => cond (Nat.ble (joinN xs sep).length 4294967280) (cond (Nat.ble xs.length 4294967280) (some (.str (joinN xs sep), h)) none) none
   | none => none
  | _ => none
 | .itoa => match args with
  | [.int .i64 n] => cond (powCells (h.blk g.pow)) (cond (ieq (wr .i64 n) n) (some (.str (itoaN n), h)) none) none
  | _ => none
 | .fmt => match args with
  | [.int .i64 n, .int .i64 (.ofNat b)] => cond (Nat.beq b 10) (cond (powCells (h.blk g.pow)) (cond (ieq (wr .i64 n) n) (some (.str (itoaN n), h)) none) none) none
  | _ => none
 | .parse => match args with
  | [.str s, .int .i64 (.ofNat b), .int .i64 (.ofNat z)] => cond (Nat.beq b 10) (cond (Nat.beq z 64) (parsed g s h) none) none
  | _ => none
 | .atoi => match args with
  | [.str s] => parsed g s h
  | _ => none
def strX (g : SG) : List (Nat × Sk) → Ext
 | [], _, _, _ => none
 | (i, k) :: l, f, args, h => cond (Nat.beq i f) (strV g k args h) (strX g l f args h)
def str (l : List UInt8) : Value := .string ⟨l.toArray⟩
def PowIs (w : World) (g : Nat) : Prop := ∃ e fz, w.heap[g]? = some (.cells (Lib.pow10Tab.map fun z => Value.int .u64 z).toArray e fz)
def SkK (P : Program) (g : SG) (f : Nat) : Sk → Prop
 | .cut => ∀ (s sep : ByteArray) (m : Int) (w : World), s.size < 4294967281 → w.cell? ⟨g.max, 0, none⟩ = some (.int .i64 m) →
   Calls P f #[.string s, .string sep] w fun e w' => e = .returned (.tuple #[str (Lib.cut s.data.toList sep.data.toList).1, str (Lib.cut s.data.toList sep.data.toList).2.1, .bool (Lib.cut s.data.toList sep.data.toList).2.2]) ∧ ∃ n, w' = w.drewN n
 | .idx => ∀ (s sep : ByteArray) (m : Int) (w : World), s.size < 4294967281 → w.cell? ⟨g.max, 0, none⟩ = some (.int .i64 m) →
   Calls P f #[.string s, .string sep] w fun e w' => e = .returned (.int .i64 (Lib.index s.data.toList sep.data.toList)) ∧ w' = w
 | .split => ∃ t, ∀ (s sep : ByteArray) (m : Int) (w : World), s.size < 4294967281 → w.cell? ⟨g.max, 0, none⟩ = some (.int .i64 m) → 1 ≤ sep.size →
   Calls P f #[.string s, .string sep] w fun e w' => e = .returned (.slice (some ⟨w.heap.size, 0, none⟩) (Lib.countB s sep + 1) (Lib.countB s sep + 1)) ∧ w' = w.alloc (.cells ((Lib.splitB sep 0 (Lib.countB s sep) s).map Value.string).toArray t)
 | .cutS => ∀ (s p : ByteArray) (w : World), s.size ≤ 9223372036854775807 →
   Calls P f #[.string s, .string p] w fun e w' => e = .returned (.tuple #[str (Lib.trimSuffix s.data.toList p.data.toList), .bool (Lib.hasSuffix s.data.toList p.data.toList)]) ∧ w' = w
 | .trimP => ∀ (s p : ByteArray) (w : World), Calls P f #[.string s, .string p] w fun e w' => e = .returned (str (Lib.trimPrefix s.data.toList p.data.toList)) ∧ w' = w
 | .trimS => ∀ (s p : ByteArray) (w : World), s.size ≤ 9223372036854775807 → Calls P f #[.string s, .string p] w fun e w' => e = .returned (str (Lib.trimSuffix s.data.toList p.data.toList)) ∧ w' = w
 | .idxB => ∀ (s : ByteArray) (c : Int) (w : World), Calls P f #[.string s, .int .u8 c] w fun e w' => e = .returned (.int .i64 (Lib.indexByte s.data.toList c.toNat.toUInt8)) ∧ w' = w
 | .join => (∀ (a : Option Addr) (c : Nat) (sep : ByteArray) (w : World), Calls P f #[.slice a 0 c, .string sep] w fun e w' => e = .returned (.string .empty) ∧ w' = w) ∧
   ∀ (bk o c : Nat) (xs : List ByteArray) (sep : ByteArray) (w : World), (∀ (j : Nat) x, xs[j]? = some x → w.cell? ⟨bk, o + j, none⟩ = some (.string x)) → bk < w.heap.size → xs.length ≤ 140737488355328 → xs.length ≤ c →
    (Lib.join (xs.map (·.data.toList)) sep.data.toList).length ≤ 140737488355328 →
    Calls P f #[.slice (some ⟨bk, o, none⟩) xs.length c, .string sep] w fun e w' => e = .returned (str (Lib.join (xs.map (·.data.toList)) sep.data.toList)) ∧ Below w.heap.size w w'
 | .itoa => ∀ (n : Int) (w : World), -9223372036854775808 ≤ n → n ≤ 9223372036854775807 → PowIs w g.pow →
   Calls P f #[.int .i64 n] w fun e w' => e = .returned (str (Lib.itoa n)) ∧ ∃ k os, w' = Go.Sort.grow (w.drewN k) os
 | .fmt => ∀ (n : Int) (w : World), -9223372036854775808 ≤ n → n ≤ 9223372036854775807 → PowIs w g.pow →
   Calls P f #[.int .i64 n, .int .i64 10] w fun e w' => e = .returned (str (Lib.itoa n)) ∧ ∃ k os, w' = Go.Sort.grow (w.drewN k) os
 | .parse => (∀ (s : ByteArray) (v : Int) (w : World), s.size ≤ 281474976710656 → Lib.parseIntB 64 s.data.toList = .ok v →
    Calls P f #[.string s, .int .i64 10, .int .i64 64] w fun e w' => e = .returned (.tuple #[.int .i64 v, .nilIface]) ∧ Below w.heap.size w w') ∧
   (∀ (s : ByteArray) (te : TypeId) (pe : Value) (w : World), s.size ≤ 281474976710656 → peOf (Lib.parseIntB 64 s.data.toList) = .syn → w.cell? ⟨g.syn, 0, none⟩ = some (.iface te pe) →
    Calls P f #[.string s, .int .i64 10, .int .i64 64] w fun e w' => ∃ N, e = .returned (.tuple #[.int .i64 0, .iface g.tE (.pointer (some ⟨N, 0, none⟩))]) ∧ w.heap.size ≤ N ∧ Below w.heap.size w w') ∧
   ∀ (s : ByteArray) (te : TypeId) (pe : Value) (w : World), s.size ≤ 281474976710656 → Lib.parseIntB 64 s.data.toList = .range → w.cell? ⟨g.rng, 0, none⟩ = some (.iface te pe) →
    Calls P f #[.string s, .int .i64 10, .int .i64 64] w fun e w' => ∃ N, e = .returned (.tuple #[.int .i64 (Lib.intSat 64 s.data.toList), .iface g.tE (.pointer (some ⟨N, 0, none⟩))]) ∧ w.heap.size ≤ N ∧ Below w.heap.size w w'
 | .atoi => (∀ (s : ByteArray) (v : Int) (w : World), s.size ≤ 281474976710656 → Lib.parseIntB 64 s.data.toList = .ok v →
    Calls P f #[.string s] w fun e w' => e = .returned (.tuple #[.int .i64 v, .nilIface]) ∧ Below w.heap.size w w') ∧
   (∀ (s : ByteArray) (te : TypeId) (pe : Value) (w : World), s.size ≤ 281474976710656 → peOf (Lib.parseIntB 64 s.data.toList) = .syn → w.cell? ⟨g.syn, 0, none⟩ = some (.iface te pe) →
    Calls P f #[.string s] w fun e w' => ∃ N, e = .returned (.tuple #[.int .i64 0, .iface g.tE (.pointer (some ⟨N, 0, none⟩))]) ∧ w.heap.size ≤ N ∧ Below w.heap.size w w') ∧
   ∀ (s : ByteArray) (te : TypeId) (pe : Value) (w : World), s.size ≤ 281474976710656 → Lib.parseIntB 64 s.data.toList = .range → w.cell? ⟨g.rng, 0, none⟩ = some (.iface te pe) →
    Calls P f #[.string s] w fun e w' => ∃ N, e = .returned (.tuple #[.int .i64 (Lib.intSat 64 s.data.toList), .iface g.tE (.pointer (some ⟨N, 0, none⟩))]) ∧ w.heap.size ≤ N ∧ Below w.heap.size w w'
def SG.ok (P : Program) (g : SG) : Prop := g.max < P.globals.size ∧ g.syn < P.globals.size ∧ g.rng < P.globals.size ∧ g.pow < P.globals.size
structure IsStr (P : Program) (g : SG) (x : Nat × Sk) : Prop where
 en : entered P x.1 = true
 k : SkK P g x.1 x.2
theorem str_vr {φ : Emb} (l : List UInt8) : VR φ (.str (nb l)) (str l) := by
 have := VR.str (φ := φ) ⟨l.toArray⟩;simpa [str, nb] using this
theorem alloc_new (w : World) (o : Obj) : (w.alloc o).heap[w.heap.size]? = some o := by
 show (w.heap.push o)[w.heap.size]? = some o;rw [Array.getElem?_push_size]
theorem below_drewN (w : World) (n : Nat) : Below w.heap.size w (w.drewN n) := ⟨rfl, rfl, rfl, Nat.le_refl _, fun _ _ => rfl⟩
theorem below_grow (w : World) (k : Nat) (os : Array Obj) : Below w.heap.size w (Go.Sort.grow (w.drewN k) os) :=
 ⟨rfl, rfl, rfl, by simp [Go.Sort.grow], fun i hi => by
  show (w.heap ++ os)[i]? = w.heap[i]?
  rw [Array.getElem?_append_left hi]⟩
theorem St.gl_cell {φ : Emb} {h : Hp} {w : World} (hr : HR φ h w) (hg : φ.glOk P) {g : Nat} (hlt : g < P.globals.size) {l : List V} (hb : h.blk g = .cells l true) {i : Nat} {v : V} (hi : l[i]? = some v) :
  ∃ u, w.cell? ⟨g, i, none⟩ = some u ∧ VR φ v u := by
 obtain ⟨pl, h1, h2⟩ := hr.lies g (by rw [hb]; rfl);obtain ⟨e, h3⟩ := hg g hlt;rw [h3] at h1; cases h1;rw [hb] at h2;obtain ⟨_, c, e, fz, hc, _, hv⟩ := h2;obtain ⟨u, k1, k2⟩ := hv i v hi;refine ⟨u, ?_, k2⟩;rw [cell_of hc, ← k1, Nat.zero_add]
theorem intCell_ok {φ : Emb} {h : Hp} {w : World} (hr : HR φ h w) (hg : φ.glOk P) {g : Nat} (hlt : g < P.globals.size) (hc : intCell (h.blk g) = true) : ∃ m, w.cell? ⟨g, 0, none⟩ = some (.int .i64 m) := by
 unfold intCell at hc;split at hc
 case h_2 => cases hc
 rename_i m l hb;obtain ⟨u, h1, h2⟩ := St.gl_cell hr hg hlt hb (i := 0) rfl;cases h2;exact ⟨_, h1⟩
theorem errCell_ok {φ : Emb} {h : Hp} {w : World} (hr : HR φ h w) (hg : φ.glOk P) {g : Nat} (hlt : g < P.globals.size) (hc : errCell (h.blk g) = true) : ∃ te pe, w.cell? ⟨g, 0, none⟩ = some (.iface te pe) := by
 unfold errCell at hc;split at hc
 case h_2 => cases hc
 rename_i m l hb;obtain ⟨u, h1, h2⟩ := St.gl_cell hr hg hlt hb (i := 0) rfl;cases h2;exact ⟨_, _, h1⟩
theorem powL_eq {φ : Emb} {us : List Value} (h : VRs φ (powL 20 1) us) : us = Lib.pow10Tab.map fun z => Value.int .u64 z := by
 have key : ∀ (n x : Nat) (us : List Value), VRs φ (powL n x) us → us = (List.range n).map fun i => Value.int .u64 ((x * 10 ^ i : Nat) : Int) := by
  intro n
  induction n with
  | zero => intro x us h; cases h; rfl
  | succ n ih =>
   intro x us h
   cases h with | cons _ u _ us' k1 k2 =>
   cases k1;rw [ih (x * 10) us' k2, List.range_succ_eq_map, List.map_cons, List.map_map];refine congr (congrArg List.cons ?_) (List.map_congr_left fun i _ => ?_)
   ·simp
   ·simp only [Function.comp, Nat.succ_eq_add_one, Nat.pow_succ];rw [Nat.mul_assoc, Nat.mul_comm 10]
 rw [key 20 1 us h];simp [Lib.pow10Tab]
theorem powL_vr {φ : Emb} : VRs φ (powL 20 1) (Lib.pow10Tab.map fun z => Value.int .u64 z) := by
 refine VRs.of_get (by simp [powL, Lib.pow10Tab]) fun i v u h1 h2 => ?_
 have key : ∀ (n x i : Nat), (powL n x)[i]? = if i < n then some (.int .u64 (.ofNat (x * 10 ^ i))) else none := by
  intro n
  induction n with
  | zero => intro x i; simp [powL]
  | succ n ih =>
   intro x i
   cases i with
   | zero => simp [powL]
   | succ i =>
    simp only [powL, List.getElem?_cons_succ, ih];rw [Nat.pow_succ, Nat.mul_assoc, Nat.mul_comm 10]
    by_cases h : i < n
    ·rw [if_pos h, if_pos (by omega)]
    ·rw [if_neg h, if_neg (by omega)]
 rw [key] at h1;split at h1
 ·rename_i hi;cases h1;simp [Lib.pow10Tab, List.getElem?_range hi] at h2;rw [← h2];have : (Int.ofNat (1 * 10 ^ i)) = ((10 : Int) ^ i) := (by simp);rw [this];exact .int _ _
 ·cases h1
theorem powCells_ok {φ : Emb} {h : Hp} {w : World} (hr : HR φ h w) (hg : φ.glOk P) {g : Nat} (hlt : g < P.globals.size) (hc : powCells (h.blk g) = true) : PowIs w g := by
 unfold powCells at hc;split at hc
 case h_2 => cases hc
 rename_i l hb;have hl := sames_eq hc;subst hl;obtain ⟨pl, h1, h2⟩ := hr.lies g (by rw [hb]; rfl);obtain ⟨e, h3⟩ := hg g hlt;rw [h3] at h1; cases h1;rw [hb] at h2;obtain ⟨c, e, fz, hc, hv⟩ := h2;refine ⟨e, fz, ?_⟩;rw [← powL_eq hv];exact hc
theorem i64_of_wr {n : Int} (h : ieq (wr .i64 n) n = true) : -9223372036854775808 ≤ n ∧ n ≤ 9223372036854775807 := by
 rw [ieq_iff, wr_eq] at h;simp only [IntKind.wrap, IntKind.bits, IntKind.signed, Bool.true_and] at h;split at h <;> rename_i hc <;> simp at hc <;> omega
theorem strsOf_spec {φ : Emb} : ∀ {l : List V} {xs : List (List Nat)} {us : List Value}, strsOf l = some xs → VRs φ l us → ∃ bs : List ByteArray, us = bs.map Value.string ∧ xs = bs.map fun b => nb b.data.toList
 | [], xs, us, h, hr => by
  simp only [strsOf, Option.some.injEq] at h;subst h;cases hr;exact ⟨[], rfl, rfl⟩
 | v :: l, xs, us, h, hr => by
  unfold strsOf at h;split at h
  ·rename_i e; cases e
  ·rename_i s l' e;cases e;split at h
   case h_2 => cases h
   rename_i r hr';cases h
   cases hr with | cons _ u _ us' k1 k2 =>
   cases k1 with | str b =>
   obtain ⟨bs, e1, e2⟩ := strsOf_spec hr' k2;exact ⟨b :: bs, by rw [e1]; rfl, by rw [e2]; rfl⟩
  ·cases h
theorem size_nb (s : ByteArray) : (List.map UInt8.toNat s.data.toList).length = s.size := by rw [List.length_map]; exact (Lib.size_eq s).symm
theorem parsed_ok {env : Env} {g : SG} (hg : g.ok P) {φ : Emb} {f : Nat} {us : List Value} {s : ByteArray} {h h' : Hp} {v : V} {w : World} (hv : parsed g (nb s.data.toList) h = some (v, h')) (ok : EnvOk P φ env) (hr : HR φ h w) (hfr : Fresh φ h.next h'.next)
  (k1 : ∀ (v : Int), s.size ≤ 281474976710656 → Lib.parseIntB 64 s.data.toList = .ok v → Calls P f us.toArray w fun e w' => e = .returned (.tuple #[.int .i64 v, .nilIface]) ∧ Below w.heap.size w w')
  (k2 : ∀ (te : TypeId) (pe : Value), s.size ≤ 281474976710656 → peOf (Lib.parseIntB 64 s.data.toList) = .syn → w.cell? ⟨g.syn, 0, none⟩ = some (.iface te pe) →
    Calls P f us.toArray w fun e w' => ∃ N, e = .returned (.tuple #[.int .i64 0, .iface g.tE (.pointer (some ⟨N, 0, none⟩))]) ∧ w.heap.size ≤ N ∧ Below w.heap.size w w')
  (k3 : ∀ (te : TypeId) (pe : Value), s.size ≤ 281474976710656 → Lib.parseIntB 64 s.data.toList = .range → w.cell? ⟨g.rng, 0, none⟩ = some (.iface te pe) →
    Calls P f us.toArray w fun e w' => ∃ N, e = .returned (.tuple #[.int .i64 (Lib.intSat 64 s.data.toList), .iface g.tE (.pointer (some ⟨N, 0, none⟩))]) ∧ w.heap.size ≤ N ∧ Below w.heap.size w w') :
  Calls P f us.toArray w fun e w' => ∃ u ψ, e = .returned u ∧ VR ψ v u ∧ St φ h w ψ h' w' := by
 unfold parsed at hv;rw [cond_eq_ite] at hv; split at hv
 case isFalse => cases hv
 rename_i hsz;rw [nble, nb_length, ← Lib.size_eq] at hsz;have hs : s.size ≤ 281474976710656 := (by omega);rw [parseN_nb] at hv
 have err : ∀ (n : Int) (e : Ending) (w' : World), numErr g n h = some (v, h') → (∃ N, e = .returned (.tuple #[.int .i64 n, .iface g.tE (.pointer (some ⟨N, 0, none⟩))]) ∧ w.heap.size ≤ N ∧ Below w.heap.size w w') →
   ∃ u ψ, e = .returned u ∧ VR ψ v u ∧ St φ h w ψ h' w' := by
  rintro n e w' hn ⟨N, rfl, hN, hb⟩;unfold numErr at hn;cases hn;have hst := St.belowNew hr hb (x := .gone) (pl := ⟨N, 0, 0⟩) (hfr h.next (Nat.le_refl _) (Nat.lt_succ_self _)) hN (fun _ _ => trivial);refine ⟨_, _, rfl, .tup _ _ (.cons _ _ _ _ (.int _ _) (.cons _ _ _ _ (.iface _ _ _ (.ptr _ 0 ⟨N, 0, 0⟩ ?_)) .nil)), hst⟩;show (if h.next = h.next then some _ else _) = _;rw [if_pos rfl]
 have hpe : ∀ x, peOf (Lib.parseIntB 64 s.data.toList) = x → (match x with
   | .ok n => some (V.tup [.int .i64 n, .niliface], h)
   | .syn => cond (errCell (h.blk g.syn)) (numErr g 0 h) none
   | .rng => cond (errCell (h.blk g.rng)) (numErr g (satN (nb s.data.toList)) h) none) = some (v, h') := fun x hx => by rw [← hx]; exact hv
 cases hp : peOf (Lib.parseIntB 64 s.data.toList) with
 | ok n =>
  have hv := hpe _ hp
  have hp' : Lib.parseIntB 64 s.data.toList = .ok n := by
   revert hp;cases Lib.parseIntB 64 s.data.toList <;> intro hp <;> cases hp;rfl
  cases hv;refine (k1 n hs hp').mono ?_;rintro e w' ⟨rfl, hb⟩;exact ⟨_, φ, rfl, .tup _ _ (.cons _ _ _ _ (.int _ _) (.cons _ _ _ _ .niliface .nil)), .below hr hb⟩
 | syn =>
  have hv := hpe _ hp;simp only at hv;rw [cond_eq_ite] at hv; split at hv
  case isFalse => cases hv
  rename_i hc;obtain ⟨te, pe, hcell⟩ := errCell_ok hr ok.gl hg.2.1 hc;exact (k2 te pe hs hp hcell).mono fun e w' k => err 0 e w' hv k
 | rng =>
  have hv := hpe _ hp
  have hp' : Lib.parseIntB 64 s.data.toList = .range := by
   revert hp;cases Lib.parseIntB 64 s.data.toList <;> intro hp <;> cases hp;rfl
  simp only at hv;rw [cond_eq_ite] at hv; split at hv
  case isFalse => cases hv
  rename_i hc;obtain ⟨te, pe, hcell⟩ := errCell_ok hr ok.gl hg.2.2.1 hc;rw [satN_nb] at hv;exact (k3 te pe hs hp' hcell).mono fun e w' k => err _ e w' hv k
theorem str_one {env : Env} {g : SG} (hg : g.ok P) {x : Nat × Sk} (hx : IsStr P g x) {φ : Emb} {args : List V} {h h' : Hp} {v : V} {w : World} {us : List Value} (hv : strV g x.2 args h = some (v, h')) (ok : EnvOk P φ env) (hr : HR φ h w)
  (hfr : Fresh φ h.next h'.next) (hargs : VRs φ args us) : CallSim P φ x.1 us h w v h' := by
 obtain ⟨f, k⟩ := x;obtain ⟨hen, hk⟩ := hx;left;refine ⟨hen, ?_⟩
 cases k with
 | cut =>
  simp only [strV] at hv;split at hv
  case h_2 => cases hv
  rename_i s sep;rw [cond_eq_ite] at hv; split at hv
  case isFalse => cases hv
  rename_i hc;rw [cond_eq_ite] at hv; split at hv
  case isFalse => cases hv
  rename_i hsz
  cases hargs with | cons _ u1 _ us1 r1 rest =>
  cases rest with | cons _ u2 _ us2 r2 rest =>
  cases rest
  cases r1 with | str s =>
  cases r2 with | str sep =>
  rw [nble, size_nb] at hsz;obtain ⟨m, hm⟩ := intCell_ok hr ok.gl hg.1 hc;have e := cutN_nb s.data.toList sep.data.toList;unfold nb at e;rw [e] at hv;cases hv;refine (hk s sep m w (by omega) hm).mono ?_;rintro e w' ⟨rfl, n, rfl⟩;exact ⟨_, φ, rfl, .tup _ _ (.cons _ _ _ _ (str_vr _) (.cons _ _ _ _ (str_vr _) (.cons _ _ _ _ (.bool _) .nil))), .below hr (below_drewN w n)⟩
 | idx =>
  simp only [strV] at hv;split at hv
  case h_2 => cases hv
  rename_i s sep;rw [cond_eq_ite] at hv; split at hv
  case isFalse => cases hv
  rename_i hc;rw [cond_eq_ite] at hv; split at hv
  case isFalse => cases hv
  rename_i hsz
  cases hargs with | cons _ u1 _ us1 r1 rest =>
  cases rest with | cons _ u2 _ us2 r2 rest =>
  cases rest
  cases r1 with | str s =>
  cases r2 with | str sep =>
  rw [nble, size_nb] at hsz;obtain ⟨m, hm⟩ := intCell_ok hr ok.gl hg.1 hc;have e := indexN_nb s.data.toList sep.data.toList;unfold nb at e;rw [← e] at hv;cases hv;refine (hk s sep m w (by omega) hm).mono ?_;rintro e w' ⟨rfl, rfl⟩;exact ⟨_, φ, rfl, .int _ _, .refl hr⟩
 | split =>
  simp only [strV] at hv;split at hv
  case h_2 => cases hv
  rename_i s c sep;rw [cond_eq_ite] at hv; split at hv
  case isFalse => cases hv
  rename_i hc;rw [cond_eq_ite] at hv; split at hv
  case isFalse => cases hv
  rename_i hsz
  cases hargs with | cons _ u1 _ us1 r1 rest =>
  cases rest with | cons _ u2 _ us2 r2 rest =>
  cases rest
  cases r1 with | str s =>
  generalize hcs : c :: sep = sp at r2 hv
  cases r2 with | str sep' =>
  rw [nble, size_nb] at hsz;obtain ⟨m, hm⟩ := intCell_ok hr ok.gl hg.1 hc
  have h1 : 1 ≤ sep'.size := by
   rw [← size_nb, ← hcs]; simp
  have hne : sep'.data.toList ≠ [] := fun e => (by rw [e] at hcs; simp at hcs);obtain ⟨t, hk⟩ := hk
  have hsp : splitN (nb s.data.toList) (nb sep'.data.toList) = (Lib.splitB sep' 0 (Lib.countB s sep') s).map fun b => nb b.data.toList := by
   unfold splitN;rw [nb_length, ← splitK_nb sep'.data.toList hne _ s.data.toList (Nat.lt_succ_self _)];have := Lib.splitB_data sep' 0 (Lib.countB s sep') s;show (Lib.splitK _ 0 (Lib.countB s sep') _).map nb = _;rw [← this, List.map_map]; rfl
  have hlen := Lib.splitB_all sep' h1 0 _ s rfl
  have hv : (some (V.slice h.next 0 1 (splitN (nb s.data.toList) (nb sep'.data.toList)).length (splitN (nb s.data.toList) (nb sep'.data.toList)).length true, h.new (.cells ((splitN (nb s.data.toList) (nb sep'.data.toList)).map .str) false)) : Option (V × Hp)) = some (v, h') := by
   rw [← hv];rfl
  rw [hsp] at hv;cases hv;refine (hk s sep' m w (by omega) hm h1).mono ?_;rintro e w' ⟨rfl, rfl⟩;rw [← hlen];generalize Lib.splitB sep' 0 (Lib.countB s sep') s = L;have hb : Below w.heap.size w (w.alloc (.cells (L.map Value.string).toArray t)) := (Below.refl _ w).alloc (Nat.le_refl _) _;refine ⟨_, _, rfl, ?_, St.belowNew hr hb (pl := ⟨w.heap.size, 0, L.length⟩) (hfr h.next (Nat.le_refl _) (Nat.lt_succ_self _)) (Nat.le_refl _) fun ψ _ => ?_⟩
  ·rw [List.length_map];refine .slice _ _ _ _ _ _ _ _ (fun _ => ⟨⟨w.heap.size, 0, L.length⟩, ?_, rfl, fun ee => by cases ee⟩) (Nat.le_refl _) (Nat.le_refl _) (fun _ => rfl);show (if h.next = h.next then some _ else _) = _;rw [if_pos rfl]
  ·refine ⟨rfl, by simp, (L.map Value.string).toArray, t, (0, 0), alloc_new w _, by simp, .inl rfl, fun i x hi => ?_⟩;rw [List.map_map, List.getElem?_map] at hi
   cases hL : L[i]? with
   | none => rw [hL] at hi; cases hi
   | some b =>
    rw [hL] at hi;cases hi;exact ⟨.string b, by simp [hL], .str b⟩
 | cutS =>
  simp only [strV] at hv;split at hv
  case h_2 => cases hv
  rename_i s sep;rw [cond_eq_ite] at hv; split at hv
  case isFalse => cases hv
  rename_i hsz
  cases hargs with | cons _ u1 _ us1 r1 rest =>
  cases rest with | cons _ u2 _ us2 r2 rest =>
  cases rest
  cases r1 with | str s =>
  cases r2 with | str sep =>
  rw [nble, size_nb] at hsz;have e := cutSN_nb s.data.toList sep.data.toList;unfold nb at e;rw [e] at hv;cases hv;refine (hk s sep w (by omega)).mono ?_;rintro e w' ⟨rfl, rfl⟩;exact ⟨_, φ, rfl, .tup _ _ (.cons _ _ _ _ (str_vr _) (.cons _ _ _ _ (.bool _) .nil)), .refl hr⟩
 | trimP =>
  simp only [strV] at hv;split at hv
  case h_2 => cases hv
  rename_i s sep
  cases hargs with | cons _ u1 _ us1 r1 rest =>
  cases rest with | cons _ u2 _ us2 r2 rest =>
  cases rest
  cases r1 with | str s =>
  cases r2 with | str sep =>
  have e := trimPN_nb s.data.toList sep.data.toList;unfold nb at e;rw [e] at hv;cases hv;refine (hk s sep w).mono ?_;rintro e w' ⟨rfl, rfl⟩;exact ⟨_, φ, rfl, str_vr _, .refl hr⟩
 | trimS =>
  simp only [strV] at hv;split at hv
  case h_2 => cases hv
  rename_i s sep;rw [cond_eq_ite] at hv; split at hv
  case isFalse => cases hv
  rename_i hsz
  cases hargs with | cons _ u1 _ us1 r1 rest =>
  cases rest with | cons _ u2 _ us2 r2 rest =>
  cases rest
  cases r1 with | str s =>
  cases r2 with | str sep =>
  rw [nble, size_nb] at hsz;have e := cutSN_nb s.data.toList sep.data.toList;unfold nb at e;rw [e] at hv;cases hv;refine (hk s sep w (by omega)).mono ?_;rintro e w' ⟨rfl, rfl⟩;exact ⟨_, φ, rfl, str_vr _, .refl hr⟩
 | idxB =>
  simp only [strV] at hv;split at hv
  case h_2 => cases hv
  rename_i s c;rw [cond_eq_ite] at hv; split at hv
  case isFalse => cases hv
  rename_i hc;rw [nblt] at hc
  cases hargs with | cons _ u1 _ us1 r1 rest =>
  cases rest with | cons _ u2 _ us2 r2 rest =>
  cases rest
  cases r1 with | str s =>
  cases r2;have e := idxBN_nb s.data.toList c.toUInt8;have hc' : c.toUInt8.toNat = c := (by simp; omega);rw [hc'] at e;unfold nb at e;rw [← e] at hv;cases hv;refine (hk s c w).mono ?_;rintro e w' ⟨rfl, rfl⟩;exact ⟨_, φ, rfl, .int _ _, .refl hr⟩
 | join =>
  simp only [strV] at hv;split at hv
  case h_2 => cases hv
  rename_i x sep;split at hv
  case h_2 => cases hv
  rename_i xs hxs;rw [cond_eq_ite] at hv; split at hv
  case isFalse => cases hv
  rename_i h1;rw [cond_eq_ite] at hv; split at hv
  case isFalse => cases hv
  rename_i h2;rw [nble] at h1 h2;cases hv
  cases hargs with | cons _ u1 _ us1 r1 rest =>
  cases rest with | cons _ u2 _ us2 r2 rest =>
  cases rest
  cases r2 with | str sep =>
  have nil : ∀ (a : Option Addr) (c : Nat), Calls P f [Value.slice a 0 c, Value.string sep].toArray w fun e w' => ∃ u ψ, e = .returned u ∧ VR ψ (.str (joinN [] (sep.data.toList.map UInt8.toNat))) u ∧ St φ h w ψ h w' := fun a c =>
   (hk.1 a c sep w).mono fun e w' ⟨he, hw⟩ => by
    subst he hw;exact ⟨_, φ, rfl, str_vr [], .refl hr⟩
  cases x <;> simp only [strsV, reduceCtorEq] at hxs
  case nilslice =>
   cases r1;cases hxs;exact nil none 0
  case slice b o sz len c ex =>
   cases r1 with | slice _ _ _ _ _ _ a cc h0 g1 g2 g3 =>
   rw [cond_eq_ite] at hxs; split at hxs
   case isFalse => cases hxs
   split at hxs
   case h_2 => cases hxs
   rename_i l hl;obtain ⟨pl, us, q1, q2, q3, q4⟩ := hr.read hl;obtain ⟨bs, e1, e2⟩ := strsOf_spec hxs q3
   have hlen : bs.length = len := by
    have := q3.length;rw [e1, List.length_map] at this;omega
   rcases Nat.eq_zero_or_pos len with z | z
   ·have : bs = [] := List.length_eq_zero_iff.1 (by omega);subst this;rw [e2, z];exact nil _ _
   ·obtain ⟨pl', k1, k2, _⟩ := h0 (by omega);rw [q1] at k1; cases k1;have hj := joinN_nb (bs.map (·.data.toList)) sep.data.toList;rw [List.map_map] at hj;have hj' : joinN xs (sep.data.toList.map UInt8.toNat) = nb (Lib.join (bs.map (·.data.toList)) sep.data.toList) := (by rw [hj, e2]; rfl);rw [hj'] at h1 ⊢;rw [nb_length] at h1;rw [k2, ← hlen]
    obtain ⟨pl2, p1, p2⟩ := hr.lies b (by
     unfold Hp.read at hl;split at hl
     ·rename_i hb; rw [hb]; rfl
     ·cases hl)
    rw [q1] at p1; cases p1
    have hlt := p2.lt (by
     unfold Hp.read at hl;split at hl
     ·rename_i hb; rw [hb]; rfl
     ·cases hl)
    refine (hk.2 pl.blk (pl.base + o) cc bs sep w (fun j y hy => ?_) hlt ?_ (by omega) (by omega)).mono ?_
    ·have := q4 j (.string y) (by rw [e1, List.getElem?_map, hy]; rfl);exact this
    ·have : xs.length = bs.length := (by rw [e2, List.length_map]);omega
    ·rintro e w' ⟨rfl, hb⟩;exact ⟨_, φ, rfl, str_vr _, .below hr hb⟩
 | itoa =>
  simp only [strV] at hv;split at hv
  case h_2 => cases hv
  rename_i n;rw [cond_eq_ite] at hv; split at hv
  case isFalse => cases hv
  rename_i hc;rw [cond_eq_ite] at hv; split at hv
  case isFalse => cases hv
  rename_i hw;cases hv
  cases hargs with | cons _ u1 _ us1 r1 rest =>
  cases rest;cases r1;obtain ⟨h0, h1⟩ := i64_of_wr hw;refine (hk n w h0 h1 (powCells_ok hr ok.gl hg.2.2.2 hc)).mono ?_;rintro e w' ⟨rfl, k, os, rfl⟩;rw [itoaN_nb h0 h1];exact ⟨_, φ, rfl, str_vr _, .below hr (below_grow w k os)⟩
 | fmt =>
  simp only [strV] at hv;split at hv
  case h_2 => cases hv
  rename_i n b;rw [cond_eq_ite] at hv; split at hv
  case isFalse => cases hv
  rename_i hb;rw [nbeq] at hb;subst hb;rw [cond_eq_ite] at hv; split at hv
  case isFalse => cases hv
  rename_i hc;rw [cond_eq_ite] at hv; split at hv
  case isFalse => cases hv
  rename_i hw;cases hv
  cases hargs with | cons _ u1 _ us1 r1 rest =>
  cases rest with | cons _ u2 _ us2 r2 rest =>
  cases rest;cases r1;cases r2;obtain ⟨h0, h1⟩ := i64_of_wr hw;refine (hk n w h0 h1 (powCells_ok hr ok.gl hg.2.2.2 hc)).mono ?_;rintro e w' ⟨rfl, k, os, rfl⟩;rw [itoaN_nb h0 h1];exact ⟨_, φ, rfl, str_vr _, .below hr (below_grow w k os)⟩
 | parse =>
  simp only [strV] at hv;split at hv
  case h_2 => cases hv
  rename_i s b z;rw [cond_eq_ite] at hv; split at hv
  case isFalse => cases hv
  rename_i hb;rw [cond_eq_ite] at hv; split at hv
  case isFalse => cases hv
  rename_i hz;rw [nbeq] at hb hz;subst hb hz
  cases hargs with | cons _ u1 _ us1 r1 rest =>
  cases rest with | cons _ u2 _ us2 r2 rest =>
  cases rest with | cons _ u3 _ us3 r3 rest =>
  cases rest
  cases r1 with | str s =>
  cases r2;cases r3;exact parsed_ok hg hv ok hr hfr (fun v h1 h2 => hk.1 s v w h1 h2) (fun te pe h1 h2 h3 => hk.2.1 s te pe w h1 h2 h3) (fun te pe h1 h2 h3 => hk.2.2 s te pe w h1 h2 h3)
 | atoi =>
  simp only [strV] at hv;split at hv
  case h_2 => cases hv
  rename_i s
  cases hargs with | cons _ u1 _ us1 r1 rest =>
  cases rest
  cases r1 with | str s =>
  exact parsed_ok hg hv ok hr hfr (fun v h1 h2 => hk.1 s v w h1 h2) (fun te pe h1 h2 h3 => hk.2.1 s te pe w h1 h2 h3) (fun te pe h1 h2 h3 => hk.2.2 s te pe w h1 h2 h3)
theorem strX_rises (g : SG) (l : List (Nat × Sk)) : Rises (strX g l) := by
 intro f args h v h' e
 induction l with
 | nil => cases e
 | cons x l ih =>
  obtain ⟨i, k⟩ := x;simp only [strX] at e;rw [cond_eq_ite] at e; split at e
  ·cases k <;> simp only [strV, parsed, numErr] at e
   all_goals
    repeat' (first | (cases e; done) | (rw [cond_eq_ite] at e; split at e) | split at e)
    all_goals (cases e; first | exact Nat.le_refl _ | exact Nat.le_succ _)
  ·exact ih e
theorem strX_ok {env : Env} {g : SG} (hg : g.ok P) {l : List (Nat × Sk)} (hl : ∀ x, x ∈ l → IsStr P g x) : CallOk P env (strX g l) := by
 intro φ f args h v h' w us hv ok hr hfr hargs
 induction l with
 | nil => cases hv
 | cons x l ih =>
  obtain ⟨i, k⟩ := x;simp only [strX] at hv;rw [cond_eq_ite] at hv; split at hv
  ·rename_i e;rw [nbeq] at e;subst e;exact str_one hg (hl _ List.mem_cons_self) hv ok hr hfr hargs
  ·exact ih (fun x hx => hl x (List.mem_cons_of_mem _ hx)) hv
end Go.Vm
end

section
namespace Go.Lib
open Go.Vm Go.Dv
set_option maxRecDepth 100000
abbrev K23 (_F : Nat → Nat) : KC := .seq (.region [⟨some 2,.a (.new [.nilslice]),none⟩] [] [0,2])
 (.seq (.region [⟨some 6,.p (.build [.str [],.int .i64 (.ofNat 0),.bool false] [(0,1,(.val (.str [107,101,121]))),(1,1,(.val (.int .i64 (.ofNat 1))))]),none⟩,⟨some 7,.a (.bslice [.str [],.int .i64 (.ofNat 0),.bool false] 3 1 [(0,3,(.tmp 6))]),none⟩,⟨some 8,.p (.build [.nilslice] [(0,1,(.tmp 7))]),none⟩,⟨some 3,.a (.new [.nilslice]),none⟩,⟨none,.e (.store 1 (.tmp 3) (.tmp 8)),none⟩] [] [0,2,3])
 (.seq (.region [⟨some 9,.a (.bslice [.str [],.str [],.str [],.str [],.str []] 1 5 [(0,1,(.val (.str [97]))),(1,1,(.val (.str [98,98]))),(2,1,(.val (.str [99,99,99]))),(3,1,(.val (.str [110,117,108,108]))),(4,1,(.val (.str [97,110,100])))]),none⟩,mv 4 9] [9] [0,2,3,4])
 (.seq (.seq (.region [mi 5 0] [] [0,2,3,4,5])
 (.block 0 (.loop (.seq (.seq (.region [mv 10 5,mv 11 0,bi 12 .and 11 255,bi 13 .rem 12 6,bt 14 .lss 10 13,mv 15 14,⟨some 16,.p (.mov (.tmp 5)),(some (15,true))⟩,⟨some 17,.p (.bin .lss (.tmp 16) (.val (.int .i64 (.ofNat 5)))),(some (15,true))⟩,⟨some 18,.p (.pick (.tmp 15) (.tmp 17) (.val (.bool false))),none⟩] [] [0,2,3,4,5,18])
 (.cond (.tmp 18) (.skip)
 (.exit 0)))
 (.seq (.block 1 (.dregion [⟨fa 21 0 3,0,24⟩,⟨l1 22 21,0,24⟩,⟨mv 23 4,0,24⟩,⟨mv 24 5,0,24⟩,⟨ix 25 1 23 24,0,24⟩,⟨l1 26 25,0,24⟩,⟨mv 27 0,0,24⟩,⟨mv 28 5,0,24⟩,⟨⟨some 29,.p (.bin .mul (.val (.int .i64 (.ofNat 2))) (.tmp 28)),none⟩,0,24⟩,⟨⟨some 30,.p (.bin .add (.val (.int .i64 (.ofNat 8))) (.tmp 29)),none⟩,0,24⟩,⟨⟨some 31,.p (.conv (.int .u64) (.tmp 30)),none⟩,0,24⟩,⟨bt 32 .shr 27 31,0,24⟩,⟨bi 33 .and 32 1,0,24⟩,⟨bi 34 .add 33 1,0,24⟩,⟨mv 35 0,0,24⟩,⟨mv 36 5,0,24⟩,⟨⟨some 37,.p (.bin .mul (.val (.int .i64 (.ofNat 2))) (.tmp 36)),none⟩,0,24⟩,⟨⟨some 38,.p (.bin .add (.val (.int .i64 (.ofNat 9))) (.tmp 37)),none⟩,0,24⟩,⟨⟨some 39,.p (.conv (.int .u64) (.tmp 38)),none⟩,0,24⟩,⟨bt 40 .shr 35 39,0,24⟩,⟨bi 41 .and 40 1,0,24⟩,⟨bi 42 .eql 41 1,0,24⟩,⟨⟨some 43,.p (.build [.str [],.int .i64 (.ofNat 0),.bool false] [(0,1,(.tmp 26)),(1,1,(.tmp 34)),(2,1,(.tmp 42))]),none⟩,0,24⟩,⟨⟨some 44,.a (.bslice [.str [],.int .i64 (.ofNat 0),.bool false] 3 1 [(0,3,(.tmp 43))]),none⟩,0,24⟩,⟨⟨some 45,.e (.append 3 32 (.tmp 22) (.tmp 44)),none⟩,0,26⟩,⟨fa 46 0 3,25,26⟩,⟨⟨none,.e (.store 1 (.tmp 46) (.tmp 45)),none⟩,25,27⟩] [0,2,3,4,5]))
 (.region [mv 19 5,bi 20 .add 19 1,mv 5 20] [] [0,2,3,4,5]))))))
 (.seq (.region [ln 47 1 3,⟨none,.e (.store 1 (.tmp 2) (.tmp 47)),none⟩] [] [2])
 (.ret)))))
def M23 (F : Nat → Nat) : Fun := ⟨48,1,(K23 F).erase,[.celln 1 2]⟩
theorem ok23 {F : Nat → Nat} : (K23 F).ok = true := rfl
abbrev K24 (F : Nat → Nat) : KC := .seq (.region [⟨some 2,.a (.box (.tmp 0)),none⟩,⟨some 4,.p (.mov (.val (.nilslice))),none⟩] [2] [1,2])
 (.seq (.region [⟨some 5,.p (.mov (.val (.nilslice))),none⟩] [] [1,2,5])
 (.seq (.seq (.region [fa 8 0 2,l1 9 8,lb 10 9,mi 11 0] [] [1,5,9,10,11])
 (.block 0 (.loop (.seq (.region [bt 12 .lss 11 10] [] [1,5,9,10,11,12])
 (.seq (.cond (.tmp 12) (.skip)
 (.exit 0))
 (.seq (.block 1 (.seq (.region [mv 13 11,ix 14 3 9 11,ln 15 3 14,⟨some 7,.a (.new [.str [],.int .i64 (.ofNat 0),.bool false]),none⟩,mv 6 13,⟨none,.e (.store 3 (.tmp 7) (.tmp 15)),none⟩] [] [1,5,6,7,9,10,11])
 (.seq (.seq (.region [mv 16 6,bi 17 .eql 16 0] [] [1,5,6,7,9,10,11,17])
 (.cond (.tmp 17) (.seq (.region [mv 18 5,mv 19 1,bi 20 .and 19 15,⟨some 21,.p (.build [.bool false,.int .i64 (.ofNat 0),.int .i64 (.ofNat 0),.nilslice] [(1,1,(.val (.int .i64 (.ofNat 1)))),(2,1,(.tmp 20))]),none⟩,⟨some 22,.a (.bslice [.bool false,.int .i64 (.ofNat 0),.int .i64 (.ofNat 0),.nilslice] 4 1 [(0,4,(.tmp 21))]),none⟩,⟨some 23,.e (.append 4 48 (.tmp 18) (.tmp 22)),none⟩,mv 5 23] [22] [1,5,9,10,11])
 (.exit 1))
 (.skip)))
 (.region [mv 24 5,ln 25 3 7,mv 26 1,mv 27 6,⟨some 28,.p (.bin .mul (.val (.int .i64 (.ofNat 3))) (.tmp 27)),none⟩,⟨some 29,.p (.conv (.int .u64) (.tmp 28)),none⟩,bt 30 .shr 26 29,mv 31 1,⟨some 32,.p (.bin .shr (.tmp 31) (.val (.int .u64 (.ofNat 17)))),none⟩,bt 33 .xor 30 32,⟨some 34,.e (.call (F 25) [(.tmp 25),(.tmp 33)]),none⟩,⟨some 35,.a (.bslice [.bool false,.int .i64 (.ofNat 0),.int .i64 (.ofNat 0),.nilslice] 4 1 [(0,4,(.tmp 34))]),none⟩,⟨some 36,.e (.append 4 48 (.tmp 24) (.tmp 35)),none⟩,mv 5 36] [35] [1,5,9,10,11]))))
 (.region [bi 37 .add 11 1,mv 11 37] [] [1,5,9,10,11])))))))
 (.seq (.region [mv 38 5,mv 4 38] [] [4])
 (.ret))))
def M24 (F : Nat → Nat) : Fun := ⟨39,2,(K24 F).erase,[.tmp 4]⟩
theorem ok24 {F : Nat → Nat} : (K24 F).ok = true := rfl
abbrev K25 (_F : Nat → Nat) : KC := .seq (.region [⟨some 2,.a (.box (.tmp 0)),none⟩,⟨some 4,.a (.new [.bool false,.int .i64 (.ofNat 0),.int .i64 (.ofNat 0),.nilslice]),none⟩] [2] [1,2,4])
 (.seq (.seq (.region [fa 6 2 2,l1 7 6,mv 8 7,⟨some 9,.p (.mov (.tmp 1)),(some (8,true))⟩,⟨some 10,.p (.bin .and (.tmp 9) (.val (.int .i64 (.ofNat 7)))),(some (8,true))⟩,⟨some 11,.p (.bin .eql (.tmp 10) (.val (.int .i64 (.ofNat 0)))),(some (8,true))⟩,⟨some 12,.p (.pick (.tmp 8) (.tmp 11) (.val (.bool false))),none⟩] [] [1,2,4,12])
 (.cond (.tmp 12) (.seq (.region [fa 13 1 2,l1 14 13,⟨some 15,.p (.build [.bool false,.int .i64 (.ofNat 0),.int .i64 (.ofNat 0),.nilslice] [(1,1,(.tmp 14)),(0,1,(.val (.bool true)))]),none⟩,⟨none,.e (.store 4 (.tmp 4) (.tmp 15)),none⟩] [] [4])
 (.ret))
 (.skip)))
 (.seq (.region [fa 16 1 2,l1 17 16,⟨some 18,.p (.build [.bool false,.int .i64 (.ofNat 0),.int .i64 (.ofNat 0),.nilslice] [(1,1,(.tmp 17))]),none⟩,⟨some 5,.a (.new [.bool false,.int .i64 (.ofNat 0),.int .i64 (.ofNat 0),.nilslice]),none⟩,⟨none,.e (.store 4 (.tmp 5) (.tmp 18)),none⟩] [] [1,2,4,5])
 (.seq (.seq (.region [fa 19 1 2,l1 20 19,bi 21 .eql 20 1] [] [1,4,5,21])
 (.cond (.tmp 21) (.seq (.region [mv 22 1,⟨some 23,.p (.bin .shr (.tmp 22) (.val (.int .u64 (.ofNat 3)))),none⟩,bi 24 .and 23 7,fa 25 2 5,⟨none,.e (.store 1 (.tmp 25) (.tmp 24)),none⟩] [] [1,4,5])
 (.seq (.seq (.region [mv 26 1,⟨some 27,.p (.bin .shr (.tmp 26) (.val (.int .u64 (.ofNat 6)))),none⟩,bi 28 .and 27 15] [] [1,4,5,28])
 (.block 0 (.seq (.region [bi 30 .eql 28 0,mv 29 30] [] [1,4,5,28,29])
 (.cond (.tmp 29) (.region [mv 31 1,bi 32 .mul 31 712544676207699905,fa 33 2 5,⟨none,.e (.store 1 (.tmp 33) (.tmp 32)),none⟩] [] [4,5])
 (.seq (.region [bi 35 .eql 28 1,mv 34 35] [] [4,5,28,34])
 (.cond (.tmp 34) (.region [fa 36 2 5,l1 37 36,⟨some 38,.p (.neg (.tmp 37)),none⟩,fa 39 2 5,⟨none,.e (.store 1 (.tmp 39) (.tmp 38)),none⟩] [] [4,5])
 (.seq (.region [bi 41 .eql 28 2,mv 40 41] [] [4,5,40])
 (.cond (.tmp 40) (.region [fa 42 2 5,l1 43 42,⟨some 44,.p (.bin .sub (.val (.int .i64 (.ofNat 9223372036854775807))) (.tmp 43)),none⟩,fa 45 2 5,⟨none,.e (.store 1 (.tmp 45) (.tmp 44)),none⟩] [] [4,5])
 (.skip)))))))))
 (.seq (.region [ln 46 4 5,⟨none,.e (.store 4 (.tmp 4) (.tmp 46)),none⟩] [] [4])
 (.ret))))
 (.skip)))
 (.seq (.region [⟨some 47,.a (.bslice [.int .u8 (.ofNat 0),.int .u8 (.ofNat 0),.int .u8 (.ofNat 0),.int .u8 (.ofNat 0),.int .u8 (.ofNat 0),.int .u8 (.ofNat 0),.int .u8 (.ofNat 0),.int .u8 (.ofNat 0)] 1 8 [(0,1,(.val (.int .u8 (.ofNat 97)))),(1,1,(.val (.int .u8 (.ofNat 98)))),(2,1,(.val (.int .u8 (.ofNat 99)))),(3,1,(.val (.int .u8 (.ofNat 97)))),(4,1,(.val (.int .u8 (.ofNat 98)))),(5,1,(.val (.int .u8 (.ofNat 99)))),(6,1,(.val (.int .u8 (.ofNat 97)))),(7,1,(.val (.int .u8 (.ofNat 98))))]),none⟩,⟨some 48,.e (.mark (.tmp 47)),none⟩,mv 49 1,⟨some 50,.p (.bin .shr (.tmp 49) (.val (.int .u64 (.ofNat 3)))),none⟩,bi 51 .and 50 3,mv 52 1,⟨some 53,.p (.bin .shr (.tmp 52) (.val (.int .u64 (.ofNat 3)))),none⟩,bi 54 .and 53 3,mv 55 1,⟨some 56,.p (.bin .shr (.tmp 55) (.val (.int .u64 (.ofNat 5)))),none⟩,bi 57 .and 56 3,bt 58 .add 54 57,⟨some 59,.p (.slc 1 (.tmp 48) (some (.tmp 51)) (some (.tmp 58)) none),none⟩,fa 60 3 5,⟨none,.e (.store 1 (.tmp 60) (.tmp 59)),none⟩] [] [4,5])
 (.seq (.region [ln 61 4 5,⟨none,.e (.store 4 (.tmp 4) (.tmp 61)),none⟩] [] [4])
 (.ret))))))
def M25 (F : Nat → Nat) : Fun := ⟨62,2,(K25 F).erase,[.celln 4 4]⟩
theorem ok25 {F : Nat → Nat} : (K25 F).ok = true := rfl
end Go.Lib
end

section
namespace Go.Lib
open Go.Vm Go.Dv
set_option maxRecDepth 100000
abbrev K6 (F : Nat → Nat) : KC := .seq (.region [⟨some 2,.a (.box (.tmp 0)),none⟩,⟨some 3,.a (.box (.tmp 1)),none⟩,⟨some 4,.p (.mov (.val (.bool false))),none⟩] [2,3] [2,3])
 (.seq (.region [fa 5 0 2,l1 6 5,fa 7 0 3,l1 8 7,⟨some 9,.p (.eq .bool false (.tmp 6) (.tmp 8)),none⟩,mv 10 9,⟨some 11,.p (.faddr 1 (.tmp 2)),(some (10,true))⟩,⟨some 12,.load1 (.tmp 11),(some (10,true))⟩,⟨some 13,.p (.faddr 1 (.tmp 3)),(some (10,true))⟩,⟨some 14,.load1 (.tmp 13),(some (10,true))⟩,⟨some 15,.p (.bin .eql (.tmp 12) (.tmp 14)),(some (10,true))⟩,⟨some 16,.p (.pick (.tmp 10) (.tmp 15) (.val (.bool false))),none⟩,mv 17 16,⟨some 18,.p (.faddr 2 (.tmp 2)),(some (17,true))⟩,⟨some 19,.load1 (.tmp 18),(some (17,true))⟩,⟨some 20,.p (.faddr 2 (.tmp 3)),(some (17,true))⟩,⟨some 21,.load1 (.tmp 20),(some (17,true))⟩,⟨some 22,.p (.bin .eql (.tmp 19) (.tmp 21)),(some (17,true))⟩,⟨some 23,.p (.pick (.tmp 17) (.tmp 22) (.val (.bool false))),none⟩,mv 24 23,⟨some 25,.p (.faddr 3 (.tmp 2)),(some (24,true))⟩,⟨some 26,.load1 (.tmp 25),(some (24,true))⟩,⟨some 27,.p (.faddr 3 (.tmp 3)),(some (24,true))⟩,⟨some 28,.load1 (.tmp 27),(some (24,true))⟩,⟨some 29,.e (.call (F 15) [(.tmp 26),(.tmp 28)]),(some (24,true))⟩,⟨some 30,.p (.pick (.tmp 24) (.tmp 29) (.val (.bool false))),none⟩,mv 4 30] [] [4])
 (.ret))
def M6 (F : Nat → Nat) : Fun := ⟨31,2,(K6 F).erase,[.tmp 4]⟩
theorem ok6 {F : Nat → Nat} : (K6 F).ok = true := rfl
abbrev K15 (_F : Nat → Nat) : KC := .seq (.region [⟨some 4,.p (.mov (.val (.bool false))),none⟩] [] [0,1])
 (.seq (.region [mv 5 0,⟨some 6,.e (.text (.tmp 5)),none⟩,mv 7 1,⟨some 8,.e (.text (.tmp 7)),none⟩,bt 9 .eql 6 8,mv 4 9] [] [4])
 (.ret))
def M15 (F : Nat → Nat) : Fun := ⟨10,2,(K15 F).erase,[.tmp 4]⟩
theorem ok15 {F : Nat → Nat} : (K15 F).ok = true := rfl
end Go.Lib
end

section
namespace Go.Dv
open Go.Vm
variable {p : Prog} {ext : Ext} {F : Nat → Nat}
structure Has (p : Prog) (ext : Ext) (F : Nat → Nat) (i : Nat) (M : (Nat → Nat) → Fun) : Prop where
 get : p.funs.get (F i) = some (M F)
 ext : ∀ args h, ext (F i) args h = none
def Fin (H : HpD) (d : D) (d' : D) (H' : HpD) : Prop := ∃ H2, WeakV d' H' d H2 ∧ Sub H H2 ∧ d.under H.next
theorem Fin.same {H : HpD} {d : D} (hu : d.under H.next) : Fin H d d H := ⟨H, .refl, .refl, hu⟩
theorem Fin.le {H H' : HpD} {d d' : D} (hs : Sub H H') (hl : D.le d' d) (hu : d.under H.next) : Fin H d d' H' := ⟨H', .le hl, hs, hu⟩
theorem fn_of {i : Nat} {M : (Nat → Nat) → Fun} (hh : Has p ext F i M) {kc : KC} (hb : (M F).body = kc.erase) (hk : kc.ok = true) {args : List D} {d : D} (hn : args.length = (M F).nargs)
  (hs : ∀ H, Sem p ext (endD (M F).results (Fin H d)) (.code kc [] .mk (argsD 0 args) H)) : FnD p ext (F i) args d := by
 intro H;refine WcD.drop (WcD.mono (enterD hh.ext hh.get hb hk hn (hs H)) ?_);rintro d' H' ⟨H2, w, s, u⟩;exact ⟨d, H2, w, s, u, rfl, rfl⟩
theorem wc_of {i : Nat} {M : (Nat → Nat) → Fun} (hh : Has p ext F i M) {kc : KC} (hb : (M F).body = kc.erase) (hk : kc.ok = true) {args : List D} {H : HpD} {R : D → HpD → Prop} (hn : args.length = (M F).nargs)
  (hs : Sem p ext (endD (M F).results R) (.code kc [] .mk (argsD 0 args) H)) : WcD p ext (F i) args H R := enterD hh.ext hh.get hb hk hn hs
theorem underss_map {α : Type} {n : Nat} {f : α → List D} (h : ∀ x, D.unders n (f x)) : ∀ l : List α, D.underss n (l.map f)
 | [] => trivial
 | x :: l => ⟨h x, underss_map h l⟩
end Go.Dv
end

section
namespace Go.Dv
open Go.Vm
variable {p : Prog} {ext : Ext} {Q : ResD → Prop}
def D.hasB (x : Nat) : D → Prop
 | .slice b _ _ _ _ _ => x = b
 | _ => False
structure Gr (H0 H : HpD) (sz : Nat) (s : D) (el : List (List D)) : Prop where
 sub : Sub H0 H
 len : ∀ e, e ∈ el → e.length = sz
 at_ : (s = .lit .nilslice ∧ el = []) ∨ ∃ b ex el0, s = .slice b 0 sz el.length el.length ex ∧ H0.next ≤ b ∧ b < H.next ∧ H.blk b = .cells el0.flatten false ∧ D.less el0 el
section
variable {H0 H H1 : HpD} {sz : Nat} {s : D} {el : List (List D)}
theorem Gr.nil (hs : Sub H0 H) : Gr H0 H sz (.lit .nilslice) [] := ⟨hs, fun _ h => (by cases h), .inl ⟨rfl, rfl⟩⟩
theorem Gr.lit (hs : Sub H0 H) {ex : Bool} (he : ∀ e, e ∈ el → e.length = sz) {c : List D} (hc : c = el.flatten) {n : Nat} (hn : n = el.length) : Gr H0 (H.new (.cells c false)) sz (.slice H.next 0 sz n n ex) el :=
 ⟨hs.new, he, .inr ⟨H.next, ex, el, by rw [hn], hs.next, by simp [new_next], by simp [new_blk, hc], D.less_refl _⟩⟩
theorem Gr.start : Gr H H sz (.lit .nilslice) [] := .nil .refl
theorem Gr.mono (g : Gr H0 H sz s el) (h : Sub H H1) : Gr H0 H1 sz s el := by
 refine ⟨g.sub.trans h, g.len, ?_⟩;rcases g.at_ with k | ⟨b, ex, el0, rfl, h1, h2, h3, h4⟩
 ·exact .inl k
 ·exact .inr ⟨b, ex, el0, rfl, h1, Nat.lt_of_lt_of_le h2 h.next, (h.blk b h2).trans h3, h4⟩
theorem Gr.keep (g : Gr H0 H sz s el) (hs : Sub H0 H1) (hn : H.next ≤ H1.next) (hk : ∀ x, s.hasB x → H1.blk x = H.blk x) : Gr H0 H1 sz s el := by
 refine ⟨hs, g.len, ?_⟩;rcases g.at_ with k | ⟨b, ex, el0, rfl, h1, h2, h3, h4⟩
 ·exact .inl k
 ·exact .inr ⟨b, ex, el0, rfl, h1, Nat.lt_of_lt_of_le h2 hn, (hk b rfl).trans h3, h4⟩
theorem flatten_len {sz : Nat} : ∀ {el : List (List D)}, (∀ e, e ∈ el → e.length = sz) → el.flatten.length = el.length * sz
 | [], _ => by simp
 | e :: l, h => by
  rw [List.flatten_cons, List.length_append, flatten_len fun x hx => h x (List.mem_cons_of_mem _ hx), h e (List.mem_cons_self ..), List.length_cons, Nat.succ_mul, Nat.add_comm]
theorem flatsD_flatten : ∀ {l : List (List D)}, (∀ e, e ∈ l → flatsD e = true) → flatsD l.flatten = true
 | [], _ => rfl
 | e :: l, h => by
  have key : ∀ (a b : List D), flatsD (a ++ b) = (flatsD a && flatsD b) := by
   intro a b
   induction a with
   | nil => simp [flatsD]
   | cons d a ih => simp [flatsD, ih, Bool.and_assoc]
  rw [List.flatten_cons, key, h e (List.mem_cons_self ..), flatsD_flatten fun x hx => h x (List.mem_cons_of_mem _ hx)];rfl
theorem roomyD {by_ n : Nat} (h : by_ * n ≤ 1099511627776) (h2 : n ≤ 1099511627776) : roomy by_ n = true := roomy_of h h2
theorem less_append : ∀ {a a' b b' : List (List D)}, D.less a a' → D.less b b' → D.less (a ++ b) (a' ++ b')
 | [], [], _, _, _, k => k
 | x :: a, y :: a', b, b', k, k2 => by
  simp only [D.less, List.cons_append] at k ⊢;exact ⟨k.1, less_append k.2 k2⟩
 | [], _ :: _, _, _, k, _ => by simp [D.less] at k
 | _ :: _, [], _, _, k, _ => by simp [D.less] at k
theorem less_sz : ∀ {a a' : List (List D)} {sz : Nat}, D.less a a' → (∀ e, e ∈ a' → e.length = sz) → ∀ e, e ∈ a → e.length = sz
 | [], _, _, _, _, e, he => by cases he
 | x :: a, y :: a', sz, k, h, e, he => by
  simp only [D.less] at k;rcases List.mem_cons.1 he with rfl | he
  ·rw [les_length k.1]; exact h y (List.mem_cons_self ..)
  ·exact less_sz k.2 (fun z hz => h z (List.mem_cons_of_mem _ hz)) e he
 | _ :: _, [], _, k, _, _, _ => by simp [D.less] at k
theorem Gr.grow (g : Gr H0 H sz s el) {by_ n : Nat} {new0 new : List (List D)} (hle : D.less new0 new) (hn : new.length = n) (h0 : 0 < n) (he : ∀ e, e ∈ new → e.length = sz) (hr : roomy by_ (el.length + n) = true) :
  ∃ s' H', appendCD sz by_ H s n new0.flatten = some (s', H') ∧ Gr H0 H' sz s' (el ++ new) ∧ (∀ x, x < H.next → ¬ s.hasB x → H'.blk x = H.blk x) ∧ H.next < H'.next ∧ s' = .slice H.next 0 sz (el ++ new).length (el ++ new).length false := by
 have hlen : ∀ e, e ∈ el ++ new → e.length = sz := fun e h => by
  rcases List.mem_append.1 h with h | h
  ·exact g.len e h
  ·exact he e h
 rcases g.at_ with ⟨rfl, rfl⟩ | ⟨b, ex, el0, rfl, h1, h2, h3, h4⟩
 ·simp only [List.length_nil, Nat.zero_add] at hr;refine ⟨_, _, by simp only [appendCD, hr, cond_true]; rfl, ⟨g.sub.new, hlen, .inr ⟨H.next, false, new0, by simp [hn], g.sub.next, by simp [new_next], by simp [new_blk], by simpa using hle⟩⟩, fun x hx _ => by rw [new_blk, if_neg (by omega)], Nat.lt_succ_self _, by simp [hn]⟩
 ·have hel := less_length h4;have hf := flatten_len (less_sz h4 g.len)
  have hrd : readD H b 0 (el.length * sz) = some el0.flatten := by
   rw [readD_eq, h3, ← hel, ← hf];simp only [Nat.zero_add, Nat.le_refl, if_true, List.drop_zero, List.take_length]
  have hnew : D.less (el0 ++ new0) (el ++ new) := less_append h4 hle
  cases ex with
  | false =>
   refine ⟨.slice H.next 0 sz (el.length + n) (el.length + n) false, (H.put b .gone).new (.cells (el0.flatten ++ new0.flatten) false), ?_, ⟨(g.sub.put h1).new, hlen, .inr ⟨H.next, false, el0 ++ new0, by simp [hn], g.sub.next, by simp [new_next, put_next], by simp [new_blk, put_next], hnew⟩⟩, fun x hx hx2 => ?_, by simp [new_next, put_next], by simp [hn]⟩
   ·simp only [appendCD, hr, hrd, h3, growD];rw [show Nat.beq sz sz = true from nbeq.2 rfl, show Nat.ble (el.length + n) el.length = false from by rw [nble_d]; exact decide_eq_false (by omega)];rfl
   ·rw [new_blk, put_next, if_neg (by omega), put_blk, if_neg];exact hx2
  | true =>
   refine ⟨.slice H.next 0 sz (el.length + n) (el.length + n) false, H.new (.cells (el0.flatten ++ new0.flatten) false), ?_, ⟨g.sub.new, hlen, .inr ⟨H.next, false, el0 ++ new0, by simp [hn], g.sub.next, by simp [new_next], by simp [new_blk], hnew⟩⟩, fun x hx hx2 => ?_, by simp [new_next], by simp [hn]⟩
   ·simp only [appendCD, hr, hrd, growD];rw [show Nat.beq sz sz = true from nbeq.2 rfl, show Nat.ble (el.length + n) el.length = false from by rw [nble_d]; exact decide_eq_false (by omega)];rfl
   ·rw [new_blk, if_neg (by omega)]
theorem Gr.app' (g : Gr H0 H sz s el) {by_ : Nat} {m : Md} {new0 new : List (List D)} (hle : D.less new0 new) (he : ∀ e, e ∈ new → e.length = sz) (hf : ∀ e, e ∈ new0 → flatsD e = true) (hr : roomy by_ (el.length + new.length) = true) :
  ∃ s' H', appendD sz by_ H s (.row sz m new0) = some (s', H') ∧ Gr H0 H' sz s' (el ++ new) ∧ (∀ x, x < H.next → ¬ s.hasB x → H'.blk x = H.blk x) ∧ H.next ≤ H'.next := by
 have hln := less_length hle
 cases hn : new0 with
 | nil =>
  have : new = [] := (by rw [hn] at hln; exact List.eq_nil_of_length_eq_zero hln.symm);subst this;refine ⟨s, H, ?_, by rw [List.append_nil]; exact g, fun _ _ _ => rfl, Nat.le_refl _⟩;simp only [appendD, lenD, List.length_nil];rcases g.at_ with ⟨rfl, rfl⟩ | ⟨b, ex, el0, rfl, _⟩
  ·rfl
  ·simp only [sameD];rw [show Nat.beq sz sz = true from nbeq.2 rfl];rfl
 | cons e l =>
  rw [← hn];have h0 : 0 < new.length := (by rw [← hln, hn]; simp);obtain ⟨s', H', e1, g', k, n, _⟩ := g.grow (by_ := by_) hle rfl h0 he hr;refine ⟨s', H', ?_, g', k, Nat.le_of_lt n⟩;simp only [appendD, lenD];obtain ⟨k, hk⟩ : ∃ k, new.length = k + 1 := ⟨new.length - 1, by omega⟩;rw [hln, hk];simp only
  have hm : srcD H sz (k + 1) (.row sz m new0) = some new0.flatten := by
   simp only [srcD];rw [show Nat.beq sz sz = true from nbeq.2 rfl, show Nat.ble (k + 1) new0.length = true from nble.2 (by omega)];rw [show new0.take (k + 1) = new0 from List.take_of_length_le (by omega)];cases m <;> rfl
  rw [hm];simp only [appendN, flatsD_flatten hf, cond_true];rw [← hk]; exact e1
theorem Gr.app (g : Gr H0 H sz s el) {by_ : Nat} {m : Md} {new : List (List D)} (he : ∀ e, e ∈ new → e.length = sz) (hf : ∀ e, e ∈ new → flatsD e = true) (hr : roomy by_ (el.length + new.length) = true) :
  ∃ s' H', appendD sz by_ H s (.row sz m new) = some (s', H') ∧ Gr H0 H' sz s' (el ++ new) ∧ (∀ x, x < H.next → ¬ s.hasB x → H'.blk x = H.blk x) ∧ H.next ≤ H'.next := g.app' (D.less_refl _) he hf hr
theorem Gr.push (g : Gr H0 H sz s el) {by_ : Nat} {m : Md} {e : List D} (e' : List D) (hle : D.les e e') (he : e'.length = sz) (hf : flatsD e = true) (hr : roomy by_ (el.length + 1) = true) :
  ∃ s' H', appendD sz by_ H s (.row sz m [e]) = some (s', H') ∧ Gr H0 H' sz s' (el ++ [e']) ∧ (∀ x, x < H.next → ¬ s.hasB x → H'.blk x = H.blk x) ∧ H.next ≤ H'.next ∧ s' = .slice H.next 0 sz (el.length + 1) (el.length + 1) false := by
 obtain ⟨s', H', e1, g', k, n, e2⟩ := g.grow (by_ := by_) (n := 1) (new0 := [e]) (new := [e']) (by simp only [D.less]; exact ⟨hle, trivial⟩) rfl (by omega) (by simp [he]) hr;refine ⟨s', H', ?_, g', k, Nat.le_of_lt n, by simpa using e2⟩;simp only [appendD, lenD, List.length_singleton]
 have hm : srcD H sz (0 + 1) (.row sz m [e]) = some [e].flatten := by
  simp only [srcD];rw [show Nat.beq sz sz = true from nbeq.2 rfl];cases m <;> rfl
 rw [hm];simp only [appendN];rw [show flatsD [e].flatten = true from by simpa using hf];exact e1
theorem appendD_slice1 {by_ b o cap : Nat} {ex ro : Bool} {cs : List D} (hb : H.blk b = .cells cs ro) (ho : o + sz ≤ cs.length) : appendD sz by_ H s (.slice b o sz 1 cap ex) = appendD sz by_ H s (.row sz .p [(cs.drop o).take sz]) := by
 simp only [appendD, lenD, List.length_singleton]
 have h1 : srcD H sz (0 + 1) (.slice b o sz 1 cap ex) = some ((cs.drop o).take sz) := by
  simp only [srcD];rw [show Nat.beq sz sz = true from nbeq.2 rfl, readD_eq, hb];simp [ho]
 have h2 : srcD H sz (0 + 1) (.row sz .p [(cs.drop o).take sz]) = some ((cs.drop o).take sz) := by
  simp only [srcD];rw [show Nat.beq sz sz = true from nbeq.2 rfl];simp
 rw [h1, h2]
theorem Gr.fin (g : Gr H0 H sz s el) (hu : D.underss H0.next el) {m : Md} (hm : m ≠ .c) : Fin H0 (.row sz m el) s H := by
 have hm' : m = .p ∨ m = .w := (by cases m <;> simp at hm ⊢);rcases g.at_ with ⟨rfl, rfl⟩ | ⟨b, ex, el0, rfl, h1, h2, h3, h4⟩
 ·exact ⟨H, .le (by simp [D.le]), g.sub, by simp [D.under]⟩
 ·have hel := less_length h4;refine ⟨H.put b .gone, (WeakV.freeze h3 (less_sz h4 g.len)).trans (.le ?_), g.sub.put h1, by simpa [D.under] using hu⟩;simp only [frz];rw [if_pos ⟨trivial, trivial, trivial, hel.symm, by omega⟩];simp only [D.le, h4, and_true, true_and]
  by_cases hx : el.length = el0.length ∧ ex = true
  ·rcases hm' with rfl | rfl <;> simp [hx]
  ·rcases hm' with rfl | rfl <;> simp [hx]
theorem Gr.slot (g : Gr H0 H sz s el) {t : Nat} {fr : FrD} {args : List D} (ht : lk fr t = s) {m : Md} (hm : m ≠ .c) :
  ∃ H', Weak args fr H args ((t, .row sz m el) :: fr) H' ∧ Sub H0 H' ∧ (∀ x, ¬ s.hasB x → H'.blk x = H.blk x) ∧ H'.next = H.next := by
 have hm' : m = .p ∨ m = .w := by cases m <;> simp at hm ⊢
 have put : ∀ {ψ : Nat → Option Nat} {S : Nat → Prop} {h : Hp} {fv : Fr} {d : D}, FrR h ψ S fr fv → VD h ψ S d (ev fv (.tmp t)) → FrR h ψ S ((t, d) :: fr) fv := by
  intro ψ S h fv d k kd u;rw [lk_cons];split
  ·rename_i e; subst e; exact kd
  ·exact k u
 rcases g.at_ with ⟨rfl, rfl⟩ | ⟨b, ex, el0, rfl, h1, h2, h3, h4⟩
 ·refine ⟨H, ?_, g.sub, fun _ _ => rfl, rfl⟩;intro G ψ S h fv vs sr kf kv;refine ⟨ψ, S, .refl, sr, put kf (VD.le (.lit .nilslice) _ (by simp [D.le]) ?_), kv⟩;have := kf t
  rwa [ht] at this
 ·refine ⟨H.put b .gone, ?_, g.sub.put h1, fun x hx => by rw [put_blk, if_neg]; exact hx, put_next⟩;intro G ψ S h fv vs sr kf kv;have hel := less_length h4;obtain ⟨c, hc, hr⟩ := frz_row sr h3 (less_sz h4 g.len);obtain ⟨x0, s0⟩ := sr.freeze hc;refine ⟨ψ, _, x0, s0, put (kf.mono x0) ?_, VDl.mono x0 _ kv⟩;have := kf t;rw [ht] at this;simp only [VD] at this;obtain ⟨c', e, e2⟩ := this;rw [hc] at e; cases e;rw [e2];rw [← hel];refine VD.le _ _ ?_ (hr _ _ (Nat.le_refl _));simp only [D.le, h4, and_true, true_and];rcases hm' with rfl | rfl <;> simp
theorem VDl.setD {h : Hp} {ψ : Nat → Option Nat} {S : Nat → Prop} {args : List D} {vs : List V} {j : Nat} {d d' : D} (k : VDl h ψ S args vs) (hj : args[j]? = some d) (hd : ∀ v, VD h ψ S d v → VD h ψ S d' v) : VDl h ψ S (args.set j d') vs := by
 obtain ⟨v, e, kv⟩ := VDl.get k hj;have := VDl.set j k (hd v kv)
 have he : vs.set j v = vs := by
  obtain ⟨hl, rfl⟩ := List.getElem?_eq_some_iff.1 e;exact List.set_getElem_self hl
 rwa [he] at this
theorem sem_push_le {by_ : Nat} {m : Md} {e : List D} (e' : List D) {k : D → HpD → Cfg} (g : Gr H0 H sz s el) (hle : D.les e e') (he : e'.length = sz) (hf : flatsD e = true) (hr : roomy by_ (el.length + 1) = true)
  (hk : ∀ s' H', Gr H0 H' sz s' (el ++ [e']) → (∀ x, x < H.next → ¬ s.hasB x → H'.blk x = H.blk x) → (H.next ≤ H'.next ∧ s' = .slice H.next 0 sz (el.length + 1) (el.length + 1) false) → Sem p ext Q (k s' H')) : Sem p ext Q (optH (appendD sz by_ H s (.row sz m [e])) k) := by
 obtain ⟨s', H', e1, g', k1, n1⟩ := g.push (m := m) e' hle he hf hr;rw [e1];exact hk s' H' g' k1 n1
theorem sem_push {by_ : Nat} {m : Md} {e : List D} {k : D → HpD → Cfg} (g : Gr H0 H sz s el) (he : e.length = sz) (hf : flatsD e = true) (hr : roomy by_ (el.length + 1) = true)
  (hk : ∀ s' H', Gr H0 H' sz s' (el ++ [e]) → (∀ x, x < H.next → ¬ s.hasB x → H'.blk x = H.blk x) → (H.next ≤ H'.next ∧ s' = .slice H.next 0 sz (el.length + 1) (el.length + 1) false) → Sem p ext Q (k s' H')) : Sem p ext Q (optH (appendD sz by_ H s (.row sz m [e])) k) :=
 sem_push_le e g (D.les_refl _) he hf hr hk
theorem sem_app {by_ : Nat} {m : Md} {new : List (List D)} {k : D → HpD → Cfg} (g : Gr H0 H sz s el) (he : ∀ e, e ∈ new → e.length = sz) (hf : ∀ e, e ∈ new → flatsD e = true) (hr : roomy by_ (el.length + new.length) = true)
  (hk : ∀ s' H', Gr H0 H' sz s' (el ++ new) → (∀ x, x < H.next → ¬ s.hasB x → H'.blk x = H.blk x) → H.next ≤ H'.next → Sem p ext Q (k s' H')) : Sem p ext Q (optH (appendD sz by_ H s (.row sz m new)) k) := by
 obtain ⟨s', H', e1, g', k1, n1⟩ := g.app (m := m) he hf hr;rw [e1];exact hk s' H' g' k1 n1
theorem sem_turn (g : Gr H0 H sz s el) (t : Nat) {c : KC} {K : List KD} {fr : FrD} (ht : lk fr t = s)
  (hs : ∀ H', Sub H0 H' → (∀ x, ¬ s.hasB x → H'.blk x = H.blk x) → H'.next = H.next → Sem p ext Q (.code c K .mk ((t, .row sz .p el) :: fr) H')) : Sem p ext Q (.code c K .mk fr H) := by
 obtain ⟨H', w, s', k, n⟩ := g.slot (args := []) ht (m := .p) (by simp);exact sem_weak w (hs H' s' k n)
theorem Gr.finA (g : Gr H0 H sz s el) (hu : D.underss H0.next el) {m : Md} (hm : m ≠ .c) : Fin H0 (.agg [.row sz m el]) (.agg [s]) H := by
 obtain ⟨H2, w, sub, u⟩ := g.fin hu hm;refine ⟨H2, ?_, sub, by simpa [D.under] using u⟩;intro G ψ S h v sr kv;simp only [VD, VDl] at kv;obtain ⟨l', rfl, x, r, rfl, kx, rfl⟩ := kv;obtain ⟨ψ', S', x0, s', k'⟩ := w _ ψ S h x sr kx;exact ⟨ψ', S', x0, s', by simp only [VD, VDl]; exact ⟨_, rfl, _, _, rfl, k', rfl⟩⟩
theorem WeakV.part {pre : List D} {b o n cap : Nat} {ex ro : Bool} {cs : List D} {el : List (List D)} (hb : H.blk b = .cells cs ro) (he : ∀ e, e ∈ el → e.length = sz) (hl : el.length = n) (hc : (cs.drop o).take (n * sz) = el.flatten) (hn : n ≤ cap) :
  WeakV (.agg (pre ++ [.slice b o sz n cap ex])) H (.agg (pre ++ [.row sz .p el])) (H.put b .gone) := by
 intro G ψ S h v sr kv
 obtain ⟨c, h1, h2, l', h3, h4⟩ : ∃ c, ψ b = some c ∧ ¬ S c ∧ ∃ l', h.blk c = .cells l' ro ∧ VDl h ψ S cs l' := by
  obtain ⟨c, h1, h2, h3⟩ := sr.live b (by rw [hb]; rfl);rw [hb] at h3;exact ⟨c, h1, h2, h3⟩
 obtain ⟨x0, s0⟩ := sr.freeze h1;refine ⟨ψ, _, x0, s0, ?_⟩;simp only [VD] at kv ⊢;obtain ⟨l2, rfl, kl⟩ := kv;refine ⟨l2, rfl, ?_⟩
 have key : ∀ (pre : List D) (l2 : List V), VDl h ψ S (pre ++ [.slice b o sz n cap ex]) l2 → VDl h ψ (fun x => S x ∨ x = c) (pre ++ [.row sz .p el]) l2 := by
  intro pre
  induction pre with
  | nil =>
   intro l2 kl;simp only [List.nil_append, VDl, VD] at kl ⊢;obtain ⟨x, r, rfl, ⟨c', e, rfl⟩, rfl⟩ := kl;rw [h1] at e; cases e;refine ⟨_, _, rfl, .inr ⟨c, o, cap, ex, by rw [hl], by rw [hl]; exact hn, fun e => (by cases e), .inr ⟨l', ro, .inr rfl, h3, ?_⟩⟩, rfl⟩;have k1 := VDl.take (n * sz) (VDl.drop o h4);rw [hc] at k1;have := VDss.of (us := (l'.drop o).drop (n * sz)) he (VDl.mono x0 _ k1)
   rwa [List.take_append_drop] at this
  | cons d pre ih =>
   intro l2 kl;simp only [List.cons_append, VDl] at kl ⊢;obtain ⟨x, r, rfl, k1, k2⟩ := kl;exact ⟨x, r, rfl, VD.mono x0 _ k1, ih _ k2⟩
 exact key pre l2 kl
theorem own_fn {f : Nat} {args : List D} {sz : Nat} {el : List (List D)} (hw : ∀ H, WcD p ext f args H fun d H' => Gr H H' sz d el) (hu : ∀ n, D.underss n el) : FnD p ext f args (.row sz .p el) := by
 intro H;refine WcD.drop ((hw H).mono ?_);intro d H' g;obtain ⟨H2, w, s, u⟩ := g.fin (hu H.next) (m := .p) (by simp);exact ⟨_, H2, w, s, u, rfl, rfl⟩
end
theorem sR {A B : HpD} (h : Sub A B := by repeat (first | exact Sub.refl | apply Sub.new | refine Sub.put ?_ (by first | omega | (simp only [put_next, new_next]; omega)))) : Sub A B := h
theorem sB {A B C : HpD} (s : Sub A B) (h : Sub A B → A.next ≤ B.next → Sub A C := by intro _ _; repeat (first | assumption | apply Sub.new | refine Sub.put ?_ (by first | omega | (simp only [put_next, new_next]; omega)))) : Sub A C := h s s.next
theorem sf {p : Prog} {ext : Ext} {Q : ResD → Prop} {f : Nat} {args args' : List D} {d : D} (hf : FnD p ext f args' d) {dst : Option Nat} {l : List MO} {fz lv : List Nat} {K : List KD} {fr : FrD} {H : HpD}
  (hs : Sem p ext Q (run p.env 9000 (.ops l fz lv K .mk (putD fr dst d) H))) (ha : D.les args args' := by first | exact D.les_refl _ | simp) : Sem p ext Q (.call f args dst l fz lv K .mk fr H) := sem_fn hf ha (sem_run 9000 _ hs)
end Go.Dv
end

section
namespace Go.Lib
open Go.Vm Go.Dv
abbrev By := Fin 256
structure Vl where
 null : Bool
 kind : Int
 n : Int
 bytes : List By
 small : bytes.length < 1000000
def byE (b : List By) : List (List D) := b.map fun c => [.lit (.int .u8 (c.val : Int))]
def byD (b : List By) : D := .row 1 .p (byE b)
def Vl.c (v : Vl) : List D := [.lit (.bool v.null), .lit (.int .i64 v.kind), .lit (.int .i64 v.n), byD v.bytes]
abbrev Row := List Vl
def rowE (r : Row) : List (List D) := r.map Vl.c
def rowD (r : Row) : D := .row 4 .p (rowE r)
def rowsE (l : List Row) : List (List D) := l.map fun r => [rowD r]
def rowsD (l : List Row) : D := .row 1 .p (rowsE l)
theorem by_under {n : Nat} {b : List By} : (byD b).under n := by
 simp only [byD, D.under]; exact underss_map (fun _ => by simp) _
theorem vl_unders {n : Nat} {v : Vl} : D.unders n v.c := by simp [Vl.c, by_under]
theorem row_under {n : Nat} {r : Row} : (rowD r).under n := by
 simp only [rowD, D.under]; exact underss_map (fun _ => vl_unders) _
theorem row_underss {n : Nat} {r : Row} : D.underss n (rowE r) := underss_map (fun _ => vl_unders) _
theorem by_flat {b : List By} : flatD (byD b) = true := rfl
theorem row_flat {r : Row} : flatD (rowD r) = true := rfl
theorem rows_flat {l : List Row} : flatD (rowsD l) = true := rfl
theorem vl_len {v : Vl} : v.c.length = 4 := rfl
theorem vl_flats {v : Vl} : flatsD v.c = true := rfl
theorem vl_0 {v : Vl} : v.c[0]? = some (.lit (.bool v.null)) := rfl
theorem vl_1 {v : Vl} : v.c[1]? = some (.lit (.int .i64 v.kind)) := rfl
theorem vl_2 {v : Vl} : v.c[2]? = some (.lit (.int .i64 v.n)) := rfl
theorem vl_3 {v : Vl} : v.c[3]? = some (byD v.bytes) := rfl
theorem vl_take {v : Vl} : v.c.take 4 = v.c := rfl
theorem vl_drop {v : Vl} : v.c.drop 4 = [] := rfl
theorem by_len {b : List By} : (byE b).length = b.length := by simp [byE]
theorem row_len {r : Row} : (rowE r).length = r.length := by simp [rowE]
theorem lenb_by {b : List By} : lenbD (byD b) = some (.lit (.int .i64 (b.length : Int))) := by simp [byD, by_len]
theorem lenb_row {r : Row} : lenbD (rowD r) = some (.lit (.int .i64 (r.length : Int))) := by simp [rowD, row_len]
theorem cellsD_by {b : List By} : cellsD (byD b) = some [byD b] := rfl
theorem cellsD_rowD {r : Row} : cellsD (rowD r) = some [rowD r] := rfl
theorem cellsD_rowsD {l : List Row} : cellsD (rowsD l) = some [rowsD l] := rfl
def bys (b : List By) : List Nat := b.map fun c => c.val
theorem bys_inj {a b : List By} : bys a = bys b ↔ a = b := by
 constructor
 ·intro h
  induction a generalizing b with
  | nil => cases b with
   | nil => rfl
   | cons y b => simp [bys] at h
  | cons x a ih => cases b with
   | nil => simp [bys] at h
   | cons y b =>
    simp only [bys, List.map_cons, List.cons.injEq] at h;rw [Fin.ext h.1, ih h.2]
 ·rintro rfl; rfl
theorem toVs_by : ∀ b : List By, toVs (byE b).flatten = some (b.map fun c => V.int .u8 (c.val : Int))
 | [] => rfl
 | c :: b => by
  have := toVs_by b;simp only [byE] at this;simp only [byE, List.map_cons, List.flatten_cons, List.singleton_append, toVs, toV, this]
theorem bytesOf_by : ∀ b : List By, eV.bytesOf (b.map fun c => V.int .u8 (c.val : Int)) = some (bys b)
 | [] => rfl
 | c :: b => by
  show cond (Nat.blt c.val 256) _ none = _;rw [show Nat.blt c.val 256 = true from nblt.2 c.isLt, cond_true, bytesOf_by b]; rfl
theorem text_by {H : HpD} {b : List By} : textD H (byD b) = some (.lit (.str (bys b)), H) := by
 simp only [byD, textD, Nat.beq, cond_true, strD, toVs_by, bytesOf_by]
theorem neqs_iff : ∀ {a b : List Nat}, neqs a b = true ↔ a = b
 | [], [] => by simp [neqs]
 | [], _ :: _ => by simp [neqs]
 | _ :: _, [] => by simp [neqs]
 | x :: a, y :: b => by
  simp only [neqs, cond_eq_ite]
  by_cases h : Nat.beq x y = true
  ·rw [if_pos h, neqs_iff]; rw [nbeq] at h; simp [h]
  ·rw [if_neg h]; rw [nbeq] at h; simp [h]
theorem neqs_bys {a b : List By} : neqs (bys a) (bys b) = decide (a = b) := by
 rw [Bool.eq_iff_iff, neqs_iff, bys_inj, decide_eq_true_iff]
theorem str_eql {tab : Tab} {a b : List Nat} : binV tab .eql (.str a) (.str b) = some (.bool (neqs a b)) := rfl
theorem str_neq {tab : Tab} {a b : List Nat} : binV tab .neq (.str a) (.str b) = some (.bool (!neqs a b)) := rfl
theorem str_lss {tab : Tab} {a b : List Nat} : binV tab .lss (.str a) (.str b) = some (.bool (slt a b)) := rfl
theorem vl_set3 {v : Vl} : spliceD v.c 3 [byD v.bytes] = v.c := rfl
theorem by_one {b : List By} : ∀ e, e ∈ byE b → e.length = 1 := by simp [byE]
theorem at_row {r : Row} {n : Nat} : atO 4 (rowD r) (some n) = elemD (r[n]?.map Vl.c) := by simp [rowD, rowE]
theorem at_by {b : List By} {n : Nat} : atO 1 (byD b) (some n) = elemD (b[n]?.map fun c => [.lit (.int .u8 (c.val : Int))]) := by simp [byD, byE]
theorem rowE_snoc {r : Row} {i : Nat} {x : Vl} (hx : r[i]? = some x) : rowE (r.take i) ++ [x.c] = rowE (r.take (i + 1)) := by
 rw [List.take_add_one, hx]; simp [rowE]
attribute [simp] at_row at_by
def zv : Vl := ⟨false, 0, 0, [], by simp⟩
attribute [simp] vl_set3 vl_0 vl_1 vl_2 vl_3 vl_take vl_drop by_len row_len lenb_by lenb_row cellsD_by cellsD_rowD cellsD_rowsD text_by neqs_bys str_eql str_neq str_lss
attribute [simp] row_underss by_under vl_unders row_under by_flat row_flat rows_flat vl_len vl_flats
end Go.Lib
end

section
set_option maxRecDepth 10000
namespace Go.Lib
open Go.Vm Go.Dv
variable {p : Prog} {ext : Ext} {F : Nat → Nat}
structure HSchmE (p : Prog) (ext : Ext) (F : Nat → Nat) : Prop where
 h6 : Has p ext F 6 M6
 h15 : Has p ext F 15 M15
def cmpI (a b : Int) : Int := if a < b then -1 else if b < a then 1 else 0
def rankV (v : Vl) : Int := if v.null then 0 else 1
def cmpB (a b : List By) : Int := cmpLs (bys a) (bys b)
theorem bytes_equal (L : HSchmE p ext F) {a b : List By} : FnD p ext (F 15) [byD a, byD b] (.lit (.bool (decide (a = b)))) := by
 refine fn_of L.h15 (M := M15) rfl ok15 rfl fun H => sem_run 9000 _ ?_;simp;refine sem_ret ?_;simp [M15];exact .same (by simp)
def cmpV (a b : Vl) : Int := if cmpI (rankV a) (rankV b) ≠ 0 ∨ a.null = true then cmpI (rankV a) (rankV b) else if a.kind = 1 then cmpI a.n b.n else if a.kind = 2 then cmpB a.bytes b.bytes else 0
def atV (r : Row) (c : Int) : Vl := if c < 0 then zv else (r[c.toNat]?).getD zv
theorem vl_ext {a b : Vl} : a = b ↔ a.null = b.null ∧ a.kind = b.kind ∧ a.n = b.n ∧ a.bytes = b.bytes := by
 cases a; cases b; simp
instance : DecidableEq Vl := fun _a _b => decidable_of_iff _ vl_ext.symm
theorem schm_equal (L : HSchmE p ext F) {a b : Vl} : FnD p ext (F 6) [.agg a.c, .agg b.c] (.lit (.bool (decide (a = b)))) := by
 refine fn_of L.h6 (M := M6) rfl ok6 rfl fun H => sem_run 9000 _ ?_;simp
 by_cases h1 : a.null = b.null
 ·by_cases h2 : a.kind = b.kind
  ·by_cases h3 : a.n = b.n
   ·simp [h1, h2, h3];refine sf (bytes_equal L) ?_;simp;refine sem_ret ?_;simp [M6, vl_ext, h1, h2, h3];exact .same (by simp)
   ·simp [h1, h2, h3];refine sem_ret ?_;simp [M6, vl_ext, h3];exact .same (by simp)
  ·simp [h1, h2];refine sem_ret ?_;simp [M6, vl_ext, h2];exact .same (by simp)
 ·simp [h1];refine sem_ret ?_;simp [M6, vl_ext, h1];exact .same (by simp)
end Go.Lib
end

section
set_option maxRecDepth 10000
namespace Go.Lib
open Go.Vm Go.Dv
variable {p : Prog} {ext : Ext} {F : Nat → Nat}
structure HLaw6s (p : Prog) (ext : Ext) (F : Nat → Nat) : Prop where
 h23 : Has p ext F 23 M23
 h25 : Has p ext F 25 M25
structure HLaw6r (p : Prog) (ext : Ext) (F : Nat → Nat) : Prop extends HLaw6s p ext F where
 h24 : Has p ext F 24 M24
instance : Coe (HLaw6r p ext F) (HLaw6s p ext F) := ⟨HLaw6r.toHLaw6s⟩
structure Cl where
 name : List Nat
 kind : Int
 null : Bool
def Cl.c (c : Cl) : List D := [.lit (.str c.name), .lit (.int .i64 c.kind), .lit (.bool c.null)]
abbrev Sch := List Cl
def schE (s : Sch) : List (List D) := s.map Cl.c
def schR (s : Sch) : D := .row 3 .p (schE s)
def schD (s : Sch) : D := .agg [schR s]
theorem cl_unders {n : Nat} {c : Cl} : D.unders n c.c := by simp [Cl.c]
theorem sch_underss {n : Nat} {s : Sch} : D.underss n (schE s) := underss_map (fun _ => cl_unders) _
theorem schR_under {n : Nat} {s : Sch} : (schR s).under n := sch_underss
theorem schD_under {n : Nat} {s : Sch} : (schD s).under n := by simp [schD, schR_under]
theorem sch_len {s : Sch} : (schE s).length = s.length := by simp [schE]
theorem lenb_sch {s : Sch} : lenbD (schR s) = some (.lit (.int .i64 (s.length : Int))) := by simp [schR, sch_len]
theorem at_sch {s : Sch} {n : Nat} : atO 3 (schR s) (some n) = elemD (s[n]?.map Cl.c) := by simp [schR, schE]
theorem cl_0 {v : Cl} : v.c[0]? = some (.lit (.str v.name)) := rfl
theorem cl_1 {v : Cl} : v.c[1]? = some (.lit (.int .i64 v.kind)) := rfl
theorem cl_2 {v : Cl} : v.c[2]? = some (.lit (.bool v.null)) := rfl
theorem cl_len {v : Cl} : v.c.length = 3 := rfl
theorem cl_take {v : Cl} : v.c.take 3 = v.c := rfl
theorem cl_drop {v : Cl} : v.c.drop 3 = [] := rfl
theorem cl_flats {v : Cl} : flatsD v.c = true := rfl
theorem cellsD_schR {s : Sch} : cellsD (schR s) = some [schR s] := rfl
theorem flatD_schR {s : Sch} : flatD (schR s) = true := rfl
theorem cellsD_schD {s : Sch} : cellsD (schD s) = some [schR s] := rfl
attribute [simp] cl_unders sch_underss schR_under schD_under sch_len lenb_sch at_sch cl_0 cl_1 cl_2 cl_len cl_take cl_drop cl_flats cellsD_schR flatD_schR cellsD_schD
def andI (a m : Int) : Int := wr .i64 (.ofNat (Nat.land (toU .i64 a) (toU .i64 m)))
theorem bin_andI {tab : Tab} {a b : Int} : binV tab .and (.int .i64 a) (.int .i64 b) = some (.int .i64 (andI a b)) := bin_and
def xorI (a b : Int) : Int := wr .i64 (.ofNat (Nat.xor (toU .i64 a) (toU .i64 b)))
theorem bin_xorI {tab : Tab} {a b : Int} : binV tab .xor (.int .i64 a) (.int .i64 b) = some (.int .i64 (xorI a b)) := bin_xor
theorem andI_small {a : Int} {m : Nat} (hm : m < 65536) : ∃ q : Nat, andI a (m : Int) = q ∧ q ≤ m := and_range hm
attribute [-simp] bin_and bin_xor
attribute [simp] bin_andI bin_xorI
def abc : List By := [97, 98, 99, 97, 98, 99, 97, 98]
def valF (c : Cl) (n : Int) : Vl :=
 if c.null = true ∧ andI n 7 = 0 then ⟨true, c.kind, 0, [], by simp⟩ else
 if c.kind = 1 then
  ⟨false, c.kind, if andI (shrI .i64 n 6) 15 = 0 then wr .i64 (n * 712544676207699905) else if andI (shrI .i64 n 6) 15 = 1 then wr .i64 (-andI (shrI .i64 n 3) 7) else if andI (shrI .i64 n 6) 15 = 2 then wr .i64 (9223372036854775807 - andI (shrI .i64 n 3) 7) else andI (shrI .i64 n 3) 7, [], by simp⟩
 else ⟨false, c.kind, 0, (abc.drop (andI (shrI .i64 n 3) 3).toNat).take (andI (shrI .i64 n 5) 3).toNat, by
  have : ((abc.drop (andI (shrI .i64 n 3) 3).toNat).take (andI (shrI .i64 n 5) 3).toNat).length ≤ 8 := by
   rw [List.length_take, List.length_drop]; simp [abc]; omega
  omega⟩
theorem by_flat_map (b : List By) : (byE b).flatten = b.map fun c => D.lit (.int .u8 (c.val : Int)) := by
 induction b with
 | nil => rfl
 | cons c b ih => simp only [byE, List.map_cons, List.flatten_cons, List.singleton_append] at ih ⊢; rw [ih]
theorem law6_value (L : HLaw6s p ext F) {c : Cl} {n : Int} : FnD p ext (F 25) [.agg c.c, .lit (.int .i64 n)] (.agg (valF c n).c) := by
 refine fn_of L.h25 (M := M25) rfl ok25 rfl fun H => sem_run 9000 _ ?_;simp
 by_cases h1 : c.null = true ∧ andI n 7 = 0
 ·simp [h1.1, h1.2];refine sem_ret ?_;simp [M25];exact .le sR (by simp [valF, h1.1, h1.2, Vl.c, D.le, byD, byE]) (by simp)
 ·have h2 : c.null = false ∨ (c.null = true ∧ ¬ andI n 7 = 0) := by
   cases h3 : c.null
   ·exact .inl rfl
   ·exact .inr ⟨rfl, fun h4 => h1 ⟨h3, h4⟩⟩
  by_cases h5 : c.kind = 1
  ·by_cases k0 : andI (shrI .i64 n 6) 15 = 0
   ·rcases h2 with h2 | h2
    all_goals
     simp [h2, h5, k0];refine sem_ret ?_;simp [M25];exact .le sR (by simp [valF, h2, h5, k0, Vl.c, D.le, byD, byE]) (by simp)
   ·by_cases k1 : andI (shrI .i64 n 6) 15 = 1
    ·rcases h2 with h2 | h2
     all_goals
      simp [h2, h5, k1];refine sem_ret ?_;simp [M25];exact .le sR (by simp [valF, h2, h5, k1, Vl.c, D.le, byD, byE]) (by simp)
    ·by_cases k2 : andI (shrI .i64 n 6) 15 = 2
     ·rcases h2 with h2 | h2
      all_goals
       simp [h2, h5, k2];refine sem_ret ?_;simp [M25];exact .le sR (by simp [valF, h2, h5, k2, Vl.c, D.le, byD, byE]) (by simp)
     ·rcases h2 with h2 | h2
      all_goals
       simp [h2, h5, k0, k1, k2];refine sem_ret ?_;simp [M25];exact .le sR (by simp [valF, h2, h5, k0, k1, k2, Vl.c, D.le, byD, byE]) (by simp)
  ·obtain ⟨i, hi, hi3⟩ := andI_small (a := shrI .i64 n 3) (m := 3) (by simp);obtain ⟨j, hj, hj3⟩ := andI_small (a := shrI .i64 n 5) (m := 3) (by simp);have hi' : andI (shrI .i64 n 3) 3 = i := hi;have hj' : andI (shrI .i64 n 5) 3 = j := hj;have hw : wr .i64 ((i : Int) + (j : Int)) = (i : Int) + (j : Int) := (by rw [wr_of] <;> omega);have ht : ((i : Int) + (j : Int)).toNat = i + j := (by omega);have hn : (0 : Int) ≤ (i : Int) + (j : Int) := (by omega);have hl : i + j ≤ 8 := (by omega);rcases h2 with h2 | h2
   all_goals
    simp [h2, h5, hi', hj', markD, slcD, slcV, needH, boundM, boundH, boundL, sliceO, hw, ht, hn, hl];refine sem_ret ?_;simp [M25];refine ⟨_, (WeakV.part (pre := [.lit (.bool false), .lit (.int .i64 c.kind), .lit (.int .i64 0)]) (el := byE ((abc.drop i).take j)) (sz := 1) (cs := (byE abc).flatten) (ro := false) (by simp [put_blk, new_blk, abc, byE]; decide) by_one (by simp [abc]; omega) ?_ (by omega)).trans (.le ?_), sR, by simp⟩
    ·rw [by_flat_map, by_flat_map, Nat.mul_one, List.map_take, List.map_drop]
    ·simp [valF, h2, h5, hi', hj', Vl.c, byD, D.le]
theorem wr_u64 {n : Int} (h0 : 0 ≤ n) (h1 : n < 18446744073709551616) : wr .u64 n = n := by
 obtain ⟨m, rfl⟩ : ∃ m : Nat, n = m := ⟨n.toNat, by omega⟩;show cond (Nat.blt m 18446744073709551616) _ _ = _;rw [show Nat.blt m 18446744073709551616 = true from nblt.2 (by omega)];rfl
def cellF (n : Int) (i : Nat) (c : Cl) : Vl := if i = 0 then ⟨false, 1, andI n 15, [], by simp⟩ else valF c (xorI (shrI .i64 n (3 * i)) (shrI .i64 n 17))
def rowF (s : Sch) (n : Int) : Row := s.mapIdx (cellF n)
theorem rowF_len {s : Sch} {n : Int} : (rowF s n).length = s.length := by simp [rowF]
theorem rowF_get {s : Sch} {n : Int} {i : Nat} : (rowF s n)[i]? = s[i]?.map (cellF n i) := by simp [rowF]
def Row6I (H0 : HpD) (s : Sch) (n : Int) (k : Nat) (fr : FrD) (H : HpD) : Prop :=
 ∃ (i : Nat) (t : D), k = s.length - i ∧ i ≤ s.length ∧ fr = [(1, .lit (.int .i64 n)), (5, t), (9, schR s), (10, .lit (.int .i64 (s.length : Int))), (11, .lit (.int .i64 (i : Int)))] ∧ Gr H0 H 4 t (rowE ((rowF s n).take i))
theorem law6_row_own (L : HLaw6r p ext F) {s : Sch} {n : Int} {H : HpD} (hs : s.length < 1000) : WcD p ext (F 24) [schD s, .lit (.int .i64 n)] H (fun d H' => Gr H H' 4 d (rowE (rowF s n))) := by
 refine wc_of L.h24 (M := M24) rfl ok24 rfl (sem_run 9000 _ ?_);simp [schD];refine sem_loop (Row6I H s n) ?_ (k := s.length) ⟨0, .lit .nilslice, by simp, by simp, rfl, by simpa [rowE] using Gr.start⟩;rintro k fr H' ⟨i, t, rfl, hi, rfl, g⟩;refine sem_run 9000 _ ?_;simp
 by_cases c : i < s.length
 ·have hx : (rowF s n)[i]? = some (cellF n i s[i]) := (by rw [rowF_get]; simp [c]);have hw : wr .i64 ((i : Int) + 1) = ((i + 1 : Nat) : Int) := (by rw [wr_of] <;> omega);have h1 : wr .i64 (3 * (i : Int)) = 3 * (i : Int) := (by rw [wr_of] <;> omega);have h2 : wr .u64 (3 * (i : Int)) = 3 * (i : Int) := wr_u64 (by omega) (by omega);have h3 : (0 : Int) ≤ 3 * (i : Int) := (by omega);have h4 : (3 * (i : Int)).toNat = 3 * i := (by omega)
  have hl : (rowE ((rowF s n).take i)).length ≤ i := by simp; omega
  by_cases c0 : i = 0
  ·subst c0;simp [c];refine sem_push_le (cellF n 0 s[0]).c (g.mono sR) (by simp [cellF, Vl.c, byD, byE, D.le]) rfl rfl (roomyD (by omega) (by omega)) fun s' H1 g1 _ _ => ?_;simp;refine sem_ok ?_;rw [rowE_snoc hx] at g1;exact ⟨_, by omega, 1, s', rfl, by omega, by simp [wr_of], g1⟩
  ·simp [c, c0, h1, h2, h3, h4];refine sf (law6_value L) ?_;simp;refine sem_push_le (cellF n i s[i]).c (g.mono sR) (by simp [cellF, c0]) rfl rfl (roomyD (by omega) (by omega)) fun s' H1 g1 _ _ => ?_;simp;refine sem_ok ?_;rw [rowE_snoc hx] at g1;exact ⟨_, by omega, i + 1, s', rfl, by omega, by rw [hw], g1⟩
 ·simp [c];refine sem_exit (sem_run 9000 _ ?_);have : i = s.length := (by omega);subst this;have hf : (rowF s n).take s.length = rowF s n := (by rw [List.take_of_length_le]; rw [rowF_len]; exact Nat.le_refl _);rw [hf] at g;simp;refine sem_ret ?_;simp [M24];exact g
theorem law6_row (L : HLaw6r p ext F) {s : Sch} {n : Int} (hs : s.length < 1000) : FnD p ext (F 24) [schD s, .lit (.int .i64 n)] (rowD (rowF s n)) :=
 own_fn (fun _ => law6_row_own L hs) fun _ => row_underss
def intsD (m : Md) (l : List Int) : D := .row 1 m (l.map fun n => [.lit (.int .i64 n)])
theorem lenb_ints {m : Md} {l : List Int} : lenbD (intsD m l) = some (.lit (.int .i64 (l.length : Int))) := by simp [intsD]
theorem at_ints {m : Md} {l : List Int} {n : Nat} : atO 1 (intsD m l) (some n) = elemD (l[n]?.map fun x => [.lit (.int .i64 x)]) := by simp [intsD]
theorem ints_under {m : Md} {l : List Int} {n : Nat} : (intsD m l).under n := by simp only [intsD, D.under]; exact underss_map (fun _ => by simp) _
theorem cellsD_ints {m : Md} {l : List Int} : cellsD (intsD m l) = some [intsD m l] := rfl
attribute [simp] lenb_ints at_ints ints_under cellsD_ints
def bitI (n : Int) (k : Nat) : Int := andI (shrI .i64 n k) 1
theorem bitI_01 {n : Int} {k : Nat} : bitI n k = 0 ∨ bitI n k = 1 := by
 obtain ⟨q, hq, h1⟩ := andI_small (a := shrI .i64 n k) (m := 1) (by simp);have : bitI n k = q := hq;omega
def colNames : List (List Nat) := [[97], [98, 98], [99, 99, 99], [110, 117, 108, 108], [97, 110, 100]]
def colF (n : Int) (i : Nat) : Cl := ⟨(colNames[i]?).getD [], bitI n (8 + 2 * i) + 1, decide (bitI n (9 + 2 * i) = 1)⟩
def keyC : Cl := ⟨[107, 101, 121], 1, false⟩
def moreF (n : Int) : Nat := (Int.tmod (andI n 255) 6).toNat
def schF (n : Int) : Sch := keyC :: (List.range (moreF n)).map (colF n)
theorem more_le {n : Int} : moreF n ≤ 5 ∧ Int.tmod (andI n 255) 6 = (moreF n : Int) := by
 obtain ⟨q, hq, h1⟩ := andI_small (a := n) (m := 255) (by simp);have hq' : andI n 255 = q := hq;unfold moreF;rw [hq']
 have : Int.tmod (q : Int) 6 = ((q % 6 : Nat) : Int) := by
  rw [Int.tmod_eq_emod_of_nonneg (by omega)]; omega
 rw [this];omega
theorem schF_len {n : Int} : (schF n).length = moreF n + 1 := by simp [schF]
theorem schF_small {n : Int} : (schF n).length < 1000 ∧ 0 < (schF n).length := by
 have := (more_le (n := n)).1;rw [schF_len]; omega
def SchI (H0 : HpD) (n : Int) (k : Nat) (fr : FrD) (H : HpD) : Prop :=
 ∃ (i : Nat) (t : D), k = 6 - i ∧ i ≤ moreF n ∧ fr = [(0, .lit (.int .i64 n)), (2, .ptr H0.next 0), (3, .ptr (H0.next + 1 + 1) 0), (4, .row 1 .c (colNames.map fun x => [.lit (.str x)])), (5, .lit (.int .i64 (i : Int)))] ∧
  Gr H0 H 3 t (schE (keyC :: (List.range i).map (colF n))) ∧ H.blk (H0.next + 1 + 1) = .cells [t] false ∧ (∃ d, H.blk H0.next = .cells [d] false) ∧ ¬ t.hasB (H0.next + 1 + 1) ∧ ¬ t.hasB H0.next ∧ H0.next + 1 + 1 < H.next
theorem schema_own (L : HLaw6s p ext F) {n : Int} {H : HpD} : WcD p ext (F 23) [.lit (.int .i64 n)] H (fun d H' => ∃ t, d = .agg [t] ∧ Gr H H' 3 t (schE (schF n))) := by
 refine wc_of L.h23 (M := M23) rfl ok23 rfl (sem_run 9000 _ ?_);simp
 have gk : Gr H ((H.new (.cells [.lit .nilslice] false)).new (.cells [D.lit (V.str [107, 101, 121]), D.lit (V.int .i64 1), D.lit (V.bool false)] false)) 3 (.slice (H.next + 1) 0 3 1 1 true) (schE (keyC :: (List.range 0).map (colF n))) :=
  Gr.lit (H := H.new (.cells [.lit .nilslice] false)) Sub.refl.new (by simp [schE, Cl.c]) (by simp [schE, Cl.c, keyC]) (by simp [schE])
 have hin := gk.mono (Sub.put (H1 := _) (b := H.next + 1 + 1) (x := .cells [.slice (H.next + 1) 0 3 1 1 true] false) (Sub.refl.new (x := .cells [.lit .nilslice] false)) (by simp));refine sem_loop (SchI H n) ?_ (k := 6) ⟨0, .slice (H.next + 1) 0 3 1 1 true, by simp, by omega, by simp [colNames], hin, by simp, ⟨.lit .nilslice, by simp⟩, by simp [D.hasB], by simp [D.hasB], by simp⟩;rintro k fr H' ⟨i, t, rfl, hi, rfl, g, h3, ⟨d2, h2⟩, n3, n2, hlt⟩;refine sem_run 9000 _ ?_;simp;obtain ⟨hm, hm2⟩ := more_le (n := n)
 by_cases c : i < moreF n
 ·have c' : (i : Int) < Int.tmod (andI n 255) 6 := (by omega);have c5 : (i : Int) < 5 := (by omega);have hw : wr .i64 ((i : Int) + 1) = ((i + 1 : Nat) : Int) := (by rw [wr_of] <;> omega);have w1 : wr .i64 (2 * (i : Int)) = 2 * (i : Int) := (by rw [wr_of] <;> omega);have w2 : wr .i64 (8 + 2 * (i : Int)) = 8 + 2 * (i : Int) := (by rw [wr_of] <;> omega);have w3 : wr .i64 (9 + 2 * (i : Int)) = 9 + 2 * (i : Int) := (by rw [wr_of] <;> omega);have w4 : wr .u64 (8 + 2 * (i : Int)) = 8 + 2 * (i : Int) := wr_u64 (by omega) (by omega);have w5 : wr .u64 (9 + 2 * (i : Int)) = 9 + 2 * (i : Int) := wr_u64 (by omega) (by omega)
  have p1 : (0 : Int) ≤ 8 + 2 * (i : Int) := (by omega);have p2 : (0 : Int) ≤ 9 + 2 * (i : Int) := (by omega);have t1 : (8 + 2 * (i : Int)).toNat = 8 + 2 * i := (by omega);have t2 : (9 + 2 * (i : Int)).toNat = 9 + 2 * i := (by omega);obtain ⟨nm, hnm⟩ : ∃ nm, colNames[i]? = some nm := ⟨colNames[i]'(by simp [colNames]; omega), by simp⟩;simp [c', c5, h3, hlt, w1, w2, w3, w4, w5, p1, p2, t1, t2, hnm]
  have hwb : wr .i64 (andI (shrI .i64 n (8 + 2 * i)) 1 + 1) = bitI n (8 + 2 * i) + 1 := by
   rcases bitI_01 (n := n) (k := 8 + 2 * i) with h | h <;> unfold bitI at h ⊢ <;> rw [h] <;> decide
  rw [hwb, appendD_slice1 (b := H'.next) (cs := [.lit (.str nm), .lit (.int .i64 (bitI n (8 + 2 * i) + 1)), .lit (.bool (decide (bitI n (9 + 2 * i) = 1)))]) (ro := false) (by simp [bitI]; congr) (by simp)];refine sem_push_le (colF n i).c (g.mono Sub.refl.new) (by simp [colF, Cl.c, hnm]) rfl rfl (roomyD (by simp [schE]; omega) (by simp [schE]; omega)) fun s' H1 g1 k1 n1 => ?_;have k3 := k1 (H.next + 1 + 1) (by simp; omega) n3;have k2 := k1 H.next (by simp; omega) n2;rw [new_blk, if_neg (by omega), h3] at k3;rw [new_blk, if_neg (by omega), h2] at k2;obtain ⟨n1, rfl⟩ := n1;simp at n1;simp [k3];refine sem_ok ?_
  have hs : schE (keyC :: (List.range i).map (colF n)) ++ [(colF n i).c] = schE (keyC :: (List.range (i+1)).map (colF n)) := (by simp [schE, List.range_succ]);rw [hs] at g1;refine ⟨_, by omega, i + 1, _, rfl, by omega, by rw [hw], g1.keep (g1.sub.put (by omega)) (by simp) (fun x hx => ?_), by simp, ⟨d2, ?_⟩, ?_, ?_, ?_⟩
  ·rw [put_blk, if_neg];rintro rfl;simp [D.hasB] at hx;omega
  ·rw [put_blk, if_neg (by omega), k2]
  ·simp [D.hasB]; omega
  ·simp [D.hasB]; omega
  ·simp; omega
 ·have c' : ¬ (i : Int) < Int.tmod (andI n 255) 6 := (by omega);have : i = moreF n := (by omega);subst this
  have hft : flatD t = true := by
   rcases g.at_ with ⟨rfl, _⟩ | ⟨b, ex, el0, rfl, _⟩ <;> rfl
  simp [c'];refine sem_exit (sem_run 9000 _ ?_);simp [h3, h2, hft];refine sem_ret ?_;simp [M23];refine g.keep (g.sub.put (Nat.le_refl _)) (by simp) fun x hx => ?_;rw [put_blk, if_neg];rintro rfl;exact n2 hx
theorem schema (L : HLaw6s p ext F) {n : Int} : FnD p ext (F 23) [.lit (.int .i64 n)] (schD (schF n)) := by
 intro H;refine WcD.drop ((schema_own L).mono ?_);rintro d H' ⟨t, rfl, g⟩;obtain ⟨H2, w, s, u⟩ := g.finA sch_underss (m := .p) (by simp);exact ⟨_, H2, w, s, u, rfl, rfl⟩
end Go.Lib
end

section
set_option maxRecDepth 10000
namespace Go.Lib
open Go.Vm Go.Dv
variable {p : Prog} {ext : Ext} {F : Nat → Nat}
def strE (l : List (List Nat)) : List (List D) := l.map fun s => [.lit (.str s)]
def strsD (l : List (List Nat)) : D := .row 1 .p (strE l)
theorem str_under {n : Nat} {l : List (List Nat)} : (strsD l).under n := by
 simp only [strsD, D.under]; exact underss_map (fun _ => by simp) _
theorem str_underss {n : Nat} {l : List (List Nat)} : D.underss n (strE l) := underss_map (fun _ => by simp) _
theorem str_len {l : List (List Nat)} : (strE l).length = l.length := by simp [strE]
theorem lenb_strs {l : List (List Nat)} : lenbD (strsD l) = some (.lit (.int .i64 (l.length : Int))) := by simp [strsD, str_len]
theorem at_strs {l : List (List Nat)} {n : Nat} : atO 1 (strsD l) (some n) = elemD (l[n]?.map fun s => [.lit (.str s)]) := by simp [strsD, strE]
theorem strE_append {a b : List (List Nat)} : strE (a ++ b) = strE a ++ strE b := by simp [strE]
attribute [simp] str_under lenb_strs at_strs
theorem toVs_strs : ∀ l : List (List Nat), toVs (strE l).flatten = some (l.map V.str)
 | [] => rfl
 | s :: l => by
  have := toVs_strs l;simp only [strE] at this;simp [strE, toVs, toV, this]
theorem strsOf_map : ∀ l : List (List Nat), strsOf (l.map V.str) = some l
 | [] => rfl
 | s :: l => by simp [strsOf, strsOf_map l]
theorem strsV_ok {h : Hp} {ψ : Nat → Option Nat} {S : Nat → Prop} {l : List (List Nat)} {v : V} (k : VD h ψ S (strsD l) v) : strsV h v = some l := by
 simp only [strsD, VD] at k;rcases k with ⟨rfl, hb⟩ | ⟨c, o, cp, ex, rfl, h1, h2, k⟩
 ·cases l with
  | nil => rfl
  | cons x b => simp [strE] at hb
 ·rcases k with ⟨hm, _⟩ | ⟨cs, ro, hs, hb, hp⟩
  ·cases hm
  ·obtain ⟨us, e1, k1⟩ := VDss.cells hp;rw [Nat.mul_one] at e1;have := toVs_ok _ (toVs_strs l) k1;subst this;have hr : h.read c o (strE l).length = some (l.map V.str) := (by unfold Hp.read; rw [hb]; exact e1);simp only [strsV, hr, nbeq_d, decide_true, cond_true];exact strsOf_map l
theorem join_ext {f : Nat} {g : SG} (hx : ∀ args h, ext f args h = strV g .join args h) {l : List (List Nat)} {sep : List Nat} (h1 : (joinN l sep).length ≤ 4294967280) (h2 : l.length ≤ 4294967280) :
  FnD p ext f [strsD l, .lit (.str sep)] (.lit (.str (joinN l sep))) := by
 intro H ψ S h vs s k;simp only [VDl] at k;obtain ⟨v, r, rfl, k1, w, r2, rfl, k2, rfl⟩ := k;simp only [VD] at k2;obtain ⟨rfl, _⟩ := k2;refine wpc_ext (v := .str (joinN l sep)) (h' := h) ?_ ⟨ψ, S, _, H, .refl, s, ?_, rfl, rfl⟩
 ·rw [hx];simp only [strV, strsV_ok k1];rw [nble.2 h1, nble.2 h2];rfl
 ·simp [VD, atomV]
def PowGl (p : Prog) (g : SG) : Prop := p.gl g.pow = some fun y => powCells y = true
theorem fmt_ext {f : Nat} {g : SG} (hx : ∀ args h, ext f args h = strV g .fmt args h) (hg : PowGl p g) {n : Int} (hn : wr .i64 n = n) :
  FnD p ext f [.lit (.int .i64 n), .lit (.int .i64 (.ofNat 10))] (.lit (.str (itoaN n))) := by
 intro H ψ S h vs s k;simp only [VDl] at k;obtain ⟨v, r, rfl, k1, w, r2, rfl, k2, rfl⟩ := k;simp only [VD] at k1 k2;obtain ⟨rfl, _⟩ := k1;obtain ⟨rfl, _⟩ := k2;have hp := (s.gl g.pow _ hg).2;refine wpc_ext (v := .str (itoaN n)) (h' := h) ?_ ⟨ψ, S, _, H, .refl, s, ?_, rfl, rfl⟩
 ·rw [hx];simp only [strV, hp, hn, cond_true];rw [show Nat.beq 10 10 = true from rfl, show ieq n n = true from ieq_iff.2 rfl];rfl
 ·simp [VD, atomV]
theorem sadd {tab : Tab} {a b : List Nat} : binV tab .add (.str a) (.str b) = cond (Nat.ble (a.length + b.length) 1152921504606846976) (some (.str (a ++ b))) none := rfl
theorem sadd_of {tab : Tab} {a b : List Nat} (h : a.length + b.length ≤ 1152921504606846976) : binV tab .add (.str a) (.str b) = some (.str (a ++ b)) := by rw [sadd, nble.2 h]; rfl
theorem neqs_dec : ∀ {a b : List Nat}, neqs a b = decide (a = b)
 | [], [] => by simp [neqs]
 | [], _ :: _ => by simp [neqs]
 | _ :: _, [] => by simp [neqs]
 | a :: x, b :: y => by
  simp only [neqs, nbeq_d, neqs_dec (a := x) (b := y), List.cons.injEq]
  by_cases h : a = b <;> simp [h]
end Go.Lib
end

section
namespace Go.Vm
open Go.RowKit
variable {P : Program}
theorem laid_below (hm : P.follows .mixedOrders = true) {p : Prog} (hp : Valid P p) {ext : Ext} (hrx : Rises ext) (hx : CallOk P p.env ext) (htab : p.env.tab = []) (hints : IntsOk P p.env.ints)
  {t : List (Nat × Blk)} {pls : List Place} {f n : Nat} (hen : entered P f = true) (hv : runsL p ext n f [] (laidH P.globals.size pls.length t) = true) {w : World} (hl : LaidW P (laidE P t pls fun _ => .int .i64 0) w t) :
  Calls P f #[] w fun e w' => e = .returned (.bool true) ∧ Below w.heap.size w w' := by
 unfold runsL at hv;split at hv
 case h_2 => cases hv
 rename_i h' hc;have hok : EnvOk P (laidE P t pls fun _ => .int .i64 0) p.env := ⟨fun _ => ⟨_, _, rfl⟩, laid_gl, (by rw [htab]; exact fun _ _ _ _ _ _ h => (by cases h)), hints⟩;have hfr : Fresh (laidE P t pls fun _ => .int .i64 0) (laidH P.globals.size pls.length t).next h'.next := fun b h1 _ => laid_fr b h1;have := call_ok hm hp hrx hx n (laidE P t pls fun _ => .int .i64 0) f [] _ (.bool true) h' w [] hc hok (laid_hr hl) hfr .nil;rcases this with ⟨_, h2⟩ | ⟨u, ψ, w', h1, _⟩
 ·refine h2.mono ?_;rintro e w' ⟨u, ψ, rfl, r1, r2⟩;cases r1;exact ⟨rfl, r2.os, r2.tape, r2.output, r2.size, fun k hk => r2.kept k hk fun b pl hb => by rw [laid_ro hl] at hb; cases hb⟩
 ·rw [callFunc_entered hen] at h1;cases h1
end Go.Vm
end

section
namespace Go.Vm
open Go.RowKit
variable {P : Program}
def errCellT (t : Nat) : Blk → Bool
 | .cells [.iface u (.ptr _ 0)] true => Nat.beq u t
 | _ => false
theorem errCellT_ok {φ : Emb} {h : Hp} {w : World} (hr : HR φ h w) (hg : φ.glOk P) {g t : Nat} (hlt : g < P.globals.size) (hc : errCellT t (h.blk g) = true) :
  ∃ pl : Place, ∀ (ψ : Emb) (b : Nat), ψ.at_ b = some pl → BlkAt ψ w ⟨g, 0, 1⟩ (.cells [.iface t (.ptr b 0)] true) := by
 unfold errCellT at hc;split at hc
 case h_2 => cases hc
 rename_i u b e;rw [nbeq] at hc;subst hc;obtain ⟨pl, h1, h2⟩ := hr.lies g (by rw [e]; rfl);rw [e] at h2;obtain ⟨x, h3⟩ := hg g hlt;rw [h3] at h1;cases h1;obtain ⟨k1, c, e2, fz, k2, k3, k4⟩ := h2;obtain ⟨v, k5, k6⟩ := k4 0 _ rfl
 cases k6 with
 | iface _ _ y k7 =>
  cases k7 with
  | ptr _ _ pl k8 =>
   refine ⟨pl, fun ψ b' hb => ⟨Nat.le_refl _, c, e2, fz, k2, ?_, fun i v hi => ?_⟩⟩
   ·simp only [List.length_singleton] at k1;show 0 + 1 ≤ c.size;have : 0 + x ≤ c.size := k3;omega
   ·cases i with
    | zero => cases hi; exact ⟨_, k5, .iface _ _ _ (.ptr _ _ pl hb)⟩
    | succ i => simp at hi
def fullT (sg : SG) (t G : Nat) (m : Int) : List (Nat × Blk) := [(sg.pow, .whole (powL 20 1)), (sg.syn, .cells [.iface t (.ptr G 0)] true), (sg.rng, .cells [.iface t (.ptr (G + 1) 0)] true), (sg.max, .cells [.int .i64 m] true)]
def constT (sg : SG) (t : Nat) (l : List Nat) : Ext := fun f args h => cond (hasF f l) (cond (powCells (h.blk sg.pow)) (cond (errCellT t (h.blk sg.syn)) (cond (errCellT t (h.blk sg.rng)) (cond (intCell (h.blk sg.max)) (match args with
 | [] => some (.bool true, h)
 | _ => none) none) none) none) none) none
theorem constT_rises (sg : SG) (t : Nat) (l : List Nat) : Rises (constT sg t l) := by
 intro f args h v h' e;unfold constT at e
 repeat (rw [cond_eq_ite] at e; split at e; case isFalse => cases e)
 split at e
 ·cases e; exact Nat.le_refl _
 ·cases e
theorem constT_ok (hm : P.follows .mixedOrders = true) {p : Prog} (hp : Valid P p) {ext : Ext} (hrx : Rises ext) (hx : CallOk P p.env ext) (htab : p.env.tab = []) (hints : IntsOk P p.env.ints) {n t : Nat} {sg : SG} (hsg : sg.ok P) {l : List Nat} {env : Env}
  (hl : ∀ f, f ∈ l → entered P f = true ∧ ∀ m, runsL p ext n f [] (laidH P.globals.size 2 (fullT sg t P.globals.size m)) = true) : CallOk P env (constT sg t l) := by
 intro φ f args h v h' w us hv ok hr hfr hargs;unfold constT at hv;rw [cond_eq_ite] at hv; split at hv
 case isFalse => cases hv
 rename_i hf;rw [cond_eq_ite] at hv; split at hv
 case isFalse => cases hv
 rename_i hpc;rw [cond_eq_ite] at hv; split at hv
 case isFalse => cases hv
 rename_i hsy;rw [cond_eq_ite] at hv; split at hv
 case isFalse => cases hv
 rename_i hrg;rw [cond_eq_ite] at hv; split at hv
 case isFalse => cases hv
 rename_i hmx;obtain ⟨h1, h2⟩ := hl f (hasF_mem hf);split at hv
 case h_2 => cases hv
 cases hv;cases hargs;obtain ⟨o1, o2, o3, o4⟩ := hsg;obtain ⟨e, fz, hh⟩ := powCells_ok hr ok.gl o4 hpc;obtain ⟨pl1, q1⟩ := errCellT_ok hr ok.gl o2 hsy;obtain ⟨pl2, q2⟩ := errCellT_ok hr ok.gl o3 hrg;obtain ⟨m, q3⟩ := intCell_ok hr ok.gl o1 hmx;refine .inl ⟨h1, (laid_below hm hp hrx hx htab hints (t := fullT sg t P.globals.size m) (pls := [pl1, pl2]) h1 (h2 m) (w := w) ?_).mono ?_⟩
 ·intro g x hx
  have a1 : (laidE P (fullT sg t P.globals.size m) [pl1, pl2] fun _ => .int .i64 0).at_ P.globals.size = some pl1 := by
   show (if P.globals.size < P.globals.size then _ else _) = _;rw [if_neg (by omega)]; simp
  have a2 : (laidE P (fullT sg t P.globals.size m) [pl1, pl2] fun _ => .int .i64 0).at_ (P.globals.size + 1) = some pl2 := by
   show (if P.globals.size + 1 < P.globals.size then _ else _) = _;rw [if_neg (by omega)]; simp
  generalize laidE P (fullT sg t P.globals.size m) [pl1, pl2] (fun _ => .int .i64 0) = ψ at a1 a2;simp only [fullT, tblAt, nbeq_d] at hx
  by_cases h1 : sg.pow = g
  ·subst h1;simp at hx;subst hx;exact ⟨o4, rfl, _, e, fz, hh, by simpa using powL_vr⟩
  ·rw [show decide (sg.pow = g) = false from decide_eq_false h1] at hx
   by_cases h2 : sg.syn = g
   ·subst h2;simp at hx;subst hx;exact ⟨o2, rfl, q1 _ _ a1⟩
   ·rw [show decide (sg.syn = g) = false from decide_eq_false h2] at hx
    by_cases h3 : sg.rng = g
    ·subst h3;simp at hx;subst hx;exact ⟨o3, rfl, q2 _ _ a2⟩
    ·rw [show decide (sg.rng = g) = false from decide_eq_false h3] at hx
     by_cases h4 : sg.max = g
     ·subst h4;simp at hx;subst hx;exact ⟨o1, rfl, laid_int q3⟩
     ·rw [show decide (sg.max = g) = false from decide_eq_false h4] at hx;simp at hx
 ·rintro e w' ⟨rfl, hb⟩;exact ⟨_, φ, rfl, .bool true, .below hr hb⟩
end Go.Vm
end

section
set_option maxRecDepth 10000
namespace Go.Dv
open Go.Vm
variable {p : Prog} {ext : Ext} {Q : ResD → Prop} {H0 H : HpD} {sz : Nat} {s : D} {el : List (List D)}
theorem les_append : ∀ {a a' b b' : List D}, D.les a a' → D.les b b' → D.les (a ++ b) (a' ++ b')
 | [], [], _, _, _, h => h
 | d :: a, d' :: a', _, _, k, h => by
  simp only [D.les, List.cons_append] at k ⊢;exact ⟨k.1, les_append k.2 h⟩
 | [], _ :: _, _, _, k, _ => by simp [D.les] at k
 | _ :: _, [], _, _, k, _ => by simp [D.les] at k
theorem les_flat : ∀ {l l' : List (List D)}, D.less l l' → D.les l.flatten l'.flatten
 | [], [], _ => by simp
 | e :: l, e' :: l', k => by
  simp only [D.less] at k;simp only [List.flatten_cons];exact les_append k.1 (les_flat k.2)
 | [], _ :: _, k => by simp [D.less] at k
 | _ :: _, [], k => by simp [D.less] at k
theorem SR.tell {G : Nat → Option (Blk → Prop)} {ψ : Nat → Option Nat} {S : Nat → Prop} {h : Hp} {b : Nat} {cs cs' : List D} {ro : Bool} (s : SR G ψ S H h) (hb : H.blk b = .cells cs ro) (hl : D.les cs cs') : SR G ψ S (H.put b (.cells cs' ro)) h :=
 ⟨s.inj, s.dom, s.frz, fun b' hg => by
  rw [put_blk] at hg ⊢
  by_cases e : b' = b
  ·subst e;obtain ⟨c, h1, h2, h3⟩ := s.live b' (by rw [hb]; rfl);rw [hb] at h3;obtain ⟨l', e1, k⟩ := h3;refine ⟨c, h1, h2, ?_⟩;rw [if_pos rfl];exact ⟨l', e1, VDl.le _ _ hl k⟩
  ·rw [if_neg e] at hg ⊢
   exact s.live b' hg, s.gl⟩
theorem Weak.tell {a : List D} {fr : FrD} {b : Nat} {cs cs' : List D} {ro : Bool} (hb : H.blk b = .cells cs ro) (hl : D.les cs cs') : Weak a fr H a fr (H.put b (.cells cs' ro)) :=
 fun _ ψ S _ _ _ s k kv => ⟨ψ, S, .refl, s.tell hb hl, k, kv⟩
structure GrX (H0 H : HpD) (sz : Nat) (s : D) (el : List (List D)) : Prop where
 gr : Gr H0 H sz s el
 at_ : (s = .lit .nilslice ∧ el = []) ∨ ∃ b ex, s = .slice b 0 sz el.length el.length ex ∧ H0.next ≤ b ∧ b < H.next ∧ H.blk b = .cells el.flatten false
theorem Gr.exact (g : Gr H0 H sz s el) : ∃ H', (∀ a fr, Weak a fr H a fr H') ∧ GrX H0 H' sz s el ∧ (∀ x, ¬ s.hasB x → H'.blk x = H.blk x) ∧ H'.next = H.next := by
 rcases g.at_ with ⟨rfl, rfl⟩ | ⟨b, ex, el0, rfl, h1, h2, h3, h4⟩
 ·exact ⟨H, fun _ _ => .refl, ⟨g, .inl ⟨rfl, rfl⟩⟩, fun _ _ => rfl, rfl⟩
 ·refine ⟨H.put b (.cells el.flatten false), fun _ _ => Weak.tell h3 (les_flat h4), ⟨⟨g.sub.put h1, g.len, .inr ⟨b, ex, el, rfl, h1, h2, by simp, D.less_refl _⟩⟩, .inr ⟨b, ex, rfl, h1, h2, by simp⟩⟩, fun x hx => ?_, rfl⟩;rw [put_blk, if_neg];rintro rfl;exact hx rfl
theorem Weak.box {a : List D} {fr : FrD} {b t : Nat} {cs : List D} {ro : Bool} (hb : H.blk b = .cells cs ro) (ht : lk fr t = .ptr b 0) : Weak a fr H a ((t, .rptr cs 0) :: fr) (H.put b .gone) := by
 intro G ψ S h fv vs sr kf kv;obtain ⟨c, hc, h2, h3⟩ := sr.live b (by rw [hb]; rfl);rw [hb] at h3;obtain ⟨l', e1, k⟩ := h3;obtain ⟨x0, s0⟩ := sr.freeze hc;refine ⟨ψ, _, x0, s0, ?_, VDl.mono x0 _ kv⟩;intro u;rw [lk_cons];split
 ·rename_i e; subst e;have := kf t;rw [ht] at this;simp only [VD] at this ⊢;obtain ⟨c', e, e2⟩ := this;rw [hc] at e; cases e;exact ⟨c, 0, l', ro, .inr rfl, by rw [e2], e1, by have := VDp.of (us := []) (VDl.mono x0 _ k); simpa using this⟩
 ·exact kf.mono x0 u
theorem sem_box {b : Nat} {cs : List D} {ro : Bool} (t : Nat) {c : KC} {K : List KD} {fr : FrD} (hb : H.blk b = .cells cs ro) (ht : lk fr t = .ptr b 0)
  (hs : Sem p ext Q (.code c K .mk ((t, .rptr cs 0) :: fr) (H.put b .gone))) : Sem p ext Q (.code c K .mk fr H) := sem_weak (Weak.box hb ht) hs
end Go.Dv
end

section
namespace Go.Dv
open Go.Vm
variable {p : Prog} {ext : Ext} {Q : ResD → Prop} {H0 H : HpD} {sz : Nat} {s : D} {el : List (List D)}
def FrLe (fr : FrD) : FrD → Prop
 | [] => True
 | (t, d) :: r => D.le (lk fr t) d ∧ FrLe fr r
theorem frLe_nil {fr : FrD} : FrLe fr [] = True := rfl
theorem frLe_cons {fr r : FrD} {t : Nat} {d : D} : FrLe fr ((t, d) :: r) = (D.le (lk fr t) d ∧ FrLe fr r) := rfl
theorem FrLe.lk {fr : FrD} : ∀ {fr' : FrD}, FrLe fr fr' → ∀ u, D.le (lk fr u) (lk fr' u)
 | [], _, u => by simp [Dv.lk, D.le]
 | (t, d) :: r, h, u => by
  rw [lk_cons];split
  ·rename_i e; subst e; exact h.1
  ·exact FrLe.lk h.2 u
theorem Weak.as {a : List D} {fr fr' : FrD} (h : FrLe fr fr') : Weak a fr H a fr' H :=
 fun _ ψ S _ _ _ s k kv => ⟨ψ, S, .refl, s, fun t => VD.le _ _ (h.lk t) (k t), kv⟩
theorem get1_0 {d : D} : [d][0]? = some d := rfl
theorem get2_0 {d e : D} : [d, e][0]? = some d := rfl
theorem get2_1 {d e : D} : [d, e][1]? = some e := rfl
attribute [simp] frLe_nil frLe_cons get1_0 get2_0 get2_1
theorem sem_as_ok (fr' : FrD) {fr : FrD} {K : List KD} (h : FrLe fr fr') (hs : Sem p ext Q (.res (.ok fr' H) K .mk)) : Sem p ext Q (.res (.ok fr H) K .mk) := sem_weak_ok (Weak.as h) hs
theorem sem_exact {c : KC} {K : List KD} {fr : FrD} (g : Gr H0 H sz s el) (hs : ∀ H', GrX H0 H' sz s el → (∀ x, ¬ s.hasB x → H'.blk x = H.blk x) → H'.next = H.next → Sem p ext Q (.code c K .mk fr H')) : Sem p ext Q (.code c K .mk fr H) := by
 obtain ⟨H', w, g', k, n⟩ := g.exact;exact sem_weak (w _ _) (hs H' g' k n)
theorem SR.tellV {G : Nat → Option (Blk → Prop)} {ψ : Nat → Option Nat} {S : Nat → Prop} {h : Hp} {b : Nat} {cs cs' : List D} {ro : Bool} (s : SR G ψ S H h) (hb : H.blk b = .cells cs ro) (hl : ∀ l', VDl h ψ S cs l' → VDl h ψ S cs' l') : SR G ψ S (H.put b (.cells cs' ro)) h :=
 ⟨s.inj, s.dom, s.frz, fun b' hg => by
  rw [put_blk] at hg ⊢
  by_cases e : b' = b
  ·subst e;obtain ⟨c, h1, h2, h3⟩ := s.live b' (by rw [hb]; rfl);rw [hb] at h3;obtain ⟨l', e1, k⟩ := h3;refine ⟨c, h1, h2, ?_⟩;rw [if_pos rfl];exact ⟨l', e1, hl l' k⟩
  ·rw [if_neg e] at hg ⊢
   exact s.live b' hg, s.gl⟩
theorem Gr.incell (g : Gr H0 H sz s el) {b2 j : Nat} {cs : List D} {ro : Bool} (hb2 : H.blk b2 = .cells cs ro) (hj : cs[j]? = some s) (hne : ¬ s.hasB b2) :
  ∃ H', (∀ a fr, Weak a fr H a fr H') ∧ H'.blk b2 = .cells (cs.set j (.row sz .p el)) ro ∧ (∀ x, x ≠ b2 → ¬ s.hasB x → H'.blk x = H.blk x) ∧ H'.next = H.next ∧ ∀ H1, Sub H1 H → H1.next ≤ H0.next → H1.next ≤ b2 → Sub H1 H' := by
 rcases g.at_ with ⟨rfl, rfl⟩ | ⟨b, ex, el0, rfl, h1, h2, h3, h4⟩
 ·refine ⟨H.put b2 (.cells (cs.set j (.row sz .p [])) ro), fun a fr => ?_, by simp, fun x hx _ => by rw [put_blk, if_neg hx], by simp, fun H1 hs _ h2 => hs.put h2⟩;intro G ψ S h fv vs sr kf kv;exact ⟨ψ, S, .refl, sr.tellV hb2 fun l' k => k.setD hj fun v hv => VD.le (.lit .nilslice) _ (by simp [D.le]) hv, kf, kv⟩
 ·have hb : b2 ≠ b := fun e => hne (by simp only [D.hasB]; omega);refine ⟨(H.put b .gone).put b2 (.cells (cs.set j (.row sz .p el)) ro), fun a fr => ?_, by simp, fun x hx hx2 => ?_, by simp, fun H1 hs h0 h2 => (hs.put (by omega)).put h2⟩
  ·intro G ψ S h fv vs sr kf kv;have hel := less_length h4;obtain ⟨c, hc, hr⟩ := frz_row sr h3 (less_sz h4 g.len);obtain ⟨x0, s0⟩ := sr.freeze hc;refine ⟨ψ, _, x0, s0.tellV (cs := cs) (by rw [put_blk, if_neg hb]; exact hb2) fun l' k => k.setD hj fun v hv => ?_, kf.mono x0, VDl.mono x0 _ kv⟩;simp only [VD] at hv;obtain ⟨c', e, e2⟩ := hv;rw [hc] at e; cases e;rw [e2];rw [← hel];refine VD.le _ _ ?_ (hr _ _ (Nat.le_refl _));simp [D.le, h4]
  ·rw [put_blk, if_neg hx, put_blk, if_neg];exact fun e => hx2 (by simp only [D.hasB]; omega)
theorem Gr.far (g : Gr H0 H sz s el) {x : Nat} (h : s.hasB x) : H0.next ≤ x ∧ x < H.next := by
 rcases g.at_ with ⟨rfl, _⟩ | ⟨b, ex, el0, rfl, h1, h2, _⟩
 ·simp [D.hasB] at h
 ·simp only [D.hasB] at h; subst h; exact ⟨h1, h2⟩
theorem Gr.rest {H3 : HpD} (g : Gr H0 H sz s el) (hn : H.next ≤ H3.next) (hk : ∀ x, s.hasB x → H3.blk x = H.blk x) : Gr ⟨H0.next, H3.blk⟩ H3 sz s el := by
 refine ⟨⟨Nat.le_trans g.sub.next hn, fun _ _ => rfl⟩, g.len, ?_⟩;rcases g.at_ with h | ⟨b, ex, el0, rfl, h1, h2, h3, h4⟩
 ·exact .inl h
 ·exact .inr ⟨b, ex, el0, rfl, h1, by omega, by rw [hk b (by simp only [D.hasB])]; exact h3, h4⟩
structure Part (H0 H : HpD) (sz : Nat) (s : D) (el : List (List D)) : Prop where
 sub : Sub H0 H
 len : ∀ e, e ∈ el → e.length = sz
 at_ : (s = .lit .nilslice ∧ el = []) ∨ ∃ b o cap ex cs, s = .slice b o sz el.length cap ex ∧ el.length ≤ cap ∧ H0.next ≤ b ∧ b < H.next ∧ H.blk b = .cells cs false ∧ (cs.drop o).take (el.length * sz) = el.flatten
end Go.Dv
end

section
set_option maxRecDepth 10000
namespace Go.Lib
open Go.Vm Go.Dv
variable {p : Prog} {ext : Ext} {F : Nat → Nat}
structure FullGl (p : Prog) (g : SG) : Prop where
 pow : PowGl p g
 max : p.gl g.max = some fun y => intCell y = true
 syn : ∃ t, p.gl g.syn = some fun y => errCellT t y = true
 rng : ∃ t, p.gl g.rng = some fun y => errCellT t y = true
theorem errCell_of {t : Nat} {y : Blk} (h : errCellT t y = true) : errCell y = true := by
 unfold errCellT at h;split at h
 ·rfl
 ·cases h
theorem cut_ext {f : Nat} {g : SG} (hx : ∀ args h, ext f args h = strV g .cut args h) (hg : FullGl p g) {s sep : List Nat} (hl : s.length ≤ 4294967280) :
  FnD p ext f [.lit (.str s), .lit (.str sep)] (.tup [.lit (.str (cutN s sep).1), .lit (.str (cutN s sep).2.1), .lit (.bool (cutN s sep).2.2)]) := by
 intro H ψ S h vs sr k;simp only [VDl] at k;obtain ⟨v, r, rfl, k1, w, r2, rfl, k2, rfl⟩ := k;simp only [VD] at k1 k2;obtain ⟨rfl, _⟩ := k1;obtain ⟨rfl, _⟩ := k2;have hm := (sr.gl g.max _ hg.max).2;refine wpc_ext (v := .tup [.str (cutN s sep).1, .str (cutN s sep).2.1, .bool (cutN s sep).2.2]) (h' := h) ?_ ⟨ψ, S, _, H, .refl, sr, ?_, rfl, rfl⟩
 ·rw [hx];simp only [strV, hm, cond_true];rw [nble.2 hl];rfl
 ·simp [VD, VDl, atomV]
theorem cutS_ext {f : Nat} {g : SG} (hx : ∀ args h, ext f args h = strV g .cutS args h) {s sep : List Nat} (hl : s.length ≤ 4294967280) :
  FnD p ext f [.lit (.str s), .lit (.str sep)] (.tup [.lit (.str (cutSN s sep).1), .lit (.bool (cutSN s sep).2)]) := by
 intro H ψ S h vs sr k;simp only [VDl] at k;obtain ⟨v, r, rfl, k1, w, r2, rfl, k2, rfl⟩ := k;simp only [VD] at k1 k2;obtain ⟨rfl, _⟩ := k1;obtain ⟨rfl, _⟩ := k2;refine wpc_ext (v := .tup [.str (cutSN s sep).1, .bool (cutSN s sep).2]) (h' := h) ?_ ⟨ψ, S, _, H, .refl, sr, ?_, rfl, rfl⟩
 ·rw [hx];simp only [strV];rw [nble.2 hl];rfl
 ·simp [VD, VDl, atomV]
theorem trimP_ext {f : Nat} {g : SG} (hx : ∀ args h, ext f args h = strV g .trimP args h) {s sep : List Nat} :
  FnD p ext f [.lit (.str s), .lit (.str sep)] (.lit (.str (trimPN s sep))) := by
 intro H ψ S h vs sr k;simp only [VDl] at k;obtain ⟨v, r, rfl, k1, w, r2, rfl, k2, rfl⟩ := k;simp only [VD] at k1 k2;obtain ⟨rfl, _⟩ := k1;obtain ⟨rfl, _⟩ := k2;refine wpc_ext (v := .str (trimPN s sep)) (h' := h) ?_ ⟨ψ, S, _, H, .refl, sr, ?_, rfl, rfl⟩
 ·rw [hx]; rfl
 ·simp [VD, atomV]
theorem idxB_ext {f : Nat} {g : SG} (hx : ∀ args h, ext f args h = strV g .idxB args h) {s : List Nat} {c : Nat} (hc : c < 256) :
  FnD p ext f [.lit (.str s), .lit (.int .u8 (c : Int))] (.lit (.int .i64 (oInt (idxBN s c)))) := by
 intro H ψ S h vs sr k;simp only [VDl] at k;obtain ⟨v, r, rfl, k1, w, r2, rfl, k2, rfl⟩ := k;simp only [VD] at k1 k2;obtain ⟨rfl, _⟩ := k1;obtain ⟨rfl, _⟩ := k2;refine wpc_ext (v := .int .i64 (oInt (idxBN s c))) (h' := h) ?_ ⟨ψ, S, _, H, .refl, sr, ?_, rfl, rfl⟩
 ·rw [hx];show strV g .idxB [.str s, .int .u8 (.ofNat c)] h = _;simp only [strV];rw [nblt.2 hc];rfl
 ·simp [VD, atomV]
theorem strs_vdss {h : Hp} {ψ : Nat → Option Nat} {S : Nat → Prop} : ∀ l : List (List Nat), VDss h ψ S 1 (strE l) (l.map V.str)
 | [] => by simp [strE, VDss]
 | s :: l => by
  have := strs_vdss (h := h) (ψ := ψ) (S := S) l;simp only [strE, List.map_cons, VDss, VDp, List.length_singleton, List.drop_succ_cons, List.drop_zero];exact ⟨trivial, ⟨_, _, rfl, by simp [VD, atomV], trivial⟩, this⟩
theorem split_ext {f : Nat} {g : SG} (hx : ∀ args h, ext f args h = strV g .split args h) (hg : FullGl p g) {s : List Nat} {c : Nat} {sep : List Nat} (hl : s.length ≤ 4294967280) :
  FnD p ext f [.lit (.str s), .lit (.str (c :: sep))] (strsD (Vm.splitN s (c :: sep))) := by
 intro H ψ S h vs sr k;simp only [VDl] at k;obtain ⟨v, r, rfl, k1, w, r2, rfl, k2, rfl⟩ := k;simp only [VD] at k1 k2;obtain ⟨rfl, _⟩ := k1;obtain ⟨rfl, _⟩ := k2;have hm := (sr.gl g.max _ hg.max).2;obtain ⟨x1, s1⟩ := sr.newF (y := .cells ((Vm.splitN s (c :: sep)).map .str) false);generalize hsp : Vm.splitN s (c :: sep) = l at *;refine wpc_ext (v := .slice h.next 0 1 l.length l.length true) (h' := h.new (.cells (l.map .str) false)) ?_ ⟨ψ, _, _, H, x1, s1, ?_, rfl, rfl⟩
 ·rw [hx];simp only [strV, hm, cond_true];rw [nble.2 hl, hsp];rfl
 ·simp only [strsD, VD];refine .inr ⟨h.next, 0, l.length, true, by simp [strE], by simp [strE], fun e => (by cases e), .inr ⟨_, false, .inr rfl, by rw [blk_new, if_pos rfl], ?_⟩⟩;exact strs_vdss l
def parseI (s : List Nat) : Int := match parseN s with
 | .ok n => n
 | .syn => 0
 | .rng => satN s
theorem parse_ext {f : Nat} {g : SG} (hx : ∀ args h, ext f args h = strV g .parse args h) (hg : FullGl p g) {s : List Nat} (hl : s.length ≤ 4294967280) :
  FnD p ext f [.lit (.str s), .lit (.int .i64 (.ofNat 10)), .lit (.int .i64 (.ofNat 64))] (.tup [.lit (.int .i64 (parseI s)), .any]) := by
 intro H ψ S h vs sr k;simp only [VDl] at k;obtain ⟨v, r, rfl, k1, w, r2, rfl, k2, w3, r3, rfl, k3, rfl⟩ := k;simp only [VD] at k1 k2 k3;obtain ⟨rfl, _⟩ := k1;obtain ⟨rfl, _⟩ := k2;obtain ⟨rfl, _⟩ := k3;obtain ⟨t1, g1⟩ := hg.syn;obtain ⟨t2, g2⟩ := hg.rng;have h1 := errCell_of (sr.gl g.syn _ g1).2;have h2 := errCell_of (sr.gl g.rng _ g2).2;have hp : ext f [.str s, .int .i64 (.ofNat 10), .int .i64 (.ofNat 64)] h = parsed g s h := (by rw [hx]; rfl);obtain ⟨x1, s1⟩ := sr.newF (y := .gone)
 cases e : parseN s with
 | ok n =>
  refine wpc_ext (v := .tup [.int .i64 n, .niliface]) (h' := h) ?_ ⟨ψ, S, _, H, .refl, sr, ?_, rfl, rfl⟩
  ·rw [hp]; unfold parsed; rw [nble.2 hl, e]; rfl
  ·simp [VD, VDl, atomV, parseI, e];exact ⟨_, _, ⟨rfl, rfl⟩, rfl, _, rfl⟩
 | syn =>
  refine wpc_ext (v := .tup [.int .i64 0, .iface g.tE (.ptr h.next 0)]) (h' := h.new .gone) ?_ ⟨ψ, _, _, H, x1, s1, ?_, rfl, rfl⟩
  ·rw [hp]; unfold parsed; rw [nble.2 hl, e]; show cond (errCell (h.blk g.syn)) _ _ = _; rw [h1]; rfl
  ·simp [VD, VDl, atomV, parseI, e];exact ⟨_, _, ⟨rfl, rfl⟩, rfl, _, rfl⟩
 | rng =>
  refine wpc_ext (v := .tup [.int .i64 (satN s), .iface g.tE (.ptr h.next 0)]) (h' := h.new .gone) ?_ ⟨ψ, _, _, H, x1, s1, ?_, rfl, rfl⟩
  ·rw [hp]; unfold parsed; rw [nble.2 hl, e]; show cond (errCell (h.blk g.rng)) _ _ = _; rw [h2]; rfl
  ·simp [VD, VDl, atomV, parseI, e];exact ⟨_, _, ⟨rfl, rfl⟩, rfl, _, rfl⟩
end Go.Lib
end

section
namespace Go.Lib
open Go.Vm Go.Dv
set_option maxRecDepth 100000
abbrev K212 (F : Nat → Nat) : KC := .seq (.region [⟨some 2,.a (.box (.tmp 0)),none⟩,⟨some 3,.a (.box (.tmp 1)),none⟩,⟨some 4,.p (.mov (.val (.str []))),none⟩] [2,3] [2,3])
 (.seq (.seq (.region [ln 5 1 2,ln 6 8 3,⟨some 7,.e (.call (F 214) [(.tmp 5),(.tmp 6)]),none⟩,⟨some 8,.p (.not (.tmp 7)),none⟩] [] [2,3,8])
 (.cond (.tmp 8) (.seq (.region [⟨some 4,.p (.mov (.val (.str []))),none⟩] [] [4])
 (.ret))
 (.skip)))
 (.seq (.region [ln 9 1 2,ln 10 8 3,⟨some 11,.e (.call (F 215) [(.tmp 9),(.tmp 10)]),none⟩,mv 4 11] [] [4])
 (.ret)))
def M212 (F : Nat → Nat) : Fun := ⟨12,2,(K212 F).erase,[.tmp 4]⟩
theorem ok212 {F : Nat → Nat} : (K212 F).ok = true := by kernel_rfl
abbrev K213 (F : Nat → Nat) : KC := .seq (.region [⟨some 1,.a (.box (.tmp 0)),none⟩,⟨some 2,.p (.mov (.val (.str []))),none⟩] [1] [1])
 (.seq (.block 0 (.seq (.region [fa 7 0 1,l1 8 7,mv 6 8] [] [1,6])
 (.cond (.tmp 6) (.seq (.region [⟨some 2,.p (.mov (.val (.str [110,117,108,108]))),none⟩] [] [2])
 (.ret))
 (.seq (.region [fa 10 1 1,l1 11 10,bi 12 .eql 11 1,mv 9 12] [] [1,9])
 (.cond (.tmp 9) (.seq (.region [fa 13 2 1,l1 14 13,⟨some 15,.e (.call (F 209) [(.tmp 14),(.val (.int .i64 (.ofNat 10)))]),none⟩,mv 2 15] [] [2])
 (.ret))
 (.skip))))))
 (.seq (.region [⟨some 16,.a (.bslice [.int .u8 (.ofNat 0)] 1 1 [(0,1,(.val (.int .u8 (.ofNat 120))))]),none⟩,mv 3 16] [] [1,3])
 (.seq (.seq (.region [fa 17 3 1,l1 18 17,lb 19 18,mi 20 0] [] [3,18,19,20])
 (.block 1 (.loop (.seq (.region [bt 21 .lss 20 19] [] [3,18,19,20,21])
 (.seq (.cond (.tmp 21) (.skip)
 (.exit 1))
 (.seq (.block 2 (.seq (.region [ix 22 1 18 20,l1 23 22,mv 5 23] [] [3,5,18,19,20])
 (.dregion [⟨mv 24 3,0,8⟩,⟨mv 25 5,0,8⟩,⟨⟨some 26,.p (.bin .shr (.tmp 25) (.val (.int .u64 (.ofNat 4)))),none⟩,0,8⟩,⟨⟨some 27,.p (.idxs (.val (.str [48,49,50,51,52,53,54,55,56,57,97,98,99,100,101,102])) (.tmp 26)),none⟩,0,8⟩,⟨mv 28 5,0,8⟩,⟨⟨some 29,.p (.bin .and (.tmp 28) (.val (.int .u8 (.ofNat 15)))),none⟩,0,8⟩,⟨⟨some 30,.p (.idxs (.val (.str [48,49,50,51,52,53,54,55,56,57,97,98,99,100,101,102])) (.tmp 29)),none⟩,0,8⟩,⟨⟨some 31,.a (.bslice [.int .u8 (.ofNat 0),.int .u8 (.ofNat 0)] 1 2 [(0,1,(.tmp 27)),(1,1,(.tmp 30))]),none⟩,0,8⟩,⟨⟨some 32,.e (.append 1 1 (.tmp 24) (.tmp 31)),none⟩,0,10⟩,⟨mv 3 32,9,10⟩] [3,18,19,20])))
 (.region [bi 33 .add 20 1,mv 20 33] [] [3,18,19,20])))))))
 (.seq (.region [mv 34 3,⟨some 35,.e (.text (.tmp 34)),none⟩,mv 2 35] [] [2])
 (.ret)))))
def M213 (F : Nat → Nat) : Fun := ⟨36,1,(K213 F).erase,[.tmp 2]⟩
theorem ok213 {F : Nat → Nat} : (K213 F).ok = true := by kernel_rfl
abbrev K214 (F : Nat → Nat) : KC := .seq (.region [⟨some 2,.a (.box (.tmp 0)),none⟩,⟨some 3,.a (.box (.tmp 1)),none⟩,⟨some 4,.p (.mov (.val (.bool false))),none⟩] [2,3] [2,3])
 (.seq (.region [⟨some 5,.a (.new [.int .i64 (.ofNat 0)]),none⟩,⟨none,.e (.store 1 (.tmp 5) (.val (.int .i64 (.ofNat 0)))),none⟩] [] [2,3,5])
 (.seq (.region [ln 6 1 2,ln 7 8 3,⟨some 8,.e (.call (F 216) [(.tmp 6),(.tmp 7),(.val (.int .i64 (.ofNat 5))),(.tmp 5)]),none⟩,mv 4 8] [] [4])
 (.ret)))
def M214 (F : Nat → Nat) : Fun := ⟨9,2,(K214 F).erase,[.tmp 4]⟩
theorem ok214 {F : Nat → Nat} : (K214 F).ok = true := by kernel_rfl
abbrev K215 (F : Nat → Nat) : KC := .seq (.region [⟨some 2,.a (.box (.tmp 0)),none⟩,⟨some 3,.a (.box (.tmp 1)),none⟩,⟨some 4,.p (.mov (.val (.str []))),none⟩] [2,3] [2,3])
 (.seq (.region [⟨some 5,.p (.mov (.val (.nilslice))),none⟩] [] [2,3,5])
 (.seq (.seq (.region [fa 9 7 3,l1 10 9,lb 11 10,mi 12 0] [] [2,3,5,10,11,12])
 (.block 0 (.loop (.seq (.region [bt 13 .lss 12 11] [] [2,3,5,10,11,12,13])
 (.seq (.cond (.tmp 13) (.skip)
 (.exit 0))
 (.seq (.block 1 (.seq (.region [ix 14 8 10 12,ln 15 8 14,⟨some 7,.a (.new [.int .i64 (.ofNat 0),.int .i64 (.ofNat 0),.int .i64 (.ofNat 0),.bool false,.int .i64 (.ofNat 0),.int .i64 (.ofNat 0),.nilslice,.nilslice]),none⟩,⟨none,.e (.store 8 (.tmp 7) (.tmp 15)),none⟩] [] [2,3,5,7,10,11,12])
 (.region [mv 16 5,ln 17 1 2,ln 18 8 7,⟨some 19,.e (.call (F 215) [(.tmp 17),(.tmp 18)]),none⟩,⟨some 20,.a (.bslice [.str []] 1 1 [(0,1,(.tmp 19))]),none⟩,⟨some 21,.e (.append 1 16 (.tmp 16) (.tmp 20)),none⟩,mv 5 21] [20] [2,3,5,10,11,12])))
 (.region [bi 22 .add 12 1,mv 12 22] [] [2,3,5,10,11,12])))))))
 (.seq (.region [mv 23 5,⟨some 24,.e (.call (F 207) [(.tmp 23),(.val (.str [44]))]),none⟩,⟨some 25,.p (.bin .add (.val (.str [40])) (.tmp 24)),none⟩,⟨some 26,.p (.bin .add (.tmp 25) (.val (.str [41]))),none⟩,mv 8 26] [] [2,3,8])
 (.seq (.seq (.region [fa 27 0 3,l1 28 27] [] [2,3,8,28])
 (.block 2 (.seq (.region [bi 30 .eql 28 2,mv 29 30] [] [2,3,8,28,29])
 (.cond (.tmp 29) (.seq (.dregion [⟨⟨some 39,.e (.call (F 217) []),none⟩,0,3⟩,⟨fa 46 3 3,0,3⟩,⟨ln 47 4 46,0,3⟩,⟨⟨some 48,.e (.call (F 213) [(.tmp 47)]),none⟩,1,20⟩,⟨fa 31 0 2,0,20⟩,⟨l1 32 31,0,20⟩,⟨fa 33 1 3,0,20⟩,⟨l1 34 33,0,20⟩,⟨ix 35 3 32 34,0,20⟩,⟨fa 36 0 35,0,20⟩,⟨l1 37 36,0,20⟩,⟨⟨some 38,.p (.bin .add (.tmp 37) (.val (.str [32]))),none⟩,0,20⟩,⟨fa 40 2 3,0,20⟩,⟨l1 41 40,0,20⟩,⟨ix 42 1 39 41,1,20⟩,⟨l1 43 42,1,20⟩,⟨bt 44 .add 38 43,1,20⟩,⟨⟨some 45,.p (.bin .add (.tmp 44) (.val (.str [32]))),none⟩,1,20⟩,⟨bt 49 .add 45 48,4,20⟩,⟨mv 4 49,4,20⟩] [4])
 (.ret))
 (.seq (.region [bi 51 .eql 28 3,mv 50 51] [] [2,3,8,28,50])
 (.cond (.tmp 50) (.seq (.region [fa 52 0 2,l1 53 52,fa 54 1 3,l1 55 54,ix 56 3 53 55,fa 57 0 56,l1 58 57,⟨some 59,.p (.bin .add (.val (.str [110,117,108,108,32])) (.tmp 58)),none⟩,mv 4 59] [] [4])
 (.ret))
 (.seq (.region [bi 61 .eql 28 4,mv 60 61] [] [8,28,60])
 (.cond (.tmp 60) (.seq (.region [mv 62 8,⟨some 63,.p (.bin .add (.val (.str [97,110,100])) (.tmp 62)),none⟩,mv 4 63] [] [4])
 (.ret))
 (.seq (.region [bi 65 .eql 28 5,mv 64 65] [] [8,28,64])
 (.cond (.tmp 64) (.seq (.region [mv 66 8,⟨some 67,.p (.bin .add (.val (.str [111,114])) (.tmp 66)),none⟩,mv 4 67] [] [4])
 (.ret))
 (.seq (.region [bi 69 .eql 28 6,mv 68 69] [] [8,68])
 (.cond (.tmp 68) (.seq (.region [mv 70 8,⟨some 71,.p (.bin .add (.val (.str [110,111,116])) (.tmp 70)),none⟩,mv 4 71] [] [4])
 (.ret))
 (.skip)))))))))))))
 (.seq (.region [⟨some 4,.p (.mov (.val (.str [116,114,117,101]))),none⟩] [] [4])
 (.ret))))))
def M215 (F : Nat → Nat) : Fun := ⟨72,2,(K215 F).erase,[.tmp 4]⟩
theorem ok215 {F : Nat → Nat} : (K215 F).ok = true := by kernel_rfl
abbrev K216 (F : Nat → Nat) : KC := .seq (.region [⟨some 4,.a (.box (.tmp 0)),none⟩,⟨some 5,.a (.box (.tmp 1)),none⟩,⟨some 8,.p (.mov (.val (.bool false))),none⟩] [4,5] [2,3,4,5])
 (.seq (.region [mv 11 3,⟨some 12,.p (.nilchk (.tmp 11)),none⟩,l1 13 12,bi 14 .add 13 1,⟨some 15,.p (.nilchk (.tmp 11)),none⟩,⟨none,.e (.store 1 (.tmp 15) (.tmp 14)),none⟩] [] [2,3,4,5])
 (.seq (.seq (.region [mv 16 2,bi 17 .eql 16 0,mv 18 17,⟨some 19,.p (.mov (.tmp 3)),(some (18,false))⟩,⟨some 20,.p (.nilchk (.tmp 19)),(some (18,false))⟩,⟨some 21,.load1 (.tmp 20),(some (18,false))⟩,⟨some 22,.p (.bin .gtr (.tmp 21) (.val (.int .i64 (.ofNat 64)))),(some (18,false))⟩,⟨some 23,.p (.pick (.tmp 18) (.val (.bool true)) (.tmp 22)),none⟩,mv 24 23,⟨some 25,.loadn 1 (.tmp 4),(some (24,false))⟩,⟨some 26,.loadn 8 (.tmp 5),(some (24,false))⟩,⟨some 27,.e (.call (F 218) [(.tmp 25),(.tmp 26)]),(some (24,false))⟩,⟨some 28,.p (.not (.tmp 27)),(some (24,false))⟩,⟨some 29,.p (.pick (.tmp 24) (.val (.bool true)) (.tmp 28)),none⟩] [] [2,3,4,5,29])
 (.cond (.tmp 29) (.seq (.region [⟨some 8,.p (.mov (.val (.bool false))),none⟩] [] [8])
 (.ret))
 (.skip)))
 (.seq (.seq (.region [fa 30 7 5,l1 31 30,lb 32 31,mi 33 0] [] [2,3,4,31,32,33])
 (.block 0 (.loop (.seq (.region [bt 34 .lss 33 32] [] [2,3,4,31,32,33,34])
 (.seq (.cond (.tmp 34) (.skip)
 (.exit 0))
 (.seq (.block 1 (.seq (.region [ix 35 8 31 33,ln 36 8 35,⟨some 10,.a (.new [.int .i64 (.ofNat 0),.int .i64 (.ofNat 0),.int .i64 (.ofNat 0),.bool false,.int .i64 (.ofNat 0),.int .i64 (.ofNat 0),.nilslice,.nilslice]),none⟩,⟨none,.e (.store 8 (.tmp 10) (.tmp 36)),none⟩] [] [2,3,4,10,31,32,33])
 (.seq (.region [ln 37 1 4,ln 38 8 10,mv 39 2,bi 40 .sub 39 1,mv 41 3,⟨some 42,.e (.call (F 216) [(.tmp 37),(.tmp 38),(.tmp 40),(.tmp 41)]),none⟩,⟨some 43,.p (.not (.tmp 42)),none⟩] [] [2,3,4,31,32,33,43])
 (.cond (.tmp 43) (.seq (.region [⟨some 8,.p (.mov (.val (.bool false))),none⟩] [] [8])
 (.ret))
 (.skip)))))
 (.region [bi 44 .add 33 1,mv 33 44] [] [2,3,4,31,32,33])))))))
 (.seq (.region [⟨some 8,.p (.mov (.val (.bool true))),none⟩] [] [8])
 (.ret)))))
def M216 (F : Nat → Nat) : Fun := ⟨45,4,(K216 F).erase,[.tmp 8]⟩
theorem ok216 {F : Nat → Nat} : (K216 F).ok = true := by kernel_rfl
abbrev K217 (_F : Nat → Nat) : KC := .seq (.region [⟨some 0,.p (.mov (.val (.nilslice))),none⟩] [] [])
 (.seq (.region [⟨some 1,.a (.bslice [.str [],.str [],.str [],.str [],.str [],.str [],.str []] 1 7 [(0,1,(.val (.str []))),(1,1,(.val (.str [61]))),(2,1,(.val (.str [33,61]))),(3,1,(.val (.str [60]))),(4,1,(.val (.str [60,61]))),(5,1,(.val (.str [62]))),(6,1,(.val (.str [62,61])))]),none⟩,mv 0 1] [1] [0])
 (.ret))
def M217 (F : Nat → Nat) : Fun := ⟨2,0,(K217 F).erase,[.tmp 0]⟩
theorem ok217 {F : Nat → Nat} : (K217 F).ok = true := by kernel_rfl
abbrev K218 (F : Nat → Nat) : KC := .seq (.region [⟨some 2,.a (.box (.tmp 0)),none⟩,⟨some 3,.a (.box (.tmp 1)),none⟩,⟨some 4,.p (.mov (.val (.bool false))),none⟩] [2,3] [2,3])
 (.seq (.region [fa 6 1 3,l1 7 6,bi 8 .geq 7 0,mv 9 8,⟨some 10,.p (.faddr 1 (.tmp 3)),(some (9,true))⟩,⟨some 11,.load1 (.tmp 10),(some (9,true))⟩,⟨some 12,.p (.faddr 0 (.tmp 2)),(some (9,true))⟩,⟨some 13,.load1 (.tmp 12),(some (9,true))⟩,⟨some 14,.p (.lenb (.tmp 13)),(some (9,true))⟩,⟨some 15,.p (.bin .lss (.tmp 11) (.tmp 14)),(some (9,true))⟩,⟨some 16,.p (.pick (.tmp 9) (.tmp 15) (.val (.bool false))),none⟩,mv 5 16] [] [2,3,5])
 (.seq (.seq (.region [fa 17 0 3,l1 18 17] [] [2,3,5,18])
 (.block 0 (.seq (.region [bi 20 .eql 18 1,mv 19 20] [] [2,3,5,18,19])
 (.cond (.tmp 19) (.seq (.region [ln 21 8 3,⟨some 22,.e (.call (F 219) [(.tmp 21)]),none⟩,mv 23 22,⟨some 24,.p (.faddr 7 (.tmp 3)),(some (23,true))⟩,⟨some 25,.load1 (.tmp 24),(some (23,true))⟩,⟨some 26,.p (.lenb (.tmp 25)),(some (23,true))⟩,⟨some 27,.p (.bin .eql (.tmp 26) (.val (.int .i64 (.ofNat 0)))),(some (23,true))⟩,⟨some 28,.p (.pick (.tmp 23) (.tmp 27) (.val (.bool false))),none⟩,mv 4 28] [] [4])
 (.ret))
 (.seq (.region [bi 30 .eql 18 2,mv 29 30] [] [2,3,5,18,29])
 (.cond (.tmp 29) (.seq (.dregion [⟨mv 31 5,0,14⟩,⟨mv 32 31,0,14⟩,⟨⟨some 33,.p (.faddr 2 (.tmp 3)),(some (32,true))⟩,0,14⟩,⟨⟨some 34,.load1 (.tmp 33),(some (32,true))⟩,0,14⟩,⟨⟨some 35,.p (.bin .geq (.tmp 34) (.val (.int .i64 (.ofNat 1)))),(some (32,true))⟩,0,14⟩,⟨⟨some 36,.p (.pick (.tmp 32) (.tmp 35) (.val (.bool false))),none⟩,0,14⟩,⟨mv 37 36,0,14⟩,⟨⟨some 38,.p (.faddr 2 (.tmp 3)),(some (37,true))⟩,0,14⟩,⟨⟨some 39,.load1 (.tmp 38),(some (37,true))⟩,0,14⟩,⟨⟨some 40,.p (.bin .leq (.tmp 39) (.val (.int .i64 (.ofNat 6)))),(some (37,true))⟩,0,14⟩,⟨⟨some 41,.p (.pick (.tmp 37) (.tmp 40) (.val (.bool false))),none⟩,0,14⟩,⟨mv 42 41,0,14⟩,⟨⟨some 43,.p (.faddr 3 (.tmp 3)),(some (42,true))⟩,0,14⟩,⟨⟨some 44,.loadn 4 (.tmp 43),(some (42,true))⟩,0,14⟩,⟨⟨some 45,.e (.call (F 220) [(.tmp 44)]),(some (42,true))⟩,0,42⟩,⟨⟨some 46,.p (.pick (.tmp 42) (.tmp 45) (.val (.bool false))),none⟩,15,42⟩,⟨mv 47 46,15,42⟩,⟨⟨some 48,.p (.faddr 3 (.tmp 3)),(some (47,true))⟩,15,42⟩,⟨⟨some 49,.p (.faddr 0 (.tmp 48)),(some (47,true))⟩,15,42⟩,⟨⟨some 50,.load1 (.tmp 49),(some (47,true))⟩,15,42⟩,⟨⟨some 51,.p (.not (.tmp 50)),(some (47,true))⟩,15,42⟩,⟨⟨some 52,.p (.pick (.tmp 47) (.tmp 51) (.val (.bool false))),none⟩,15,42⟩,⟨mv 53 52,15,42⟩,⟨⟨some 54,.p (.faddr 3 (.tmp 3)),(some (53,true))⟩,15,42⟩,⟨⟨some 55,.p (.faddr 1 (.tmp 54)),(some (53,true))⟩,15,42⟩,⟨⟨some 56,.load1 (.tmp 55),(some (53,true))⟩,15,42⟩,⟨⟨some 57,.p (.faddr 0 (.tmp 2)),(some (53,true))⟩,15,42⟩,⟨⟨some 58,.load1 (.tmp 57),(some (53,true))⟩,15,42⟩,⟨⟨some 59,.p (.faddr 1 (.tmp 3)),(some (53,true))⟩,15,42⟩,⟨⟨some 60,.load1 (.tmp 59),(some (53,true))⟩,15,42⟩,⟨⟨some 61,.p (.iaddr 3 (.tmp 58) (.tmp 60)),(some (53,true))⟩,15,42⟩,⟨⟨some 62,.p (.faddr 1 (.tmp 61)),(some (53,true))⟩,15,42⟩,⟨⟨some 63,.load1 (.tmp 62),(some (53,true))⟩,15,42⟩,⟨⟨some 64,.p (.bin .eql (.tmp 56) (.tmp 63)),(some (53,true))⟩,15,42⟩,⟨⟨some 65,.p (.pick (.tmp 53) (.tmp 64) (.val (.bool false))),none⟩,15,42⟩,⟨mv 66 65,15,42⟩,⟨⟨some 67,.p (.faddr 7 (.tmp 3)),(some (66,true))⟩,15,42⟩,⟨⟨some 68,.load1 (.tmp 67),(some (66,true))⟩,15,42⟩,⟨⟨some 69,.p (.lenb (.tmp 68)),(some (66,true))⟩,15,42⟩,⟨⟨some 70,.p (.bin .eql (.tmp 69) (.val (.int .i64 (.ofNat 0)))),(some (66,true))⟩,15,42⟩,⟨⟨some 71,.p (.pick (.tmp 66) (.tmp 70) (.val (.bool false))),none⟩,15,42⟩,⟨mv 4 71,15,42⟩] [4])
 (.ret))
 (.seq (.region [bi 73 .eql 18 3,mv 72 73] [] [3,5,18,72])
 (.cond (.tmp 72) (.seq (.region [mv 74 5,mv 75 74,⟨some 76,.p (.faddr 2 (.tmp 3)),(some (75,true))⟩,⟨some 77,.load1 (.tmp 76),(some (75,true))⟩,⟨some 78,.p (.bin .eql (.tmp 77) (.val (.int .i64 (.ofNat 0)))),(some (75,true))⟩,⟨some 79,.p (.pick (.tmp 75) (.tmp 78) (.val (.bool false))),none⟩,mv 80 79,⟨some 81,.p (.faddr 3 (.tmp 3)),(some (80,true))⟩,⟨some 82,.loadn 4 (.tmp 81),(some (80,true))⟩,⟨some 83,.e (.call (F 221) [(.tmp 82)]),(some (80,true))⟩,⟨some 84,.p (.pick (.tmp 80) (.tmp 83) (.val (.bool false))),none⟩,mv 85 84,⟨some 86,.p (.faddr 7 (.tmp 3)),(some (85,true))⟩,⟨some 87,.load1 (.tmp 86),(some (85,true))⟩,⟨some 88,.p (.lenb (.tmp 87)),(some (85,true))⟩,⟨some 89,.p (.bin .eql (.tmp 88) (.val (.int .i64 (.ofNat 0)))),(some (85,true))⟩,⟨some 90,.p (.pick (.tmp 85) (.tmp 89) (.val (.bool false))),none⟩,mv 4 90] [] [4])
 (.ret))
 (.seq (.seq (.region [bi 92 .eql 18 4,mv 91 92] [] [3,18,91])
 (.cond (.tmp 91) (.skip)
 (.region [bi 93 .eql 18 5,mv 91 93] [] [3,18,91])))
 (.cond (.tmp 91) (.seq (.region [ln 94 8 3,⟨some 95,.e (.call (F 219) [(.tmp 94)]),none⟩,mv 96 95,⟨some 97,.p (.faddr 7 (.tmp 3)),(some (96,true))⟩,⟨some 98,.load1 (.tmp 97),(some (96,true))⟩,⟨some 99,.p (.lenb (.tmp 98)),(some (96,true))⟩,⟨some 100,.p (.bin .leq (.tmp 99) (.val (.int .i64 (.ofNat 8)))),(some (96,true))⟩,⟨some 101,.p (.pick (.tmp 96) (.tmp 100) (.val (.bool false))),none⟩,mv 4 101] [] [4])
 (.ret))
 (.seq (.region [bi 103 .eql 18 6,mv 102 103] [] [3,102])
 (.cond (.tmp 102) (.seq (.region [ln 104 8 3,⟨some 105,.e (.call (F 219) [(.tmp 104)]),none⟩,mv 106 105,⟨some 107,.p (.faddr 7 (.tmp 3)),(some (106,true))⟩,⟨some 108,.load1 (.tmp 107),(some (106,true))⟩,⟨some 109,.p (.lenb (.tmp 108)),(some (106,true))⟩,⟨some 110,.p (.bin .eql (.tmp 109) (.val (.int .i64 (.ofNat 1)))),(some (106,true))⟩,⟨some 111,.p (.pick (.tmp 106) (.tmp 110) (.val (.bool false))),none⟩,mv 4 111] [] [4])
 (.ret))
 (.skip)))))))))))))
 (.seq (.region [⟨some 4,.p (.mov (.val (.bool false))),none⟩] [] [4])
 (.ret))))
def M218 (F : Nat → Nat) : Fun := ⟨112,2,(K218 F).erase,[.tmp 4]⟩
theorem ok218 {F : Nat → Nat} : (K218 F).ok = true := by kernel_rfl
abbrev K219 (F : Nat → Nat) : KC := .seq (.region [⟨some 1,.a (.box (.tmp 0)),none⟩,⟨some 2,.p (.mov (.val (.bool false))),none⟩] [1] [1])
 (.seq (.region [fa 3 1 1,l1 4 3,bi 5 .eql 4 0,mv 6 5,⟨some 7,.p (.faddr 2 (.tmp 1)),(some (6,true))⟩,⟨some 8,.load1 (.tmp 7),(some (6,true))⟩,⟨some 9,.p (.bin .eql (.tmp 8) (.val (.int .i64 (.ofNat 0)))),(some (6,true))⟩,⟨some 10,.p (.pick (.tmp 6) (.tmp 9) (.val (.bool false))),none⟩,mv 11 10,⟨some 12,.p (.faddr 3 (.tmp 1)),(some (11,true))⟩,⟨some 13,.loadn 4 (.tmp 12),(some (11,true))⟩,⟨some 14,.e (.call (F 221) [(.tmp 13)]),(some (11,true))⟩,⟨some 15,.p (.pick (.tmp 11) (.tmp 14) (.val (.bool false))),none⟩,mv 2 15] [] [2])
 (.ret))
def M219 (F : Nat → Nat) : Fun := ⟨16,1,(K219 F).erase,[.tmp 2]⟩
theorem ok219 {F : Nat → Nat} : (K219 F).ok = true := by kernel_rfl
abbrev K220 (_F : Nat → Nat) : KC := .seq (.region [⟨some 1,.a (.box (.tmp 0)),none⟩,⟨some 2,.p (.mov (.val (.bool false))),none⟩] [1] [1])
 (.seq (.block 0 (.seq (.region [fa 4 1 1,l1 5 4,bi 6 .neq 5 1,mv 7 6,⟨some 8,.p (.faddr 1 (.tmp 1)),(some (7,true))⟩,⟨some 9,.load1 (.tmp 8),(some (7,true))⟩,⟨some 10,.p (.bin .neq (.tmp 9) (.val (.int .i64 (.ofNat 2)))),(some (7,true))⟩,⟨some 11,.p (.pick (.tmp 7) (.tmp 10) (.val (.bool false))),none⟩,mv 3 11] [] [1,3])
 (.cond (.tmp 3) (.seq (.region [⟨some 2,.p (.mov (.val (.bool false))),none⟩] [] [2])
 (.ret))
 (.seq (.region [fa 13 0 1,l1 14 13,mv 12 14] [] [1,12])
 (.cond (.tmp 12) (.seq (.region [fa 15 2 1,l1 16 15,bi 17 .eql 16 0,mv 18 17,⟨some 19,.p (.faddr 3 (.tmp 1)),(some (18,true))⟩,⟨some 20,.load1 (.tmp 19),(some (18,true))⟩,⟨some 21,.p (.lenb (.tmp 20)),(some (18,true))⟩,⟨some 22,.p (.bin .eql (.tmp 21) (.val (.int .i64 (.ofNat 0)))),(some (18,true))⟩,⟨some 23,.p (.pick (.tmp 18) (.tmp 22) (.val (.bool false))),none⟩,mv 2 23] [] [2])
 (.ret))
 (.seq (.region [fa 25 1 1,l1 26 25,bi 27 .eql 26 1,mv 24 27] [] [1,24])
 (.cond (.tmp 24) (.seq (.region [fa 28 3 1,l1 29 28,lb 30 29,bi 31 .eql 30 0,mv 2 31] [] [2])
 (.ret))
 (.skip))))))))
 (.seq (.region [fa 32 2 1,l1 33 32,bi 34 .eql 33 0,mv 35 34,⟨some 36,.p (.faddr 3 (.tmp 1)),(some (35,true))⟩,⟨some 37,.load1 (.tmp 36),(some (35,true))⟩,⟨some 38,.p (.lenb (.tmp 37)),(some (35,true))⟩,⟨some 39,.p (.bin .leq (.tmp 38) (.val (.int .i64 (.ofNat 64)))),(some (35,true))⟩,⟨some 40,.p (.pick (.tmp 35) (.tmp 39) (.val (.bool false))),none⟩,mv 2 40] [] [2])
 (.ret)))
def M220 (F : Nat → Nat) : Fun := ⟨41,1,(K220 F).erase,[.tmp 2]⟩
theorem ok220 {F : Nat → Nat} : (K220 F).ok = true := by kernel_rfl
abbrev K221 (F : Nat → Nat) : KC := .seq (.region [⟨some 1,.a (.box (.tmp 0)),none⟩,⟨some 2,.p (.mov (.val (.bool false))),none⟩] [1] [1])
 (.seq (.region [ln 3 4 1,⟨some 4,.p (.build [.bool false,.int .i64 (.ofNat 0),.int .i64 (.ofNat 0),.nilslice] []),none⟩,⟨some 5,.e (.call (F 6) [(.tmp 3),(.tmp 4)]),none⟩,mv 2 5] [] [2])
 (.ret))
def M221 (F : Nat → Nat) : Fun := ⟨6,1,(K221 F).erase,[.tmp 2]⟩
theorem ok221 {F : Nat → Nat} : (K221 F).ok = true := by kernel_rfl
end Go.Lib
end
