/-
  Texts that the claim's last one rests on, joined.
-/
import Derived.Test.YtcoghkkhjaokmaaDoorBReptApartc
import Derived.Lib.SplitLaws
import Derived.Lib.ItoaNum
import Derived.Lib.ParseIntBTie
import Derived.Lib.Join
import Derived.Lib.Bytealg
import Derived.Lib.LaidTab
import Derived.Sort.Grow
import Derived.RowKit
import Derived.Deep.Draws
import Derived.Test.YtcoghkkhjaokmaaDoorBReptApartf

section
namespace Go.Vm
open Go.RowKit
variable {P : Program}
def pfx : List Nat → List Nat → Bool
  | [], _ => true
  | _ :: _, [] => false
  | a :: x, b :: y => cond (Nat.beq a b) (pfx x y) false
def indexN : List Nat → List Nat → Option Nat
  | [], sub => match sub with
    | [] => some 0
    | _ :: _ => none
  | b :: l, sub => cond (pfx sub (b :: l)) (some 0) (match indexN l sub with
    | some i => some (i + 1)
    | none => none)
def cutN (s sep : List Nat) : List Nat × List Nat × Bool := match indexN s sep with
  | some i => (s.take i, s.drop (i + sep.length), true)
  | none => (s, [], false)
def splitF : Nat → List Nat → List Nat → List (List Nat)
  | 0, s, _ => [s]
  | f + 1, s, sep => match indexN s sep with
    | some i => s.take i :: splitF f (s.drop (i + sep.length)) sep
    | none => [s]
def splitN (s sep : List Nat) : List (List Nat) := splitF (s.length + 1) s sep
def sfx (p s : List Nat) : Bool := pfx p.reverse s.reverse
def cutSN (s p : List Nat) : List Nat × Bool := cond (sfx p s) (s.take (s.length - p.length), true) (s, false)
def trimPN (s p : List Nat) : List Nat := cond (pfx p s) (s.drop p.length) s
def idxBN : List Nat → Nat → Option Nat
  | [], _ => none
  | b :: l, c => cond (Nat.beq b c) (some 0) (match idxBN l c with
    | some i => some (i + 1)
    | none => none)
def oInt : Option Nat → Int
  | some i => .ofNat i
  | none => .negSucc 0
def joinT (sep : List Nat) : List (List Nat) → List Nat
  | [] => []
  | x :: l => sep ++ (x ++ joinT sep l)
def joinN : List (List Nat) → List Nat → List Nat
  | [], _ => []
  | x :: l, sep => x ++ joinT sep l
def digN : Nat → Nat → List Nat
  | 0, u => [48 + Nat.mod u 10]
  | f + 1, u => cond (Nat.blt u 10) [48 + u] (digN f (Nat.div u 10) ++ [48 + Nat.mod u 10])
def itoaN : Int → List Nat
  | .ofNat n => digN 20 n
  | .negSucc n => 45 :: digN 20 (n + 1)
inductive Pe where
  | ok (n : Int)
  | syn
  | rng
def magN (acc : Nat) : List Nat → Pe
  | [] => .ok (.ofNat acc)
  | c :: r => cond (Nat.ble 48 c) (cond (Nat.ble c 57)
      (cond (Nat.ble 1844674407370955162 acc) .rng (cond (Nat.blt 18446744073709551615 (acc * 10 + (c - 48))) .rng (magN (acc * 10 + (c - 48)) r))) .syn) .syn
def signN (neg : Bool) : Pe → Pe
  | .ok (.ofNat u) => cond neg (cond (Nat.blt 9223372036854775808 u) .rng (.ok (Int.neg (.ofNat u)))) (cond (Nat.ble 9223372036854775808 u) .rng (.ok (.ofNat u)))
  | .ok (.negSucc _) => .rng
  | .syn => .syn
  | .rng => .rng
def mag0 (l : List Nat) : Pe := match l with
  | [] => .syn
  | _ :: _ => magN 0 l
def parseN (l : List Nat) : Pe := match l with
  | [] => .syn
  | c :: r => cond (Nat.beq c 45) (signN true (mag0 r)) (cond (Nat.beq c 43) (signN false (mag0 r)) (signN false (mag0 l)))
def satN (l : List Nat) : Int := match l with
  | [] => .ofNat 9223372036854775807
  | c :: _ => cond (Nat.beq c 45) (.negSucc 9223372036854775807) (.ofNat 9223372036854775807)
theorem oInt_next (x : Option Nat) : (if oInt x == -1 then -1 else oInt x + 1) = oInt (match x with
    | some i => some (i + 1)
    | none => none) := by
  cases x with
  | none => rfl
  | some i =>
    have : (oInt (some i) == -1) = false := by rw [beq_eq_false_iff_ne]; show (i : Int) ≠ -1; omega
    rw [this]; rfl
def nb (l : List UInt8) : List Nat := l.map UInt8.toNat
theorem beq_u8 (a b : UInt8) : Nat.beq a.toNat b.toNat = (a == b) := by
  by_cases h : a = b
  · subst h; simp
  · have : a.toNat ≠ b.toNat := fun e => h (UInt8.toNat_inj.1 e)
    have e1 : Nat.beq a.toNat b.toNat = false := by
      cases e : Nat.beq a.toNat b.toNat with
      | false => rfl
      | true => exact absurd (Nat.eq_of_beq_eq_true e) this
    rw [e1]; symm; simpa using h
theorem pfx_nb : ∀ a b : List UInt8, pfx (nb a) (nb b) = a.isPrefixOf b
  | [], b => by cases b <;> rfl
  | _ :: _, [] => rfl
  | a :: x, b :: y => by
    have := pfx_nb x y
    simp only [nb, List.map_cons, pfx, beq_u8, List.isPrefixOf] at this ⊢
    rw [this]
    cases a == b <;> rfl
theorem indexN_nb : ∀ l sub : List UInt8, Lib.index l sub = oInt (indexN (nb l) (nb sub))
  | [], sub => by cases sub <;> rfl
  | b :: l, sub => by
    have ih := indexN_nb l sub
    have hp := pfx_nb sub (b :: l)
    have e : nb (b :: l) = b.toNat :: nb l := rfl
    rw [e] at hp ⊢
    unfold Lib.index
    simp only [indexN, hp]
    cases hpp : sub.isPrefixOf (b :: l) with
    | true => rfl
    | false =>
      simp only [cond_false, Bool.false_eq_true, if_false]
      rw [ih]
      exact oInt_next _
theorem nb_take (n : Nat) (l : List UInt8) : nb (l.take n) = (nb l).take n := by simp [nb]
theorem nb_drop (n : Nat) (l : List UInt8) : nb (l.drop n) = (nb l).drop n := by simp [nb]
theorem nb_length (l : List UInt8) : (nb l).length = l.length := by simp [nb]
theorem nb_append (a b : List UInt8) : nb (a ++ b) = nb a ++ nb b := by simp [nb]
theorem cutN_nb (s sep : List UInt8) : cutN (nb s) (nb sep) = (nb (Lib.cut s sep).1, nb (Lib.cut s sep).2.1, (Lib.cut s sep).2.2) := by
  unfold cutN Lib.cut
  have hi := indexN_nb s sep
  cases e : indexN (nb s) (nb sep) with
  | none =>
    rw [e] at hi
    have hi : Lib.index s sep = -1 := hi
    rw [hi, if_neg (by decide)]
    rfl
  | some i =>
    rw [e] at hi
    have hi : Lib.index s sep = (i : Int) := hi
    rw [hi, if_pos (Int.natCast_nonneg i)]
    simp [nb_take, nb_drop, nb_length]
theorem splitK_nb (sep : List UInt8) (hs : sep ≠ []) : ∀ (f : Nat) (s : List UInt8), s.length < f → (Lib.splitK sep 0 (Lib.count s sep) s).map nb = splitF f (nb s) (nb sep)
  | 0, s, h => by omega
  | f + 1, s, h => by
    have hi := indexN_nb s sep
    simp only [splitF]
    cases e : indexN (nb s) (nb sep) with
    | none =>
      rw [e] at hi
      rw [Lib.count_miss hi]
      rfl
    | some i =>
      rw [e] at hi
      have hi : Lib.index s sep = (i : Int) := hi
      rw [Lib.count_hit hs hi, Nat.add_comm]
      simp only [Lib.splitK, hi]
      rw [if_neg (by simp)]
      simp only [List.map_cons, Int.toNat_natCast, Nat.add_zero]
      rw [splitK_nb sep hs f]
      · simp [nb_take, nb_drop, nb_length]
      · have hr := Lib.index_room s sep (by rw [hi]; omega)
        rw [hi] at hr
        have : 1 ≤ sep.length := by cases sep with
          | nil => exact absurd rfl hs
          | cons => simp
        rw [List.length_drop]; omega
theorem sfx_nb (p s : List UInt8) : sfx (nb p) (nb s) = Lib.hasSuffix s p := by
  unfold sfx Lib.hasSuffix List.isSuffixOf
  rw [← pfx_nb]
  simp [nb]
theorem cutSN_nb (s p : List UInt8) : cutSN (nb s) (nb p) = (nb (Lib.trimSuffix s p), Lib.hasSuffix s p) := by
  unfold cutSN Lib.trimSuffix
  rw [sfx_nb]
  cases Lib.hasSuffix s p <;> simp [nb_take, nb_length]
theorem trimPN_nb (s p : List UInt8) : trimPN (nb s) (nb p) = nb (Lib.trimPrefix s p) := by
  unfold trimPN Lib.trimPrefix Lib.hasPrefix
  rw [pfx_nb]
  cases p.isPrefixOf s <;> simp [nb_drop, nb_length]
theorem idxBN_nb : ∀ (l : List UInt8) (c : UInt8), Lib.indexByte l c = oInt (idxBN (nb l) c.toNat)
  | [], _ => rfl
  | b :: l, c => by
    have ih := idxBN_nb l c
    have e : nb (b :: l) = b.toNat :: nb l := rfl
    rw [e]
    unfold Lib.indexByte
    simp only [idxBN, beq_u8]
    cases hb : b == c with
    | true => rfl
    | false =>
      simp only [cond_false, Bool.false_eq_true, if_false]
      rw [ih]
      exact oInt_next _
theorem joinT_nb (sep : List UInt8) : ∀ r : List (List UInt8), nb (Lib.joinTail sep r) = joinT (nb sep) (r.map nb)
  | [] => rfl
  | x :: r => by
    have := joinT_nb sep r
    simp only [Lib.joinTail, List.map_cons, List.flatten_cons, nb_append, joinT] at this ⊢
    rw [this, List.append_assoc]
theorem joinN_nb (xs : List (List UInt8)) (sep : List UInt8) : nb (Lib.join xs sep) = joinN (xs.map nb) (nb sep) := by
  cases xs with
  | nil => rfl
  | cons x r => rw [Lib.join_cons, nb_append, joinT_nb]; rfl
theorem digN_dec : ∀ (f u : Nat), u < 10 ^ (f + 1) → digN f u = nb (Lib.decDigits u)
  | 0, u, h => by
    have h : u < 10 := by simpa using h
    rw [Lib.decDigits, dif_pos h]
    show [48 + u % 10] = _
    simp [nb, Nat.mod_eq_of_lt h]
    omega
  | f + 1, u, h => by
    simp only [digN]
    by_cases h10 : u < 10
    · rw [show Nat.blt u 10 = true from nblt.2 h10, Lib.decDigits, dif_pos h10]
      simp [nb]; omega
    · have : Nat.blt u 10 = false := by
        cases e : Nat.blt u 10 with
        | false => rfl
        | true => exact absurd (nblt.1 e) h10
      rw [this, Lib.decDigits, dif_neg h10, nb_append]
      show digN f (u / 10) ++ [48 + u % 10] = _
      rw [digN_dec f (u / 10) (by rw [Nat.pow_succ] at h; omega)]
      simp [nb]; omega
theorem itoaN_nb {n : Int} (h0 : -9223372036854775808 ≤ n) (h1 : n ≤ 9223372036854775807) : itoaN n = nb (Lib.itoa n) := by
  have hp : (10 : Nat) ^ 21 = 1000000000000000000000 := by decide
  cases n with
  | ofNat n =>
    have h1 : (n : Int) ≤ 9223372036854775807 := h1
    unfold Lib.itoa
    rw [if_neg (by simp)]
    exact digN_dec 20 n (by omega)
  | negSucc n =>
    unfold Lib.itoa
    rw [if_pos (by omega)]
    show 45 :: digN 20 (n + 1) = _
    rw [digN_dec 20 (n + 1) (by omega)]
    rfl
def peOf : Lib.NumEnd Int → Pe
  | .ok v => .ok v
  | .range => .rng
  | _ => .syn
def peN : Lib.NumEnd Nat → Pe
  | .ok v => .ok (.ofNat v)
  | .range => .rng
  | _ => .syn
theorem magN_nb : ∀ (l : List UInt8) (acc : Nat), magN acc (nb l) = peN (Lib.parseUintM (2 ^ 64 - 1) acc l)
  | [], _ => rfl
  | c :: r, acc => by
    have e : nb (c :: r) = c.toNat :: nb r := rfl
    rw [e]
    have hM : (2 : Nat) ^ 64 - 1 = 18446744073709551615 := by decide
    simp only [magN, Lib.parseUintM, hM]
    have ih := magN_nb r (acc * 10 + (c.toNat - 48))
    rw [hM] at ih
    rw [ih]
    by_cases h1 : 48 ≤ c.toNat
    · by_cases h2 : c.toNat ≤ 57
      · rw [nble.2 h1, nble.2 h2, if_pos ⟨h1, h2⟩]
        simp only [cond_true]
        by_cases h3 : 1844674407370955162 ≤ acc
        · rw [nble.2 h3, if_pos h3]; rfl
        · rw [if_neg h3, show Nat.ble 1844674407370955162 acc = false from by rw [nble_d]; exact decide_eq_false h3]
          simp only [cond_false]
          by_cases h4 : 18446744073709551615 < acc * 10 + (c.toNat - 48)
          · rw [nblt.2 h4, if_pos h4]; rfl
          · rw [if_neg h4, show Nat.blt 18446744073709551615 (acc * 10 + (c.toNat - 48)) = false from by rw [nblt_d]; exact decide_eq_false h4]
            rfl
      · rw [nble.2 h1, show Nat.ble c.toNat 57 = false from by rw [nble_d]; exact decide_eq_false h2, if_neg (fun h => h2 h.2)]
        rfl
    · rw [show Nat.ble 48 c.toNat = false from by rw [nble_d]; exact decide_eq_false h1, if_neg (fun h => h1 h.1)]
      rfl
theorem mag0_nb (l : List UInt8) : mag0 (nb l) = peN (Lib.parseUintB 64 l) := by
  cases l with
  | nil => rfl
  | cons c r =>
    unfold Lib.parseUintB
    rw [if_neg (by simp)]
    exact magN_nb (c :: r) 0
theorem parseN_nb (l : List UInt8) : parseN (nb l) = peOf (Lib.parseIntB 64 l) := by
  cases l with
  | nil => rfl
  | cons c r =>
    have e : nb (c :: r) = c.toNat :: nb r := rfl
    have h63 : (2 : Nat) ^ (64 - 1) = 9223372036854775808 := by decide
    have hm := mag0_nb (c :: r)
    rw [e] at hm ⊢
    simp only [parseN, Lib.parseIntB, mag0_nb r, hm, h63]
    by_cases h45 : c.toNat = 45
    · rw [h45]
      simp only [or_true, if_true, not_true_eq_false, false_and, if_false, true_and]
      rw [show Nat.beq 45 45 = true from rfl]
      simp only [cond_true]
      have fin : ∀ u : Nat, signN true (.ok (.ofNat u)) = peOf (if 9223372036854775808 < u then Lib.NumEnd.range else .ok (-(u : Int))) := by
        intro u
        simp only [signN, cond_true]
        by_cases hu : 9223372036854775808 < u
        · rw [nblt.2 hu, if_pos hu]; rfl
        · rw [if_neg hu, show Nat.blt 9223372036854775808 u = false from by rw [nblt_d]; exact decide_eq_false hu]; rfl
      cases Lib.parseUintB 64 r
      · exact fin _
      · rfl
      · rfl
    · have hb : Nat.beq c.toNat 45 = false := by rw [nbeq_d]; exact decide_eq_false h45
      rw [hb]
      simp only [h45, or_false, cond_false, not_false_eq_true, true_and, if_false, false_and]
      have fin : ∀ u : Nat, signN false (.ok (.ofNat u)) = peOf (if 9223372036854775808 ≤ u then Lib.NumEnd.range else .ok (u : Int)) := by
        intro u
        simp only [signN, cond_false]
        by_cases hu : 9223372036854775808 ≤ u
        · rw [nble.2 hu, if_pos hu]; rfl
        · rw [if_neg hu, show Nat.ble 9223372036854775808 u = false from by rw [nble_d]; exact decide_eq_false hu]; rfl
      by_cases h43 : c.toNat = 43
      · rw [h43]
        rw [show Nat.beq 43 43 = true from rfl]
        simp only [cond_true, if_true]
        cases Lib.parseUintB 64 r
        · exact fin _
        · rfl
        · rfl
      · rw [show Nat.beq c.toNat 43 = false from by rw [nbeq_d]; exact decide_eq_false h43]
        simp only [cond_false, h43, if_false]
        cases Lib.parseUintB 64 (c :: r)
        · exact fin _
        · rfl
        · rfl
theorem satN_nb (l : List UInt8) : satN (nb l) = Lib.intSat 64 l := by
  cases l with
  | nil => rfl
  | cons c r =>
    have e : nb (c :: r) = c.toNat :: nb r := rfl
    rw [e, Lib.intSat_64]
    simp only [satN, Lib.atoiSat, List.head?_cons, Option.map_some]
    by_cases h : c.toNat = 45
    · rw [show Nat.beq c.toNat 45 = true from nbeq.2 h]; simp [h]
    · rw [show Nat.beq c.toNat 45 = false from by rw [nbeq_d]; exact decide_eq_false h]; simp [h]
structure SG where
  max : Nat
  syn : Nat
  rng : Nat
  pow : Nat
  tE : Nat
inductive Sk where
  | cut | idx | split | cutS | trimP | trimS | idxB | join | itoa | fmt | parse | atoi
def intCell : Blk → Bool
  | .cells (.int .i64 _ :: _) true => true
  | _ => false
def errCell : Blk → Bool
  | .cells (.iface _ _ :: _) true => true
  | _ => false
def powL : Nat → Nat → List V
  | 0, _ => []
  | n + 1, x => .int .u64 (.ofNat x) :: powL n (x * 10)
def powCells : Blk → Bool
  | .whole l => V.sames l (powL 20 1)
  | _ => false
def strsOf : List V → Option (List (List Nat))
  | [] => some []
  | .str s :: l => match strsOf l with
    | some r => some (s :: r)
    | none => none
  | _ => none
def strsV (h : Hp) : V → Option (List (List Nat))
  | .nilslice => some []
  | .slice b o sz len _ _ => cond (Nat.beq sz 1) (match h.read b o len with
    | some l => strsOf l
    | none => none) none
  | _ => none
def numErr (g : SG) (n : Int) (h : Hp) : Option (V × Hp) := some (.tup [.int .i64 n, .iface g.tE (.ptr h.next 0)], h.new .gone)
def parsed (g : SG) (s : List Nat) (h : Hp) : Option (V × Hp) := cond (Nat.ble s.length 4294967280) (match parseN s with
  | .ok n => some (.tup [.int .i64 n, .niliface], h)
  | .syn => cond (errCell (h.blk g.syn)) (numErr g 0 h) none
  | .rng => cond (errCell (h.blk g.rng)) (numErr g (satN s) h) none) none
def strV (g : SG) (k : Sk) (args : List V) (h : Hp) : Option (V × Hp) :=
  match k with
  | .cut => match args with
    | [.str s, .str sep] => cond (intCell (h.blk g.max)) (cond (Nat.ble s.length 4294967280) (match cutN s sep with
      | (a, b, c) => some (.tup [.str a, .str b, .bool c], h)) none) none
    | _ => none
  | .idx => match args with
    | [.str s, .str sep] => cond (intCell (h.blk g.max)) (cond (Nat.ble s.length 4294967280) (some (.int .i64 (oInt (indexN s sep)), h)) none) none
    | _ => none
  | .split => match args with
    | [.str s, .str (c :: sep)] => cond (intCell (h.blk g.max)) (cond (Nat.ble s.length 4294967280)
        (match splitN s (c :: sep) with
        | l => some (.slice h.next 0 1 l.length l.length true, h.new (.cells (l.map .str) false))) none) none
    | _ => none
  | .cutS => match args with
    | [.str s, .str p] => cond (Nat.ble s.length 4294967280) (match cutSN s p with
      | (a, c) => some (.tup [.str a, .bool c], h)) none
    | _ => none
  | .trimP => match args with
    | [.str s, .str p] => some (.str (trimPN s p), h)
    | _ => none
  | .trimS => match args with
    | [.str s, .str p] => cond (Nat.ble s.length 4294967280) (some (.str (cutSN s p).1, h)) none
    | _ => none
  | .idxB => match args with
    | [.str s, .int .u8 (.ofNat c)] => cond (Nat.blt c 256) (some (.int .i64 (oInt (idxBN s c)), h)) none
    | _ => none
  | .join => match args with
    | [x, .str sep] => match strsV h x with
      | some xs => cond (Nat.ble (joinN xs sep).length 4294967280) (cond (Nat.ble xs.length 4294967280) (some (.str (joinN xs sep), h)) none) none
      | none => none
    | _ => none
  | .itoa => match args with
    | [.int .i64 n] => cond (powCells (h.blk g.pow)) (cond (ieq (wr .i64 n) n) (some (.str (itoaN n), h)) none) none
    | _ => none
  | .fmt => match args with
    | [.int .i64 n, .int .i64 (.ofNat b)] => cond (Nat.beq b 10) (cond (powCells (h.blk g.pow)) (cond (ieq (wr .i64 n) n) (some (.str (itoaN n), h)) none) none) none
    | _ => none
  | .parse => match args with
    | [.str s, .int .i64 (.ofNat b), .int .i64 (.ofNat z)] => cond (Nat.beq b 10) (cond (Nat.beq z 64) (parsed g s h) none) none
    | _ => none
  | .atoi => match args with
    | [.str s] => parsed g s h
    | _ => none
def strX (g : SG) : List (Nat × Sk) → Ext
  | [], _, _, _ => none
  | (i, k) :: l, f, args, h => cond (Nat.beq i f) (strV g k args h) (strX g l f args h)
def str (l : List UInt8) : Value := .string ⟨l.toArray⟩
def PowIs (w : World) (g : Nat) : Prop := ∃ e fz, w.heap[g]? = some (.cells (Lib.pow10Tab.map fun z => Value.int .u64 z).toArray e fz)
def SkK (P : Program) (g : SG) (f : Nat) : Sk → Prop
  | .cut => ∀ (s sep : ByteArray) (m : Int) (w : World), s.size < 4294967281 → w.cell? ⟨g.max, 0, none⟩ = some (.int .i64 m) →
      Calls P f #[.string s, .string sep] w fun e w' => e = .returned (.tuple #[str (Lib.cut s.data.toList sep.data.toList).1, str (Lib.cut s.data.toList sep.data.toList).2.1, .bool (Lib.cut s.data.toList sep.data.toList).2.2]) ∧ ∃ n, w' = w.drewN n
  | .idx => ∀ (s sep : ByteArray) (m : Int) (w : World), s.size < 4294967281 → w.cell? ⟨g.max, 0, none⟩ = some (.int .i64 m) →
      Calls P f #[.string s, .string sep] w fun e w' => e = .returned (.int .i64 (Lib.index s.data.toList sep.data.toList)) ∧ w' = w
  | .split => ∃ t, ∀ (s sep : ByteArray) (m : Int) (w : World), s.size < 4294967281 → w.cell? ⟨g.max, 0, none⟩ = some (.int .i64 m) → 1 ≤ sep.size →
      Calls P f #[.string s, .string sep] w fun e w' => e = .returned (.slice (some ⟨w.heap.size, 0, none⟩) (Lib.countB s sep + 1) (Lib.countB s sep + 1)) ∧ w' = w.alloc (.cells ((Lib.splitB sep 0 (Lib.countB s sep) s).map Value.string).toArray t)
  | .cutS => ∀ (s p : ByteArray) (w : World), s.size ≤ 9223372036854775807 →
      Calls P f #[.string s, .string p] w fun e w' => e = .returned (.tuple #[str (Lib.trimSuffix s.data.toList p.data.toList), .bool (Lib.hasSuffix s.data.toList p.data.toList)]) ∧ w' = w
  | .trimP => ∀ (s p : ByteArray) (w : World), Calls P f #[.string s, .string p] w fun e w' => e = .returned (str (Lib.trimPrefix s.data.toList p.data.toList)) ∧ w' = w
  | .trimS => ∀ (s p : ByteArray) (w : World), s.size ≤ 9223372036854775807 → Calls P f #[.string s, .string p] w fun e w' => e = .returned (str (Lib.trimSuffix s.data.toList p.data.toList)) ∧ w' = w
  | .idxB => ∀ (s : ByteArray) (c : Int) (w : World), Calls P f #[.string s, .int .u8 c] w fun e w' => e = .returned (.int .i64 (Lib.indexByte s.data.toList c.toNat.toUInt8)) ∧ w' = w
  | .join => (∀ (a : Option Addr) (c : Nat) (sep : ByteArray) (w : World), Calls P f #[.slice a 0 c, .string sep] w fun e w' => e = .returned (.string .empty) ∧ w' = w) ∧
      ∀ (bk o c : Nat) (xs : List ByteArray) (sep : ByteArray) (w : World), (∀ (j : Nat) x, xs[j]? = some x → w.cell? ⟨bk, o + j, none⟩ = some (.string x)) → bk < w.heap.size → xs.length ≤ 140737488355328 → xs.length ≤ c →
        (Lib.join (xs.map (·.data.toList)) sep.data.toList).length ≤ 140737488355328 →
        Calls P f #[.slice (some ⟨bk, o, none⟩) xs.length c, .string sep] w fun e w' => e = .returned (str (Lib.join (xs.map (·.data.toList)) sep.data.toList)) ∧ Below w.heap.size w w'
  | .itoa => ∀ (n : Int) (w : World), -9223372036854775808 ≤ n → n ≤ 9223372036854775807 → PowIs w g.pow →
      Calls P f #[.int .i64 n] w fun e w' => e = .returned (str (Lib.itoa n)) ∧ ∃ k os, w' = Go.Sort.grow (w.drewN k) os
  | .fmt => ∀ (n : Int) (w : World), -9223372036854775808 ≤ n → n ≤ 9223372036854775807 → PowIs w g.pow →
      Calls P f #[.int .i64 n, .int .i64 10] w fun e w' => e = .returned (str (Lib.itoa n)) ∧ ∃ k os, w' = Go.Sort.grow (w.drewN k) os
  | .parse => (∀ (s : ByteArray) (v : Int) (w : World), s.size ≤ 281474976710656 → Lib.parseIntB 64 s.data.toList = .ok v →
        Calls P f #[.string s, .int .i64 10, .int .i64 64] w fun e w' => e = .returned (.tuple #[.int .i64 v, .nilIface]) ∧ Below w.heap.size w w') ∧
      (∀ (s : ByteArray) (te : TypeId) (pe : Value) (w : World), s.size ≤ 281474976710656 → peOf (Lib.parseIntB 64 s.data.toList) = .syn → w.cell? ⟨g.syn, 0, none⟩ = some (.iface te pe) →
        Calls P f #[.string s, .int .i64 10, .int .i64 64] w fun e w' => ∃ N, e = .returned (.tuple #[.int .i64 0, .iface g.tE (.pointer (some ⟨N, 0, none⟩))]) ∧ w.heap.size ≤ N ∧ Below w.heap.size w w') ∧
      ∀ (s : ByteArray) (te : TypeId) (pe : Value) (w : World), s.size ≤ 281474976710656 → Lib.parseIntB 64 s.data.toList = .range → w.cell? ⟨g.rng, 0, none⟩ = some (.iface te pe) →
        Calls P f #[.string s, .int .i64 10, .int .i64 64] w fun e w' => ∃ N, e = .returned (.tuple #[.int .i64 (Lib.intSat 64 s.data.toList), .iface g.tE (.pointer (some ⟨N, 0, none⟩))]) ∧ w.heap.size ≤ N ∧ Below w.heap.size w w'
  | .atoi => (∀ (s : ByteArray) (v : Int) (w : World), s.size ≤ 281474976710656 → Lib.parseIntB 64 s.data.toList = .ok v →
        Calls P f #[.string s] w fun e w' => e = .returned (.tuple #[.int .i64 v, .nilIface]) ∧ Below w.heap.size w w') ∧
      (∀ (s : ByteArray) (te : TypeId) (pe : Value) (w : World), s.size ≤ 281474976710656 → peOf (Lib.parseIntB 64 s.data.toList) = .syn → w.cell? ⟨g.syn, 0, none⟩ = some (.iface te pe) →
        Calls P f #[.string s] w fun e w' => ∃ N, e = .returned (.tuple #[.int .i64 0, .iface g.tE (.pointer (some ⟨N, 0, none⟩))]) ∧ w.heap.size ≤ N ∧ Below w.heap.size w w') ∧
      ∀ (s : ByteArray) (te : TypeId) (pe : Value) (w : World), s.size ≤ 281474976710656 → Lib.parseIntB 64 s.data.toList = .range → w.cell? ⟨g.rng, 0, none⟩ = some (.iface te pe) →
        Calls P f #[.string s] w fun e w' => ∃ N, e = .returned (.tuple #[.int .i64 (Lib.intSat 64 s.data.toList), .iface g.tE (.pointer (some ⟨N, 0, none⟩))]) ∧ w.heap.size ≤ N ∧ Below w.heap.size w w'
def SG.ok (P : Program) (g : SG) : Prop := g.max < P.globals.size ∧ g.syn < P.globals.size ∧ g.rng < P.globals.size ∧ g.pow < P.globals.size
structure IsStr (P : Program) (g : SG) (x : Nat × Sk) : Prop where
  en : entered P x.1 = true
  k : SkK P g x.1 x.2
theorem str_vr {φ : Emb} (l : List UInt8) : VR φ (.str (nb l)) (str l) := by
  have := VR.str (φ := φ) ⟨l.toArray⟩
  simpa [str, nb] using this
theorem alloc_new (w : World) (o : Obj) : (w.alloc o).heap[w.heap.size]? = some o := by
  show (w.heap.push o)[w.heap.size]? = some o
  rw [Array.getElem?_push_size]
theorem below_drewN (w : World) (n : Nat) : Below w.heap.size w (w.drewN n) := ⟨rfl, rfl, rfl, Nat.le_refl _, fun _ _ => rfl⟩
theorem below_grow (w : World) (k : Nat) (os : Array Obj) : Below w.heap.size w (Go.Sort.grow (w.drewN k) os) :=
  ⟨rfl, rfl, rfl, by simp [Go.Sort.grow], fun i hi => by
    show (w.heap ++ os)[i]? = w.heap[i]?
    rw [Array.getElem?_append_left hi]⟩
theorem St.gl_cell {φ : Emb} {h : Hp} {w : World} (hr : HR φ h w) (hg : φ.glOk P) {g : Nat} (hlt : g < P.globals.size) {l : List V} (hb : h.blk g = .cells l true) {i : Nat} {v : V} (hi : l[i]? = some v) :
    ∃ u, w.cell? ⟨g, i, none⟩ = some u ∧ VR φ v u := by
  obtain ⟨pl, h1, h2⟩ := hr.lies g (by rw [hb]; rfl)
  obtain ⟨e, h3⟩ := hg g hlt
  rw [h3] at h1; cases h1
  rw [hb] at h2
  obtain ⟨_, c, e, fz, hc, _, hv⟩ := h2
  obtain ⟨u, k1, k2⟩ := hv i v hi
  refine ⟨u, ?_, k2⟩
  rw [cell_of hc, ← k1, Nat.zero_add]
theorem intCell_ok {φ : Emb} {h : Hp} {w : World} (hr : HR φ h w) (hg : φ.glOk P) {g : Nat} (hlt : g < P.globals.size) (hc : intCell (h.blk g) = true) : ∃ m, w.cell? ⟨g, 0, none⟩ = some (.int .i64 m) := by
  unfold intCell at hc
  split at hc
  case h_2 => cases hc
  rename_i m l hb
  obtain ⟨u, h1, h2⟩ := St.gl_cell hr hg hlt hb (i := 0) rfl
  cases h2
  exact ⟨_, h1⟩
theorem errCell_ok {φ : Emb} {h : Hp} {w : World} (hr : HR φ h w) (hg : φ.glOk P) {g : Nat} (hlt : g < P.globals.size) (hc : errCell (h.blk g) = true) : ∃ te pe, w.cell? ⟨g, 0, none⟩ = some (.iface te pe) := by
  unfold errCell at hc
  split at hc
  case h_2 => cases hc
  rename_i m l hb
  obtain ⟨u, h1, h2⟩ := St.gl_cell hr hg hlt hb (i := 0) rfl
  cases h2
  exact ⟨_, _, h1⟩
theorem powL_eq {φ : Emb} {us : List Value} (h : VRs φ (powL 20 1) us) : us = Lib.pow10Tab.map fun z => Value.int .u64 z := by
  have key : ∀ (n x : Nat) (us : List Value), VRs φ (powL n x) us → us = (List.range n).map fun i => Value.int .u64 ((x * 10 ^ i : Nat) : Int) := by
    intro n
    induction n with
    | zero => intro x us h; cases h; rfl
    | succ n ih =>
      intro x us h
      cases h with | cons _ u _ us' k1 k2 =>
      cases k1
      rw [ih (x * 10) us' k2, List.range_succ_eq_map, List.map_cons, List.map_map]
      refine congr (congrArg List.cons ?_) (List.map_congr_left fun i _ => ?_)
      · simp
      · simp only [Function.comp, Nat.succ_eq_add_one, Nat.pow_succ]
        rw [Nat.mul_assoc, Nat.mul_comm 10]
  rw [key 20 1 us h]
  simp [Lib.pow10Tab]
theorem powL_vr {φ : Emb} : VRs φ (powL 20 1) (Lib.pow10Tab.map fun z => Value.int .u64 z) := by
  refine VRs.of_get (by simp [powL, Lib.pow10Tab]) fun i v u h1 h2 => ?_
  have key : ∀ (n x i : Nat), (powL n x)[i]? = if i < n then some (.int .u64 (.ofNat (x * 10 ^ i))) else none := by
    intro n
    induction n with
    | zero => intro x i; simp [powL]
    | succ n ih =>
      intro x i
      cases i with
      | zero => simp [powL]
      | succ i =>
        simp only [powL, List.getElem?_cons_succ, ih]
        rw [Nat.pow_succ, Nat.mul_assoc, Nat.mul_comm 10]
        by_cases h : i < n
        · rw [if_pos h, if_pos (by omega)]
        · rw [if_neg h, if_neg (by omega)]
  rw [key] at h1
  split at h1
  · rename_i hi
    cases h1
    simp [Lib.pow10Tab, List.getElem?_range hi] at h2
    rw [← h2]
    have : (Int.ofNat (1 * 10 ^ i)) = ((10 : Int) ^ i) := by simp
    rw [this]
    exact .int _ _
  · cases h1
theorem powCells_ok {φ : Emb} {h : Hp} {w : World} (hr : HR φ h w) (hg : φ.glOk P) {g : Nat} (hlt : g < P.globals.size) (hc : powCells (h.blk g) = true) : PowIs w g := by
  unfold powCells at hc
  split at hc
  case h_2 => cases hc
  rename_i l hb
  have hl := sames_eq hc
  subst hl
  obtain ⟨pl, h1, h2⟩ := hr.lies g (by rw [hb]; rfl)
  obtain ⟨e, h3⟩ := hg g hlt
  rw [h3] at h1; cases h1
  rw [hb] at h2
  obtain ⟨c, e, fz, hc, hv⟩ := h2
  refine ⟨e, fz, ?_⟩
  rw [← powL_eq hv]
  exact hc
theorem i64_of_wr {n : Int} (h : ieq (wr .i64 n) n = true) : -9223372036854775808 ≤ n ∧ n ≤ 9223372036854775807 := by
  rw [ieq_iff, wr_eq] at h
  simp only [IntKind.wrap, IntKind.bits, IntKind.signed, Bool.true_and] at h
  split at h <;> rename_i hc <;> simp at hc <;> omega
theorem strsOf_spec {φ : Emb} : ∀ {l : List V} {xs : List (List Nat)} {us : List Value}, strsOf l = some xs → VRs φ l us → ∃ bs : List ByteArray, us = bs.map Value.string ∧ xs = bs.map fun b => nb b.data.toList
  | [], xs, us, h, hr => by
    simp only [strsOf, Option.some.injEq] at h
    subst h
    cases hr
    exact ⟨[], rfl, rfl⟩
  | v :: l, xs, us, h, hr => by
    unfold strsOf at h
    split at h
    · rename_i e; cases e
    · rename_i s l' e
      cases e
      split at h
      case h_2 => cases h
      rename_i r hr'
      cases h
      cases hr with | cons _ u _ us' k1 k2 =>
      cases k1 with | str b =>
      obtain ⟨bs, e1, e2⟩ := strsOf_spec hr' k2
      exact ⟨b :: bs, by rw [e1]; rfl, by rw [e2]; rfl⟩
    · cases h
theorem size_nb (s : ByteArray) : (List.map UInt8.toNat s.data.toList).length = s.size := by rw [List.length_map]; exact (Lib.size_eq s).symm
theorem parsed_ok {env : Env} {g : SG} (hg : g.ok P) {φ : Emb} {f : Nat} {us : List Value} {s : ByteArray} {h h' : Hp} {v : V} {w : World} (hv : parsed g (nb s.data.toList) h = some (v, h')) (ok : EnvOk P φ env) (hr : HR φ h w) (hfr : Fresh φ h.next h'.next)
    (k1 : ∀ (v : Int), s.size ≤ 281474976710656 → Lib.parseIntB 64 s.data.toList = .ok v → Calls P f us.toArray w fun e w' => e = .returned (.tuple #[.int .i64 v, .nilIface]) ∧ Below w.heap.size w w')
    (k2 : ∀ (te : TypeId) (pe : Value), s.size ≤ 281474976710656 → peOf (Lib.parseIntB 64 s.data.toList) = .syn → w.cell? ⟨g.syn, 0, none⟩ = some (.iface te pe) →
        Calls P f us.toArray w fun e w' => ∃ N, e = .returned (.tuple #[.int .i64 0, .iface g.tE (.pointer (some ⟨N, 0, none⟩))]) ∧ w.heap.size ≤ N ∧ Below w.heap.size w w')
    (k3 : ∀ (te : TypeId) (pe : Value), s.size ≤ 281474976710656 → Lib.parseIntB 64 s.data.toList = .range → w.cell? ⟨g.rng, 0, none⟩ = some (.iface te pe) →
        Calls P f us.toArray w fun e w' => ∃ N, e = .returned (.tuple #[.int .i64 (Lib.intSat 64 s.data.toList), .iface g.tE (.pointer (some ⟨N, 0, none⟩))]) ∧ w.heap.size ≤ N ∧ Below w.heap.size w w') :
    Calls P f us.toArray w fun e w' => ∃ u ψ, e = .returned u ∧ VR ψ v u ∧ St φ h w ψ h' w' := by
  unfold parsed at hv
  rw [cond_eq_ite] at hv; split at hv
  case isFalse => cases hv
  rename_i hsz
  rw [nble, nb_length, ← Lib.size_eq] at hsz
  have hs : s.size ≤ 281474976710656 := by omega
  rw [parseN_nb] at hv
  have err : ∀ (n : Int) (e : Ending) (w' : World), numErr g n h = some (v, h') → (∃ N, e = .returned (.tuple #[.int .i64 n, .iface g.tE (.pointer (some ⟨N, 0, none⟩))]) ∧ w.heap.size ≤ N ∧ Below w.heap.size w w') →
      ∃ u ψ, e = .returned u ∧ VR ψ v u ∧ St φ h w ψ h' w' := by
    rintro n e w' hn ⟨N, rfl, hN, hb⟩
    unfold numErr at hn
    cases hn
    have hst := St.belowNew hr hb (x := .gone) (pl := ⟨N, 0, 0⟩) (hfr h.next (Nat.le_refl _) (Nat.lt_succ_self _)) hN (fun _ _ => trivial)
    refine ⟨_, _, rfl, .tup _ _ (.cons _ _ _ _ (.int _ _) (.cons _ _ _ _ (.iface _ _ _ (.ptr _ 0 ⟨N, 0, 0⟩ ?_)) .nil)), hst⟩
    show (if h.next = h.next then some _ else _) = _
    rw [if_pos rfl]
  have hpe : ∀ x, peOf (Lib.parseIntB 64 s.data.toList) = x → (match x with
      | .ok n => some (V.tup [.int .i64 n, .niliface], h)
      | .syn => cond (errCell (h.blk g.syn)) (numErr g 0 h) none
      | .rng => cond (errCell (h.blk g.rng)) (numErr g (satN (nb s.data.toList)) h) none) = some (v, h') := fun x hx => by rw [← hx]; exact hv
  cases hp : peOf (Lib.parseIntB 64 s.data.toList) with
  | ok n =>
    have hv := hpe _ hp
    have hp' : Lib.parseIntB 64 s.data.toList = .ok n := by
      revert hp
      cases Lib.parseIntB 64 s.data.toList <;> intro hp <;> cases hp
      rfl
    cases hv
    refine (k1 n hs hp').mono ?_
    rintro e w' ⟨rfl, hb⟩
    exact ⟨_, φ, rfl, .tup _ _ (.cons _ _ _ _ (.int _ _) (.cons _ _ _ _ .niliface .nil)), .below hr hb⟩
  | syn =>
    have hv := hpe _ hp
    simp only at hv
    rw [cond_eq_ite] at hv; split at hv
    case isFalse => cases hv
    rename_i hc
    obtain ⟨te, pe, hcell⟩ := errCell_ok hr ok.gl hg.2.1 hc
    exact (k2 te pe hs hp hcell).mono fun e w' k => err 0 e w' hv k
  | rng =>
    have hv := hpe _ hp
    have hp' : Lib.parseIntB 64 s.data.toList = .range := by
      revert hp
      cases Lib.parseIntB 64 s.data.toList <;> intro hp <;> cases hp
      rfl
    simp only at hv
    rw [cond_eq_ite] at hv; split at hv
    case isFalse => cases hv
    rename_i hc
    obtain ⟨te, pe, hcell⟩ := errCell_ok hr ok.gl hg.2.2.1 hc
    rw [satN_nb] at hv
    exact (k3 te pe hs hp' hcell).mono fun e w' k => err _ e w' hv k
theorem str_one {env : Env} {g : SG} (hg : g.ok P) {x : Nat × Sk} (hx : IsStr P g x) {φ : Emb} {args : List V} {h h' : Hp} {v : V} {w : World} {us : List Value} (hv : strV g x.2 args h = some (v, h')) (ok : EnvOk P φ env) (hr : HR φ h w)
    (hfr : Fresh φ h.next h'.next) (hargs : VRs φ args us) : CallSim P φ x.1 us h w v h' := by
  obtain ⟨f, k⟩ := x
  obtain ⟨hen, hk⟩ := hx
  left
  refine ⟨hen, ?_⟩
  cases k with
  | cut =>
    simp only [strV] at hv
    split at hv
    case h_2 => cases hv
    rename_i s sep
    rw [cond_eq_ite] at hv; split at hv
    case isFalse => cases hv
    rename_i hc
    rw [cond_eq_ite] at hv; split at hv
    case isFalse => cases hv
    rename_i hsz
    cases hargs with | cons _ u1 _ us1 r1 rest =>
    cases rest with | cons _ u2 _ us2 r2 rest =>
    cases rest
    cases r1 with | str s =>
    cases r2 with | str sep =>
    rw [nble, size_nb] at hsz
    obtain ⟨m, hm⟩ := intCell_ok hr ok.gl hg.1 hc
    have e := cutN_nb s.data.toList sep.data.toList
    unfold nb at e
    rw [e] at hv
    cases hv
    refine (hk s sep m w (by omega) hm).mono ?_
    rintro e w' ⟨rfl, n, rfl⟩
    exact ⟨_, φ, rfl, .tup _ _ (.cons _ _ _ _ (str_vr _) (.cons _ _ _ _ (str_vr _) (.cons _ _ _ _ (.bool _) .nil))), .below hr (below_drewN w n)⟩
  | idx =>
    simp only [strV] at hv
    split at hv
    case h_2 => cases hv
    rename_i s sep
    rw [cond_eq_ite] at hv; split at hv
    case isFalse => cases hv
    rename_i hc
    rw [cond_eq_ite] at hv; split at hv
    case isFalse => cases hv
    rename_i hsz
    cases hargs with | cons _ u1 _ us1 r1 rest =>
    cases rest with | cons _ u2 _ us2 r2 rest =>
    cases rest
    cases r1 with | str s =>
    cases r2 with | str sep =>
    rw [nble, size_nb] at hsz
    obtain ⟨m, hm⟩ := intCell_ok hr ok.gl hg.1 hc
    have e := indexN_nb s.data.toList sep.data.toList
    unfold nb at e
    rw [← e] at hv
    cases hv
    refine (hk s sep m w (by omega) hm).mono ?_
    rintro e w' ⟨rfl, rfl⟩
    exact ⟨_, φ, rfl, .int _ _, .refl hr⟩
  | split =>
    simp only [strV] at hv
    split at hv
    case h_2 => cases hv
    rename_i s c sep
    rw [cond_eq_ite] at hv; split at hv
    case isFalse => cases hv
    rename_i hc
    rw [cond_eq_ite] at hv; split at hv
    case isFalse => cases hv
    rename_i hsz
    cases hargs with | cons _ u1 _ us1 r1 rest =>
    cases rest with | cons _ u2 _ us2 r2 rest =>
    cases rest
    cases r1 with | str s =>
    generalize hcs : c :: sep = sp at r2 hv
    cases r2 with | str sep' =>
    rw [nble, size_nb] at hsz
    obtain ⟨m, hm⟩ := intCell_ok hr ok.gl hg.1 hc
    have h1 : 1 ≤ sep'.size := by
      rw [← size_nb, ← hcs]; simp
    have hne : sep'.data.toList ≠ [] := fun e => by rw [e] at hcs; simp at hcs
    obtain ⟨t, hk⟩ := hk
    have hsp : splitN (nb s.data.toList) (nb sep'.data.toList) = (Lib.splitB sep' 0 (Lib.countB s sep') s).map fun b => nb b.data.toList := by
      unfold splitN
      rw [nb_length, ← splitK_nb sep'.data.toList hne _ s.data.toList (Nat.lt_succ_self _)]
      have := Lib.splitB_data sep' 0 (Lib.countB s sep') s
      show (Lib.splitK _ 0 (Lib.countB s sep') _).map nb = _
      rw [← this, List.map_map]; rfl
    have hlen := Lib.splitB_all sep' h1 0 _ s rfl
    have hv : (some (V.slice h.next 0 1 (splitN (nb s.data.toList) (nb sep'.data.toList)).length (splitN (nb s.data.toList) (nb sep'.data.toList)).length true, h.new (.cells ((splitN (nb s.data.toList) (nb sep'.data.toList)).map .str) false)) : Option (V × Hp)) = some (v, h') := by
      rw [← hv]
      rfl
    rw [hsp] at hv
    cases hv
    refine (hk s sep' m w (by omega) hm h1).mono ?_
    rintro e w' ⟨rfl, rfl⟩
    rw [← hlen]
    generalize Lib.splitB sep' 0 (Lib.countB s sep') s = L
    have hb : Below w.heap.size w (w.alloc (.cells (L.map Value.string).toArray t)) := (Below.refl _ w).alloc (Nat.le_refl _) _
    refine ⟨_, _, rfl, ?_, St.belowNew hr hb (pl := ⟨w.heap.size, 0, L.length⟩) (hfr h.next (Nat.le_refl _) (Nat.lt_succ_self _)) (Nat.le_refl _) fun ψ _ => ?_⟩
    · rw [List.length_map]
      refine .slice _ _ _ _ _ _ _ _ (fun _ => ⟨⟨w.heap.size, 0, L.length⟩, ?_, rfl, fun ee => by cases ee⟩) (Nat.le_refl _) (Nat.le_refl _) (fun _ => rfl)
      show (if h.next = h.next then some _ else _) = _
      rw [if_pos rfl]
    · refine ⟨rfl, by simp, (L.map Value.string).toArray, t, (0, 0), alloc_new w _, by simp, .inl rfl, fun i x hi => ?_⟩
      rw [List.map_map, List.getElem?_map] at hi
      cases hL : L[i]? with
      | none => rw [hL] at hi; cases hi
      | some b =>
        rw [hL] at hi
        cases hi
        exact ⟨.string b, by simp [hL], .str b⟩
  | cutS =>
    simp only [strV] at hv
    split at hv
    case h_2 => cases hv
    rename_i s sep
    rw [cond_eq_ite] at hv; split at hv
    case isFalse => cases hv
    rename_i hsz
    cases hargs with | cons _ u1 _ us1 r1 rest =>
    cases rest with | cons _ u2 _ us2 r2 rest =>
    cases rest
    cases r1 with | str s =>
    cases r2 with | str sep =>
    rw [nble, size_nb] at hsz
    have e := cutSN_nb s.data.toList sep.data.toList
    unfold nb at e
    rw [e] at hv
    cases hv
    refine (hk s sep w (by omega)).mono ?_
    rintro e w' ⟨rfl, rfl⟩
    exact ⟨_, φ, rfl, .tup _ _ (.cons _ _ _ _ (str_vr _) (.cons _ _ _ _ (.bool _) .nil)), .refl hr⟩
  | trimP =>
    simp only [strV] at hv
    split at hv
    case h_2 => cases hv
    rename_i s sep
    cases hargs with | cons _ u1 _ us1 r1 rest =>
    cases rest with | cons _ u2 _ us2 r2 rest =>
    cases rest
    cases r1 with | str s =>
    cases r2 with | str sep =>
    have e := trimPN_nb s.data.toList sep.data.toList
    unfold nb at e
    rw [e] at hv
    cases hv
    refine (hk s sep w).mono ?_
    rintro e w' ⟨rfl, rfl⟩
    exact ⟨_, φ, rfl, str_vr _, .refl hr⟩
  | trimS =>
    simp only [strV] at hv
    split at hv
    case h_2 => cases hv
    rename_i s sep
    rw [cond_eq_ite] at hv; split at hv
    case isFalse => cases hv
    rename_i hsz
    cases hargs with | cons _ u1 _ us1 r1 rest =>
    cases rest with | cons _ u2 _ us2 r2 rest =>
    cases rest
    cases r1 with | str s =>
    cases r2 with | str sep =>
    rw [nble, size_nb] at hsz
    have e := cutSN_nb s.data.toList sep.data.toList
    unfold nb at e
    rw [e] at hv
    cases hv
    refine (hk s sep w (by omega)).mono ?_
    rintro e w' ⟨rfl, rfl⟩
    exact ⟨_, φ, rfl, str_vr _, .refl hr⟩
  | idxB =>
    simp only [strV] at hv
    split at hv
    case h_2 => cases hv
    rename_i s c
    rw [cond_eq_ite] at hv; split at hv
    case isFalse => cases hv
    rename_i hc
    rw [nblt] at hc
    cases hargs with | cons _ u1 _ us1 r1 rest =>
    cases rest with | cons _ u2 _ us2 r2 rest =>
    cases rest
    cases r1 with | str s =>
    cases r2
    have e := idxBN_nb s.data.toList c.toUInt8
    have hc' : c.toUInt8.toNat = c := by simp; omega
    rw [hc'] at e
    unfold nb at e
    rw [← e] at hv
    cases hv
    refine (hk s c w).mono ?_
    rintro e w' ⟨rfl, rfl⟩
    exact ⟨_, φ, rfl, .int _ _, .refl hr⟩
  | join =>
    simp only [strV] at hv
    split at hv
    case h_2 => cases hv
    rename_i x sep
    split at hv
    case h_2 => cases hv
    rename_i xs hxs
    rw [cond_eq_ite] at hv; split at hv
    case isFalse => cases hv
    rename_i h1
    rw [cond_eq_ite] at hv; split at hv
    case isFalse => cases hv
    rename_i h2
    rw [nble] at h1 h2
    cases hv
    cases hargs with | cons _ u1 _ us1 r1 rest =>
    cases rest with | cons _ u2 _ us2 r2 rest =>
    cases rest
    cases r2 with | str sep =>
    have nil : ∀ (a : Option Addr) (c : Nat), Calls P f [Value.slice a 0 c, Value.string sep].toArray w fun e w' => ∃ u ψ, e = .returned u ∧ VR ψ (.str (joinN [] (sep.data.toList.map UInt8.toNat))) u ∧ St φ h w ψ h w' := fun a c =>
      (hk.1 a c sep w).mono fun e w' ⟨he, hw⟩ => by
        subst he hw
        exact ⟨_, φ, rfl, str_vr [], .refl hr⟩
    cases x <;> simp only [strsV, reduceCtorEq] at hxs
    case nilslice =>
      cases r1
      cases hxs
      exact nil none 0
    case slice b o sz len c ex =>
      cases r1 with | slice _ _ _ _ _ _ a cc h0 g1 g2 g3 =>
      rw [cond_eq_ite] at hxs; split at hxs
      case isFalse => cases hxs
      split at hxs
      case h_2 => cases hxs
      rename_i l hl
      obtain ⟨pl, us, q1, q2, q3, q4⟩ := hr.read hl
      obtain ⟨bs, e1, e2⟩ := strsOf_spec hxs q3
      have hlen : bs.length = len := by
        have := q3.length
        rw [e1, List.length_map] at this
        omega
      rcases Nat.eq_zero_or_pos len with z | z
      · have : bs = [] := List.length_eq_zero_iff.1 (by omega)
        subst this
        rw [e2, z]
        exact nil _ _
      · obtain ⟨pl', k1, k2, _⟩ := h0 (by omega)
        rw [q1] at k1; cases k1
        have hj := joinN_nb (bs.map (·.data.toList)) sep.data.toList
        rw [List.map_map] at hj
        have hj' : joinN xs (sep.data.toList.map UInt8.toNat) = nb (Lib.join (bs.map (·.data.toList)) sep.data.toList) := by rw [hj, e2]; rfl
        rw [hj'] at h1 ⊢
        rw [nb_length] at h1
        rw [k2, ← hlen]
        obtain ⟨pl2, p1, p2⟩ := hr.lies b (by
          unfold Hp.read at hl
          split at hl
          · rename_i hb; rw [hb]; rfl
          · cases hl)
        rw [q1] at p1; cases p1
        have hlt := p2.lt (by
          unfold Hp.read at hl
          split at hl
          · rename_i hb; rw [hb]; rfl
          · cases hl)
        refine (hk.2 pl.blk (pl.base + o) cc bs sep w (fun j y hy => ?_) hlt ?_ (by omega) (by omega)).mono ?_
        · have := q4 j (.string y) (by rw [e1, List.getElem?_map, hy]; rfl)
          exact this
        · have : xs.length = bs.length := by rw [e2, List.length_map]
          omega
        · rintro e w' ⟨rfl, hb⟩
          exact ⟨_, φ, rfl, str_vr _, .below hr hb⟩
  | itoa =>
    simp only [strV] at hv
    split at hv
    case h_2 => cases hv
    rename_i n
    rw [cond_eq_ite] at hv; split at hv
    case isFalse => cases hv
    rename_i hc
    rw [cond_eq_ite] at hv; split at hv
    case isFalse => cases hv
    rename_i hw
    cases hv
    cases hargs with | cons _ u1 _ us1 r1 rest =>
    cases rest
    cases r1
    obtain ⟨h0, h1⟩ := i64_of_wr hw
    refine (hk n w h0 h1 (powCells_ok hr ok.gl hg.2.2.2 hc)).mono ?_
    rintro e w' ⟨rfl, k, os, rfl⟩
    rw [itoaN_nb h0 h1]
    exact ⟨_, φ, rfl, str_vr _, .below hr (below_grow w k os)⟩
  | fmt =>
    simp only [strV] at hv
    split at hv
    case h_2 => cases hv
    rename_i n b
    rw [cond_eq_ite] at hv; split at hv
    case isFalse => cases hv
    rename_i hb
    rw [nbeq] at hb
    subst hb
    rw [cond_eq_ite] at hv; split at hv
    case isFalse => cases hv
    rename_i hc
    rw [cond_eq_ite] at hv; split at hv
    case isFalse => cases hv
    rename_i hw
    cases hv
    cases hargs with | cons _ u1 _ us1 r1 rest =>
    cases rest with | cons _ u2 _ us2 r2 rest =>
    cases rest
    cases r1
    cases r2
    obtain ⟨h0, h1⟩ := i64_of_wr hw
    refine (hk n w h0 h1 (powCells_ok hr ok.gl hg.2.2.2 hc)).mono ?_
    rintro e w' ⟨rfl, k, os, rfl⟩
    rw [itoaN_nb h0 h1]
    exact ⟨_, φ, rfl, str_vr _, .below hr (below_grow w k os)⟩
  | parse =>
    simp only [strV] at hv
    split at hv
    case h_2 => cases hv
    rename_i s b z
    rw [cond_eq_ite] at hv; split at hv
    case isFalse => cases hv
    rename_i hb
    rw [cond_eq_ite] at hv; split at hv
    case isFalse => cases hv
    rename_i hz
    rw [nbeq] at hb hz
    subst hb hz
    cases hargs with | cons _ u1 _ us1 r1 rest =>
    cases rest with | cons _ u2 _ us2 r2 rest =>
    cases rest with | cons _ u3 _ us3 r3 rest =>
    cases rest
    cases r1 with | str s =>
    cases r2
    cases r3
    exact parsed_ok hg hv ok hr hfr (fun v h1 h2 => hk.1 s v w h1 h2) (fun te pe h1 h2 h3 => hk.2.1 s te pe w h1 h2 h3) (fun te pe h1 h2 h3 => hk.2.2 s te pe w h1 h2 h3)
  | atoi =>
    simp only [strV] at hv
    split at hv
    case h_2 => cases hv
    rename_i s
    cases hargs with | cons _ u1 _ us1 r1 rest =>
    cases rest
    cases r1 with | str s =>
    exact parsed_ok hg hv ok hr hfr (fun v h1 h2 => hk.1 s v w h1 h2) (fun te pe h1 h2 h3 => hk.2.1 s te pe w h1 h2 h3) (fun te pe h1 h2 h3 => hk.2.2 s te pe w h1 h2 h3)
theorem strX_rises (g : SG) (l : List (Nat × Sk)) : Rises (strX g l) := by
  intro f args h v h' e
  induction l with
  | nil => cases e
  | cons x l ih =>
    obtain ⟨i, k⟩ := x
    simp only [strX] at e
    rw [cond_eq_ite] at e; split at e
    · cases k <;> simp only [strV, parsed, numErr] at e
      all_goals
        repeat' (first | (cases e; done) | (rw [cond_eq_ite] at e; split at e) | split at e)
        all_goals (cases e; first | exact Nat.le_refl _ | exact Nat.le_succ _)
    · exact ih e
theorem strX_ok {env : Env} {g : SG} (hg : g.ok P) {l : List (Nat × Sk)} (hl : ∀ x, x ∈ l → IsStr P g x) : CallOk P env (strX g l) := by
  intro φ f args h v h' w us hv ok hr hfr hargs
  induction l with
  | nil => cases hv
  | cons x l ih =>
    obtain ⟨i, k⟩ := x
    simp only [strX] at hv
    rw [cond_eq_ite] at hv; split at hv
    · rename_i e
      rw [nbeq] at e
      subst e
      exact str_one hg (hl _ List.mem_cons_self) hv ok hr hfr hargs
    · exact ih (fun x hx => hl x (List.mem_cons_of_mem _ hx)) hv
end Go.Vm
end

section
namespace Go.Lib
open Go.Vm Go.Dv
set_option maxRecDepth 100000
abbrev K22 (F : Nat → Nat) : KC := .seq (.region [⟨(some 2),(.a (.box (.tmp 0))),none⟩,⟨(some 4),(.p (.mov (.val (.nilslice)))),none⟩] [2] [1,2])
 (.seq (.region [⟨(some 5),(.p (.mov (.val (.nilslice)))),none⟩] [] [1,2,5])
 (.seq (.seq (.region [mi 6 0] [] [1,2,5,6])
 (.block 0 (.loop (.seq (.seq (.region [mv 8 6,mv 9 1,lb 10 9,bt 11 .lss 8 10,mv 12 11,⟨(some 13),(.p (.mov (.tmp 6))),(some (12,true))⟩,⟨(some 14),(.p (.bin .lss (.tmp 13) (.val (.int .i64 (.ofNat 40))))),(some (12,true))⟩,⟨(some 15),(.p (.pick (.tmp 12) (.tmp 14) (.val (.bool false)))),none⟩] [] [1,2,5,6,15])
 (.cond (.tmp 15) (.skip)
 (.exit 0)))
 (.seq (.block 1 (.seq (.dregion [⟨ln 18 1 2,0,5⟩,⟨mv 19 1,0,5⟩,⟨mv 20 6,0,5⟩,⟨ix 21 1 19 20,0,5⟩,⟨l1 22 21,0,5⟩,⟨⟨(some 23),(.e (.call (F 24) [(.tmp 18),(.tmp 22)])),none⟩,0,7⟩,⟨mv 7 23,6,7⟩] [1,2,5,6,7])
 (.seq (.region [mv 24 7,mv 25 6,bi 26 .mul 25 3,mv 27 1,mv 28 6,ix 29 1 27 28,l1 30 29,bi 31 .and 30 1,bt 32 .add 26 31,⟨(some 33),(.p (.iaddr 4 (.tmp 24) (.val (.int .i64 (.ofNat 0))))),none⟩,fa 34 2 33,⟨none,(.e (.store 1 (.tmp 34) (.tmp 32))),none⟩] [] [1,2,5,6,7])
 (.region [mv 35 5,mv 36 7,⟨(some 37),(.a (.bslice [.nilslice] 1 1 [(0,1,(.tmp 36))])),none⟩,⟨(some 38),(.e (.append 1 24 (.tmp 35) (.tmp 37))),none⟩,mv 5 38] [37] [1,2,5,6]))))
 (.region [mv 16 6,bi 17 .add 16 1,mv 6 17] [] [1,2,5,6]))))))
 (.seq (.region [mv 39 5,mv 4 39] [] [4])
 (.ret))))
def M22 (F : Nat → Nat) : Fun := ⟨40,2,(K22 F).erase,[.tmp 4]⟩
abbrev K23 (_F : Nat → Nat) : KC := .seq (.region [⟨(some 2),(.a (.new [.nilslice])),none⟩] [] [0,2])
 (.seq (.region [⟨(some 6),(.p (.build [.str [],.int .i64 (.ofNat 0),.bool false] [(0,1,(.val (.str [107,101,121]))),(1,1,(.val (.int .i64 (.ofNat 1))))])),none⟩,⟨(some 7),(.a (.bslice [.str [],.int .i64 (.ofNat 0),.bool false] 3 1 [(0,3,(.tmp 6))])),none⟩,⟨(some 8),(.p (.build [.nilslice] [(0,1,(.tmp 7))])),none⟩,⟨(some 3),(.a (.new [.nilslice])),none⟩,⟨none,(.e (.store 1 (.tmp 3) (.tmp 8))),none⟩] [] [0,2,3])
 (.seq (.region [⟨(some 9),(.a (.bslice [.str [],.str [],.str [],.str [],.str []] 1 5 [(0,1,(.val (.str [97]))),(1,1,(.val (.str [98,98]))),(2,1,(.val (.str [99,99,99]))),(3,1,(.val (.str [110,117,108,108]))),(4,1,(.val (.str [97,110,100])))])),none⟩,mv 4 9] [9] [0,2,3,4])
 (.seq (.seq (.region [mi 5 0] [] [0,2,3,4,5])
 (.block 0 (.loop (.seq (.seq (.region [mv 10 5,mv 11 0,bi 12 .and 11 255,bi 13 .rem 12 6,bt 14 .lss 10 13,mv 15 14,⟨(some 16),(.p (.mov (.tmp 5))),(some (15,true))⟩,⟨(some 17),(.p (.bin .lss (.tmp 16) (.val (.int .i64 (.ofNat 5))))),(some (15,true))⟩,⟨(some 18),(.p (.pick (.tmp 15) (.tmp 17) (.val (.bool false)))),none⟩] [] [0,2,3,4,5,18])
 (.cond (.tmp 18) (.skip)
 (.exit 0)))
 (.seq (.block 1 (.dregion [⟨fa 21 0 3,0,24⟩,⟨l1 22 21,0,24⟩,⟨mv 23 4,0,24⟩,⟨mv 24 5,0,24⟩,⟨ix 25 1 23 24,0,24⟩,⟨l1 26 25,0,24⟩,⟨mv 27 0,0,24⟩,⟨mv 28 5,0,24⟩,⟨⟨(some 29),(.p (.bin .mul (.val (.int .i64 (.ofNat 2))) (.tmp 28))),none⟩,0,24⟩,⟨⟨(some 30),(.p (.bin .add (.val (.int .i64 (.ofNat 8))) (.tmp 29))),none⟩,0,24⟩,⟨⟨(some 31),(.p (.conv (.int .u64) (.tmp 30))),none⟩,0,24⟩,⟨bt 32 .shr 27 31,0,24⟩,⟨bi 33 .and 32 1,0,24⟩,⟨bi 34 .add 33 1,0,24⟩,⟨mv 35 0,0,24⟩,⟨mv 36 5,0,24⟩,⟨⟨(some 37),(.p (.bin .mul (.val (.int .i64 (.ofNat 2))) (.tmp 36))),none⟩,0,24⟩,⟨⟨(some 38),(.p (.bin .add (.val (.int .i64 (.ofNat 9))) (.tmp 37))),none⟩,0,24⟩,⟨⟨(some 39),(.p (.conv (.int .u64) (.tmp 38))),none⟩,0,24⟩,⟨bt 40 .shr 35 39,0,24⟩,⟨bi 41 .and 40 1,0,24⟩,⟨bi 42 .eql 41 1,0,24⟩,⟨⟨(some 43),(.p (.build [.str [],.int .i64 (.ofNat 0),.bool false] [(0,1,(.tmp 26)),(1,1,(.tmp 34)),(2,1,(.tmp 42))])),none⟩,0,24⟩,⟨⟨(some 44),(.a (.bslice [.str [],.int .i64 (.ofNat 0),.bool false] 3 1 [(0,3,(.tmp 43))])),none⟩,0,24⟩,⟨⟨(some 45),(.e (.append 3 32 (.tmp 22) (.tmp 44))),none⟩,0,26⟩,⟨fa 46 0 3,25,26⟩,⟨⟨none,(.e (.store 1 (.tmp 46) (.tmp 45))),none⟩,25,27⟩] [0,2,3,4,5]))
 (.region [mv 19 5,bi 20 .add 19 1,mv 5 20] [] [0,2,3,4,5]))))))
 (.seq (.region [ln 47 1 3,⟨none,(.e (.store 1 (.tmp 2) (.tmp 47))),none⟩] [] [2])
 (.ret)))))
def M23 (F : Nat → Nat) : Fun := ⟨48,1,(K23 F).erase,[.celln 1 2]⟩
abbrev K24 (F : Nat → Nat) : KC := .seq (.region [⟨(some 2),(.a (.box (.tmp 0))),none⟩,⟨(some 4),(.p (.mov (.val (.nilslice)))),none⟩] [2] [1,2])
 (.seq (.region [⟨(some 5),(.p (.mov (.val (.nilslice)))),none⟩] [] [1,2,5])
 (.seq (.seq (.region [fa 8 0 2,l1 9 8,lb 10 9,mi 11 0] [] [1,5,9,10,11])
 (.block 0 (.loop (.seq (.region [bt 12 .lss 11 10] [] [1,5,9,10,11,12])
 (.seq (.cond (.tmp 12) (.skip)
 (.exit 0))
 (.seq (.block 1 (.seq (.region [mv 13 11,ix 14 3 9 11,ln 15 3 14,⟨(some 7),(.a (.new [.str [],.int .i64 (.ofNat 0),.bool false])),none⟩,mv 6 13,⟨none,(.e (.store 3 (.tmp 7) (.tmp 15))),none⟩] [] [1,5,6,7,9,10,11])
 (.seq (.seq (.region [mv 16 6,bi 17 .eql 16 0] [] [1,5,6,7,9,10,11,17])
 (.cond (.tmp 17) (.seq (.region [mv 18 5,mv 19 1,bi 20 .and 19 15,⟨(some 21),(.p (.build [.bool false,.int .i64 (.ofNat 0),.int .i64 (.ofNat 0),.nilslice] [(1,1,(.val (.int .i64 (.ofNat 1)))),(2,1,(.tmp 20))])),none⟩,⟨(some 22),(.a (.bslice [.bool false,.int .i64 (.ofNat 0),.int .i64 (.ofNat 0),.nilslice] 4 1 [(0,4,(.tmp 21))])),none⟩,⟨(some 23),(.e (.append 4 48 (.tmp 18) (.tmp 22))),none⟩,mv 5 23] [22] [1,5,9,10,11])
 (.exit 1))
 (.skip)))
 (.region [mv 24 5,ln 25 3 7,mv 26 1,mv 27 6,⟨(some 28),(.p (.bin .mul (.val (.int .i64 (.ofNat 3))) (.tmp 27))),none⟩,⟨(some 29),(.p (.conv (.int .u64) (.tmp 28))),none⟩,bt 30 .shr 26 29,mv 31 1,⟨(some 32),(.p (.bin .shr (.tmp 31) (.val (.int .u64 (.ofNat 17))))),none⟩,bt 33 .xor 30 32,⟨(some 34),(.e (.call (F 25) [(.tmp 25),(.tmp 33)])),none⟩,⟨(some 35),(.a (.bslice [.bool false,.int .i64 (.ofNat 0),.int .i64 (.ofNat 0),.nilslice] 4 1 [(0,4,(.tmp 34))])),none⟩,⟨(some 36),(.e (.append 4 48 (.tmp 24) (.tmp 35))),none⟩,mv 5 36] [35] [1,5,9,10,11]))))
 (.region [bi 37 .add 11 1,mv 11 37] [] [1,5,9,10,11])))))))
 (.seq (.region [mv 38 5,mv 4 38] [] [4])
 (.ret))))
def M24 (F : Nat → Nat) : Fun := ⟨39,2,(K24 F).erase,[.tmp 4]⟩
abbrev K25 (_F : Nat → Nat) : KC := .seq (.region [⟨(some 2),(.a (.box (.tmp 0))),none⟩,⟨(some 4),(.a (.new [.bool false,.int .i64 (.ofNat 0),.int .i64 (.ofNat 0),.nilslice])),none⟩] [2] [1,2,4])
 (.seq (.seq (.region [fa 6 2 2,l1 7 6,mv 8 7,⟨(some 9),(.p (.mov (.tmp 1))),(some (8,true))⟩,⟨(some 10),(.p (.bin .and (.tmp 9) (.val (.int .i64 (.ofNat 7))))),(some (8,true))⟩,⟨(some 11),(.p (.bin .eql (.tmp 10) (.val (.int .i64 (.ofNat 0))))),(some (8,true))⟩,⟨(some 12),(.p (.pick (.tmp 8) (.tmp 11) (.val (.bool false)))),none⟩] [] [1,2,4,12])
 (.cond (.tmp 12) (.seq (.region [fa 13 1 2,l1 14 13,⟨(some 15),(.p (.build [.bool false,.int .i64 (.ofNat 0),.int .i64 (.ofNat 0),.nilslice] [(1,1,(.tmp 14)),(0,1,(.val (.bool true)))])),none⟩,⟨none,(.e (.store 4 (.tmp 4) (.tmp 15))),none⟩] [] [4])
 (.ret))
 (.skip)))
 (.seq (.region [fa 16 1 2,l1 17 16,⟨(some 18),(.p (.build [.bool false,.int .i64 (.ofNat 0),.int .i64 (.ofNat 0),.nilslice] [(1,1,(.tmp 17))])),none⟩,⟨(some 5),(.a (.new [.bool false,.int .i64 (.ofNat 0),.int .i64 (.ofNat 0),.nilslice])),none⟩,⟨none,(.e (.store 4 (.tmp 5) (.tmp 18))),none⟩] [] [1,2,4,5])
 (.seq (.seq (.region [fa 19 1 2,l1 20 19,bi 21 .eql 20 1] [] [1,4,5,21])
 (.cond (.tmp 21) (.seq (.region [mv 22 1,⟨(some 23),(.p (.bin .shr (.tmp 22) (.val (.int .u64 (.ofNat 3))))),none⟩,bi 24 .and 23 7,fa 25 2 5,⟨none,(.e (.store 1 (.tmp 25) (.tmp 24))),none⟩] [] [1,4,5])
 (.seq (.seq (.region [mv 26 1,⟨(some 27),(.p (.bin .shr (.tmp 26) (.val (.int .u64 (.ofNat 6))))),none⟩,bi 28 .and 27 15] [] [1,4,5,28])
 (.block 0 (.seq (.region [bi 30 .eql 28 0,mv 29 30] [] [1,4,5,28,29])
 (.cond (.tmp 29) (.region [mv 31 1,bi 32 .mul 31 712544676207699905,fa 33 2 5,⟨none,(.e (.store 1 (.tmp 33) (.tmp 32))),none⟩] [] [4,5])
 (.seq (.region [bi 35 .eql 28 1,mv 34 35] [] [4,5,28,34])
 (.cond (.tmp 34) (.region [fa 36 2 5,l1 37 36,⟨(some 38),(.p (.neg (.tmp 37))),none⟩,fa 39 2 5,⟨none,(.e (.store 1 (.tmp 39) (.tmp 38))),none⟩] [] [4,5])
 (.seq (.region [bi 41 .eql 28 2,mv 40 41] [] [4,5,40])
 (.cond (.tmp 40) (.region [fa 42 2 5,l1 43 42,⟨(some 44),(.p (.bin .sub (.val (.int .i64 (.ofNat 9223372036854775807))) (.tmp 43))),none⟩,fa 45 2 5,⟨none,(.e (.store 1 (.tmp 45) (.tmp 44))),none⟩] [] [4,5])
 (.skip)))))))))
 (.seq (.region [ln 46 4 5,⟨none,(.e (.store 4 (.tmp 4) (.tmp 46))),none⟩] [] [4])
 (.ret))))
 (.skip)))
 (.seq (.region [⟨(some 47),(.a (.bslice [.int .u8 (.ofNat 0),.int .u8 (.ofNat 0),.int .u8 (.ofNat 0),.int .u8 (.ofNat 0),.int .u8 (.ofNat 0),.int .u8 (.ofNat 0),.int .u8 (.ofNat 0),.int .u8 (.ofNat 0)] 1 8 [(0,1,(.val (.int .u8 (.ofNat 97)))),(1,1,(.val (.int .u8 (.ofNat 98)))),(2,1,(.val (.int .u8 (.ofNat 99)))),(3,1,(.val (.int .u8 (.ofNat 97)))),(4,1,(.val (.int .u8 (.ofNat 98)))),(5,1,(.val (.int .u8 (.ofNat 99)))),(6,1,(.val (.int .u8 (.ofNat 97)))),(7,1,(.val (.int .u8 (.ofNat 98))))])),none⟩,⟨(some 48),(.e (.mark (.tmp 47))),none⟩,mv 49 1,⟨(some 50),(.p (.bin .shr (.tmp 49) (.val (.int .u64 (.ofNat 3))))),none⟩,bi 51 .and 50 3,mv 52 1,⟨(some 53),(.p (.bin .shr (.tmp 52) (.val (.int .u64 (.ofNat 3))))),none⟩,bi 54 .and 53 3,mv 55 1,⟨(some 56),(.p (.bin .shr (.tmp 55) (.val (.int .u64 (.ofNat 5))))),none⟩,bi 57 .and 56 3,bt 58 .add 54 57,⟨(some 59),(.p (.slc 1 (.tmp 48) (some (.tmp 51)) (some (.tmp 58)) none)),none⟩,fa 60 3 5,⟨none,(.e (.store 1 (.tmp 60) (.tmp 59))),none⟩] [] [4,5])
 (.seq (.region [ln 61 4 5,⟨none,(.e (.store 4 (.tmp 4) (.tmp 61))),none⟩] [] [4])
 (.ret))))))
def M25 (F : Nat → Nat) : Fun := ⟨62,2,(K25 F).erase,[.celln 4 4]⟩
end Go.Lib
end

section
namespace Go.Lib
open Go.Vm Go.Dv
set_option maxRecDepth 100000
abbrev K1 (F : Nat → Nat) : KC := .seq (.region [⟨(some 2),(.a (.box (.tmp 0))),none⟩,⟨(some 3),(.a (.box (.tmp 1))),none⟩,mi 4 0] [2,3] [2,3])
 (.seq (.seq (.dregion [⟨ln 6 4 2,0,1⟩,⟨⟨(some 7),(.e (.call (F 8) [(.tmp 6)])),none⟩,0,3⟩,⟨ln 8 4 3,0,3⟩,⟨⟨(some 9),(.e (.call (F 8) [(.tmp 8)])),none⟩,2,4⟩,⟨⟨(some 10),(.e (.call (F 9) [(.tmp 7),(.tmp 9)])),none⟩,4,6⟩,⟨mv 5 10,5,6⟩] [2,3,5])
 (.seq (.region [mv 11 5,bi 12 .neq 11 0,mv 13 12,⟨(some 14),(.p (.faddr 0 (.tmp 2))),(some (13,false))⟩,⟨(some 15),(.load1 (.tmp 14)),(some (13,false))⟩,⟨(some 16),(.p (.pick (.tmp 13) (.val (.bool true)) (.tmp 15))),none⟩] [] [2,3,5,16])
 (.cond (.tmp 16) (.seq (.region [mv 17 5,mv 4 17] [] [4])
 (.ret))
 (.skip))))
 (.seq (.seq (.region [fa 18 1 2,l1 19 18] [] [2,3,19])
 (.block 0 (.seq (.region [bi 21 .eql 19 1,mv 20 21] [] [2,3,19,20])
 (.cond (.tmp 20) (.seq (.region [fa 22 2 2,l1 23 22,fa 24 2 3,l1 25 24,⟨(some 26),(.e (.call (F 10) [(.tmp 23),(.tmp 25)])),none⟩,mv 4 26] [] [4])
 (.ret))
 (.seq (.region [bi 28 .eql 19 2,mv 27 28] [] [2,3,27])
 (.cond (.tmp 27) (.seq (.region [fa 29 3 2,l1 30 29,fa 31 3 3,l1 32 31,⟨(some 33),(.e (.call (F 11) [(.tmp 30),(.tmp 32)])),none⟩,mv 4 33] [] [4])
 (.ret))
 (.skip)))))))
 (.seq (.region [mi 4 0] [] [4])
 (.ret))))
def M1 (F : Nat → Nat) : Fun := ⟨34,2,(K1 F).erase,[.tmp 4]⟩
abbrev K2 (F : Nat → Nat) : KC := .seq (.region [mi 4 0] [] [0,1])
 (.seq (.region [mv 5 0,mv 6 1,⟨(some 7),(.e (.call (F 12) [(.tmp 5),(.tmp 6),(.val (.func (F 1) [] []))])),none⟩,mv 4 7] [] [4])
 (.ret))
def M2 (F : Nat → Nat) : Fun := ⟨8,2,(K2 F).erase,[.tmp 4]⟩
abbrev K3 (F : Nat → Nat) : KC := .seq (.region [⟨(some 4),(.a (.new [.bool false,.int .i64 (.ofNat 0),.int .i64 (.ofNat 0),.nilslice])),none⟩] [] [0,1,4])
 (.seq (.seq (.region [mv 5 1,bi 6 .lss 5 0,mv 7 6,⟨(some 8),(.p (.mov (.tmp 1))),(some (7,false))⟩,⟨(some 9),(.p (.mov (.tmp 0))),(some (7,false))⟩,⟨(some 10),(.p (.lenb (.tmp 9))),(some (7,false))⟩,⟨(some 11),(.p (.bin .geq (.tmp 8) (.tmp 10))),(some (7,false))⟩,⟨(some 12),(.p (.pick (.tmp 7) (.val (.bool true)) (.tmp 11))),none⟩] [] [0,1,4,12])
 (.cond (.tmp 12) (.seq (.region [⟨(some 13),(.p (.build [.bool false,.int .i64 (.ofNat 0),.int .i64 (.ofNat 0),.nilslice] [])),none⟩,⟨none,(.e (.store 4 (.tmp 4) (.tmp 13))),none⟩] [] [4])
 (.ret))
 (.skip)))
 (.seq (.region [mv 14 0,mv 15 1,ix 16 4 14 15,ln 17 4 16,⟨(some 18),(.e (.call (F 5) [(.tmp 17)])),none⟩,⟨none,(.e (.store 4 (.tmp 4) (.tmp 18))),none⟩] [] [4])
 (.ret)))
def M3 (F : Nat → Nat) : Fun := ⟨19,2,(K3 F).erase,[.celln 4 4]⟩
abbrev K4 (F : Nat → Nat) : KC := .seq (.region [⟨(some 2),(.p (.mov (.val (.nilslice)))),none⟩] [] [0])
 (.seq (.region [⟨(some 3),(.p (.mov (.val (.nilslice)))),none⟩] [] [0,3])
 (.seq (.seq (.region [mv 6 0,lb 7 6,mi 8 0] [] [3,6,7,8])
 (.block 0 (.loop (.seq (.region [bt 9 .lss 8 7] [] [3,6,7,8,9])
 (.seq (.cond (.tmp 9) (.skip)
 (.exit 0))
 (.seq (.block 1 (.seq (.region [ix 10 4 6 8,ln 11 4 10,⟨(some 5),(.a (.new [.bool false,.int .i64 (.ofNat 0),.int .i64 (.ofNat 0),.nilslice])),none⟩,⟨none,(.e (.store 4 (.tmp 5) (.tmp 11))),none⟩] [] [3,5,6,7,8])
 (.region [mv 12 3,ln 13 4 5,⟨(some 14),(.e (.call (F 5) [(.tmp 13)])),none⟩,⟨(some 15),(.a (.bslice [.bool false,.int .i64 (.ofNat 0),.int .i64 (.ofNat 0),.nilslice] 4 1 [(0,4,(.tmp 14))])),none⟩,⟨(some 16),(.e (.append 4 48 (.tmp 12) (.tmp 15))),none⟩,mv 3 16] [15] [3,6,7,8])))
 (.region [bi 17 .add 8 1,mv 8 17] [] [3,6,7,8])))))))
 (.seq (.region [mv 18 3,⟨(some 19),(.e (.call (F 13) [(.tmp 18)])),none⟩,mv 2 19] [] [2])
 (.ret))))
def M4 (F : Nat → Nat) : Fun := ⟨20,1,(K4 F).erase,[.tmp 2]⟩
abbrev K5 (F : Nat → Nat) : KC := .seq (.region [⟨(some 1),(.a (.box (.tmp 0))),none⟩,⟨(some 2),(.a (.new [.bool false,.int .i64 (.ofNat 0),.int .i64 (.ofNat 0),.nilslice])),none⟩] [] [1,2])
 (.seq (.region [fa 3 3 1,l1 4 3,⟨(some 5),(.e (.call (F 14) [(.tmp 4)])),none⟩,fa 6 3 1,⟨none,(.e (.store 1 (.tmp 6) (.tmp 5))),none⟩] [] [1,2])
 (.seq (.region [ln 7 4 1,⟨none,(.e (.store 4 (.tmp 2) (.tmp 7))),none⟩] [] [2])
 (.ret)))
def M5 (F : Nat → Nat) : Fun := ⟨8,1,(K5 F).erase,[.celln 4 2]⟩
abbrev K6 (F : Nat → Nat) : KC := .seq (.region [⟨(some 2),(.a (.box (.tmp 0))),none⟩,⟨(some 3),(.a (.box (.tmp 1))),none⟩,⟨(some 4),(.p (.mov (.val (.bool false)))),none⟩] [2,3] [2,3])
 (.seq (.region [fa 5 0 2,l1 6 5,fa 7 0 3,l1 8 7,⟨(some 9),(.p (.eq .bool false (.tmp 6) (.tmp 8))),none⟩,mv 10 9,⟨(some 11),(.p (.faddr 1 (.tmp 2))),(some (10,true))⟩,⟨(some 12),(.load1 (.tmp 11)),(some (10,true))⟩,⟨(some 13),(.p (.faddr 1 (.tmp 3))),(some (10,true))⟩,⟨(some 14),(.load1 (.tmp 13)),(some (10,true))⟩,⟨(some 15),(.p (.bin .eql (.tmp 12) (.tmp 14))),(some (10,true))⟩,⟨(some 16),(.p (.pick (.tmp 10) (.tmp 15) (.val (.bool false)))),none⟩,mv 17 16,⟨(some 18),(.p (.faddr 2 (.tmp 2))),(some (17,true))⟩,⟨(some 19),(.load1 (.tmp 18)),(some (17,true))⟩,⟨(some 20),(.p (.faddr 2 (.tmp 3))),(some (17,true))⟩,⟨(some 21),(.load1 (.tmp 20)),(some (17,true))⟩,⟨(some 22),(.p (.bin .eql (.tmp 19) (.tmp 21))),(some (17,true))⟩,⟨(some 23),(.p (.pick (.tmp 17) (.tmp 22) (.val (.bool false)))),none⟩,mv 24 23,⟨(some 25),(.p (.faddr 3 (.tmp 2))),(some (24,true))⟩,⟨(some 26),(.load1 (.tmp 25)),(some (24,true))⟩,⟨(some 27),(.p (.faddr 3 (.tmp 3))),(some (24,true))⟩,⟨(some 28),(.load1 (.tmp 27)),(some (24,true))⟩,⟨(some 29),(.e (.call (F 15) [(.tmp 26),(.tmp 28)])),(some (24,true))⟩,⟨(some 30),(.p (.pick (.tmp 24) (.tmp 29) (.val (.bool false)))),none⟩,mv 4 30] [] [4])
 (.ret))
def M6 (F : Nat → Nat) : Fun := ⟨31,2,(K6 F).erase,[.tmp 4]⟩
abbrev K7 (F : Nat → Nat) : KC := .seq (.region [⟨(some 4),(.p (.mov (.val (.bool false)))),none⟩] [] [0,1])
 (.seq (.region [mv 5 0,mv 6 1,⟨(some 7),(.e (.call (F 16) [(.tmp 5),(.tmp 6),(.val (.func (F 17) [] []))])),none⟩,mv 4 7] [] [4])
 (.ret))
def M7 (F : Nat → Nat) : Fun := ⟨8,2,(K7 F).erase,[.tmp 4]⟩
abbrev K8 (_F : Nat → Nat) : KC := .seq (.region [⟨(some 1),(.a (.box (.tmp 0))),none⟩,mi 2 0] [1] [1])
 (.seq (.seq (.region [fa 3 0 1,l1 4 3] [] [4])
 (.cond (.tmp 4) (.seq (.region [mi 2 0] [] [2])
 (.ret))
 (.skip)))
 (.seq (.region [mi 2 1] [] [2])
 (.ret)))
def M8 (F : Nat → Nat) : Fun := ⟨5,1,(K8 F).erase,[.tmp 2]⟩
abbrev K9 (F : Nat → Nat) : KC := .seq (.region [mi 4 0] [] [0,1])
 (.seq (.region [mv 7 0,⟨(some 8),(.e (.call (F 18) [(.tmp 7)])),none⟩,mv 5 8] [] [0,1,5])
 (.seq (.region [mv 9 1,⟨(some 10),(.e (.call (F 18) [(.tmp 9)])),none⟩,mv 6 10] [] [0,1,5,6])
 (.seq (.seq (.region [mv 11 5] [] [0,1,6,11])
 (.cond (.tmp 11) (.seq (.seq (.region [mv 12 6] [] [12])
 (.cond (.tmp 12) (.seq (.region [mi 4 0] [] [4])
 (.ret))
 (.skip)))
 (.seq (.region [⟨(some 4),(.p (.mov (.val (.int .i64 (.negSucc 0))))),none⟩] [] [4])
 (.ret)))
 (.skip)))
 (.seq (.seq (.region [mv 13 6] [] [0,1,13])
 (.cond (.tmp 13) (.seq (.region [mi 4 1] [] [4])
 (.ret))
 (.skip)))
 (.seq (.seq (.region [mv 14 0,mv 15 1,bt 16 .lss 14 15] [] [0,1,16])
 (.cond (.tmp 16) (.seq (.region [⟨(some 4),(.p (.mov (.val (.int .i64 (.negSucc 0))))),none⟩] [] [4])
 (.ret))
 (.skip)))
 (.seq (.seq (.region [mv 17 0,mv 18 1,bt 19 .gtr 17 18] [] [19])
 (.cond (.tmp 19) (.seq (.region [mi 4 1] [] [4])
 (.ret))
 (.skip)))
 (.seq (.region [mi 4 0] [] [4])
 (.ret))))))))
def M9 (F : Nat → Nat) : Fun := ⟨20,2,(K9 F).erase,[.tmp 4]⟩
abbrev K10 (F : Nat → Nat) : KC := .seq (.region [mi 4 0] [] [0,1])
 (.seq (.region [mv 7 0,⟨(some 8),(.e (.call (F 19) [(.tmp 7)])),none⟩,mv 5 8] [] [0,1,5])
 (.seq (.region [mv 9 1,⟨(some 10),(.e (.call (F 19) [(.tmp 9)])),none⟩,mv 6 10] [] [0,1,5,6])
 (.seq (.seq (.region [mv 11 5] [] [0,1,6,11])
 (.cond (.tmp 11) (.seq (.seq (.region [mv 12 6] [] [12])
 (.cond (.tmp 12) (.seq (.region [mi 4 0] [] [4])
 (.ret))
 (.skip)))
 (.seq (.region [⟨(some 4),(.p (.mov (.val (.int .i64 (.negSucc 0))))),none⟩] [] [4])
 (.ret)))
 (.skip)))
 (.seq (.seq (.region [mv 13 6] [] [0,1,13])
 (.cond (.tmp 13) (.seq (.region [mi 4 1] [] [4])
 (.ret))
 (.skip)))
 (.seq (.seq (.region [mv 14 0,mv 15 1,bt 16 .lss 14 15] [] [0,1,16])
 (.cond (.tmp 16) (.seq (.region [⟨(some 4),(.p (.mov (.val (.int .i64 (.negSucc 0))))),none⟩] [] [4])
 (.ret))
 (.skip)))
 (.seq (.seq (.region [mv 17 0,mv 18 1,bt 19 .gtr 17 18] [] [19])
 (.cond (.tmp 19) (.seq (.region [mi 4 1] [] [4])
 (.ret))
 (.skip)))
 (.seq (.region [mi 4 0] [] [4])
 (.ret))))))))
def M10 (F : Nat → Nat) : Fun := ⟨20,2,(K10 F).erase,[.tmp 4]⟩
abbrev K11 (F : Nat → Nat) : KC := .seq (.region [mi 4 0] [] [0,1])
 (.seq (.region [mv 5 0,mv 6 1,⟨(some 7),(.e (.extern (F 20) [(.tmp 5),(.tmp 6)])),none⟩,mv 4 7] [] [4])
 (.ret))
def M11 (F : Nat → Nat) : Fun := ⟨8,2,(K11 F).erase,[.tmp 4]⟩
abbrev K12 (_F : Nat → Nat) : KC := .seq (.region [mi 6 0] [] [0,1,2])
 (.seq (.seq (.region [mv 11 0,lb 12 11,mi 13 0] [] [0,1,2,11,12,13])
 (.block 0 (.loop (.seq (.region [bt 14 .lss 13 12] [] [0,1,2,11,12,13,14])
 (.seq (.cond (.tmp 14) (.skip)
 (.exit 0))
 (.seq (.block 1 (.seq (.region [mv 15 13,ix 16 4 11 13,ln 17 4 16,⟨(some 8),(.a (.new [.bool false,.int .i64 (.ofNat 0),.int .i64 (.ofNat 0),.nilslice])),none⟩,mv 7 15,⟨none,(.e (.store 4 (.tmp 8) (.tmp 17))),none⟩] [] [0,1,2,7,8,11,12,13])
 (.seq (.seq (.region [mv 18 7,mv 19 1,lb 20 19,bt 21 .geq 18 20] [] [0,1,2,7,8,11,12,13,21])
 (.cond (.tmp 21) (.seq (.region [mi 6 1] [] [6])
 (.ret))
 (.skip)))
 (.seq (.region [mv 22 1,mv 23 7,ix 24 4 22 23,ln 25 4 24,⟨(some 9),(.a (.new [.bool false,.int .i64 (.ofNat 0),.int .i64 (.ofNat 0),.nilslice])),none⟩,⟨none,(.e (.store 4 (.tmp 9) (.tmp 25))),none⟩] [] [0,1,2,8,9,11,12,13])
 (.seq (.region [mv 26 2,ln 27 4 8,ln 28 4 9,⟨(some 29),(.e (.callv (.tmp 26) [(.tmp 27),(.tmp 28)])),none⟩,mv 10 29] [] [0,1,2,10,11,12,13])
 (.seq (.region [mv 30 10,bi 31 .neq 30 0] [] [0,1,2,10,11,12,13,31])
 (.cond (.tmp 31) (.seq (.region [mv 32 10,mv 6 32] [] [6])
 (.ret))
 (.skip))))))))
 (.region [bi 33 .add 13 1,mv 13 33] [] [0,1,2,11,12,13])))))))
 (.seq (.seq (.region [mv 34 0,lb 35 34,mv 36 1,lb 37 36,bt 38 .lss 35 37] [] [38])
 (.cond (.tmp 38) (.seq (.region [⟨(some 6),(.p (.mov (.val (.int .i64 (.negSucc 0))))),none⟩] [] [6])
 (.ret))
 (.skip)))
 (.seq (.region [mi 6 0] [] [6])
 (.ret))))
def M12 (F : Nat → Nat) : Fun := ⟨39,3,(K12 F).erase,[.tmp 6]⟩
abbrev K13 (_F : Nat → Nat) : KC := .seq (.region [⟨(some 2),(.p (.mov (.val (.nilslice)))),none⟩] [] [0])
 (.seq (.region [mv 3 0,mv 4 0,lb 5 4,mv 6 0,lb 7 6,⟨(some 8),(.p (.slc 4 (.tmp 3) none (some (.tmp 5)) (some (.tmp 7)))),none⟩,mv 2 8] [] [2])
 (.ret))
def M13 (F : Nat → Nat) : Fun := ⟨9,1,(K13 F).erase,[.tmp 2]⟩
abbrev K14 (_F : Nat → Nat) : KC := .seq (.region [⟨(some 2),(.p (.mov (.val (.nilslice)))),none⟩] [] [0])
 (.seq (.seq (.region [mv 3 0,⟨(some 4),(.p (.eq .slice false (.tmp 3) (.val (.nilslice)))),none⟩] [] [0,4])
 (.cond (.tmp 4) (.seq (.region [⟨(some 2),(.p (.mov (.val (.nilslice)))),none⟩] [] [2])
 (.ret))
 (.skip)))
 (.seq (.region [⟨(some 5),(.a (.bslice [] 1 0 [])),none⟩,mv 6 0,⟨(some 7),(.e (.append 1 1 (.tmp 5) (.tmp 6))),none⟩,mv 2 7] [] [2])
 (.ret)))
def M14 (F : Nat → Nat) : Fun := ⟨8,1,(K14 F).erase,[.tmp 2]⟩
abbrev K15 (_F : Nat → Nat) : KC := .seq (.region [⟨(some 4),(.p (.mov (.val (.bool false)))),none⟩] [] [0,1])
 (.seq (.region [mv 5 0,⟨(some 6),(.e (.text (.tmp 5))),none⟩,mv 7 1,⟨(some 8),(.e (.text (.tmp 7))),none⟩,bt 9 .eql 6 8,mv 4 9] [] [4])
 (.ret))
def M15 (F : Nat → Nat) : Fun := ⟨10,2,(K15 F).erase,[.tmp 4]⟩
abbrev K16 (_F : Nat → Nat) : KC := .seq (.region [⟨(some 6),(.p (.mov (.val (.bool false)))),none⟩] [] [0,1,2])
 (.seq (.seq (.region [mv 10 0,lb 11 10,mv 12 1,lb 13 12,bt 14 .neq 11 13] [] [0,1,2,14])
 (.cond (.tmp 14) (.seq (.region [⟨(some 6),(.p (.mov (.val (.bool false)))),none⟩] [] [6])
 (.ret))
 (.skip)))
 (.seq (.seq (.region [mv 15 0,lb 16 15,mi 17 0] [] [1,2,15,16,17])
 (.block 0 (.loop (.seq (.region [bt 18 .lss 17 16] [] [1,2,15,16,17,18])
 (.seq (.cond (.tmp 18) (.skip)
 (.exit 0))
 (.seq (.block 1 (.seq (.region [mv 19 17,ix 20 1 15 17,l1 21 20,mv 7 19,mv 8 21] [] [1,2,7,8,15,16,17])
 (.seq (.region [mv 22 1,mv 23 7,ix 24 1 22 23,l1 25 24,mv 9 25] [] [1,2,8,9,15,16,17])
 (.seq (.region [mv 26 2,mv 27 8,mv 28 9,⟨(some 29),(.e (.callv (.tmp 26) [(.tmp 27),(.tmp 28)])),none⟩,⟨(some 30),(.p (.not (.tmp 29))),none⟩] [] [1,2,15,16,17,30])
 (.cond (.tmp 30) (.seq (.region [⟨(some 6),(.p (.mov (.val (.bool false)))),none⟩] [] [6])
 (.ret))
 (.skip))))))
 (.region [bi 31 .add 17 1,mv 17 31] [] [1,2,15,16,17])))))))
 (.seq (.region [⟨(some 6),(.p (.mov (.val (.bool true)))),none⟩] [] [6])
 (.ret))))
def M16 (F : Nat → Nat) : Fun := ⟨32,3,(K16 F).erase,[.tmp 6]⟩
abbrev K17 (F : Nat → Nat) : KC := .seq (.region [⟨(some 4),(.p (.mov (.val (.bool false)))),none⟩] [] [0,1])
 (.seq (.region [mv 5 0,mv 6 1,⟨(some 7),(.e (.call (F 21) [(.tmp 5),(.tmp 6),(.val (.func (F 6) [] []))])),none⟩,mv 4 7] [] [4])
 (.ret))
def M17 (F : Nat → Nat) : Fun := ⟨8,2,(K17 F).erase,[.tmp 4]⟩
abbrev K18 (_F : Nat → Nat) : KC := .seq (.region [⟨(some 2),(.p (.mov (.val (.bool false)))),none⟩] [] [0])
 (.seq (.region [mv 3 0,mv 4 0,bt 5 .neq 3 4,mv 2 5] [] [2])
 (.ret))
def M18 (F : Nat → Nat) : Fun := ⟨6,1,(K18 F).erase,[.tmp 2]⟩
abbrev K19 (_F : Nat → Nat) : KC := .seq (.region [⟨(some 2),(.p (.mov (.val (.bool false)))),none⟩] [] [0])
 (.seq (.region [mv 3 0,mv 4 0,bt 5 .neq 3 4,mv 2 5] [] [2])
 (.ret))
def M19 (F : Nat → Nat) : Fun := ⟨6,1,(K19 F).erase,[.tmp 2]⟩
abbrev K21 (_F : Nat → Nat) : KC := .seq (.region [⟨(some 6),(.p (.mov (.val (.bool false)))),none⟩] [] [0,1,2])
 (.seq (.seq (.region [mv 10 0,lb 11 10,mv 12 1,lb 13 12,bt 14 .neq 11 13] [] [0,1,2,14])
 (.cond (.tmp 14) (.seq (.region [⟨(some 6),(.p (.mov (.val (.bool false)))),none⟩] [] [6])
 (.ret))
 (.skip)))
 (.seq (.seq (.region [mv 15 0,lb 16 15,mi 17 0] [] [1,2,15,16,17])
 (.block 0 (.loop (.seq (.region [bt 18 .lss 17 16] [] [1,2,15,16,17,18])
 (.seq (.cond (.tmp 18) (.skip)
 (.exit 0))
 (.seq (.block 1 (.seq (.region [mv 19 17,ix 20 4 15 17,ln 21 4 20,⟨(some 8),(.a (.new [.bool false,.int .i64 (.ofNat 0),.int .i64 (.ofNat 0),.nilslice])),none⟩,mv 7 19,⟨none,(.e (.store 4 (.tmp 8) (.tmp 21))),none⟩] [] [1,2,7,8,15,16,17])
 (.seq (.region [mv 22 1,mv 23 7,ix 24 4 22 23,ln 25 4 24,⟨(some 9),(.a (.new [.bool false,.int .i64 (.ofNat 0),.int .i64 (.ofNat 0),.nilslice])),none⟩,⟨none,(.e (.store 4 (.tmp 9) (.tmp 25))),none⟩] [] [1,2,8,9,15,16,17])
 (.seq (.region [mv 26 2,ln 27 4 8,ln 28 4 9,⟨(some 29),(.e (.callv (.tmp 26) [(.tmp 27),(.tmp 28)])),none⟩,⟨(some 30),(.p (.not (.tmp 29))),none⟩] [] [1,2,15,16,17,30])
 (.cond (.tmp 30) (.seq (.region [⟨(some 6),(.p (.mov (.val (.bool false)))),none⟩] [] [6])
 (.ret))
 (.skip))))))
 (.region [bi 31 .add 17 1,mv 17 31] [] [1,2,15,16,17])))))))
 (.seq (.region [⟨(some 6),(.p (.mov (.val (.bool true)))),none⟩] [] [6])
 (.ret))))
def M21 (F : Nat → Nat) : Fun := ⟨32,3,(K21 F).erase,[.tmp 6]⟩
end Go.Lib
end

section
namespace Go.Dv
open Go.Vm
variable {p : Prog} {ext : Ext} {F : Nat → Nat}
structure Has (p : Prog) (ext : Ext) (F : Nat → Nat) (i : Nat) (M : (Nat → Nat) → Fun) : Prop where
  get : p.funs.get (F i) = some (M F)
  ext : ∀ args h, ext (F i) args h = none
def Fin (H : HpD) (d : D) (d' : D) (H' : HpD) : Prop := ∃ H2, WeakV d' H' d H2 ∧ Sub H H2 ∧ d.under H.next
theorem Fin.same {H : HpD} {d : D} (hu : d.under H.next) : Fin H d d H := ⟨H, .refl, .refl, hu⟩
theorem Fin.le {H H' : HpD} {d d' : D} (hs : Sub H H') (hl : D.le d' d) (hu : d.under H.next) : Fin H d d' H' := ⟨H', .le hl, hs, hu⟩
theorem fn_of {i : Nat} {M : (Nat → Nat) → Fun} (hh : Has p ext F i M) {kc : KC} (hb : (M F).body = kc.erase) (hk : kc.ok = true) {args : List D} {d : D} (hn : args.length = (M F).nargs)
    (hs : ∀ H, Sem p ext (endD (M F).results (Fin H d)) (.code kc [] .mk (argsD 0 args) H)) : FnD p ext (F i) args d := by
  intro H
  refine WcD.drop (WcD.mono (enterD hh.ext hh.get hb hk hn (hs H)) ?_)
  rintro d' H' ⟨H2, w, s, u⟩
  exact ⟨d, H2, w, s, u, rfl, rfl⟩
theorem underss_map {α : Type} {n : Nat} {f : α → List D} (h : ∀ x, D.unders n (f x)) : ∀ l : List α, D.underss n (l.map f)
  | [] => trivial
  | x :: l => ⟨h x, underss_map h l⟩
end Go.Dv
end

section
namespace Go.Dv
open Go.Vm
variable {p : Prog} {ext : Ext} {Q : ResD → Prop}
def D.hasB (x : Nat) : D → Prop
  | .slice b _ _ _ _ _ => x = b
  | _ => False
structure Gr (H0 H : HpD) (sz : Nat) (s : D) (el : List (List D)) : Prop where
  sub : Sub H0 H
  len : ∀ e, e ∈ el → e.length = sz
  at_ : (s = .lit .nilslice ∧ el = []) ∨ ∃ b ex el0, s = .slice b 0 sz el.length el.length ex ∧ H0.next ≤ b ∧ b < H.next ∧ H.blk b = .cells el0.flatten false ∧ D.less el0 el
section
variable {H0 H H1 : HpD} {sz : Nat} {s : D} {el : List (List D)}
theorem Gr.nil (hs : Sub H0 H) : Gr H0 H sz (.lit .nilslice) [] := ⟨hs, fun _ h => (by cases h), .inl ⟨rfl, rfl⟩⟩
theorem Gr.lit (hs : Sub H0 H) {ex : Bool} (he : ∀ e, e ∈ el → e.length = sz) {c : List D} (hc : c = el.flatten) {n : Nat} (hn : n = el.length) : Gr H0 (H.new (.cells c false)) sz (.slice H.next 0 sz n n ex) el :=
  ⟨hs.new, he, .inr ⟨H.next, ex, el, by rw [hn], hs.next, by simp [new_next], by simp [new_blk, hc], D.less_refl _⟩⟩
theorem Gr.start : Gr H H sz (.lit .nilslice) [] := .nil .refl
theorem Gr.mono (g : Gr H0 H sz s el) (h : Sub H H1) : Gr H0 H1 sz s el := by
  refine ⟨g.sub.trans h, g.len, ?_⟩
  rcases g.at_ with k | ⟨b, ex, el0, rfl, h1, h2, h3, h4⟩
  · exact .inl k
  · exact .inr ⟨b, ex, el0, rfl, h1, Nat.lt_of_lt_of_le h2 h.next, (h.blk b h2).trans h3, h4⟩
theorem Gr.keep (g : Gr H0 H sz s el) (hs : Sub H0 H1) (hn : H.next ≤ H1.next) (hk : ∀ x, s.hasB x → H1.blk x = H.blk x) : Gr H0 H1 sz s el := by
  refine ⟨hs, g.len, ?_⟩
  rcases g.at_ with k | ⟨b, ex, el0, rfl, h1, h2, h3, h4⟩
  · exact .inl k
  · exact .inr ⟨b, ex, el0, rfl, h1, Nat.lt_of_lt_of_le h2 hn, (hk b rfl).trans h3, h4⟩
theorem Gr.lenb (g : Gr H0 H sz s el) : lenbD s = some (.lit (.int .i64 (el.length : Int))) := by
  rcases g.at_ with ⟨rfl, rfl⟩ | ⟨b, ex, el0, rfl, _⟩ <;> rfl
theorem flatten_len {sz : Nat} : ∀ {el : List (List D)}, (∀ e, e ∈ el → e.length = sz) → el.flatten.length = el.length * sz
  | [], _ => by simp
  | e :: l, h => by
    rw [List.flatten_cons, List.length_append, flatten_len fun x hx => h x (List.mem_cons_of_mem _ hx), h e (List.mem_cons_self ..), List.length_cons, Nat.succ_mul, Nat.add_comm]
theorem flatsD_flatten : ∀ {l : List (List D)}, (∀ e, e ∈ l → flatsD e = true) → flatsD l.flatten = true
  | [], _ => rfl
  | e :: l, h => by
    have key : ∀ (a b : List D), flatsD (a ++ b) = (flatsD a && flatsD b) := by
      intro a b
      induction a with
      | nil => simp [flatsD]
      | cons d a ih => simp [flatsD, ih, Bool.and_assoc]
    rw [List.flatten_cons, key, h e (List.mem_cons_self ..), flatsD_flatten fun x hx => h x (List.mem_cons_of_mem _ hx)]
    rfl
theorem roomyD {by_ n : Nat} (h : by_ * n ≤ 1099511627776) (h2 : n ≤ 1099511627776) : roomy by_ n = true := roomy_of h h2
theorem less_append : ∀ {a a' b b' : List (List D)}, D.less a a' → D.less b b' → D.less (a ++ b) (a' ++ b')
  | [], [], _, _, _, k => k
  | x :: a, y :: a', b, b', k, k2 => by
    simp only [D.less, List.cons_append] at k ⊢
    exact ⟨k.1, less_append k.2 k2⟩
  | [], _ :: _, _, _, k, _ => by simp [D.less] at k
  | _ :: _, [], _, _, k, _ => by simp [D.less] at k
theorem less_sz : ∀ {a a' : List (List D)} {sz : Nat}, D.less a a' → (∀ e, e ∈ a' → e.length = sz) → ∀ e, e ∈ a → e.length = sz
  | [], _, _, _, _, e, he => by cases he
  | x :: a, y :: a', sz, k, h, e, he => by
    simp only [D.less] at k
    rcases List.mem_cons.1 he with rfl | he
    · rw [les_length k.1]; exact h y (List.mem_cons_self ..)
    · exact less_sz k.2 (fun z hz => h z (List.mem_cons_of_mem _ hz)) e he
  | _ :: _, [], _, k, _, _, _ => by simp [D.less] at k
theorem Gr.grow (g : Gr H0 H sz s el) {by_ n : Nat} {new0 new : List (List D)} (hle : D.less new0 new) (hn : new.length = n) (h0 : 0 < n) (he : ∀ e, e ∈ new → e.length = sz) (hr : roomy by_ (el.length + n) = true) :
    ∃ s' H', appendCD sz by_ H s n new0.flatten = some (s', H') ∧ Gr H0 H' sz s' (el ++ new) ∧ (∀ x, x < H.next → ¬ s.hasB x → H'.blk x = H.blk x) ∧ H.next < H'.next ∧ s' = .slice H.next 0 sz (el ++ new).length (el ++ new).length false := by
  have hlen : ∀ e, e ∈ el ++ new → e.length = sz := fun e h => by
    rcases List.mem_append.1 h with h | h
    · exact g.len e h
    · exact he e h
  rcases g.at_ with ⟨rfl, rfl⟩ | ⟨b, ex, el0, rfl, h1, h2, h3, h4⟩
  · simp only [List.length_nil, Nat.zero_add] at hr
    refine ⟨_, _, by simp only [appendCD, hr, cond_true]; rfl, ⟨g.sub.new, hlen, .inr ⟨H.next, false, new0, by simp [hn], g.sub.next, by simp [new_next], by simp [new_blk], by simpa using hle⟩⟩, fun x hx _ => by rw [new_blk, if_neg (by omega)], Nat.lt_succ_self _, by simp [hn]⟩
  · have hel := less_length h4
    have hf := flatten_len (less_sz h4 g.len)
    have hrd : readD H b 0 (el.length * sz) = some el0.flatten := by
      rw [readD_eq, h3, ← hel, ← hf]
      simp only [Nat.zero_add, Nat.le_refl, if_true, List.drop_zero, List.take_length]
    have hnew : D.less (el0 ++ new0) (el ++ new) := less_append h4 hle
    cases ex with
    | false =>
      refine ⟨.slice H.next 0 sz (el.length + n) (el.length + n) false, (H.put b .gone).new (.cells (el0.flatten ++ new0.flatten) false), ?_, ⟨(g.sub.put h1).new, hlen, .inr ⟨H.next, false, el0 ++ new0, by simp [hn], g.sub.next, by simp [new_next, put_next], by simp [new_blk, put_next], hnew⟩⟩, fun x hx hx2 => ?_, by simp [new_next, put_next], by simp [hn]⟩
      · simp only [appendCD, hr, hrd, h3, growD]
        rw [show Nat.beq sz sz = true from nbeq.2 rfl, show Nat.ble (el.length + n) el.length = false from by rw [nble_d]; exact decide_eq_false (by omega)]
        rfl
      · rw [new_blk, put_next, if_neg (by omega), put_blk, if_neg]
        exact hx2
    | true =>
      refine ⟨.slice H.next 0 sz (el.length + n) (el.length + n) false, H.new (.cells (el0.flatten ++ new0.flatten) false), ?_, ⟨g.sub.new, hlen, .inr ⟨H.next, false, el0 ++ new0, by simp [hn], g.sub.next, by simp [new_next], by simp [new_blk], hnew⟩⟩, fun x hx hx2 => ?_, by simp [new_next], by simp [hn]⟩
      · simp only [appendCD, hr, hrd, growD]
        rw [show Nat.beq sz sz = true from nbeq.2 rfl, show Nat.ble (el.length + n) el.length = false from by rw [nble_d]; exact decide_eq_false (by omega)]
        rfl
      · rw [new_blk, if_neg (by omega)]
theorem Gr.app' (g : Gr H0 H sz s el) {by_ : Nat} {m : Md} {new0 new : List (List D)} (hle : D.less new0 new) (he : ∀ e, e ∈ new → e.length = sz) (hf : ∀ e, e ∈ new0 → flatsD e = true) (hr : roomy by_ (el.length + new.length) = true) :
    ∃ s' H', appendD sz by_ H s (.row sz m new0) = some (s', H') ∧ Gr H0 H' sz s' (el ++ new) ∧ (∀ x, x < H.next → ¬ s.hasB x → H'.blk x = H.blk x) ∧ H.next ≤ H'.next := by
  have hln := less_length hle
  cases hn : new0 with
  | nil =>
    have : new = [] := by rw [hn] at hln; exact List.eq_nil_of_length_eq_zero hln.symm
    subst this
    refine ⟨s, H, ?_, by rw [List.append_nil]; exact g, fun _ _ _ => rfl, Nat.le_refl _⟩
    simp only [appendD, lenD, List.length_nil]
    rcases g.at_ with ⟨rfl, rfl⟩ | ⟨b, ex, el0, rfl, _⟩
    · rfl
    · simp only [sameD]
      rw [show Nat.beq sz sz = true from nbeq.2 rfl]
      rfl
  | cons e l =>
    rw [← hn]
    have h0 : 0 < new.length := by rw [← hln, hn]; simp
    obtain ⟨s', H', e1, g', k, n, _⟩ := g.grow (by_ := by_) hle rfl h0 he hr
    refine ⟨s', H', ?_, g', k, Nat.le_of_lt n⟩
    simp only [appendD, lenD]
    obtain ⟨k, hk⟩ : ∃ k, new.length = k + 1 := ⟨new.length - 1, by omega⟩
    rw [hln, hk]
    simp only
    have hm : srcD H sz (k + 1) (.row sz m new0) = some new0.flatten := by
      simp only [srcD]
      rw [show Nat.beq sz sz = true from nbeq.2 rfl, show Nat.ble (k + 1) new0.length = true from nble.2 (by omega)]
      rw [show new0.take (k + 1) = new0 from List.take_of_length_le (by omega)]
      cases m <;> rfl
    rw [hm]
    simp only [appendN, flatsD_flatten hf, cond_true]
    rw [← hk]; exact e1
theorem Gr.app (g : Gr H0 H sz s el) {by_ : Nat} {m : Md} {new : List (List D)} (he : ∀ e, e ∈ new → e.length = sz) (hf : ∀ e, e ∈ new → flatsD e = true) (hr : roomy by_ (el.length + new.length) = true) :
    ∃ s' H', appendD sz by_ H s (.row sz m new) = some (s', H') ∧ Gr H0 H' sz s' (el ++ new) ∧ (∀ x, x < H.next → ¬ s.hasB x → H'.blk x = H.blk x) ∧ H.next ≤ H'.next := g.app' (D.less_refl _) he hf hr
theorem Gr.push (g : Gr H0 H sz s el) {by_ : Nat} {m : Md} {e : List D} (e' : List D) (hle : D.les e e') (he : e'.length = sz) (hf : flatsD e = true) (hr : roomy by_ (el.length + 1) = true) :
    ∃ s' H', appendD sz by_ H s (.row sz m [e]) = some (s', H') ∧ Gr H0 H' sz s' (el ++ [e']) ∧ (∀ x, x < H.next → ¬ s.hasB x → H'.blk x = H.blk x) ∧ H.next ≤ H'.next ∧ s' = .slice H.next 0 sz (el.length + 1) (el.length + 1) false := by
  obtain ⟨s', H', e1, g', k, n, e2⟩ := g.grow (by_ := by_) (n := 1) (new0 := [e]) (new := [e']) (by simp only [D.less]; exact ⟨hle, trivial⟩) rfl (by omega) (by simp [he]) hr
  refine ⟨s', H', ?_, g', k, Nat.le_of_lt n, by simpa using e2⟩
  simp only [appendD, lenD, List.length_singleton]
  have hm : srcD H sz (0 + 1) (.row sz m [e]) = some [e].flatten := by
    simp only [srcD]
    rw [show Nat.beq sz sz = true from nbeq.2 rfl]
    cases m <;> rfl
  rw [hm]
  simp only [appendN]
  rw [show flatsD [e].flatten = true from by simpa using hf]
  exact e1
theorem Gr.fin (g : Gr H0 H sz s el) (hu : D.underss H0.next el) {m : Md} (hm : m ≠ .c) : Fin H0 (.row sz m el) s H := by
  have hm' : m = .p ∨ m = .w := by cases m <;> simp at hm ⊢
  rcases g.at_ with ⟨rfl, rfl⟩ | ⟨b, ex, el0, rfl, h1, h2, h3, h4⟩
  · exact ⟨H, .le (by simp [D.le]), g.sub, by simp [D.under]⟩
  · have hel := less_length h4
    refine ⟨H.put b .gone, (WeakV.freeze h3 (less_sz h4 g.len)).trans (.le ?_), g.sub.put h1, by simpa [D.under] using hu⟩
    simp only [frz]
    rw [if_pos ⟨trivial, trivial, trivial, hel.symm, by omega⟩]
    simp only [D.le, h4, and_true, true_and]
    by_cases hx : el.length = el0.length ∧ ex = true
    · rcases hm' with rfl | rfl <;> simp [hx]
    · rcases hm' with rfl | rfl <;> simp [hx]
theorem Gr.slot (g : Gr H0 H sz s el) {t : Nat} {fr : FrD} {args : List D} (ht : lk fr t = s) {m : Md} (hm : m ≠ .c) :
    ∃ H', Weak args fr H args ((t, .row sz m el) :: fr) H' ∧ Sub H0 H' ∧ (∀ x, ¬ s.hasB x → H'.blk x = H.blk x) ∧ H'.next = H.next := by
  have hm' : m = .p ∨ m = .w := by cases m <;> simp at hm ⊢
  have put : ∀ {ψ : Nat → Option Nat} {S : Nat → Prop} {h : Hp} {fv : Fr} {d : D}, FrR h ψ S fr fv → VD h ψ S d (ev fv (.tmp t)) → FrR h ψ S ((t, d) :: fr) fv := by
    intro ψ S h fv d k kd u
    rw [lk_cons]
    split
    · rename_i e; subst e; exact kd
    · exact k u
  rcases g.at_ with ⟨rfl, rfl⟩ | ⟨b, ex, el0, rfl, h1, h2, h3, h4⟩
  · refine ⟨H, ?_, g.sub, fun _ _ => rfl, rfl⟩
    intro G ψ S h fv vs sr kf kv
    refine ⟨ψ, S, .refl, sr, put kf (VD.le (.lit .nilslice) _ (by simp [D.le]) ?_), kv⟩
    have := kf t
    rwa [ht] at this
  · refine ⟨H.put b .gone, ?_, g.sub.put h1, fun x hx => by rw [put_blk, if_neg]; exact hx, put_next⟩
    intro G ψ S h fv vs sr kf kv
    have hel := less_length h4
    obtain ⟨c, hc, hr⟩ := frz_row sr h3 (less_sz h4 g.len)
    obtain ⟨x0, s0⟩ := sr.freeze hc
    refine ⟨ψ, _, x0, s0, put (kf.mono x0) ?_, VDl.mono x0 _ kv⟩
    have := kf t
    rw [ht] at this
    simp only [VD] at this
    obtain ⟨c', e, e2⟩ := this
    rw [hc] at e; cases e
    rw [e2]
    rw [← hel]
    refine VD.le _ _ ?_ (hr _ _ (Nat.le_refl _))
    simp only [D.le, h4, and_true, true_and]
    rcases hm' with rfl | rfl <;> simp
theorem VDl.setD {h : Hp} {ψ : Nat → Option Nat} {S : Nat → Prop} {args : List D} {vs : List V} {j : Nat} {d d' : D} (k : VDl h ψ S args vs) (hj : args[j]? = some d) (hd : ∀ v, VD h ψ S d v → VD h ψ S d' v) : VDl h ψ S (args.set j d') vs := by
  obtain ⟨v, e, kv⟩ := VDl.get k hj
  have := VDl.set j k (hd v kv)
  have he : vs.set j v = vs := by
    obtain ⟨hl, rfl⟩ := List.getElem?_eq_some_iff.1 e
    exact List.set_getElem_self hl
  rwa [he] at this
theorem Gr.arg (g : Gr H0 H sz s el) (j : Nat) {fr : FrD} {args : List D} (ht : args[j]? = some s) {m : Md} (hm : m ≠ .c) :
    ∃ H', Weak args fr H (args.set j (.row sz m el)) fr H' ∧ Sub H0 H' ∧ (∀ x, ¬ s.hasB x → H'.blk x = H.blk x) ∧ H'.next = H.next := by
  have hm' : m = .p ∨ m = .w := by cases m <;> simp at hm ⊢
  rcases g.at_ with ⟨rfl, rfl⟩ | ⟨b, ex, el0, rfl, h1, h2, h3, h4⟩
  · refine ⟨H, ?_, g.sub, fun _ _ => rfl, rfl⟩
    intro G ψ S h fv vs sr kf kv
    exact ⟨ψ, S, .refl, sr, kf, kv.setD ht fun v hv => VD.le (.lit .nilslice) _ (by simp [D.le]) hv⟩
  · refine ⟨H.put b .gone, ?_, g.sub.put h1, fun x hx => by rw [put_blk, if_neg]; exact hx, put_next⟩
    intro G ψ S h fv vs sr kf kv
    have hel := less_length h4
    obtain ⟨c, hc, hr⟩ := frz_row sr h3 (less_sz h4 g.len)
    obtain ⟨x0, s0⟩ := sr.freeze hc
    refine ⟨ψ, _, x0, s0, kf.mono x0, (VDl.mono x0 _ kv).setD ht fun v hv => ?_⟩
    simp only [VD] at hv
    obtain ⟨c', e, e2⟩ := hv
    rw [hc] at e; cases e
    rw [e2]
    rw [← hel]
    refine VD.le _ _ ?_ (hr _ _ (Nat.le_refl _))
    simp only [D.le, h4, and_true, true_and]
    rcases hm' with rfl | rfl <;> simp
theorem sem_push_le {by_ : Nat} {m : Md} {e : List D} (e' : List D) {k : D → HpD → Cfg} (g : Gr H0 H sz s el) (hle : D.les e e') (he : e'.length = sz) (hf : flatsD e = true) (hr : roomy by_ (el.length + 1) = true)
    (hk : ∀ s' H', Gr H0 H' sz s' (el ++ [e']) → (∀ x, x < H.next → ¬ s.hasB x → H'.blk x = H.blk x) → (H.next ≤ H'.next ∧ s' = .slice H.next 0 sz (el.length + 1) (el.length + 1) false) → Sem p ext Q (k s' H')) : Sem p ext Q (optH (appendD sz by_ H s (.row sz m [e])) k) := by
  obtain ⟨s', H', e1, g', k1, n1⟩ := g.push (m := m) e' hle he hf hr
  rw [e1]
  exact hk s' H' g' k1 n1
theorem sem_push {by_ : Nat} {m : Md} {e : List D} {k : D → HpD → Cfg} (g : Gr H0 H sz s el) (he : e.length = sz) (hf : flatsD e = true) (hr : roomy by_ (el.length + 1) = true)
    (hk : ∀ s' H', Gr H0 H' sz s' (el ++ [e]) → (∀ x, x < H.next → ¬ s.hasB x → H'.blk x = H.blk x) → (H.next ≤ H'.next ∧ s' = .slice H.next 0 sz (el.length + 1) (el.length + 1) false) → Sem p ext Q (k s' H')) : Sem p ext Q (optH (appendD sz by_ H s (.row sz m [e])) k) :=
  sem_push_le e g (D.les_refl _) he hf hr hk
theorem sem_app {by_ : Nat} {m : Md} {new : List (List D)} {k : D → HpD → Cfg} (g : Gr H0 H sz s el) (he : ∀ e, e ∈ new → e.length = sz) (hf : ∀ e, e ∈ new → flatsD e = true) (hr : roomy by_ (el.length + new.length) = true)
    (hk : ∀ s' H', Gr H0 H' sz s' (el ++ new) → (∀ x, x < H.next → ¬ s.hasB x → H'.blk x = H.blk x) → H.next ≤ H'.next → Sem p ext Q (k s' H')) : Sem p ext Q (optH (appendD sz by_ H s (.row sz m new)) k) := by
  obtain ⟨s', H', e1, g', k1, n1⟩ := g.app (m := m) he hf hr
  rw [e1]
  exact hk s' H' g' k1 n1
theorem sem_turn (g : Gr H0 H sz s el) (t : Nat) {c : KC} {K : List KD} {fr : FrD} (ht : lk fr t = s)
    (hs : ∀ H', Sub H0 H' → (∀ x, ¬ s.hasB x → H'.blk x = H.blk x) → H'.next = H.next → Sem p ext Q (.code c K .mk ((t, .row sz .p el) :: fr) H')) : Sem p ext Q (.code c K .mk fr H) := by
  obtain ⟨H', w, s', k, n⟩ := g.slot (args := []) ht (m := .p) (by simp)
  exact sem_weak w (hs H' s' k n)
theorem WeakV.part {pre : List D} {b o n cap : Nat} {ex ro : Bool} {cs : List D} {el : List (List D)} (hb : H.blk b = .cells cs ro) (he : ∀ e, e ∈ el → e.length = sz) (hl : el.length = n) (hc : (cs.drop o).take (n * sz) = el.flatten) (hn : n ≤ cap) :
    WeakV (.agg (pre ++ [.slice b o sz n cap ex])) H (.agg (pre ++ [.row sz .p el])) (H.put b .gone) := by
  intro G ψ S h v sr kv
  obtain ⟨c, h1, h2, l', h3, h4⟩ : ∃ c, ψ b = some c ∧ ¬ S c ∧ ∃ l', h.blk c = .cells l' ro ∧ VDl h ψ S cs l' := by
    obtain ⟨c, h1, h2, h3⟩ := sr.live b (by rw [hb]; rfl)
    rw [hb] at h3
    exact ⟨c, h1, h2, h3⟩
  obtain ⟨x0, s0⟩ := sr.freeze h1
  refine ⟨ψ, _, x0, s0, ?_⟩
  simp only [VD] at kv ⊢
  obtain ⟨l2, rfl, kl⟩ := kv
  refine ⟨l2, rfl, ?_⟩
  have key : ∀ (pre : List D) (l2 : List V), VDl h ψ S (pre ++ [.slice b o sz n cap ex]) l2 → VDl h ψ (fun x => S x ∨ x = c) (pre ++ [.row sz .p el]) l2 := by
    intro pre
    induction pre with
    | nil =>
      intro l2 kl
      simp only [List.nil_append, VDl, VD] at kl ⊢
      obtain ⟨x, r, rfl, ⟨c', e, rfl⟩, rfl⟩ := kl
      rw [h1] at e; cases e
      refine ⟨_, _, rfl, .inr ⟨c, o, cap, ex, by rw [hl], by rw [hl]; exact hn, fun e => (by cases e), .inr ⟨l', ro, .inr rfl, h3, ?_⟩⟩, rfl⟩
      have k1 := VDl.take (n * sz) (VDl.drop o h4)
      rw [hc] at k1
      have := VDss.of (us := (l'.drop o).drop (n * sz)) he (VDl.mono x0 _ k1)
      rwa [List.take_append_drop] at this
    | cons d pre ih =>
      intro l2 kl
      simp only [List.cons_append, VDl] at kl ⊢
      obtain ⟨x, r, rfl, k1, k2⟩ := kl
      exact ⟨x, r, rfl, VD.mono x0 _ k1, ih _ k2⟩
  exact key pre l2 kl
theorem spliceD_flatten {sz j : Nat} {x : D} : ∀ {el : List (List D)} {i : Nat} {e : List D}, (∀ e, e ∈ el → e.length = sz) → el[i]? = some e → j < sz → spliceD el.flatten (i * sz + j) [x] = (el.set i (e.set j x)).flatten
  | [], _, _, _, he, _ => by simp at he
  | a :: l, 0, e, hs, he, hj => by
    simp at he
    subst he
    have ha := hs a (List.mem_cons_self ..)
    simp only [Nat.zero_mul, Nat.zero_add, List.flatten_cons, List.set_cons_zero]
    have key : ∀ (a m : List D) (j : Nat), j < a.length → spliceD (a ++ m) j [x] = a.set j x ++ m := by
      intro a
      induction a with
      | nil => intro m j h; simp at h
      | cons d a ih =>
        intro m j h
        cases j with
        | zero => simp [spliceD_zero]
        | succ j => simp only [List.cons_append, spliceD_succ, List.set_cons_succ]; rw [ih m j (by simpa using h)]
    exact key a _ j (by omega)
  | a :: l, i + 1, e, hs, he, hj => by
    have ha := hs a (List.mem_cons_self ..)
    have ih := spliceD_flatten (j := j) (x := x) (el := l) (i := i) (e := e) (fun y hy => hs y (List.mem_cons_of_mem _ hy)) (by simpa using he) hj
    simp only [List.flatten_cons, List.set_cons_succ]
    have key : ∀ (a m : List D) (k : Nat), spliceD (a ++ m) (a.length + k) [x] = a ++ spliceD m k [x] := by
      intro a
      induction a with
      | nil => intro m k; simp
      | cons d a ih2 =>
        intro m k
        rw [List.cons_append, List.length_cons, show a.length + 1 + k = (a.length + k) + 1 from by omega, spliceD_succ, ih2]; rfl
    rw [show (i + 1) * sz + j = a.length + (i * sz + j) from by rw [ha, Nat.succ_mul]; omega, key, ih]
theorem les_set : ∀ {l l' : List D} {j : Nat} {x : D}, D.les l l' → D.les (l.set j x) (l'.set j x)
  | [], [], _, _, k => k
  | a :: l, b :: l', 0, x, k => by simp only [D.les, List.set_cons_zero] at k ⊢; exact ⟨D.le_refl x, k.2⟩
  | a :: l, b :: l', j + 1, x, k => by simp only [D.les, List.set_cons_succ] at k ⊢; exact ⟨k.1, les_set k.2⟩
  | [], _ :: _, _, _, k => by simp [D.les] at k
  | _ :: _, [], _, _, k => by simp [D.les] at k
theorem less_get : ∀ {l l' : List (List D)} {i : Nat} {e : List D}, D.less l l' → l'[i]? = some e → ∃ e0, l[i]? = some e0 ∧ D.les e0 e
  | [], [], _, _, _, he => by simp at he
  | a :: l, b :: l', 0, e, k, he => by simp at he; subst he; simp only [D.less] at k; exact ⟨a, rfl, k.1⟩
  | a :: l, b :: l', i + 1, e, k, he => by simp only [D.less] at k; exact less_get (l := l) (l' := l') k.2 (by simpa using he)
  | [], _ :: _, _, _, k, _ => by simp [D.less] at k
  | _ :: _, [], _, _, k, _ => by simp [D.less] at k
theorem less_set : ∀ {l l' : List (List D)} {i : Nat} {a b : List D}, D.less l l' → D.les a b → D.less (l.set i a) (l'.set i b)
  | [], [], _, _, _, k, _ => k
  | x :: l, y :: l', 0, a, b, k, k2 => by simp only [D.less, List.set_cons_zero] at k ⊢; exact ⟨k2, k.2⟩
  | x :: l, y :: l', i + 1, a, b, k, k2 => by simp only [D.less, List.set_cons_succ] at k ⊢; exact ⟨k.1, less_set k.2 k2⟩
  | [], _ :: _, _, _, _, k, _ => by simp [D.less] at k
  | _ :: _, [], _, _, _, k, _ => by simp [D.less] at k
theorem Gr.place (g : Gr H0 H sz s el) (hn : 0 < el.length) : ∃ b ex el0, s = .slice b 0 sz el.length el.length ex ∧ H0.next ≤ b ∧ b < H.next ∧ H.blk b = .cells el0.flatten false ∧ D.less el0 el ∧ el0.flatten.length = el.length * sz := by
  rcases g.at_ with ⟨rfl, rfl⟩ | ⟨b, ex, el0, rfl, h1, h2, h3, h4⟩
  · simp at hn
  · exact ⟨b, ex, el0, rfl, h1, h2, h3, h4, by rw [flatten_len (less_sz h4 g.len), less_length h4]⟩
theorem Gr.set (g : Gr H0 H sz s el) {b : Nat} {ex : Bool} {el0 : List (List D)} (hs : s = .slice b 0 sz el.length el.length ex) (h1 : H0.next ≤ b) (h2 : b < H.next) (h4 : D.less el0 el) {i j o : Nat} {e : List D} {x : D} (he : el[i]? = some e) (hj : j < sz) (ho : o = i * sz + j) :
    Gr H0 (H.put b (.cells (spliceD el0.flatten o [x]) false)) sz s (el.set i (e.set j x)) := by
  subst ho
  obtain ⟨e0, h5, h6⟩ := less_get h4 he
  have hl : e.length = sz := g.len e (List.mem_of_getElem? he)
  refine ⟨g.sub.put h1, fun y hy => ?_, .inr ⟨b, ex, el0.set i (e0.set j x), by rw [List.length_set]; exact hs, h1, h2, ?_, less_set h4 (les_set h6)⟩⟩
  · rcases List.mem_or_eq_of_mem_set hy with hy | rfl
    · exact g.len y hy
    · rw [List.length_set]; exact hl
  · rw [put_blk, if_pos rfl, spliceD_flatten (less_sz h4 g.len) h5 hj]
end
end Go.Dv
end

section
namespace Go.Lib
open Go.Vm Go.Dv
abbrev By := Fin 256
structure Vl where
  null : Bool
  kind : Int
  n : Int
  bytes : List By
  small : bytes.length < 1000000
def byE (b : List By) : List (List D) := b.map fun c => [.lit (.int .u8 (c.val : Int))]
def byD (b : List By) : D := .row 1 .p (byE b)
def Vl.c (v : Vl) : List D := [.lit (.bool v.null), .lit (.int .i64 v.kind), .lit (.int .i64 v.n), byD v.bytes]
abbrev Row := List Vl
def rowE (r : Row) : List (List D) := r.map Vl.c
def rowD (r : Row) : D := .row 4 .p (rowE r)
def rowsE (l : List Row) : List (List D) := l.map fun r => [rowD r]
def rowsD (l : List Row) : D := .row 1 .p (rowsE l)
theorem by_under {n : Nat} {b : List By} : (byD b).under n := by
  simp only [byD, D.under]; exact underss_map (fun _ => by simp) _
theorem vl_unders {n : Nat} {v : Vl} : D.unders n v.c := by simp [Vl.c, by_under]
theorem row_under {n : Nat} {r : Row} : (rowD r).under n := by
  simp only [rowD, D.under]; exact underss_map (fun _ => vl_unders) _
theorem rows_under {n : Nat} {l : List Row} : (rowsD l).under n := by
  simp only [rowsD, D.under]; exact underss_map (fun _ => by simp [row_under]) _
theorem by_underss {n : Nat} {b : List By} : D.underss n (byE b) := underss_map (fun _ => by simp) _
theorem row_underss {n : Nat} {r : Row} : D.underss n (rowE r) := underss_map (fun _ => vl_unders) _
theorem rows_underss {n : Nat} {l : List Row} : D.underss n (rowsE l) := underss_map (fun _ => by simp [row_under]) _
theorem by_flat {b : List By} : flatD (byD b) = true := rfl
theorem row_flat {r : Row} : flatD (rowD r) = true := rfl
theorem rows_flat {l : List Row} : flatD (rowsD l) = true := rfl
theorem vl_len {v : Vl} : v.c.length = 4 := rfl
theorem vl_flats {v : Vl} : flatsD v.c = true := rfl
theorem vl_0 {v : Vl} : v.c[0]? = some (.lit (.bool v.null)) := rfl
theorem vl_1 {v : Vl} : v.c[1]? = some (.lit (.int .i64 v.kind)) := rfl
theorem vl_2 {v : Vl} : v.c[2]? = some (.lit (.int .i64 v.n)) := rfl
theorem vl_3 {v : Vl} : v.c[3]? = some (byD v.bytes) := rfl
theorem vl_take {v : Vl} : v.c.take 4 = v.c := rfl
theorem vl_drop {v : Vl} : v.c.drop 4 = [] := rfl
theorem by_len {b : List By} : (byE b).length = b.length := by simp [byE]
theorem row_len {r : Row} : (rowE r).length = r.length := by simp [rowE]
theorem rows_len {l : List Row} : (rowsE l).length = l.length := by simp [rowsE]
theorem lenb_by {b : List By} : lenbD (byD b) = some (.lit (.int .i64 (b.length : Int))) := by simp [byD, by_len]
theorem lenb_row {r : Row} : lenbD (rowD r) = some (.lit (.int .i64 (r.length : Int))) := by simp [rowD, row_len]
theorem lenb_rows {l : List Row} : lenbD (rowsD l) = some (.lit (.int .i64 (l.length : Int))) := by simp [rowsD, rows_len]
theorem cellsD_by {b : List By} : cellsD (byD b) = some [byD b] := rfl
theorem cellsD_rowD {r : Row} : cellsD (rowD r) = some [rowD r] := rfl
theorem cellsD_rowsD {l : List Row} : cellsD (rowsD l) = some [rowsD l] := rfl
def bys (b : List By) : List Nat := b.map fun c => c.val
theorem bys_inj {a b : List By} : bys a = bys b ↔ a = b := by
  constructor
  · intro h
    induction a generalizing b with
    | nil => cases b with
      | nil => rfl
      | cons y b => simp [bys] at h
    | cons x a ih => cases b with
      | nil => simp [bys] at h
      | cons y b =>
        simp only [bys, List.map_cons, List.cons.injEq] at h
        rw [Fin.ext h.1, ih h.2]
  · rintro rfl; rfl
theorem toVs_by : ∀ b : List By, toVs (byE b).flatten = some (b.map fun c => V.int .u8 (c.val : Int))
  | [] => rfl
  | c :: b => by
    have := toVs_by b
    simp only [byE] at this
    simp only [byE, List.map_cons, List.flatten_cons, List.singleton_append, toVs, toV, this]
theorem bytesOf_by : ∀ b : List By, eV.bytesOf (b.map fun c => V.int .u8 (c.val : Int)) = some (bys b)
  | [] => rfl
  | c :: b => by
    show cond (Nat.blt c.val 256) _ none = _
    rw [show Nat.blt c.val 256 = true from nblt.2 c.isLt, cond_true, bytesOf_by b]; rfl
theorem text_by {H : HpD} {b : List By} : textD H (byD b) = some (.lit (.str (bys b)), H) := by
  simp only [byD, textD, Nat.beq, cond_true, strD, toVs_by, bytesOf_by]
theorem neqs_iff : ∀ {a b : List Nat}, neqs a b = true ↔ a = b
  | [], [] => by simp [neqs]
  | [], _ :: _ => by simp [neqs]
  | _ :: _, [] => by simp [neqs]
  | x :: a, y :: b => by
    simp only [neqs, cond_eq_ite]
    by_cases h : Nat.beq x y = true
    · rw [if_pos h, neqs_iff]; rw [nbeq] at h; simp [h]
    · rw [if_neg h]; rw [nbeq] at h; simp [h]
theorem neqs_bys {a b : List By} : neqs (bys a) (bys b) = decide (a = b) := by
  rw [Bool.eq_iff_iff, neqs_iff, bys_inj, decide_eq_true_iff]
theorem str_eql {tab : Tab} {a b : List Nat} : binV tab .eql (.str a) (.str b) = some (.bool (neqs a b)) := rfl
theorem str_neq {tab : Tab} {a b : List Nat} : binV tab .neq (.str a) (.str b) = some (.bool (!neqs a b)) := rfl
theorem str_lss {tab : Tab} {a b : List Nat} : binV tab .lss (.str a) (.str b) = some (.bool (slt a b)) := rfl
theorem vl_set3 {v : Vl} : spliceD v.c 3 [byD v.bytes] = v.c := rfl
theorem at_row {r : Row} {n : Nat} : atO 4 (rowD r) (some n) = elemD (r[n]?.map Vl.c) := by simp [rowD, rowE]
theorem at_rows {l : List Row} {n : Nat} : atO 1 (rowsD l) (some n) = elemD (l[n]?.map fun r => [rowD r]) := by simp [rowsD, rowsE]
theorem at_by {b : List By} {n : Nat} : atO 1 (byD b) (some n) = elemD (b[n]?.map fun c => [.lit (.int .u8 (c.val : Int))]) := by simp [byD, byE]
attribute [simp] at_row at_rows at_by
def zv : Vl := ⟨false, 0, 0, [], by simp⟩
attribute [simp] vl_set3 vl_0 vl_1 vl_2 vl_3 vl_take vl_drop by_len row_len rows_len lenb_by lenb_row lenb_rows cellsD_by cellsD_rowD cellsD_rowsD text_by neqs_bys str_eql str_neq str_lss
attribute [simp] by_underss row_underss rows_underss by_under vl_unders row_under rows_under by_flat row_flat rows_flat vl_len vl_flats
end Go.Lib
end

section
set_option maxRecDepth 10000
namespace Go.Lib
open Go.Vm Go.Dv
variable {p : Prog} {ext : Ext} {F : Nat → Nat}
structure HSchmE (p : Prog) (ext : Ext) (F : Nat → Nat) : Prop where
  h6 : Has p ext F 6 M6
  h15 : Has p ext F 15 M15
structure HSchm (p : Prog) (ext : Ext) (F : Nat → Nat) : Prop extends HSchmE p ext F where
  h1 : Has p ext F 1 M1
  h2 : Has p ext F 2 M2
  h3 : Has p ext F 3 M3
  h4 : Has p ext F 4 M4
  h5 : Has p ext F 5 M5
  h7 : Has p ext F 7 M7
  h8 : Has p ext F 8 M8
  h9 : Has p ext F 9 M9
  h10 : Has p ext F 10 M10
  h11 : Has p ext F 11 M11
  h12 : Has p ext F 12 M12
  h13 : Has p ext F 13 M13
  h14 : Has p ext F 14 M14
  h16 : Has p ext F 16 M16
  h17 : Has p ext F 17 M17
  h18 : Has p ext F 18 M18
  h19 : Has p ext F 19 M19
  h21 : Has p ext F 21 M21
  x20 : ∀ args h, ext (F 20) args h = extV .cmp args h
instance : Coe (HSchm p ext F) (HSchmE p ext F) := ⟨HSchm.toHSchmE⟩
def cmpI (a b : Int) : Int := if a < b then -1 else if b < a then 1 else 0
def rankV (v : Vl) : Int := if v.null then 0 else 1
def cmpB (a b : List By) : Int := cmpLs (bys a) (bys b)
def cmpV (a b : Vl) : Int := if cmpI (rankV a) (rankV b) ≠ 0 ∨ a.null = true then cmpI (rankV a) (rankV b) else if a.kind = 1 then cmpI a.n b.n else if a.kind = 2 then cmpB a.bytes b.bytes else 0
def atV (r : Row) (c : Int) : Vl := if c < 0 then zv else (r[c.toNat]?).getD zv
theorem vl_ext {a b : Vl} : a = b ↔ a.null = b.null ∧ a.kind = b.kind ∧ a.n = b.n ∧ a.bytes = b.bytes := by
  cases a; cases b; simp
instance : DecidableEq Vl := fun _a _b => decidable_of_iff _ vl_ext.symm
end Go.Lib
end

section
set_option maxRecDepth 10000
namespace Go.Lib
open Go.Vm Go.Dv
variable {p : Prog} {ext : Ext} {F : Nat → Nat}
structure HLaw6s (p : Prog) (ext : Ext) (F : Nat → Nat) : Prop where
  h23 : Has p ext F 23 M23
  h25 : Has p ext F 25 M25
structure HLaw6 (p : Prog) (ext : Ext) (F : Nat → Nat) : Prop extends HLaw6s p ext F where
  h22 : Has p ext F 22 M22
  h24 : Has p ext F 24 M24
instance : Coe (HLaw6 p ext F) (HLaw6s p ext F) := ⟨HLaw6.toHLaw6s⟩
structure Cl where
  name : List Nat
  kind : Int
  null : Bool
def Cl.c (c : Cl) : List D := [.lit (.str c.name), .lit (.int .i64 c.kind), .lit (.bool c.null)]
abbrev Sch := List Cl
def schE (s : Sch) : List (List D) := s.map Cl.c
def schR (s : Sch) : D := .row 3 .p (schE s)
def schD (s : Sch) : D := .agg [schR s]
theorem cl_unders {n : Nat} {c : Cl} : D.unders n c.c := by simp [Cl.c]
theorem sch_underss {n : Nat} {s : Sch} : D.underss n (schE s) := underss_map (fun _ => cl_unders) _
theorem schR_under {n : Nat} {s : Sch} : (schR s).under n := sch_underss
theorem schD_under {n : Nat} {s : Sch} : (schD s).under n := by simp [schD, schR_under]
theorem sch_len {s : Sch} : (schE s).length = s.length := by simp [schE]
theorem lenb_sch {s : Sch} : lenbD (schR s) = some (.lit (.int .i64 (s.length : Int))) := by simp [schR, sch_len]
theorem at_sch {s : Sch} {n : Nat} : atO 3 (schR s) (some n) = elemD (s[n]?.map Cl.c) := by simp [schR, schE]
theorem cl_0 {v : Cl} : v.c[0]? = some (.lit (.str v.name)) := rfl
theorem cl_1 {v : Cl} : v.c[1]? = some (.lit (.int .i64 v.kind)) := rfl
theorem cl_2 {v : Cl} : v.c[2]? = some (.lit (.bool v.null)) := rfl
theorem cl_len {v : Cl} : v.c.length = 3 := rfl
theorem cl_take {v : Cl} : v.c.take 3 = v.c := rfl
theorem cl_drop {v : Cl} : v.c.drop 3 = [] := rfl
theorem cl_flats {v : Cl} : flatsD v.c = true := rfl
theorem cellsD_schR {s : Sch} : cellsD (schR s) = some [schR s] := rfl
theorem flatD_schR {s : Sch} : flatD (schR s) = true := rfl
theorem cellsD_schD {s : Sch} : cellsD (schD s) = some [schR s] := rfl
attribute [simp] cl_unders sch_underss schR_under schD_under sch_len lenb_sch at_sch cl_0 cl_1 cl_2 cl_len cl_take cl_drop cl_flats cellsD_schR flatD_schR cellsD_schD
def andI (a m : Int) : Int := wr .i64 (.ofNat (Nat.land (toU .i64 a) (toU .i64 m)))
theorem bin_andI {tab : Tab} {a b : Int} : binV tab .and (.int .i64 a) (.int .i64 b) = some (.int .i64 (andI a b)) := bin_and
def xorI (a b : Int) : Int := wr .i64 (.ofNat (Nat.xor (toU .i64 a) (toU .i64 b)))
theorem bin_xorI {tab : Tab} {a b : Int} : binV tab .xor (.int .i64 a) (.int .i64 b) = some (.int .i64 (xorI a b)) := bin_xor
theorem andI_small {a : Int} {m : Nat} (hm : m < 65536) : ∃ q : Nat, andI a (m : Int) = q ∧ q ≤ m := and_range hm
attribute [-simp] bin_and bin_xor
attribute [simp] bin_andI bin_xorI
theorem wr_u64 {n : Int} (h0 : 0 ≤ n) (h1 : n < 18446744073709551616) : wr .u64 n = n := by
  obtain ⟨m, rfl⟩ : ∃ m : Nat, n = m := ⟨n.toNat, by omega⟩
  show cond (Nat.blt m 18446744073709551616) _ _ = _
  rw [show Nat.blt m 18446744073709551616 = true from nblt.2 (by omega)]
  rfl
def intsD (m : Md) (l : List Int) : D := .row 1 m (l.map fun n => [.lit (.int .i64 n)])
theorem lenb_ints {m : Md} {l : List Int} : lenbD (intsD m l) = some (.lit (.int .i64 (l.length : Int))) := by simp [intsD]
theorem at_ints {m : Md} {l : List Int} {n : Nat} : atO 1 (intsD m l) (some n) = elemD (l[n]?.map fun x => [.lit (.int .i64 x)]) := by simp [intsD]
theorem ints_under {m : Md} {l : List Int} {n : Nat} : (intsD m l).under n := by simp only [intsD, D.under]; exact underss_map (fun _ => by simp) _
theorem cellsD_ints {m : Md} {l : List Int} : cellsD (intsD m l) = some [intsD m l] := rfl
attribute [simp] lenb_ints at_ints ints_under cellsD_ints
end Go.Lib
end

section
set_option maxRecDepth 10000
namespace Go.Lib
open Go.Vm Go.Dv
variable {p : Prog} {ext : Ext} {F : Nat → Nat}
def strE (l : List (List Nat)) : List (List D) := l.map fun s => [.lit (.str s)]
def strsD (l : List (List Nat)) : D := .row 1 .p (strE l)
theorem str_under {n : Nat} {l : List (List Nat)} : (strsD l).under n := by
  simp only [strsD, D.under]; exact underss_map (fun _ => by simp) _
theorem str_len {l : List (List Nat)} : (strE l).length = l.length := by simp [strE]
theorem lenb_strs {l : List (List Nat)} : lenbD (strsD l) = some (.lit (.int .i64 (l.length : Int))) := by simp [strsD, str_len]
theorem at_strs {l : List (List Nat)} {n : Nat} : atO 1 (strsD l) (some n) = elemD (l[n]?.map fun s => [.lit (.str s)]) := by simp [strsD, strE]
theorem strE_append {a b : List (List Nat)} : strE (a ++ b) = strE a ++ strE b := by simp [strE]
attribute [simp] str_under lenb_strs at_strs
theorem toVs_strs : ∀ l : List (List Nat), toVs (strE l).flatten = some (l.map V.str)
  | [] => rfl
  | s :: l => by
    have := toVs_strs l
    simp only [strE] at this
    simp [strE, toVs, toV, this]
theorem strsOf_map : ∀ l : List (List Nat), strsOf (l.map V.str) = some l
  | [] => rfl
  | s :: l => by simp [strsOf, strsOf_map l]
theorem strsV_ok {h : Hp} {ψ : Nat → Option Nat} {S : Nat → Prop} {l : List (List Nat)} {v : V} (k : VD h ψ S (strsD l) v) : strsV h v = some l := by
  simp only [strsD, VD] at k
  rcases k with ⟨rfl, hb⟩ | ⟨c, o, cp, ex, rfl, h1, h2, k⟩
  · cases l with
    | nil => rfl
    | cons x b => simp [strE] at hb
  · rcases k with ⟨hm, _⟩ | ⟨cs, ro, hs, hb, hp⟩
    · cases hm
    · obtain ⟨us, e1, k1⟩ := VDss.cells hp
      rw [Nat.mul_one] at e1
      have := toVs_ok _ (toVs_strs l) k1
      subst this
      have hr : h.read c o (strE l).length = some (l.map V.str) := by unfold Hp.read; rw [hb]; exact e1
      simp only [strsV, hr, nbeq_d, decide_true, cond_true]
      exact strsOf_map l
theorem join_ext {f : Nat} {g : SG} (hx : ∀ args h, ext f args h = strV g .join args h) {l : List (List Nat)} {sep : List Nat} (h1 : (joinN l sep).length ≤ 4294967280) (h2 : l.length ≤ 4294967280) :
    FnD p ext f [strsD l, .lit (.str sep)] (.lit (.str (joinN l sep))) := by
  intro H ψ S h vs s k
  simp only [VDl] at k
  obtain ⟨v, r, rfl, k1, w, r2, rfl, k2, rfl⟩ := k
  simp only [VD] at k2
  obtain ⟨rfl, _⟩ := k2
  refine wpc_ext (v := .str (joinN l sep)) (h' := h) ?_ ⟨ψ, S, _, H, .refl, s, ?_, rfl, rfl⟩
  · rw [hx]
    simp only [strV, strsV_ok k1]
    rw [nble.2 h1, nble.2 h2]
    rfl
  · simp [VD, atomV]
def PowGl (p : Prog) (g : SG) : Prop := p.gl g.pow = some fun y => powCells y = true
theorem fmt_ext {f : Nat} {g : SG} (hx : ∀ args h, ext f args h = strV g .fmt args h) (hg : PowGl p g) {n : Int} (hn : wr .i64 n = n) :
    FnD p ext f [.lit (.int .i64 n), .lit (.int .i64 (.ofNat 10))] (.lit (.str (itoaN n))) := by
  intro H ψ S h vs s k
  simp only [VDl] at k
  obtain ⟨v, r, rfl, k1, w, r2, rfl, k2, rfl⟩ := k
  simp only [VD] at k1 k2
  obtain ⟨rfl, _⟩ := k1
  obtain ⟨rfl, _⟩ := k2
  have hp := (s.gl g.pow _ hg).2
  refine wpc_ext (v := .str (itoaN n)) (h' := h) ?_ ⟨ψ, S, _, H, .refl, s, ?_, rfl, rfl⟩
  · rw [hx]
    simp only [strV, hp, hn, cond_true]
    rw [show Nat.beq 10 10 = true from rfl, show ieq n n = true from ieq_iff.2 rfl]
    rfl
  · simp [VD, atomV]
theorem itoa_ext {f : Nat} {g : SG} (hx : ∀ args h, ext f args h = strV g .itoa args h) (hg : PowGl p g) {n : Int} (hn : wr .i64 n = n) :
    FnD p ext f [.lit (.int .i64 n)] (.lit (.str (itoaN n))) := by
  intro H ψ S h vs s k
  simp only [VDl] at k
  obtain ⟨v, r, rfl, k1, rfl⟩ := k
  simp only [VD] at k1
  obtain ⟨rfl, _⟩ := k1
  have hp := (s.gl g.pow _ hg).2
  refine wpc_ext (v := .str (itoaN n)) (h' := h) ?_ ⟨ψ, S, _, H, .refl, s, ?_, rfl, rfl⟩
  · rw [hx]
    simp only [strV, hp, hn, cond_true]
    rw [show ieq n n = true from ieq_iff.2 rfl]
    rfl
  · simp [VD, atomV]
theorem sadd {tab : Tab} {a b : List Nat} : binV tab .add (.str a) (.str b) = cond (Nat.ble (a.length + b.length) 1152921504606846976) (some (.str (a ++ b))) none := rfl
theorem sadd_of {tab : Tab} {a b : List Nat} (h : a.length + b.length ≤ 1152921504606846976) : binV tab .add (.str a) (.str b) = some (.str (a ++ b)) := by rw [sadd, nble.2 h]; rfl
theorem neqs_dec : ∀ {a b : List Nat}, neqs a b = decide (a = b)
  | [], [] => by simp [neqs]
  | [], _ :: _ => by simp [neqs]
  | _ :: _, [] => by simp [neqs]
  | a :: x, b :: y => by
    simp only [neqs, nbeq_d, neqs_dec (a := x) (b := y), List.cons.injEq]
    by_cases h : a = b <;> simp [h]
end Go.Lib
end

section
set_option maxRecDepth 10000
namespace Go.Dv
open Go.Vm
variable {p : Prog} {ext : Ext} {Q : ResD → Prop} {H0 H : HpD} {sz : Nat} {s : D} {el : List (List D)}
theorem les_append : ∀ {a a' b b' : List D}, D.les a a' → D.les b b' → D.les (a ++ b) (a' ++ b')
  | [], [], _, _, _, h => h
  | d :: a, d' :: a', _, _, k, h => by
    simp only [D.les, List.cons_append] at k ⊢
    exact ⟨k.1, les_append k.2 h⟩
  | [], _ :: _, _, _, k, _ => by simp [D.les] at k
  | _ :: _, [], _, _, k, _ => by simp [D.les] at k
theorem les_flat : ∀ {l l' : List (List D)}, D.less l l' → D.les l.flatten l'.flatten
  | [], [], _ => by simp
  | e :: l, e' :: l', k => by
    simp only [D.less] at k
    simp only [List.flatten_cons]
    exact les_append k.1 (les_flat k.2)
  | [], _ :: _, k => by simp [D.less] at k
  | _ :: _, [], k => by simp [D.less] at k
theorem SR.tell {G : Nat → Option (Blk → Prop)} {ψ : Nat → Option Nat} {S : Nat → Prop} {h : Hp} {b : Nat} {cs cs' : List D} {ro : Bool} (s : SR G ψ S H h) (hb : H.blk b = .cells cs ro) (hl : D.les cs cs') : SR G ψ S (H.put b (.cells cs' ro)) h :=
  ⟨s.inj, s.dom, s.frz, fun b' hg => by
    rw [put_blk] at hg ⊢
    by_cases e : b' = b
    · subst e
      obtain ⟨c, h1, h2, h3⟩ := s.live b' (by rw [hb]; rfl)
      rw [hb] at h3
      obtain ⟨l', e1, k⟩ := h3
      refine ⟨c, h1, h2, ?_⟩
      rw [if_pos rfl]
      exact ⟨l', e1, VDl.le _ _ hl k⟩
    · rw [if_neg e] at hg ⊢
      exact s.live b' hg, s.gl⟩
theorem Weak.tell {a : List D} {fr : FrD} {b : Nat} {cs cs' : List D} {ro : Bool} (hb : H.blk b = .cells cs ro) (hl : D.les cs cs') : Weak a fr H a fr (H.put b (.cells cs' ro)) :=
  fun _ ψ S _ _ _ s k kv => ⟨ψ, S, .refl, s.tell hb hl, k, kv⟩
structure GrX (H0 H : HpD) (sz : Nat) (s : D) (el : List (List D)) : Prop where
  gr : Gr H0 H sz s el
  at_ : (s = .lit .nilslice ∧ el = []) ∨ ∃ b ex, s = .slice b 0 sz el.length el.length ex ∧ H0.next ≤ b ∧ b < H.next ∧ H.blk b = .cells el.flatten false
theorem Gr.exact (g : Gr H0 H sz s el) : ∃ H', (∀ a fr, Weak a fr H a fr H') ∧ GrX H0 H' sz s el ∧ (∀ x, ¬ s.hasB x → H'.blk x = H.blk x) ∧ H'.next = H.next := by
  rcases g.at_ with ⟨rfl, rfl⟩ | ⟨b, ex, el0, rfl, h1, h2, h3, h4⟩
  · exact ⟨H, fun _ _ => .refl, ⟨g, .inl ⟨rfl, rfl⟩⟩, fun _ _ => rfl, rfl⟩
  · refine ⟨H.put b (.cells el.flatten false), fun _ _ => Weak.tell h3 (les_flat h4), ⟨⟨g.sub.put h1, g.len, .inr ⟨b, ex, el, rfl, h1, h2, by simp, D.less_refl _⟩⟩, .inr ⟨b, ex, rfl, h1, h2, by simp⟩⟩, fun x hx => ?_, rfl⟩
    rw [put_blk, if_neg]
    rintro rfl
    exact hx rfl
theorem Weak.box {a : List D} {fr : FrD} {b t : Nat} {cs : List D} {ro : Bool} (hb : H.blk b = .cells cs ro) (ht : lk fr t = .ptr b 0) : Weak a fr H a ((t, .rptr cs 0) :: fr) (H.put b .gone) := by
  intro G ψ S h fv vs sr kf kv
  obtain ⟨c, hc, h2, h3⟩ := sr.live b (by rw [hb]; rfl)
  rw [hb] at h3
  obtain ⟨l', e1, k⟩ := h3
  obtain ⟨x0, s0⟩ := sr.freeze hc
  refine ⟨ψ, _, x0, s0, ?_, VDl.mono x0 _ kv⟩
  intro u
  rw [lk_cons]
  split
  · rename_i e; subst e
    have := kf t
    rw [ht] at this
    simp only [VD] at this ⊢
    obtain ⟨c', e, e2⟩ := this
    rw [hc] at e; cases e
    exact ⟨c, 0, l', ro, .inr rfl, by rw [e2], e1, by have := VDp.of (us := []) (VDl.mono x0 _ k); simpa using this⟩
  · exact kf.mono x0 u
theorem sem_box {b : Nat} {cs : List D} {ro : Bool} (t : Nat) {c : KC} {K : List KD} {fr : FrD} (hb : H.blk b = .cells cs ro) (ht : lk fr t = .ptr b 0)
    (hs : Sem p ext Q (.code c K .mk ((t, .rptr cs 0) :: fr) (H.put b .gone))) : Sem p ext Q (.code c K .mk fr H) := sem_weak (Weak.box hb ht) hs
end Go.Dv
end

section
namespace Go.Dv
open Go.Vm
variable {p : Prog} {ext : Ext} {Q : ResD → Prop} {H0 H : HpD} {sz : Nat} {s : D} {el : List (List D)}
def FrLe (fr : FrD) : FrD → Prop
  | [] => True
  | (t, d) :: r => D.le (lk fr t) d ∧ FrLe fr r
theorem frLe_nil {fr : FrD} : FrLe fr [] = True := rfl
theorem frLe_cons {fr r : FrD} {t : Nat} {d : D} : FrLe fr ((t, d) :: r) = (D.le (lk fr t) d ∧ FrLe fr r) := rfl
theorem FrLe.lk {fr : FrD} : ∀ {fr' : FrD}, FrLe fr fr' → ∀ u, D.le (lk fr u) (lk fr' u)
  | [], _, u => by simp [Dv.lk, D.le]
  | (t, d) :: r, h, u => by
    rw [lk_cons]
    split
    · rename_i e; subst e; exact h.1
    · exact FrLe.lk h.2 u
theorem Weak.as {a : List D} {fr fr' : FrD} (h : FrLe fr fr') : Weak a fr H a fr' H :=
  fun _ ψ S _ _ _ s k kv => ⟨ψ, S, .refl, s, fun t => VD.le _ _ (h.lk t) (k t), kv⟩
theorem get1_0 {d : D} : [d][0]? = some d := rfl
theorem get2_0 {d e : D} : [d, e][0]? = some d := rfl
theorem get2_1 {d e : D} : [d, e][1]? = some e := rfl
attribute [simp] frLe_nil frLe_cons get1_0 get2_0 get2_1
theorem splice_left {x : List D} : ∀ (a m : List D) (k : Nat), spliceD (a ++ m) (a.length + k) x = a ++ spliceD m k x
  | [], m, k => by simp
  | d :: a, m, k => by
    rw [List.cons_append, List.length_cons, show a.length + 1 + k = (a.length + k) + 1 from by omega, spliceD_succ, splice_left a m k]; rfl
theorem splice_whole {x : List D} (hx : x.length = sz) : ∀ {el : List (List D)} {i : Nat} {e : List D}, (∀ e, e ∈ el → e.length = sz) → el[i]? = some e → spliceD el.flatten (i * sz) x = (el.set i x).flatten
  | [], _, _, _, he => by simp at he
  | a :: l, 0, e, hs, he => by
    have ha := hs a (List.mem_cons_self ..)
    simp [spliceD_zero, hx, ← ha]
  | a :: l, i + 1, e, hs, he => by
    have ha := hs a (List.mem_cons_self ..)
    have ih := splice_whole hx (el := l) (i := i) (e := e) (fun y hy => hs y (List.mem_cons_of_mem _ hy)) (by simpa using he)
    simp only [List.flatten_cons, List.set_cons_succ]
    rw [show (i + 1) * sz = a.length + i * sz from by rw [ha, Nat.succ_mul]; omega, splice_left, ih]
theorem sem_exact {c : KC} {K : List KD} {fr : FrD} (g : Gr H0 H sz s el) (hs : ∀ H', GrX H0 H' sz s el → (∀ x, ¬ s.hasB x → H'.blk x = H.blk x) → H'.next = H.next → Sem p ext Q (.code c K .mk fr H')) : Sem p ext Q (.code c K .mk fr H) := by
  obtain ⟨H', w, g', k, n⟩ := g.exact
  exact sem_weak (w _ _) (hs H' g' k n)
theorem GrX.keep {H1 : HpD} (g : GrX H0 H sz s el) (hs : Sub H H1) (hk : ∀ x, s.hasB x → H1.blk x = H.blk x) : GrX H0 H1 sz s el := by
  refine ⟨g.gr.mono hs, ?_⟩
  rcases g.at_ with h | ⟨b, ex, rfl, h1, h2, h3⟩
  · exact .inl h
  · exact .inr ⟨b, ex, rfl, h1, by have := hs.next; omega, by rw [hk b rfl, h3]⟩
theorem GrX.whole {e x : List D} {i b : Nat} {ex : Bool} (g : GrX H0 H sz (.slice b 0 sz el.length el.length ex) el) (he : el[i]? = some e) (hx : x.length = sz) (h1 : H0.next ≤ b) (h2 : b < H.next) : GrX H0 (H.put b (.cells (spliceD el.flatten (i * sz) x) false)) sz (.slice b 0 sz el.length el.length ex) (el.set i x) := by
  rw [splice_whole hx g.gr.len he]
  refine ⟨⟨g.gr.sub.put h1, fun y hy => ?_, .inr ⟨b, ex, el.set i x, by simp, h1, h2, by simp, D.less_refl _⟩⟩, .inr ⟨b, ex, by simp, h1, h2, by simp⟩⟩
  rcases List.mem_or_eq_of_mem_set hy with hy | rfl
  · exact g.gr.len y hy
  · exact hx
theorem GrX.cell {e : List D} {x : D} {i j b : Nat} {ex : Bool} (g : GrX H0 H sz (.slice b 0 sz el.length el.length ex) el) (he : el[i]? = some e) (hj : j < sz) (h1 : H0.next ≤ b) (h2 : b < H.next) : GrX H0 (H.put b (.cells (spliceD el.flatten (i * sz + j) [x]) false)) sz (.slice b 0 sz el.length el.length ex) (el.set i (e.set j x)) := by
  rw [spliceD_flatten g.gr.len he hj]
  refine ⟨⟨g.gr.sub.put h1, fun y hy => ?_, .inr ⟨b, ex, el.set i (e.set j x), by simp, h1, h2, by simp, D.less_refl _⟩⟩, .inr ⟨b, ex, by simp, h1, h2, by simp⟩⟩
  rcases List.mem_or_eq_of_mem_set hy with hy | rfl
  · exact g.gr.len y hy
  · rw [List.length_set]; exact g.gr.len e (List.mem_of_getElem? he)
theorem SR.tellV {G : Nat → Option (Blk → Prop)} {ψ : Nat → Option Nat} {S : Nat → Prop} {h : Hp} {b : Nat} {cs cs' : List D} {ro : Bool} (s : SR G ψ S H h) (hb : H.blk b = .cells cs ro) (hl : ∀ l', VDl h ψ S cs l' → VDl h ψ S cs' l') : SR G ψ S (H.put b (.cells cs' ro)) h :=
  ⟨s.inj, s.dom, s.frz, fun b' hg => by
    rw [put_blk] at hg ⊢
    by_cases e : b' = b
    · subst e
      obtain ⟨c, h1, h2, h3⟩ := s.live b' (by rw [hb]; rfl)
      rw [hb] at h3
      obtain ⟨l', e1, k⟩ := h3
      refine ⟨c, h1, h2, ?_⟩
      rw [if_pos rfl]
      exact ⟨l', e1, hl l' k⟩
    · rw [if_neg e] at hg ⊢
      exact s.live b' hg, s.gl⟩
theorem Gr.incell (g : Gr H0 H sz s el) {b2 j : Nat} {cs : List D} {ro : Bool} (hb2 : H.blk b2 = .cells cs ro) (hj : cs[j]? = some s) (hne : ¬ s.hasB b2) :
    ∃ H', (∀ a fr, Weak a fr H a fr H') ∧ H'.blk b2 = .cells (cs.set j (.row sz .p el)) ro ∧ (∀ x, x ≠ b2 → ¬ s.hasB x → H'.blk x = H.blk x) ∧ H'.next = H.next ∧ ∀ H1, Sub H1 H → H1.next ≤ H0.next → H1.next ≤ b2 → Sub H1 H' := by
  rcases g.at_ with ⟨rfl, rfl⟩ | ⟨b, ex, el0, rfl, h1, h2, h3, h4⟩
  · refine ⟨H.put b2 (.cells (cs.set j (.row sz .p [])) ro), fun a fr => ?_, by simp, fun x hx _ => by rw [put_blk, if_neg hx], by simp, fun H1 hs _ h2 => hs.put h2⟩
    intro G ψ S h fv vs sr kf kv
    exact ⟨ψ, S, .refl, sr.tellV hb2 fun l' k => k.setD hj fun v hv => VD.le (.lit .nilslice) _ (by simp [D.le]) hv, kf, kv⟩
  · have hb : b2 ≠ b := fun e => hne (by simp only [D.hasB]; omega)
    refine ⟨(H.put b .gone).put b2 (.cells (cs.set j (.row sz .p el)) ro), fun a fr => ?_, by simp, fun x hx hx2 => ?_, by simp, fun H1 hs h0 h2 => (hs.put (by omega)).put h2⟩
    · intro G ψ S h fv vs sr kf kv
      have hel := less_length h4
      obtain ⟨c, hc, hr⟩ := frz_row sr h3 (less_sz h4 g.len)
      obtain ⟨x0, s0⟩ := sr.freeze hc
      refine ⟨ψ, _, x0, s0.tellV (cs := cs) (by rw [put_blk, if_neg hb]; exact hb2) fun l' k => k.setD hj fun v hv => ?_, kf.mono x0, VDl.mono x0 _ kv⟩
      simp only [VD] at hv
      obtain ⟨c', e, e2⟩ := hv
      rw [hc] at e; cases e
      rw [e2]
      rw [← hel]
      refine VD.le _ _ ?_ (hr _ _ (Nat.le_refl _))
      simp [D.le, h4]
    · rw [put_blk, if_neg hx, put_blk, if_neg]
      exact fun e => hx2 (by simp only [D.hasB]; omega)
theorem Gr.last {t : D} {H1 : HpD} {pre : List (List D)} (g : Gr H0 H 1 t (pre ++ [[s]])) (gs : Gr H1 H sz s el) (h01 : H0.next ≤ H1.next) (hne : ∀ x, t.hasB x → ¬ s.hasB x) :
    ∃ H', (∀ a fr, Weak a fr H a fr H') ∧ Gr H0 H' 1 t (pre ++ [[.row sz .p el]]) ∧ (∀ x, ¬ t.hasB x → ¬ s.hasB x → H'.blk x = H.blk x) ∧ H'.next = H.next := by
  obtain ⟨H2, w, g2, k2, n2⟩ := g.exact
  rcases g2.at_ with ⟨_, he⟩ | ⟨b, ex, rfl, h1, h2, h3⟩
  · simp at he
  · have hpre : pre.flatten.length = pre.length := by
      rw [flatten_len (sz := 1) fun e he => g.len e (List.mem_append_left _ he)]; omega
    have hsb : ¬ s.hasB b := hne b (by simp [D.hasB])
    have gs2 : Gr H2 H2 sz s el ∨ ∃ b' ex' el0, s = .slice b' 0 sz el.length el.length ex' ∧ H1.next ≤ b' ∧ b' < H2.next ∧ H2.blk b' = .cells el0.flatten false ∧ D.less el0 el := by
      rcases gs.at_ with ⟨h, h'⟩ | ⟨b', ex', el0, rfl, h1', h2', h3', h4'⟩
      · exact .inl ⟨.refl, gs.len, .inl ⟨h, h'⟩⟩
      · refine .inr ⟨b', ex', el0, rfl, h1', by omega, ?_, h4'⟩
        have hb : ¬ b' = b := fun e => hsb (by simp only [D.hasB]; omega)
        rw [k2 b' (by simp only [D.hasB]; exact hb)]; exact h3'
    have gs3 : ∃ H3, Gr H3 H2 sz s el ∧ H3.next = min H1.next H2.next ∧ ∀ x, H3.blk x = H2.blk x := by
      rcases gs2 with g | ⟨b', ex', el0, rfl, h1', h2', h3', h4'⟩
      · rcases g.at_ with h | ⟨b', ex', el0, rfl, h1', h2', _, _⟩
        · exact ⟨⟨min H1.next H2.next, H2.blk⟩, ⟨⟨by simp; omega, fun _ _ => rfl⟩, g.len, .inl h⟩, rfl, fun _ => rfl⟩
        · omega
      · exact ⟨⟨min H1.next H2.next, H2.blk⟩, ⟨⟨by simp; omega, fun _ _ => rfl⟩, gs.len, .inr ⟨b', ex', el0, rfl, by simp; omega, h2', h3', h4'⟩⟩, rfl, fun _ => rfl⟩
    obtain ⟨H3, g3, n3, _⟩ := gs3
    have hcell : (pre ++ [[s]]).flatten[pre.length]? = some s := by
      rw [List.flatten_append, List.getElem?_append_right (by omega), hpre]; simp
    have hset : (pre ++ [[s]]).flatten.set pre.length (D.row sz .p el) = (pre ++ [[D.row sz .p el]]).flatten := by
      rw [List.flatten_append, List.flatten_append, List.set_append, if_neg (by omega), hpre]; simp
    obtain ⟨H4, w4, c4, k4, n4, sub4⟩ := g3.incell h3 hcell hsb
    rw [hset] at c4
    have hn0 := g.sub.next
    have h3n : H0.next ≤ H3.next := by rw [n3]; omega
    refine ⟨H4, fun a fr => (w a fr).trans (w4 a fr), ⟨sub4 H0 g2.gr.sub h3n h1, fun e he => ?_, .inr ⟨b, ex, pre ++ [[.row sz .p el]], by simp, h1, by omega, c4, D.less_refl _⟩⟩, fun x hx hx2 => ?_, by omega⟩
    · rcases List.mem_append.1 he with he | he
      · exact g.len e (List.mem_append_left _ he)
      · simp at he; subst he; rfl
    · rw [k4 x (fun e => hx (by simp only [D.hasB]; omega)) hx2, k2 x hx]
theorem Gr.far (g : Gr H0 H sz s el) {x : Nat} (h : s.hasB x) : H0.next ≤ x ∧ x < H.next := by
  rcases g.at_ with ⟨rfl, _⟩ | ⟨b, ex, el0, rfl, h1, h2, _⟩
  · simp [D.hasB] at h
  · simp only [D.hasB] at h; subst h; exact ⟨h1, h2⟩
theorem Gr.rest {H3 : HpD} (g : Gr H0 H sz s el) (hn : H.next ≤ H3.next) (hk : ∀ x, s.hasB x → H3.blk x = H.blk x) : Gr ⟨H0.next, H3.blk⟩ H3 sz s el := by
  refine ⟨⟨Nat.le_trans g.sub.next hn, fun _ _ => rfl⟩, g.len, ?_⟩
  rcases g.at_ with h | ⟨b, ex, el0, rfl, h1, h2, h3, h4⟩
  · exact .inl h
  · exact .inr ⟨b, ex, el0, rfl, h1, by omega, by rw [hk b (by simp only [D.hasB])]; exact h3, h4⟩
theorem Gr.base {H1 : HpD} (g : Gr H1 H sz s el) (h : Sub H0 H1) : Gr H0 H sz s el := by
  refine ⟨h.trans g.sub, g.len, ?_⟩
  rcases g.at_ with h2 | ⟨b, ex, el0, rfl, h1, h2, h3, h4⟩
  · exact .inl h2
  · exact .inr ⟨b, ex, el0, rfl, Nat.le_trans h.next h1, h2, h3, h4⟩
theorem WeakV.part1 {b o n cap : Nat} {ex ro : Bool} {cs : List D} (hb : H.blk b = .cells cs ro) (he : ∀ e, e ∈ el → e.length = sz) (hl : el.length = n) (hc : (cs.drop o).take (n * sz) = el.flatten) (hn : n ≤ cap) :
    WeakV (.slice b o sz n cap ex) H (.row sz .p el) (H.put b .gone) := by
  intro G ψ S h v sr kv
  obtain ⟨c, h1, h2, l', h3, h4⟩ : ∃ c, ψ b = some c ∧ ¬ S c ∧ ∃ l', h.blk c = .cells l' ro ∧ VDl h ψ S cs l' := by
    obtain ⟨c, h1, h2, h3⟩ := sr.live b (by rw [hb]; rfl)
    rw [hb] at h3
    exact ⟨c, h1, h2, h3⟩
  obtain ⟨x0, s0⟩ := sr.freeze h1
  refine ⟨ψ, _, x0, s0, ?_⟩
  simp only [VD] at kv ⊢
  obtain ⟨c', e, rfl⟩ := kv
  rw [h1] at e; cases e
  refine .inr ⟨c, o, cap, ex, by rw [hl], by rw [hl]; exact hn, fun e => (by cases e), .inr ⟨l', ro, .inr rfl, h3, ?_⟩⟩
  have k1 := VDl.take (n * sz) (VDl.drop o h4)
  rw [hc] at k1
  have := VDss.of (us := (l'.drop o).drop (n * sz)) he (VDl.mono x0 _ k1)
  rwa [List.take_append_drop] at this
structure Part (H0 H : HpD) (sz : Nat) (s : D) (el : List (List D)) : Prop where
  sub : Sub H0 H
  len : ∀ e, e ∈ el → e.length = sz
  at_ : (s = .lit .nilslice ∧ el = []) ∨ ∃ b o cap ex cs, s = .slice b o sz el.length cap ex ∧ el.length ≤ cap ∧ H0.next ≤ b ∧ b < H.next ∧ H.blk b = .cells cs false ∧ (cs.drop o).take (el.length * sz) = el.flatten
theorem Part.fin {H0 H : HpD} {s : D} (g : Part H0 H sz s el) : ∃ H2, WeakV s H (.row sz .p el) H2 ∧ Sub H0 H2 := by
  rcases g.at_ with ⟨rfl, rfl⟩ | ⟨b, o, cap, ex, cs, rfl, h0, h1, h2, h3, h4⟩
  · exact ⟨H, .le (by simp [D.le]), g.sub⟩
  · exact ⟨_, WeakV.part1 h3 g.len rfl h4 h0, g.sub.put h1⟩
end Go.Dv
end

section
set_option maxRecDepth 10000
namespace Go.Lib
open Go.Vm Go.Dv
variable {p : Prog} {ext : Ext} {F : Nat → Nat}
attribute [-simp] bin_and
def hexD : List Nat := [48,49,50,51,52,53,54,55,56,57,97,98,99,100,101,102]
def hexN (b : By) : List Nat := [hexD.getD (b.val / 16) 0, hexD.getD (b.val % 16) 0]
def valN (v : Vl) : List Nat := if v.null = true then [110,117,108,108] else if v.kind = 1 then itoaN v.n else 120 :: (v.bytes.map hexN).flatten
structure HVal (p : Prog) (ext : Ext) (F : Nat → Nat) (g : SG) : Prop where
  h213 : Has p ext F 213 M213
  x209 : ∀ args h, ext (F 209) args h = strV g .fmt args h
  pow : PowGl p g
def hexE (l : List Nat) : List (List D) := l.map fun c => [.lit (.int .u8 ((c : Nat) : Int))]
theorem hexE_append {a b : List Nat} : hexE (a ++ b) = hexE a ++ hexE b := by simp [hexE]
theorem hexE_len {a : List Nat} : (hexE a).length = a.length := by simp [hexE]
def hexHi (c : Nat) : V := .int .u8 ((hexD.getD (c / 16) 0 : Nat) : Int)
def hexLo (c : Nat) : V := .int .u8 ((hexD.getD (c % 16) 0 : Nat) : Int)
def asU8 : Option V → Int
  | some (.int .u8 n) => n
  | _ => -1
theorem asU8_of {o : Option V} {n : Nat} (h : asU8 o = (n : Int)) : o = some (.int .u8 (n : Int)) := by
  unfold asU8 at h
  split at h
  · rw [h]
  · omega
theorem hex_hi_all : ∀ b : By, asU8 (idxsV (.str [48,49,50,51,52,53,54,55,56,57,97,98,99,100,101,102]) (.int .u8 (shrI .u8 ((b.val : Nat) : Int) 4))) = ((hexD.getD (b.val / 16) 0 : Nat) : Int) := by decide +kernel
theorem hex_lo_all : ∀ b : By, asU8 (idxsV (.str [48,49,50,51,52,53,54,55,56,57,97,98,99,100,101,102]) (.int .u8 ((b.val % 16 : Nat) : Int))) = ((hexD.getD (b.val % 16) 0 : Nat) : Int) := by decide +kernel
theorem hex_and_all : ∀ b : By, wr .u8 (toU .u8 ((b.val : Nat) : Int) &&& toU .u8 15 : Nat) = ((b.val % 16 : Nat) : Int) := by decide +kernel
theorem hex_hi {b : By} : idxsV (.str [48,49,50,51,52,53,54,55,56,57,97,98,99,100,101,102]) (.int .u8 (shrI .u8 ((b.val : Nat) : Int) 4)) = some (hexHi b.val) := asU8_of (hex_hi_all b)
theorem hex_lo {b : By} : idxsV (.str [48,49,50,51,52,53,54,55,56,57,97,98,99,100,101,102]) (.int .u8 ((b.val : Int) % 16)) = some (hexLo b.val) := by
  rw [show ((b.val : Int) % 16) = ((b.val % 16 : Nat) : Int) by omega]; exact asU8_of (hex_lo_all b)
theorem hex_and {tab : Tab} {b : By} : binV tab .and (.int .u8 ((b.val : Nat) : Int)) (.int .u8 15) = some (.int .u8 ((b.val : Int) % 16)) := by
  rw [show ((b.val : Int) % 16) = ((b.val % 16 : Nat) : Int) by omega, ← hex_and_all b]; simp [binV]; rfl
theorem toVs_hex : ∀ l : List Nat, toVs (hexE l).flatten = some (l.map fun c => V.int .u8 ((c : Nat) : Int))
  | [] => rfl
  | s :: l => by
    have := toVs_hex l
    simp only [hexE] at this
    simp [hexE, toVs, toV, this]
theorem bytesOf_map : ∀ l : List Nat, (∀ c, c ∈ l → c < 256) → eV.bytesOf (l.map fun c => V.int .u8 ((c : Nat) : Int)) = some l
  | [], _ => rfl
  | c :: l, h => by
    have h1 := bytesOf_map l (fun x hx => h x (List.mem_cons_of_mem _ hx))
    have h2 : Nat.blt c 256 = true := by have := h c List.mem_cons_self; simp [Nat.blt]; omega
    show eV.bytesOf (V.int .u8 (.ofNat c) :: _) = _
    unfold eV.bytesOf
    rw [h2, h1]; rfl
theorem text_hex {H0 H : HpD} {s : D} {l : List Nat} (g : GrX H0 H 1 s (hexE l)) (hl : ∀ c, c ∈ l → c < 256) : textD H s = some (.lit (.str l), H) := by
  rcases g.at_ with ⟨rfl, h⟩ | ⟨b, ex, rfl, h1, h2, h3⟩
  · have : l = [] := by simpa [hexE] using h
    subst this; rfl
  · have hr : readD H b 0 (hexE l).length = some (hexE l).flatten := by
      have : (hexE l).flatten.length = (hexE l).length := by
        rw [flatten_len (sz := 1) (by simp [hexE]), Nat.mul_one]
      rw [readD_eq, h3]
      simp only [Nat.zero_add, this, Nat.le_refl, if_true, List.drop_zero]
      rw [List.take_of_length_le (Nat.le_of_eq this)]
    simp only [textD, hr, strD, toVs_hex, bytesOf_map l hl]
    rfl
theorem hexN_small {b : By} : ∀ c, c ∈ hexN b → c < 256 := by
  have : ∀ b : By, ∀ c, c ∈ hexN b → c < 256 := by decide +kernel
  exact this b
theorem appendD_two {H : HpD} {s x y : D} {by_ b : Nat} {ex : Bool} (hb : H.blk b = .cells [x, y] false) : appendD 1 by_ H s (.slice b 0 1 2 2 ex) = appendD 1 by_ H s (.row 1 .p [[x], [y]]) := by
  simp only [appendD, lenD, List.length_cons, List.length_nil]
  have h1 : srcD H 1 (0 + 1 + 1) (.slice b 0 1 2 2 ex) = some [x, y] := by
    simp only [srcD]
    rw [readD_eq, hb]
    simp
  have h2 : srcD H 1 (0 + 1 + 1) (.row 1 .p [[x], [y]]) = some [x, y] := by
    simp only [srcD]
    simp
  rw [h1, h2]
theorem hexs_len : ∀ {l : List By}, ((l.map hexN).flatten).length = 2 * l.length
  | [] => rfl
  | b :: l => by
    have := hexs_len (l := l)
    simp only [List.map_cons, List.flatten_cons, List.length_append, this, List.length_cons]
    have : (hexN b).length = 2 := rfl
    omega
theorem hexs_small {l : List By} : ∀ c, c ∈ 120 :: (l.map hexN).flatten → c < 256 := by
  intro c hc
  rcases List.mem_cons.1 hc with rfl | hc
  · decide
  · obtain ⟨x, hx, hc⟩ := List.mem_flatten.1 hc
    obtain ⟨b, _, rfl⟩ := List.mem_map.1 hx
    exact hexN_small _ hc
def ValI (H0 : HpD) (v : Vl) (k : Nat) (fr : FrD) (H : HpD) : Prop :=
  ∃ (i : Nat) (s : D), k = v.bytes.length - i ∧ i ≤ v.bytes.length ∧ fr = [(3, s), (18, byD v.bytes), (19, .lit (.int .i64 (v.bytes.length : Int))), (20, .lit (.int .i64 (i : Int)))] ∧ Gr H0 H 1 s (hexE (120 :: ((v.bytes.take i).map hexN).flatten))
theorem text_val {g : SG} (L : HVal p ext F g) {v : Vl} (hn : wr .i64 v.n = v.n) : FnD p ext (F 213) [.agg v.c] (.lit (.str (valN v))) := by
  refine fn_of L.h213 (M := M213) rfl ok213 rfl fun H => sem_run 9000 _ ?_
  simp [Vl.c]
  by_cases h1 : v.null = true
  · simp [h1]
    refine sem_ret ?_
    simp [M213]
    rw [show valN v = [110, 117, 108, 108] by simp [valN, h1]]
    exact .same (by simp)
  · simp [h1]
    by_cases h2 : v.kind = 1
    · simp [h2]
      refine sem_fn (fmt_ext L.x209 L.pow hn) (by first | exact D.les_refl _ | simp) (sem_run 9000 _ ?_)
      simp
      refine sem_ret ?_
      simp [M213]
      rw [show valN v = itoaN v.n by simp [valN, h1, h2]]
      exact .same (by simp)
    · simp [h2]
      refine sem_loop (ValI H v) ?_ (k := v.bytes.length) ⟨0, _, by simp, by simp, rfl, ?_⟩
      · rintro k fr H' ⟨i, s, rfl, hi, rfl, gr⟩
        refine sem_exact gr fun H1 g1 _ _ => ?_
        refine sem_run 9000 _ ?_
        simp
        by_cases c : i < v.bytes.length
        · have hx : v.bytes[i]? = some v.bytes[i] := by simp
          simp [c, hex_and, hex_hi, hex_lo, hexHi, hexLo]
          rw [appendD_two (x := .lit (.int .u8 ((hexD.getD (v.bytes[i].val / 16) 0 : Nat) : Int))) (y := .lit (.int .u8 ((hexD.getD (v.bytes[i].val % 16) 0 : Nat) : Int))) (by simp)]
          have hsm := v.small
          have hle : (hexE (120 :: ((v.bytes.take i).map hexN).flatten)).length = 2 * i + 1 := by
            rw [hexE_len, List.length_cons, hexs_len, List.length_take]; omega
          refine sem_app (g1.gr.mono (Sub.refl.new)) (by simp) (by simp) (roomyD (by rw [hle]; simp; omega) (by rw [hle]; simp; omega)) fun s1 H2 g2 k1 n1 => ?_
          simp
          refine sem_ok ?_
          have hw : wr .i64 ((i : Int) + 1) = ((i + 1 : Nat) : Int) := by rw [wr_of] <;> omega
          refine ⟨_, by omega, i + 1, s1, rfl, by omega, by rw [hw], ?_⟩
          have e : hexE (120 :: ((v.bytes.take (i + 1)).map hexN).flatten) = hexE (120 :: ((v.bytes.take i).map hexN).flatten) ++ [[.lit (.int .u8 ((hexD.getD (v.bytes[i].val / 16) 0 : Nat) : Int))], [.lit (.int .u8 ((hexD.getD (v.bytes[i].val % 16) 0 : Nat) : Int))]] := by
            rw [List.take_succ_eq_append_getElem c, List.map_append, List.flatten_append, ← List.cons_append, hexE_append]; rfl
          rw [e]; exact g2
        · simp [c]
          refine sem_exit (sem_run 9000 _ ?_)
          have : i = v.bytes.length := by omega
          subst this
          rw [List.take_length] at g1
          simp [text_hex g1 hexs_small]
          refine sem_ret ?_
          simp [M213]
          rw [show valN v = 120 :: (v.bytes.map hexN).flatten by simp [valN, h1, h2]]
          exact .le g1.gr.sub (D.le_refl _) (by simp)
      · exact Gr.lit Sub.refl (by simp [hexE]) (by simp [hexE]) (by simp [hexE])
end Go.Lib
end

section
namespace Go.Lib
open Go.Vm Go.Dv
set_option maxRecDepth 100000
abbrev K46 (_F : Nat → Nat) : KC := .seq (.region [⟨(some 2),(.a (.box (.tmp 0))),none⟩,⟨(some 3),(.a (.box (.tmp 1))),none⟩,mi 4 0] [2,3] [2,3])
 (.seq (.block 0 (.seq (.region [fa 6 0 2,l1 7 6,mv 8 7,⟨(some 9),(.p (.faddr 0 (.tmp 3))),(some (8,false))⟩,⟨(some 10),(.load1 (.tmp 9)),(some (8,false))⟩,⟨(some 11),(.p (.pick (.tmp 8) (.val (.bool true)) (.tmp 10))),none⟩,mv 5 11] [] [2,3,5])
 (.cond (.tmp 5) (.seq (.seq (.region [fa 12 0 2,l1 13 12,fa 14 0 3,l1 15 14,⟨(some 16),(.p (.eq .bool false (.tmp 13) (.tmp 15))),none⟩] [] [2,16])
 (.cond (.tmp 16) (.seq (.region [mi 4 0] [] [4])
 (.ret))
 (.skip)))
 (.seq (.seq (.region [fa 17 0 2,l1 18 17] [] [18])
 (.cond (.tmp 18) (.seq (.region [⟨(some 4),(.p (.mov (.val (.int .i64 (.negSucc 0))))),none⟩] [] [4])
 (.ret))
 (.skip)))
 (.seq (.region [mi 4 1] [] [4])
 (.ret))))
 (.seq (.region [fa 20 1 2,l1 21 20,bi 22 .eql 21 1,mv 23 22,⟨(some 24),(.p (.faddr 2 (.tmp 2))),(some (23,true))⟩,⟨(some 25),(.load1 (.tmp 24)),(some (23,true))⟩,⟨(some 26),(.p (.faddr 2 (.tmp 3))),(some (23,true))⟩,⟨(some 27),(.load1 (.tmp 26)),(some (23,true))⟩,⟨(some 28),(.p (.bin .neq (.tmp 25) (.tmp 27))),(some (23,true))⟩,⟨(some 29),(.p (.pick (.tmp 23) (.tmp 28) (.val (.bool false)))),none⟩,mv 19 29] [] [2,3,19])
 (.cond (.tmp 19) (.seq (.seq (.region [fa 30 2 2,l1 31 30,fa 32 2 3,l1 33 32,bt 34 .lss 31 33] [] [34])
 (.cond (.tmp 34) (.seq (.region [⟨(some 4),(.p (.mov (.val (.int .i64 (.negSucc 0))))),none⟩] [] [4])
 (.ret))
 (.skip)))
 (.seq (.region [mi 4 1] [] [4])
 (.ret)))
 (.seq (.region [fa 36 1 2,l1 37 36,bi 38 .eql 37 2,mv 39 38,⟨(some 40),(.p (.faddr 3 (.tmp 2))),(some (39,true))⟩,⟨(some 41),(.load1 (.tmp 40)),(some (39,true))⟩,⟨(some 42),(.e (.text (.tmp 41))),(some (39,true))⟩,⟨(some 43),(.p (.faddr 3 (.tmp 3))),(some (39,true))⟩,⟨(some 44),(.load1 (.tmp 43)),(some (39,true))⟩,⟨(some 45),(.e (.text (.tmp 44))),(some (39,true))⟩,⟨(some 46),(.p (.bin .neq (.tmp 42) (.tmp 45))),(some (39,true))⟩,⟨(some 47),(.p (.pick (.tmp 39) (.tmp 46) (.val (.bool false)))),none⟩,mv 35 47] [] [2,3,35])
 (.cond (.tmp 35) (.seq (.seq (.region [fa 48 3 2,l1 49 48,⟨(some 50),(.e (.text (.tmp 49))),none⟩,fa 51 3 3,l1 52 51,⟨(some 53),(.e (.text (.tmp 52))),none⟩,bt 54 .lss 50 53] [] [54])
 (.cond (.tmp 54) (.seq (.region [⟨(some 4),(.p (.mov (.val (.int .i64 (.negSucc 0))))),none⟩] [] [4])
 (.ret))
 (.skip)))
 (.seq (.region [mi 4 1] [] [4])
 (.ret)))
 (.skip))))))))
 (.seq (.region [mi 4 0] [] [4])
 (.ret)))
def M46 (F : Nat → Nat) : Fun := ⟨55,2,(K46 F).erase,[.tmp 4]⟩
abbrev K47 (F : Nat → Nat) : KC := .seq (.region [mi 4 0] [] [0,1])
 (.seq (.seq (.region [mi 5 0] [] [0,1,5])
 (.block 0 (.loop (.seq (.seq (.region [mv 7 5,mv 8 0,lb 9 8,bt 10 .lss 7 9,mv 11 10,⟨(some 12),(.p (.mov (.tmp 5))),(some (11,true))⟩,⟨(some 13),(.p (.mov (.tmp 1))),(some (11,true))⟩,⟨(some 14),(.p (.lenb (.tmp 13))),(some (11,true))⟩,⟨(some 15),(.p (.bin .lss (.tmp 12) (.tmp 14))),(some (11,true))⟩,⟨(some 16),(.p (.pick (.tmp 11) (.tmp 15) (.val (.bool false)))),none⟩] [] [0,1,5,16])
 (.cond (.tmp 16) (.skip)
 (.exit 0)))
 (.seq (.block 1 (.seq (.dregion [⟨mv 19 0,0,8⟩,⟨mv 20 5,0,8⟩,⟨ix 21 4 19 20,0,8⟩,⟨ln 22 4 21,0,8⟩,⟨mv 23 1,0,8⟩,⟨mv 24 5,0,8⟩,⟨ix 25 4 23 24,0,8⟩,⟨ln 26 4 25,0,8⟩,⟨⟨(some 27),(.e (.call (F 46) [(.tmp 22),(.tmp 26)])),none⟩,0,10⟩,⟨mv 6 27,9,10⟩] [0,1,5,6])
 (.seq (.region [mv 28 6,bi 29 .neq 28 0] [] [0,1,5,6,29])
 (.cond (.tmp 29) (.seq (.region [mv 30 6,mv 4 30] [] [4])
 (.ret))
 (.skip)))))
 (.region [mv 17 5,bi 18 .add 17 1,mv 5 18] [] [0,1,5]))))))
 (.seq (.region [mv 31 0,lb 32 31,mv 33 1,lb 34 33,bt 35 .sub 32 34,⟨(some 36),(.p (.max [(.tmp 35),(.val (.int .i64 (.negSucc 0)))])),none⟩,⟨(some 37),(.p (.min [(.tmp 36),(.val (.int .i64 (.ofNat 1)))])),none⟩,mv 4 37] [] [4])
 (.ret)))
def M47 (F : Nat → Nat) : Fun := ⟨38,2,(K47 F).erase,[.tmp 4]⟩
abbrev K48 (F : Nat → Nat) : KC := .seq (.region [⟨(some 4),(.p (.mov (.val (.bool false)))),none⟩] [] [0,1])
 (.seq (.seq (.region [mv 6 0,lb 7 6,mv 8 1,lb 9 8,bt 10 .neq 7 9] [] [0,1,10])
 (.cond (.tmp 10) (.seq (.region [⟨(some 4),(.p (.mov (.val (.bool false)))),none⟩] [] [4])
 (.ret))
 (.skip)))
 (.seq (.seq (.region [mi 5 0] [] [0,1,5])
 (.block 0 (.loop (.seq (.seq (.region [mv 11 5,mv 12 0,lb 13 12,bt 14 .lss 11 13] [] [0,1,5,14])
 (.cond (.tmp 14) (.skip)
 (.exit 0)))
 (.seq (.block 1 (.seq (.dregion [⟨mv 17 0,0,8⟩,⟨mv 18 5,0,8⟩,⟨ix 19 1 17 18,0,8⟩,⟨l1 20 19,0,8⟩,⟨mv 21 1,0,8⟩,⟨mv 22 5,0,8⟩,⟨ix 23 1 21 22,0,8⟩,⟨l1 24 23,0,8⟩,⟨⟨(some 25),(.e (.call (F 49) [(.tmp 20),(.tmp 24)])),none⟩,0,10⟩,⟨⟨(some 26),(.p (.not (.tmp 25))),none⟩,9,10⟩] [0,1,5,26])
 (.cond (.tmp 26) (.seq (.region [⟨(some 4),(.p (.mov (.val (.bool false)))),none⟩] [] [4])
 (.ret))
 (.skip))))
 (.region [mv 15 5,bi 16 .add 15 1,mv 5 16] [] [0,1,5]))))))
 (.seq (.region [⟨(some 4),(.p (.mov (.val (.bool true)))),none⟩] [] [4])
 (.ret))))
def M48 (F : Nat → Nat) : Fun := ⟨27,2,(K48 F).erase,[.tmp 4]⟩
theorem ok48 {F : Nat → Nat} : (K48 F).ok = true := rfl
abbrev K49 (F : Nat → Nat) : KC := .seq (.region [⟨(some 4),(.p (.mov (.val (.bool false)))),none⟩] [] [0,1])
 (.seq (.seq (.region [mv 6 0,lb 7 6,mv 8 1,lb 9 8,bt 10 .neq 7 9] [] [0,1,10])
 (.cond (.tmp 10) (.seq (.region [⟨(some 4),(.p (.mov (.val (.bool false)))),none⟩] [] [4])
 (.ret))
 (.skip)))
 (.seq (.seq (.region [mi 5 0] [] [0,1,5])
 (.block 0 (.loop (.seq (.seq (.region [mv 11 5,mv 12 0,lb 13 12,bt 14 .lss 11 13] [] [0,1,5,14])
 (.cond (.tmp 14) (.skip)
 (.exit 0)))
 (.seq (.block 1 (.seq (.dregion [⟨mv 17 0,0,8⟩,⟨mv 18 5,0,8⟩,⟨ix 19 4 17 18,0,8⟩,⟨ln 20 4 19,0,8⟩,⟨mv 21 1,0,8⟩,⟨mv 22 5,0,8⟩,⟨ix 23 4 21 22,0,8⟩,⟨ln 24 4 23,0,8⟩,⟨⟨(some 25),(.e (.call (F 50) [(.tmp 20),(.tmp 24)])),none⟩,0,10⟩,⟨⟨(some 26),(.p (.not (.tmp 25))),none⟩,9,10⟩] [0,1,5,26])
 (.cond (.tmp 26) (.seq (.region [⟨(some 4),(.p (.mov (.val (.bool false)))),none⟩] [] [4])
 (.ret))
 (.skip))))
 (.region [mv 15 5,bi 16 .add 15 1,mv 5 16] [] [0,1,5]))))))
 (.seq (.region [⟨(some 4),(.p (.mov (.val (.bool true)))),none⟩] [] [4])
 (.ret))))
def M49 (F : Nat → Nat) : Fun := ⟨27,2,(K49 F).erase,[.tmp 4]⟩
theorem ok49 {F : Nat → Nat} : (K49 F).ok = true := rfl
abbrev K50 (_F : Nat → Nat) : KC := .seq (.region [⟨(some 2),(.a (.box (.tmp 0))),none⟩,⟨(some 3),(.a (.box (.tmp 1))),none⟩,⟨(some 4),(.p (.mov (.val (.bool false)))),none⟩] [2,3] [2,3])
 (.seq (.region [fa 5 0 2,l1 6 5,fa 7 0 3,l1 8 7,⟨(some 9),(.p (.eq .bool false (.tmp 6) (.tmp 8))),none⟩,mv 10 9,⟨(some 11),(.p (.faddr 1 (.tmp 2))),(some (10,true))⟩,⟨(some 12),(.load1 (.tmp 11)),(some (10,true))⟩,⟨(some 13),(.p (.faddr 1 (.tmp 3))),(some (10,true))⟩,⟨(some 14),(.load1 (.tmp 13)),(some (10,true))⟩,⟨(some 15),(.p (.bin .eql (.tmp 12) (.tmp 14))),(some (10,true))⟩,⟨(some 16),(.p (.pick (.tmp 10) (.tmp 15) (.val (.bool false)))),none⟩,mv 17 16,⟨(some 18),(.p (.faddr 2 (.tmp 2))),(some (17,true))⟩,⟨(some 19),(.load1 (.tmp 18)),(some (17,true))⟩,⟨(some 20),(.p (.faddr 2 (.tmp 3))),(some (17,true))⟩,⟨(some 21),(.load1 (.tmp 20)),(some (17,true))⟩,⟨(some 22),(.p (.bin .eql (.tmp 19) (.tmp 21))),(some (17,true))⟩,⟨(some 23),(.p (.pick (.tmp 17) (.tmp 22) (.val (.bool false)))),none⟩,mv 24 23,⟨(some 25),(.p (.faddr 3 (.tmp 2))),(some (24,true))⟩,⟨(some 26),(.load1 (.tmp 25)),(some (24,true))⟩,⟨(some 27),(.e (.text (.tmp 26))),(some (24,true))⟩,⟨(some 28),(.p (.faddr 3 (.tmp 3))),(some (24,true))⟩,⟨(some 29),(.load1 (.tmp 28)),(some (24,true))⟩,⟨(some 30),(.e (.text (.tmp 29))),(some (24,true))⟩,⟨(some 31),(.p (.bin .eql (.tmp 27) (.tmp 30))),(some (24,true))⟩,⟨(some 32),(.p (.pick (.tmp 24) (.tmp 31) (.val (.bool false)))),none⟩,mv 4 32] [] [4])
 (.ret))
def M50 (F : Nat → Nat) : Fun := ⟨33,2,(K50 F).erase,[.tmp 4]⟩
theorem ok50 {F : Nat → Nat} : (K50 F).ok = true := rfl
end Go.Lib
end

section
set_option maxRecDepth 10000
namespace Go.Lib
open Go.Vm Go.Dv
variable {α : Type}
structure Ord3 (G : α → Prop) (cmp : α → α → Int) : Prop where
  sym : ∀ x y, G x → G y → cmp x y = - cmp y x
  tr : ∀ x y z, G x → G y → G z → cmp x y ≤ 0 → cmp y z ≤ 0 → cmp x z ≤ 0
namespace Ord3
variable {G : α → Prop} {cmp : α → α → Int}
theorem lt_le (o : Ord3 G cmp) {x y z : α} (hx : G x) (hy : G y) (hz : G z) (h1 : cmp x y < 0) (h2 : cmp y z ≤ 0) : cmp x z < 0 := by
  have h3 := o.tr x y z hx hy hz (by omega) h2
  rcases Int.lt_or_eq_of_le h3 with h | h
  · exact h
  · have := o.sym x z hx hz
    have h4 := o.tr y z x hy hz hx h2 (by omega)
    have := o.sym x y hx hy
    omega
theorem le_lt (o : Ord3 G cmp) {x y z : α} (hx : G x) (hy : G y) (hz : G z) (h1 : cmp x y ≤ 0) (h2 : cmp y z < 0) : cmp x z < 0 := by
  have h3 := o.tr x y z hx hy hz h1 (by omega)
  rcases Int.lt_or_eq_of_le h3 with h | h
  · exact h
  · have := o.sym x z hx hz
    have h4 := o.tr z x y hz hx hy (by omega) h1
    have := o.sym y z hy hz
    omega
theorem eq_eq (o : Ord3 G cmp) {x y z : α} (hx : G x) (hy : G y) (hz : G z) (h1 : cmp x y = 0) (h2 : cmp y z = 0) : cmp x z = 0 := by
  have h3 := o.tr x y z hx hy hz (by omega) (by omega)
  have e1 := o.sym x y hx hy
  have e2 := o.sym y z hy hz
  have e3 := o.sym x z hx hz
  have h4 := o.tr z y x hz hy hx (by omega) (by omega)
  omega
theorem anti (o : Ord3 G cmp) : ∀ x y, G x → G y → cmp x y < 0 → ¬ cmp y x < 0 := fun x y hx hy h => by
  have := o.sym x y hx hy; omega
theorem trans (o : Ord3 G cmp) : ∀ x y z, G x → G y → G z → ¬ cmp y x < 0 → ¬ cmp z y < 0 → ¬ cmp z x < 0 := fun x y z hx hy hz h1 h2 => by
  have e1 := o.sym x y hx hy
  have e2 := o.sym y z hy hz
  have e3 := o.sym x z hx hz
  have := o.tr x y z hx hy hz (by omega) (by omega)
  omega
end Ord3
theorem cmpI_ord : Ord3 (fun _ => True) cmpI :=
  ⟨fun x y _ _ => by unfold cmpI; repeat' split <;> omega, fun x y z _ _ _ h1 h2 => by unfold cmpI at *; split at h1 <;> split at h2 <;> (repeat' split) <;> omega⟩
theorem cmpLs_cons {a b : Nat} {x y : List Nat} : cmpLs (a :: x) (b :: y) = if cmpI a b ≠ 0 then cmpI a b else cmpLs x y := by
  simp only [cmpLs, cmpI, cond_eq_ite, nblt]
  repeat' split
  all_goals first | rfl | omega
theorem cmpLs_ord : Ord3 (fun _ => True) cmpLs := by
  refine ⟨fun x y _ _ => ?_, fun x y z _ _ _ => ?_⟩
  · induction x generalizing y with
    | nil => cases y <;> rfl
    | cons a x ih => cases y with
      | nil => rfl
      | cons b y =>
        rw [cmpLs_cons, cmpLs_cons]
        have := cmpI_ord.sym (a : Int) b trivial trivial
        have := ih y
        split <;> split <;> omega
  · induction x generalizing y z with
    | nil => intro _ _; cases z <;> simp [cmpLs]
    | cons a x ih => cases y with
      | nil => intro h; simp [cmpLs] at h
      | cons b y => cases z with
        | nil => intro _ h; simp [cmpLs] at h
        | cons c z =>
          rw [cmpLs_cons, cmpLs_cons, cmpLs_cons]
          intro h1 h2
          have ih := ih y z
          have o := cmpI_ord
          have t := o.tr (a : Int) b c trivial trivial trivial
          have t1 := o.lt_le (x := (a : Int)) (y := b) (z := c) trivial trivial trivial
          have t2 := o.le_lt (x := (a : Int)) (y := b) (z := c) trivial trivial trivial
          have t3 := o.eq_eq (x := (a : Int)) (y := b) (z := c) trivial trivial trivial
          split at h1 <;> split at h2 <;> split <;> first | omega | (exact ih (by omega) (by omega)) | skip
theorem cmpB_ord : Ord3 (fun _ => True) cmpB := ⟨fun _ _ _ _ => cmpLs_ord.sym _ _ trivial trivial, fun _ _ _ _ _ _ h1 h2 => cmpLs_ord.tr _ _ _ trivial trivial trivial h1 h2⟩
theorem cmpV_null {a b : Vl} : cmpV a b = if a.null = true then (if b.null = true then 0 else -1) else if b.null = true then 1 else if a.kind = 1 then cmpI a.n b.n else if a.kind = 2 then cmpB a.bytes b.bytes else 0 := by
  unfold cmpV rankV cmpI
  cases a.null <;> cases b.null <;> simp
theorem cmpV_ord {k : Int} : Ord3 (fun v : Vl => v.kind = k) cmpV := by
  refine ⟨fun x y hx hy => ?_, fun x y z hx hy hz h1 h2 => ?_⟩
  · rw [cmpV_null, cmpV_null, hx, hy]
    have := cmpI_ord.sym x.n y.n trivial trivial
    have := cmpB_ord.sym x.bytes y.bytes trivial trivial
    repeat' split
    all_goals omega
  · rw [cmpV_null] at *
    rw [hx] at *
    rw [hy] at h2
    have := cmpI_ord.tr x.n y.n z.n trivial trivial trivial
    have := cmpB_ord.tr x.bytes y.bytes z.bytes trivial trivial trivial
    cases hx0 : x.null <;> cases hy0 : y.null <;> cases hz0 : z.null <;> simp [hx0, hy0, hz0] at h1 h2 ⊢
    split at h1
    · rename_i e
      simp only [e] at h2 ⊢
      simp at h2 ⊢; omega
    · rename_i e
      simp only [e] at h2 ⊢
      split at h1
      · rename_i e2
        simp [e2] at h2 ⊢; omega
      · rename_i e2
        simp [e2]
def Kin (ks : List Int) (r : Row) : Prop := r.map Vl.kind = ks
end Go.Lib
end

section
set_option maxRecDepth 10000
namespace Go.Lib
open Go.Vm Go.Dv
variable {p : Prog} {ext : Ext} {F : Nat → Nat}
structure HSame6 (p : Prog) (ext : Ext) (F : Nat → Nat) : Prop where
  h48 : Has p ext F 48 M48
  h49 : Has p ext F 49 M49
  h50 : Has p ext F 50 M50
structure HRef6 (p : Prog) (ext : Ext) (F : Nat → Nat) : Prop extends HSame6 p ext F where
  h46 : Has p ext F 46 M46
  h47 : Has p ext F 47 M47
instance : Coe (HRef6 p ext F) (HSame6 p ext F) := ⟨HRef6.toHSame6⟩
end Go.Lib
end
