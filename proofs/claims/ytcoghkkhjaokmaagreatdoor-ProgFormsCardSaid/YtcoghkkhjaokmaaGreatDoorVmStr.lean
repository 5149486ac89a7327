/-
  Vm, part 41: texts: what strings and strconv do, as plain functions on lists of bytes, and as externs over the kit's contracts.
-/
import Derived.Test.YtcoghkkhjaokmaaGreatDoorVmOr
import Derived.Lib.SplitLaws
import Derived.Lib.ItoaNum
import Derived.Lib.ParseIntBTie
import Derived.Lib.Join
import Derived.Lib.Bytealg
import Derived.Lib.LaidTab
import Derived.Sort.Grow
import Derived.RowKit
import Derived.Deep.Draws
namespace Go.Vm

open Go.RowKit
variable {P : Program}

/-! ### Plain functions -/

def pfx : List Nat → List Nat → Bool
  | [], _ => true
  | _ :: _, [] => false
  | a :: x, b :: y => cond (Nat.beq a b) (pfx x y) false

def indexN : List Nat → List Nat → Option Nat
  | [], sub => match sub with
    | [] => some 0
    | _ :: _ => none
  | b :: l, sub => cond (pfx sub (b :: l)) (some 0) (match indexN l sub with
    | some i => some (i + 1)
    | none => none)

def cutN (s sep : List Nat) : List Nat × List Nat × Bool := match indexN s sep with
  | some i => (s.take i, s.drop (i + sep.length), true)
  | none => (s, [], false)

def splitF : Nat → List Nat → List Nat → List (List Nat)
  | 0, s, _ => [s]
  | f + 1, s, sep => match indexN s sep with
    | some i => s.take i :: splitF f (s.drop (i + sep.length)) sep
    | none => [s]
def splitN (s sep : List Nat) : List (List Nat) := splitF (s.length + 1) s sep

def sfx (p s : List Nat) : Bool := pfx p.reverse s.reverse
def cutSN (s p : List Nat) : List Nat × Bool := cond (sfx p s) (s.take (s.length - p.length), true) (s, false)
def trimPN (s p : List Nat) : List Nat := cond (pfx p s) (s.drop p.length) s

def idxBN : List Nat → Nat → Option Nat
  | [], _ => none
  | b :: l, c => cond (Nat.beq b c) (some 0) (match idxBN l c with
    | some i => some (i + 1)
    | none => none)

def oInt : Option Nat → Int
  | some i => .ofNat i
  | none => .negSucc 0

def joinT (sep : List Nat) : List (List Nat) → List Nat
  | [] => []
  | x :: l => sep ++ (x ++ joinT sep l)
def joinN : List (List Nat) → List Nat → List Nat
  | [], _ => []
  | x :: l, sep => x ++ joinT sep l

def digN : Nat → Nat → List Nat
  | 0, u => [48 + Nat.mod u 10]
  | f + 1, u => cond (Nat.blt u 10) [48 + u] (digN f (Nat.div u 10) ++ [48 + Nat.mod u 10])
def itoaN : Int → List Nat
  | .ofNat n => digN 20 n
  | .negSucc n => 45 :: digN 20 (n + 1)

inductive Pe where
  | ok (n : Int)
  | syn
  | rng

def magN (acc : Nat) : List Nat → Pe
  | [] => .ok (.ofNat acc)
  | c :: r => cond (Nat.ble 48 c) (cond (Nat.ble c 57)
      (cond (Nat.ble 1844674407370955162 acc) .rng (cond (Nat.blt 18446744073709551615 (acc * 10 + (c - 48))) .rng (magN (acc * 10 + (c - 48)) r))) .syn) .syn

def signN (neg : Bool) : Pe → Pe
  | .ok (.ofNat u) => cond neg (cond (Nat.blt 9223372036854775808 u) .rng (.ok (Int.neg (.ofNat u)))) (cond (Nat.ble 9223372036854775808 u) .rng (.ok (.ofNat u)))
  | .ok (.negSucc _) => .rng
  | .syn => .syn
  | .rng => .rng

def mag0 (l : List Nat) : Pe := match l with
  | [] => .syn
  | _ :: _ => magN 0 l

def parseN (l : List Nat) : Pe := match l with
  | [] => .syn
  | c :: r => cond (Nat.beq c 45) (signN true (mag0 r)) (cond (Nat.beq c 43) (signN false (mag0 r)) (signN false (mag0 l)))

def satN (l : List Nat) : Int := match l with
  | [] => .ofNat 9223372036854775807
  | c :: _ => cond (Nat.beq c 45) (.negSucc 9223372036854775807) (.ofNat 9223372036854775807)

/-! ### The same as the kit's -/

theorem oInt_next (x : Option Nat) : (if oInt x == -1 then -1 else oInt x + 1) = oInt (match x with
    | some i => some (i + 1)
    | none => none) := by
  cases x with
  | none => rfl
  | some i =>
    have : (oInt (some i) == -1) = false := by rw [beq_eq_false_iff_ne]; show (i : Int) ≠ -1; omega
    rw [this]; rfl
theorem oInt_ge (x : Option Nat) : (0 ≤ oInt x) ↔ x.isSome := by
  cases x with
  | none => exact ⟨fun h => absurd h (by decide), fun h => by cases h⟩
  | some i => exact ⟨fun _ => rfl, fun _ => Int.natCast_nonneg i⟩

def nb (l : List UInt8) : List Nat := l.map UInt8.toNat

theorem beq_u8 (a b : UInt8) : Nat.beq a.toNat b.toNat = (a == b) := by
  by_cases h : a = b
  · subst h; simp
  · have : a.toNat ≠ b.toNat := fun e => h (UInt8.toNat_inj.1 e)
    have e1 : Nat.beq a.toNat b.toNat = false := by
      cases e : Nat.beq a.toNat b.toNat with
      | false => rfl
      | true => exact absurd (Nat.eq_of_beq_eq_true e) this
    rw [e1]; symm; simpa using h

theorem pfx_nb : ∀ a b : List UInt8, pfx (nb a) (nb b) = a.isPrefixOf b
  | [], b => by cases b <;> rfl
  | _ :: _, [] => rfl
  | a :: x, b :: y => by
    have := pfx_nb x y
    simp only [nb, List.map_cons, pfx, beq_u8, List.isPrefixOf] at this ⊢
    rw [this]
    cases a == b <;> rfl

theorem indexN_nb : ∀ l sub : List UInt8, Lib.index l sub = oInt (indexN (nb l) (nb sub))
  | [], sub => by cases sub <;> rfl
  | b :: l, sub => by
    have ih := indexN_nb l sub
    have hp := pfx_nb sub (b :: l)
    have e : nb (b :: l) = b.toNat :: nb l := rfl
    rw [e] at hp ⊢
    unfold Lib.index
    simp only [indexN, hp]
    cases hpp : sub.isPrefixOf (b :: l) with
    | true => rfl
    | false =>
      simp only [cond_false, Bool.false_eq_true, if_false]
      rw [ih]
      exact oInt_next _

theorem nb_take (n : Nat) (l : List UInt8) : nb (l.take n) = (nb l).take n := by simp [nb]
theorem nb_drop (n : Nat) (l : List UInt8) : nb (l.drop n) = (nb l).drop n := by simp [nb]
theorem nb_length (l : List UInt8) : (nb l).length = l.length := by simp [nb]
theorem nb_append (a b : List UInt8) : nb (a ++ b) = nb a ++ nb b := by simp [nb]

theorem cutN_nb (s sep : List UInt8) : cutN (nb s) (nb sep) = (nb (Lib.cut s sep).1, nb (Lib.cut s sep).2.1, (Lib.cut s sep).2.2) := by
  unfold cutN Lib.cut
  have hi := indexN_nb s sep
  cases e : indexN (nb s) (nb sep) with
  | none =>
    rw [e] at hi
    have hi : Lib.index s sep = -1 := hi
    rw [hi, if_neg (by decide)]
    rfl
  | some i =>
    rw [e] at hi
    have hi : Lib.index s sep = (i : Int) := hi
    rw [hi, if_pos (Int.natCast_nonneg i)]
    simp [nb_take, nb_drop, nb_length]

theorem splitK_nb (sep : List UInt8) (hs : sep ≠ []) : ∀ (f : Nat) (s : List UInt8), s.length < f → (Lib.splitK sep 0 (Lib.count s sep) s).map nb = splitF f (nb s) (nb sep)
  | 0, s, h => by omega
  | f + 1, s, h => by
    have hi := indexN_nb s sep
    simp only [splitF]
    cases e : indexN (nb s) (nb sep) with
    | none =>
      rw [e] at hi
      rw [Lib.count_miss hi]
      rfl
    | some i =>
      rw [e] at hi
      have hi : Lib.index s sep = (i : Int) := hi
      rw [Lib.count_hit hs hi, Nat.add_comm]
      simp only [Lib.splitK, hi]
      rw [if_neg (by simp)]
      simp only [List.map_cons, Int.toNat_natCast, Nat.add_zero]
      rw [splitK_nb sep hs f]
      · simp [nb_take, nb_drop, nb_length]
      · have hr := Lib.index_room s sep (by rw [hi]; omega)
        rw [hi] at hr
        have : 1 ≤ sep.length := by cases sep with
          | nil => exact absurd rfl hs
          | cons => simp
        rw [List.length_drop]; omega

theorem sfx_nb (p s : List UInt8) : sfx (nb p) (nb s) = Lib.hasSuffix s p := by
  unfold sfx Lib.hasSuffix List.isSuffixOf
  rw [← pfx_nb]
  simp [nb]

theorem cutSN_nb (s p : List UInt8) : cutSN (nb s) (nb p) = (nb (Lib.trimSuffix s p), Lib.hasSuffix s p) := by
  unfold cutSN Lib.trimSuffix
  rw [sfx_nb]
  cases Lib.hasSuffix s p <;> simp [nb_take, nb_length]

theorem trimPN_nb (s p : List UInt8) : trimPN (nb s) (nb p) = nb (Lib.trimPrefix s p) := by
  unfold trimPN Lib.trimPrefix Lib.hasPrefix
  rw [pfx_nb]
  cases p.isPrefixOf s <;> simp [nb_drop, nb_length]

theorem idxBN_nb : ∀ (l : List UInt8) (c : UInt8), Lib.indexByte l c = oInt (idxBN (nb l) c.toNat)
  | [], _ => rfl
  | b :: l, c => by
    have ih := idxBN_nb l c
    have e : nb (b :: l) = b.toNat :: nb l := rfl
    rw [e]
    unfold Lib.indexByte
    simp only [idxBN, beq_u8]
    cases hb : b == c with
    | true => rfl
    | false =>
      simp only [cond_false, Bool.false_eq_true, if_false]
      rw [ih]
      exact oInt_next _

theorem joinT_nb (sep : List UInt8) : ∀ r : List (List UInt8), nb (Lib.joinTail sep r) = joinT (nb sep) (r.map nb)
  | [] => rfl
  | x :: r => by
    have := joinT_nb sep r
    simp only [Lib.joinTail, List.map_cons, List.flatten_cons, nb_append, joinT] at this ⊢
    rw [this, List.append_assoc]
theorem joinN_nb (xs : List (List UInt8)) (sep : List UInt8) : nb (Lib.join xs sep) = joinN (xs.map nb) (nb sep) := by
  cases xs with
  | nil => rfl
  | cons x r => rw [Lib.join_cons, nb_append, joinT_nb]; rfl

theorem digN_dec : ∀ (f u : Nat), u < 10 ^ (f + 1) → digN f u = nb (Lib.decDigits u)
  | 0, u, h => by
    have h : u < 10 := by simpa using h
    rw [Lib.decDigits, dif_pos h]
    show [48 + u % 10] = _
    simp [nb, Nat.mod_eq_of_lt h]
    omega
  | f + 1, u, h => by
    simp only [digN]
    by_cases h10 : u < 10
    · rw [show Nat.blt u 10 = true from nblt.2 h10, Lib.decDigits, dif_pos h10]
      simp [nb]; omega
    · have : Nat.blt u 10 = false := by
        cases e : Nat.blt u 10 with
        | false => rfl
        | true => exact absurd (nblt.1 e) h10
      rw [this, Lib.decDigits, dif_neg h10, nb_append]
      show digN f (u / 10) ++ [48 + u % 10] = _
      rw [digN_dec f (u / 10) (by rw [Nat.pow_succ] at h; omega)]
      simp [nb]; omega

theorem itoaN_nb {n : Int} (h0 : -9223372036854775808 ≤ n) (h1 : n ≤ 9223372036854775807) : itoaN n = nb (Lib.itoa n) := by
  have hp : (10 : Nat) ^ 21 = 1000000000000000000000 := by decide
  cases n with
  | ofNat n =>
    have h1 : (n : Int) ≤ 9223372036854775807 := h1
    unfold Lib.itoa
    rw [if_neg (by simp)]
    exact digN_dec 20 n (by omega)
  | negSucc n =>
    unfold Lib.itoa
    rw [if_pos (by omega)]
    show 45 :: digN 20 (n + 1) = _
    rw [digN_dec 20 (n + 1) (by omega)]
    rfl

def peOf : Lib.NumEnd Int → Pe
  | .ok v => .ok v
  | .range => .rng
  | _ => .syn
def peN : Lib.NumEnd Nat → Pe
  | .ok v => .ok (.ofNat v)
  | .range => .rng
  | _ => .syn

theorem magN_nb : ∀ (l : List UInt8) (acc : Nat), magN acc (nb l) = peN (Lib.parseUintM (2 ^ 64 - 1) acc l)
  | [], _ => rfl
  | c :: r, acc => by
    have e : nb (c :: r) = c.toNat :: nb r := rfl
    rw [e]
    have hM : (2 : Nat) ^ 64 - 1 = 18446744073709551615 := by decide
    simp only [magN, Lib.parseUintM, hM]
    have ih := magN_nb r (acc * 10 + (c.toNat - 48))
    rw [hM] at ih
    rw [ih]
    by_cases h1 : 48 ≤ c.toNat
    · by_cases h2 : c.toNat ≤ 57
      · rw [nble.2 h1, nble.2 h2, if_pos ⟨h1, h2⟩]
        simp only [cond_true]
        by_cases h3 : 1844674407370955162 ≤ acc
        · rw [nble.2 h3, if_pos h3]; rfl
        · rw [if_neg h3, show Nat.ble 1844674407370955162 acc = false from by rw [nble_d]; exact decide_eq_false h3]
          simp only [cond_false]
          by_cases h4 : 18446744073709551615 < acc * 10 + (c.toNat - 48)
          · rw [nblt.2 h4, if_pos h4]; rfl
          · rw [if_neg h4, show Nat.blt 18446744073709551615 (acc * 10 + (c.toNat - 48)) = false from by rw [nblt_d]; exact decide_eq_false h4]
            rfl
      · rw [nble.2 h1, show Nat.ble c.toNat 57 = false from by rw [nble_d]; exact decide_eq_false h2, if_neg (fun h => h2 h.2)]
        rfl
    · rw [show Nat.ble 48 c.toNat = false from by rw [nble_d]; exact decide_eq_false h1, if_neg (fun h => h1 h.1)]
      rfl

theorem mag0_nb (l : List UInt8) : mag0 (nb l) = peN (Lib.parseUintB 64 l) := by
  cases l with
  | nil => rfl
  | cons c r =>
    unfold Lib.parseUintB
    rw [if_neg (by simp)]
    exact magN_nb (c :: r) 0

theorem parseN_nb (l : List UInt8) : parseN (nb l) = peOf (Lib.parseIntB 64 l) := by
  cases l with
  | nil => rfl
  | cons c r =>
    have e : nb (c :: r) = c.toNat :: nb r := rfl
    have h63 : (2 : Nat) ^ (64 - 1) = 9223372036854775808 := by decide
    have hm := mag0_nb (c :: r)
    rw [e] at hm ⊢
    simp only [parseN, Lib.parseIntB, mag0_nb r, hm, h63]
    by_cases h45 : c.toNat = 45
    · rw [h45]
      simp only [or_true, if_true, not_true_eq_false, false_and, if_false, true_and]
      rw [show Nat.beq 45 45 = true from rfl]
      simp only [cond_true]
      have fin : ∀ u : Nat, signN true (.ok (.ofNat u)) = peOf (if 9223372036854775808 < u then Lib.NumEnd.range else .ok (-(u : Int))) := by
        intro u
        simp only [signN, cond_true]
        by_cases hu : 9223372036854775808 < u
        · rw [nblt.2 hu, if_pos hu]; rfl
        · rw [if_neg hu, show Nat.blt 9223372036854775808 u = false from by rw [nblt_d]; exact decide_eq_false hu]; rfl
      cases Lib.parseUintB 64 r
      · exact fin _
      · rfl
      · rfl
    · have hb : Nat.beq c.toNat 45 = false := by rw [nbeq_d]; exact decide_eq_false h45
      rw [hb]
      simp only [h45, or_false, cond_false, not_false_eq_true, true_and, if_false, false_and]
      have fin : ∀ u : Nat, signN false (.ok (.ofNat u)) = peOf (if 9223372036854775808 ≤ u then Lib.NumEnd.range else .ok (u : Int)) := by
        intro u
        simp only [signN, cond_false]
        by_cases hu : 9223372036854775808 ≤ u
        · rw [nble.2 hu, if_pos hu]; rfl
        · rw [if_neg hu, show Nat.ble 9223372036854775808 u = false from by rw [nble_d]; exact decide_eq_false hu]; rfl
      by_cases h43 : c.toNat = 43
      · rw [h43]
        rw [show Nat.beq 43 43 = true from rfl]
        simp only [cond_true, if_true]
        cases Lib.parseUintB 64 r
        · exact fin _
        · rfl
        · rfl
      · rw [show Nat.beq c.toNat 43 = false from by rw [nbeq_d]; exact decide_eq_false h43]
        simp only [cond_false, h43, if_false]
        cases Lib.parseUintB 64 (c :: r)
        · exact fin _
        · rfl
        · rfl

theorem satN_nb (l : List UInt8) : satN (nb l) = Lib.intSat 64 l := by
  cases l with
  | nil => rfl
  | cons c r =>
    have e : nb (c :: r) = c.toNat :: nb r := rfl
    rw [e, Lib.intSat_64]
    simp only [satN, Lib.atoiSat, List.head?_cons, Option.map_some]
    by_cases h : c.toNat = 45
    · rw [show Nat.beq c.toNat 45 = true from nbeq.2 h]; simp [h]
    · rw [show Nat.beq c.toNat 45 = false from by rw [nbeq_d]; exact decide_eq_false h]; simp [h]

/-! ### Externs -/

/-- Package-level variables that they read: internal/bytealg.MaxLen, strconv.ErrSyntax, strconv.ErrRange, internal/strconv.uint64pow10; the type of *strconv.NumError. -/
structure SG where
  max : Nat
  syn : Nat
  rng : Nat
  pow : Nat
  tE : Nat

inductive Sk where
  | cut | idx | split | cutS | trimP | trimS | idxB | join | itoa | fmt | parse | atoi

def intCell : Blk → Bool
  | .cells (.int .i64 _ :: _) true => true
  | _ => false
def errCell : Blk → Bool
  | .cells (.iface _ _ :: _) true => true
  | _ => false
def powL : Nat → Nat → List V
  | 0, _ => []
  | n + 1, x => .int .u64 (.ofNat x) :: powL n (x * 10)
def powCells : Blk → Bool
  | .whole l => V.sames l (powL 20 1)
  | _ => false

def lenS : List (List Nat) → Nat
  | [] => 0
  | x :: l => x.length + lenS l

/-- The texts of cells. -/
def strsOf : List V → Option (List (List Nat))
  | [] => some []
  | .str s :: l => match strsOf l with
    | some r => some (s :: r)
    | none => none
  | _ => none

def strsV (h : Hp) : V → Option (List (List Nat))
  | .nilslice => some []
  | .slice b o sz len _ _ => cond (Nat.beq sz 1) (match h.read b o len with
    | some l => strsOf l
    | none => none) none
  | _ => none

def numErr (g : SG) (n : Int) (h : Hp) : Option (V × Hp) := some (.tup [.int .i64 n, .iface g.tE (.ptr h.next 0)], h.new .gone)

def parsed (g : SG) (s : List Nat) (h : Hp) : Option (V × Hp) := cond (Nat.ble s.length 4294967280) (match parseN s with
  | .ok n => some (.tup [.int .i64 n, .niliface], h)
  | .syn => cond (errCell (h.blk g.syn)) (numErr g 0 h) none
  | .rng => cond (errCell (h.blk g.rng)) (numErr g (satN s) h) none) none

def strV (g : SG) (k : Sk) (args : List V) (h : Hp) : Option (V × Hp) :=
  match k with
  | .cut => match args with
    | [.str s, .str sep] => cond (intCell (h.blk g.max)) (cond (Nat.ble s.length 4294967280) (match cutN s sep with
      | (a, b, c) => some (.tup [.str a, .str b, .bool c], h)) none) none
    | _ => none
  | .idx => match args with
    | [.str s, .str sep] => cond (intCell (h.blk g.max)) (cond (Nat.ble s.length 4294967280) (some (.int .i64 (oInt (indexN s sep)), h)) none) none
    | _ => none
  | .split => match args with
    | [.str s, .str (c :: sep)] => cond (intCell (h.blk g.max)) (cond (Nat.ble s.length 4294967280)
        (match splitN s (c :: sep) with
        | l => some (.slice h.next 0 1 l.length l.length true, h.new (.cells (l.map .str) false))) none) none
    | _ => none
  | .cutS => match args with
    | [.str s, .str p] => cond (Nat.ble s.length 4294967280) (match cutSN s p with
      | (a, c) => some (.tup [.str a, .bool c], h)) none
    | _ => none
  | .trimP => match args with
    | [.str s, .str p] => some (.str (trimPN s p), h)
    | _ => none
  | .trimS => match args with
    | [.str s, .str p] => cond (Nat.ble s.length 4294967280) (some (.str (cutSN s p).1, h)) none
    | _ => none
  | .idxB => match args with
    | [.str s, .int .u8 (.ofNat c)] => cond (Nat.blt c 256) (some (.int .i64 (oInt (idxBN s c)), h)) none
    | _ => none
  | .join => match args with
    | [x, .str sep] => match strsV h x with
      | some xs => cond (Nat.ble (joinN xs sep).length 4294967280) (cond (Nat.ble xs.length 4294967280) (some (.str (joinN xs sep), h)) none) none
      | none => none
    | _ => none
  | .itoa => match args with
    | [.int .i64 n] => cond (powCells (h.blk g.pow)) (cond (ieq (wr .i64 n) n) (some (.str (itoaN n), h)) none) none
    | _ => none
  | .fmt => match args with
    | [.int .i64 n, .int .i64 (.ofNat b)] => cond (Nat.beq b 10) (cond (powCells (h.blk g.pow)) (cond (ieq (wr .i64 n) n) (some (.str (itoaN n), h)) none) none) none
    | _ => none
  | .parse => match args with
    | [.str s, .int .i64 (.ofNat b), .int .i64 (.ofNat z)] => cond (Nat.beq b 10) (cond (Nat.beq z 64) (parsed g s h) none) none
    | _ => none
  | .atoi => match args with
    | [.str s] => parsed g s h
    | _ => none

def strX (g : SG) : List (Nat × Sk) → Ext
  | [], _, _, _ => none
  | (i, k) :: l, f, args, h => cond (Nat.beq i f) (strV g k args h) (strX g l f args h)

def str (l : List UInt8) : Value := .string ⟨l.toArray⟩

/-- The table of powers of ten. -/
def PowIs (w : World) (g : Nat) : Prop := ∃ e fz, w.heap[g]? = some (.cells (Lib.pow10Tab.map fun z => Value.int .u64 z).toArray e fz)

/-- What is asked of each, in the kit's words. -/
def SkK (P : Program) (g : SG) (f : Nat) : Sk → Prop
  | .cut => ∀ (s sep : ByteArray) (m : Int) (w : World), s.size < 4294967281 → w.cell? ⟨g.max, 0, none⟩ = some (.int .i64 m) →
      Calls P f #[.string s, .string sep] w fun e w' => e = .returned (.tuple #[str (Lib.cut s.data.toList sep.data.toList).1, str (Lib.cut s.data.toList sep.data.toList).2.1, .bool (Lib.cut s.data.toList sep.data.toList).2.2]) ∧ ∃ n, w' = w.drewN n
  | .idx => ∀ (s sep : ByteArray) (m : Int) (w : World), s.size < 4294967281 → w.cell? ⟨g.max, 0, none⟩ = some (.int .i64 m) →
      Calls P f #[.string s, .string sep] w fun e w' => e = .returned (.int .i64 (Lib.index s.data.toList sep.data.toList)) ∧ w' = w
  | .split => ∃ t, ∀ (s sep : ByteArray) (m : Int) (w : World), s.size < 4294967281 → w.cell? ⟨g.max, 0, none⟩ = some (.int .i64 m) → 1 ≤ sep.size →
      Calls P f #[.string s, .string sep] w fun e w' => e = .returned (.slice (some ⟨w.heap.size, 0, none⟩) (Lib.countB s sep + 1) (Lib.countB s sep + 1)) ∧ w' = w.alloc (.cells ((Lib.splitB sep 0 (Lib.countB s sep) s).map Value.string).toArray t)
  | .cutS => ∀ (s p : ByteArray) (w : World), s.size ≤ 9223372036854775807 →
      Calls P f #[.string s, .string p] w fun e w' => e = .returned (.tuple #[str (Lib.trimSuffix s.data.toList p.data.toList), .bool (Lib.hasSuffix s.data.toList p.data.toList)]) ∧ w' = w
  | .trimP => ∀ (s p : ByteArray) (w : World), Calls P f #[.string s, .string p] w fun e w' => e = .returned (str (Lib.trimPrefix s.data.toList p.data.toList)) ∧ w' = w
  | .trimS => ∀ (s p : ByteArray) (w : World), s.size ≤ 9223372036854775807 → Calls P f #[.string s, .string p] w fun e w' => e = .returned (str (Lib.trimSuffix s.data.toList p.data.toList)) ∧ w' = w
  | .idxB => ∀ (s : ByteArray) (c : Int) (w : World), Calls P f #[.string s, .int .u8 c] w fun e w' => e = .returned (.int .i64 (Lib.indexByte s.data.toList c.toNat.toUInt8)) ∧ w' = w
  | .join => (∀ (a : Option Addr) (c : Nat) (sep : ByteArray) (w : World), Calls P f #[.slice a 0 c, .string sep] w fun e w' => e = .returned (.string .empty) ∧ w' = w) ∧
      ∀ (bk o c : Nat) (xs : List ByteArray) (sep : ByteArray) (w : World), (∀ (j : Nat) x, xs[j]? = some x → w.cell? ⟨bk, o + j, none⟩ = some (.string x)) → bk < w.heap.size → xs.length ≤ 140737488355328 → xs.length ≤ c →
        (Lib.join (xs.map (·.data.toList)) sep.data.toList).length ≤ 140737488355328 →
        Calls P f #[.slice (some ⟨bk, o, none⟩) xs.length c, .string sep] w fun e w' => e = .returned (str (Lib.join (xs.map (·.data.toList)) sep.data.toList)) ∧ Below w.heap.size w w'
  | .itoa => ∀ (n : Int) (w : World), -9223372036854775808 ≤ n → n ≤ 9223372036854775807 → PowIs w g.pow →
      Calls P f #[.int .i64 n] w fun e w' => e = .returned (str (Lib.itoa n)) ∧ ∃ k os, w' = Go.Sort.grow (w.drewN k) os
  | .fmt => ∀ (n : Int) (w : World), -9223372036854775808 ≤ n → n ≤ 9223372036854775807 → PowIs w g.pow →
      Calls P f #[.int .i64 n, .int .i64 10] w fun e w' => e = .returned (str (Lib.itoa n)) ∧ ∃ k os, w' = Go.Sort.grow (w.drewN k) os
  | .parse => (∀ (s : ByteArray) (v : Int) (w : World), s.size ≤ 281474976710656 → Lib.parseIntB 64 s.data.toList = .ok v →
        Calls P f #[.string s, .int .i64 10, .int .i64 64] w fun e w' => e = .returned (.tuple #[.int .i64 v, .nilIface]) ∧ Below w.heap.size w w') ∧
      (∀ (s : ByteArray) (te : TypeId) (pe : Value) (w : World), s.size ≤ 281474976710656 → peOf (Lib.parseIntB 64 s.data.toList) = .syn → w.cell? ⟨g.syn, 0, none⟩ = some (.iface te pe) →
        Calls P f #[.string s, .int .i64 10, .int .i64 64] w fun e w' => ∃ N, e = .returned (.tuple #[.int .i64 0, .iface g.tE (.pointer (some ⟨N, 0, none⟩))]) ∧ w.heap.size ≤ N ∧ Below w.heap.size w w') ∧
      ∀ (s : ByteArray) (te : TypeId) (pe : Value) (w : World), s.size ≤ 281474976710656 → Lib.parseIntB 64 s.data.toList = .range → w.cell? ⟨g.rng, 0, none⟩ = some (.iface te pe) →
        Calls P f #[.string s, .int .i64 10, .int .i64 64] w fun e w' => ∃ N, e = .returned (.tuple #[.int .i64 (Lib.intSat 64 s.data.toList), .iface g.tE (.pointer (some ⟨N, 0, none⟩))]) ∧ w.heap.size ≤ N ∧ Below w.heap.size w w'
  | .atoi => (∀ (s : ByteArray) (v : Int) (w : World), s.size ≤ 281474976710656 → Lib.parseIntB 64 s.data.toList = .ok v →
        Calls P f #[.string s] w fun e w' => e = .returned (.tuple #[.int .i64 v, .nilIface]) ∧ Below w.heap.size w w') ∧
      (∀ (s : ByteArray) (te : TypeId) (pe : Value) (w : World), s.size ≤ 281474976710656 → peOf (Lib.parseIntB 64 s.data.toList) = .syn → w.cell? ⟨g.syn, 0, none⟩ = some (.iface te pe) →
        Calls P f #[.string s] w fun e w' => ∃ N, e = .returned (.tuple #[.int .i64 0, .iface g.tE (.pointer (some ⟨N, 0, none⟩))]) ∧ w.heap.size ≤ N ∧ Below w.heap.size w w') ∧
      ∀ (s : ByteArray) (te : TypeId) (pe : Value) (w : World), s.size ≤ 281474976710656 → Lib.parseIntB 64 s.data.toList = .range → w.cell? ⟨g.rng, 0, none⟩ = some (.iface te pe) →
        Calls P f #[.string s] w fun e w' => ∃ N, e = .returned (.tuple #[.int .i64 (Lib.intSat 64 s.data.toList), .iface g.tE (.pointer (some ⟨N, 0, none⟩))]) ∧ w.heap.size ≤ N ∧ Below w.heap.size w w'

/-- The variables are there, and apart from each other. -/
def SG.ok (P : Program) (g : SG) : Prop := g.max < P.globals.size ∧ g.syn < P.globals.size ∧ g.rng < P.globals.size ∧ g.pow < P.globals.size

structure IsStr (P : Program) (g : SG) (x : Nat × Sk) : Prop where
  en : entered P x.1 = true
  k : SkK P g x.1 x.2

/-! ### Sound -/

theorem str_vr {φ : Emb} (l : List UInt8) : VR φ (.str (nb l)) (str l) := by
  have := VR.str (φ := φ) ⟨l.toArray⟩
  simpa [str, nb] using this

theorem alloc_new (w : World) (o : Obj) : (w.alloc o).heap[w.heap.size]? = some o := by
  show (w.heap.push o)[w.heap.size]? = some o
  rw [Array.getElem?_push_size]

theorem below_drewN (w : World) (n : Nat) : Below w.heap.size w (w.drewN n) := ⟨rfl, rfl, rfl, Nat.le_refl _, fun _ _ => rfl⟩
theorem below_grow (w : World) (k : Nat) (os : Array Obj) : Below w.heap.size w (Go.Sort.grow (w.drewN k) os) :=
  ⟨rfl, rfl, rfl, by simp [Go.Sort.grow], fun i hi => by
    show (w.heap ++ os)[i]? = w.heap[i]?
    rw [Array.getElem?_append_left hi]⟩

theorem St.gl_cell {φ : Emb} {h : Hp} {w : World} (hr : HR φ h w) (hg : φ.glOk P) {g : Nat} (hlt : g < P.globals.size) {l : List V} (hb : h.blk g = .cells l true) {i : Nat} {v : V} (hi : l[i]? = some v) :
    ∃ u, w.cell? ⟨g, i, none⟩ = some u ∧ VR φ v u := by
  obtain ⟨pl, h1, h2⟩ := hr.lies g (by rw [hb]; rfl)
  obtain ⟨e, h3⟩ := hg g hlt
  rw [h3] at h1; cases h1
  rw [hb] at h2
  obtain ⟨_, c, e, fz, hc, _, hv⟩ := h2
  obtain ⟨u, k1, k2⟩ := hv i v hi
  refine ⟨u, ?_, k2⟩
  rw [cell_of hc, ← k1, Nat.zero_add]

theorem intCell_ok {φ : Emb} {h : Hp} {w : World} (hr : HR φ h w) (hg : φ.glOk P) {g : Nat} (hlt : g < P.globals.size) (hc : intCell (h.blk g) = true) : ∃ m, w.cell? ⟨g, 0, none⟩ = some (.int .i64 m) := by
  unfold intCell at hc
  split at hc
  case h_2 => cases hc
  rename_i m l hb
  obtain ⟨u, h1, h2⟩ := St.gl_cell hr hg hlt hb (i := 0) rfl
  cases h2
  exact ⟨_, h1⟩

theorem errCell_ok {φ : Emb} {h : Hp} {w : World} (hr : HR φ h w) (hg : φ.glOk P) {g : Nat} (hlt : g < P.globals.size) (hc : errCell (h.blk g) = true) : ∃ te pe, w.cell? ⟨g, 0, none⟩ = some (.iface te pe) := by
  unfold errCell at hc
  split at hc
  case h_2 => cases hc
  rename_i m l hb
  obtain ⟨u, h1, h2⟩ := St.gl_cell hr hg hlt hb (i := 0) rfl
  cases h2
  exact ⟨_, _, h1⟩

theorem powL_eq {φ : Emb} {us : List Value} (h : VRs φ (powL 20 1) us) : us = Lib.pow10Tab.map fun z => Value.int .u64 z := by
  have key : ∀ (n x : Nat) (us : List Value), VRs φ (powL n x) us → us = (List.range n).map fun i => Value.int .u64 ((x * 10 ^ i : Nat) : Int) := by
    intro n
    induction n with
    | zero => intro x us h; cases h; rfl
    | succ n ih =>
      intro x us h
      cases h with | cons _ u _ us' k1 k2 =>
      cases k1
      rw [ih (x * 10) us' k2, List.range_succ_eq_map, List.map_cons, List.map_map]
      refine congr (congrArg List.cons ?_) (List.map_congr_left fun i _ => ?_)
      · simp
      · simp only [Function.comp, Nat.succ_eq_add_one, Nat.pow_succ]
        rw [Nat.mul_assoc, Nat.mul_comm 10]
  rw [key 20 1 us h]
  simp [Lib.pow10Tab]

theorem powL_vr {φ : Emb} : VRs φ (powL 20 1) (Lib.pow10Tab.map fun z => Value.int .u64 z) := by
  refine VRs.of_get (by simp [powL, Lib.pow10Tab]) fun i v u h1 h2 => ?_
  have key : ∀ (n x i : Nat), (powL n x)[i]? = if i < n then some (.int .u64 (.ofNat (x * 10 ^ i))) else none := by
    intro n
    induction n with
    | zero => intro x i; simp [powL]
    | succ n ih =>
      intro x i
      cases i with
      | zero => simp [powL]
      | succ i =>
        simp only [powL, List.getElem?_cons_succ, ih]
        rw [Nat.pow_succ, Nat.mul_assoc, Nat.mul_comm 10]
        by_cases h : i < n
        · rw [if_pos h, if_pos (by omega)]
        · rw [if_neg h, if_neg (by omega)]
  rw [key] at h1
  split at h1
  · rename_i hi
    cases h1
    simp [Lib.pow10Tab, List.getElem?_range hi] at h2
    rw [← h2]
    have : (Int.ofNat (1 * 10 ^ i)) = ((10 : Int) ^ i) := by simp
    rw [this]
    exact .int _ _
  · cases h1

theorem powCells_ok {φ : Emb} {h : Hp} {w : World} (hr : HR φ h w) (hg : φ.glOk P) {g : Nat} (hlt : g < P.globals.size) (hc : powCells (h.blk g) = true) : PowIs w g := by
  unfold powCells at hc
  split at hc
  case h_2 => cases hc
  rename_i l hb
  have hl := sames_eq hc
  subst hl
  obtain ⟨pl, h1, h2⟩ := hr.lies g (by rw [hb]; rfl)
  obtain ⟨e, h3⟩ := hg g hlt
  rw [h3] at h1; cases h1
  rw [hb] at h2
  obtain ⟨c, e, fz, hc, hv⟩ := h2
  refine ⟨e, fz, ?_⟩
  rw [← powL_eq hv]
  exact hc

theorem i64_of_wr {n : Int} (h : ieq (wr .i64 n) n = true) : -9223372036854775808 ≤ n ∧ n ≤ 9223372036854775807 := by
  rw [ieq_iff, wr_eq] at h
  simp only [IntKind.wrap, IntKind.bits, IntKind.signed, Bool.true_and] at h
  split at h <;> rename_i hc <;> simp at hc <;> omega

theorem strsOf_spec {φ : Emb} : ∀ {l : List V} {xs : List (List Nat)} {us : List Value}, strsOf l = some xs → VRs φ l us → ∃ bs : List ByteArray, us = bs.map Value.string ∧ xs = bs.map fun b => nb b.data.toList
  | [], xs, us, h, hr => by
    simp only [strsOf, Option.some.injEq] at h
    subst h
    cases hr
    exact ⟨[], rfl, rfl⟩
  | v :: l, xs, us, h, hr => by
    unfold strsOf at h
    split at h
    · rename_i e; cases e
    · rename_i s l' e
      cases e
      split at h
      case h_2 => cases h
      rename_i r hr'
      cases h
      cases hr with | cons _ u _ us' k1 k2 =>
      cases k1 with | str b =>
      obtain ⟨bs, e1, e2⟩ := strsOf_spec hr' k2
      exact ⟨b :: bs, by rw [e1]; rfl, by rw [e2]; rfl⟩
    · cases h

theorem size_nb (s : ByteArray) : (List.map UInt8.toNat s.data.toList).length = s.size := by rw [List.length_map]; exact (Lib.size_eq s).symm

theorem parsed_ok {env : Env} {g : SG} (hg : g.ok P) {φ : Emb} {f : Nat} {us : List Value} {s : ByteArray} {h h' : Hp} {v : V} {w : World} (hv : parsed g (nb s.data.toList) h = some (v, h')) (ok : EnvOk P φ env) (hr : HR φ h w) (hfr : Fresh φ h.next h'.next)
    (k1 : ∀ (v : Int), s.size ≤ 281474976710656 → Lib.parseIntB 64 s.data.toList = .ok v → Calls P f us.toArray w fun e w' => e = .returned (.tuple #[.int .i64 v, .nilIface]) ∧ Below w.heap.size w w')
    (k2 : ∀ (te : TypeId) (pe : Value), s.size ≤ 281474976710656 → peOf (Lib.parseIntB 64 s.data.toList) = .syn → w.cell? ⟨g.syn, 0, none⟩ = some (.iface te pe) →
        Calls P f us.toArray w fun e w' => ∃ N, e = .returned (.tuple #[.int .i64 0, .iface g.tE (.pointer (some ⟨N, 0, none⟩))]) ∧ w.heap.size ≤ N ∧ Below w.heap.size w w')
    (k3 : ∀ (te : TypeId) (pe : Value), s.size ≤ 281474976710656 → Lib.parseIntB 64 s.data.toList = .range → w.cell? ⟨g.rng, 0, none⟩ = some (.iface te pe) →
        Calls P f us.toArray w fun e w' => ∃ N, e = .returned (.tuple #[.int .i64 (Lib.intSat 64 s.data.toList), .iface g.tE (.pointer (some ⟨N, 0, none⟩))]) ∧ w.heap.size ≤ N ∧ Below w.heap.size w w') :
    Calls P f us.toArray w fun e w' => ∃ u ψ, e = .returned u ∧ VR ψ v u ∧ St φ h w ψ h' w' := by
  unfold parsed at hv
  rw [cond_eq_ite] at hv; split at hv
  case isFalse => cases hv
  rename_i hsz
  rw [nble, nb_length, ← Lib.size_eq] at hsz
  have hs : s.size ≤ 281474976710656 := by omega
  rw [parseN_nb] at hv
  have err : ∀ (n : Int) (e : Ending) (w' : World), numErr g n h = some (v, h') → (∃ N, e = .returned (.tuple #[.int .i64 n, .iface g.tE (.pointer (some ⟨N, 0, none⟩))]) ∧ w.heap.size ≤ N ∧ Below w.heap.size w w') →
      ∃ u ψ, e = .returned u ∧ VR ψ v u ∧ St φ h w ψ h' w' := by
    rintro n e w' hn ⟨N, rfl, hN, hb⟩
    unfold numErr at hn
    cases hn
    have hst := St.belowNew hr hb (x := .gone) (pl := ⟨N, 0, 0⟩) (hfr h.next (Nat.le_refl _) (Nat.lt_succ_self _)) hN (fun _ _ => trivial)
    refine ⟨_, _, rfl, .tup _ _ (.cons _ _ _ _ (.int _ _) (.cons _ _ _ _ (.iface _ _ _ (.ptr _ 0 ⟨N, 0, 0⟩ ?_)) .nil)), hst⟩
    show (if h.next = h.next then some _ else _) = _
    rw [if_pos rfl]
  have hpe : ∀ x, peOf (Lib.parseIntB 64 s.data.toList) = x → (match x with
      | .ok n => some (V.tup [.int .i64 n, .niliface], h)
      | .syn => cond (errCell (h.blk g.syn)) (numErr g 0 h) none
      | .rng => cond (errCell (h.blk g.rng)) (numErr g (satN (nb s.data.toList)) h) none) = some (v, h') := fun x hx => by rw [← hx]; exact hv
  cases hp : peOf (Lib.parseIntB 64 s.data.toList) with
  | ok n =>
    have hv := hpe _ hp
    have hp' : Lib.parseIntB 64 s.data.toList = .ok n := by
      revert hp
      cases Lib.parseIntB 64 s.data.toList <;> intro hp <;> cases hp
      rfl
    cases hv
    refine (k1 n hs hp').mono ?_
    rintro e w' ⟨rfl, hb⟩
    exact ⟨_, φ, rfl, .tup _ _ (.cons _ _ _ _ (.int _ _) (.cons _ _ _ _ .niliface .nil)), .below hr hb⟩
  | syn =>
    have hv := hpe _ hp
    simp only at hv
    rw [cond_eq_ite] at hv; split at hv
    case isFalse => cases hv
    rename_i hc
    obtain ⟨te, pe, hcell⟩ := errCell_ok hr ok.gl hg.2.1 hc
    exact (k2 te pe hs hp hcell).mono fun e w' k => err 0 e w' hv k
  | rng =>
    have hv := hpe _ hp
    have hp' : Lib.parseIntB 64 s.data.toList = .range := by
      revert hp
      cases Lib.parseIntB 64 s.data.toList <;> intro hp <;> cases hp
      rfl
    simp only at hv
    rw [cond_eq_ite] at hv; split at hv
    case isFalse => cases hv
    rename_i hc
    obtain ⟨te, pe, hcell⟩ := errCell_ok hr ok.gl hg.2.2.1 hc
    rw [satN_nb] at hv
    exact (k3 te pe hs hp' hcell).mono fun e w' k => err _ e w' hv k

theorem str_one {env : Env} {g : SG} (hg : g.ok P) {x : Nat × Sk} (hx : IsStr P g x) {φ : Emb} {args : List V} {h h' : Hp} {v : V} {w : World} {us : List Value} (hv : strV g x.2 args h = some (v, h')) (ok : EnvOk P φ env) (hr : HR φ h w)
    (hfr : Fresh φ h.next h'.next) (hargs : VRs φ args us) : CallSim P φ x.1 us h w v h' := by
  obtain ⟨f, k⟩ := x
  obtain ⟨hen, hk⟩ := hx
  left
  refine ⟨hen, ?_⟩
  cases k with
  | cut =>
    simp only [strV] at hv
    split at hv
    case h_2 => cases hv
    rename_i s sep
    rw [cond_eq_ite] at hv; split at hv
    case isFalse => cases hv
    rename_i hc
    rw [cond_eq_ite] at hv; split at hv
    case isFalse => cases hv
    rename_i hsz
    cases hargs with | cons _ u1 _ us1 r1 rest =>
    cases rest with | cons _ u2 _ us2 r2 rest =>
    cases rest
    cases r1 with | str s =>
    cases r2 with | str sep =>
    rw [nble, size_nb] at hsz
    obtain ⟨m, hm⟩ := intCell_ok hr ok.gl hg.1 hc
    have e := cutN_nb s.data.toList sep.data.toList
    unfold nb at e
    rw [e] at hv
    cases hv
    refine (hk s sep m w (by omega) hm).mono ?_
    rintro e w' ⟨rfl, n, rfl⟩
    exact ⟨_, φ, rfl, .tup _ _ (.cons _ _ _ _ (str_vr _) (.cons _ _ _ _ (str_vr _) (.cons _ _ _ _ (.bool _) .nil))), .below hr (below_drewN w n)⟩
  | idx =>
    simp only [strV] at hv
    split at hv
    case h_2 => cases hv
    rename_i s sep
    rw [cond_eq_ite] at hv; split at hv
    case isFalse => cases hv
    rename_i hc
    rw [cond_eq_ite] at hv; split at hv
    case isFalse => cases hv
    rename_i hsz
    cases hargs with | cons _ u1 _ us1 r1 rest =>
    cases rest with | cons _ u2 _ us2 r2 rest =>
    cases rest
    cases r1 with | str s =>
    cases r2 with | str sep =>
    rw [nble, size_nb] at hsz
    obtain ⟨m, hm⟩ := intCell_ok hr ok.gl hg.1 hc
    have e := indexN_nb s.data.toList sep.data.toList
    unfold nb at e
    rw [← e] at hv
    cases hv
    refine (hk s sep m w (by omega) hm).mono ?_
    rintro e w' ⟨rfl, rfl⟩
    exact ⟨_, φ, rfl, .int _ _, .refl hr⟩
  | split =>
    simp only [strV] at hv
    split at hv
    case h_2 => cases hv
    rename_i s c sep
    rw [cond_eq_ite] at hv; split at hv
    case isFalse => cases hv
    rename_i hc
    rw [cond_eq_ite] at hv; split at hv
    case isFalse => cases hv
    rename_i hsz
    cases hargs with | cons _ u1 _ us1 r1 rest =>
    cases rest with | cons _ u2 _ us2 r2 rest =>
    cases rest
    cases r1 with | str s =>
    generalize hcs : c :: sep = sp at r2 hv
    cases r2 with | str sep' =>
    rw [nble, size_nb] at hsz
    obtain ⟨m, hm⟩ := intCell_ok hr ok.gl hg.1 hc
    have h1 : 1 ≤ sep'.size := by
      rw [← size_nb, ← hcs]; simp
    have hne : sep'.data.toList ≠ [] := fun e => by rw [e] at hcs; simp at hcs
    obtain ⟨t, hk⟩ := hk
    have hsp : splitN (nb s.data.toList) (nb sep'.data.toList) = (Lib.splitB sep' 0 (Lib.countB s sep') s).map fun b => nb b.data.toList := by
      unfold splitN
      rw [nb_length, ← splitK_nb sep'.data.toList hne _ s.data.toList (Nat.lt_succ_self _)]
      have := Lib.splitB_data sep' 0 (Lib.countB s sep') s
      show (Lib.splitK _ 0 (Lib.countB s sep') _).map nb = _
      rw [← this, List.map_map]; rfl
    have hlen := Lib.splitB_all sep' h1 0 _ s rfl
    have hv : (some (V.slice h.next 0 1 (splitN (nb s.data.toList) (nb sep'.data.toList)).length (splitN (nb s.data.toList) (nb sep'.data.toList)).length true, h.new (.cells ((splitN (nb s.data.toList) (nb sep'.data.toList)).map .str) false)) : Option (V × Hp)) = some (v, h') := by
      rw [← hv]
      rfl
    rw [hsp] at hv
    cases hv
    refine (hk s sep' m w (by omega) hm h1).mono ?_
    rintro e w' ⟨rfl, rfl⟩
    rw [← hlen]
    generalize Lib.splitB sep' 0 (Lib.countB s sep') s = L
    have hb : Below w.heap.size w (w.alloc (.cells (L.map Value.string).toArray t)) := (Below.refl _ w).alloc (Nat.le_refl _) _
    refine ⟨_, _, rfl, ?_, St.belowNew hr hb (pl := ⟨w.heap.size, 0, L.length⟩) (hfr h.next (Nat.le_refl _) (Nat.lt_succ_self _)) (Nat.le_refl _) fun ψ _ => ?_⟩
    · rw [List.length_map]
      refine .slice _ _ _ _ _ _ _ _ (fun _ => ⟨⟨w.heap.size, 0, L.length⟩, ?_, rfl, fun ee => by cases ee⟩) (Nat.le_refl _) (Nat.le_refl _) (fun _ => rfl)
      show (if h.next = h.next then some _ else _) = _
      rw [if_pos rfl]
    · refine ⟨rfl, by simp, (L.map Value.string).toArray, t, (0, 0), alloc_new w _, by simp, .inl rfl, fun i x hi => ?_⟩
      rw [List.map_map, List.getElem?_map] at hi
      cases hL : L[i]? with
      | none => rw [hL] at hi; cases hi
      | some b =>
        rw [hL] at hi
        cases hi
        exact ⟨.string b, by simp [hL], .str b⟩
  | cutS =>
    simp only [strV] at hv
    split at hv
    case h_2 => cases hv
    rename_i s sep
    rw [cond_eq_ite] at hv; split at hv
    case isFalse => cases hv
    rename_i hsz
    cases hargs with | cons _ u1 _ us1 r1 rest =>
    cases rest with | cons _ u2 _ us2 r2 rest =>
    cases rest
    cases r1 with | str s =>
    cases r2 with | str sep =>
    rw [nble, size_nb] at hsz
    have e := cutSN_nb s.data.toList sep.data.toList
    unfold nb at e
    rw [e] at hv
    cases hv
    refine (hk s sep w (by omega)).mono ?_
    rintro e w' ⟨rfl, rfl⟩
    exact ⟨_, φ, rfl, .tup _ _ (.cons _ _ _ _ (str_vr _) (.cons _ _ _ _ (.bool _) .nil)), .refl hr⟩
  | trimP =>
    simp only [strV] at hv
    split at hv
    case h_2 => cases hv
    rename_i s sep
    cases hargs with | cons _ u1 _ us1 r1 rest =>
    cases rest with | cons _ u2 _ us2 r2 rest =>
    cases rest
    cases r1 with | str s =>
    cases r2 with | str sep =>
    have e := trimPN_nb s.data.toList sep.data.toList
    unfold nb at e
    rw [e] at hv
    cases hv
    refine (hk s sep w).mono ?_
    rintro e w' ⟨rfl, rfl⟩
    exact ⟨_, φ, rfl, str_vr _, .refl hr⟩
  | trimS =>
    simp only [strV] at hv
    split at hv
    case h_2 => cases hv
    rename_i s sep
    rw [cond_eq_ite] at hv; split at hv
    case isFalse => cases hv
    rename_i hsz
    cases hargs with | cons _ u1 _ us1 r1 rest =>
    cases rest with | cons _ u2 _ us2 r2 rest =>
    cases rest
    cases r1 with | str s =>
    cases r2 with | str sep =>
    rw [nble, size_nb] at hsz
    have e := cutSN_nb s.data.toList sep.data.toList
    unfold nb at e
    rw [e] at hv
    cases hv
    refine (hk s sep w (by omega)).mono ?_
    rintro e w' ⟨rfl, rfl⟩
    exact ⟨_, φ, rfl, str_vr _, .refl hr⟩
  | idxB =>
    simp only [strV] at hv
    split at hv
    case h_2 => cases hv
    rename_i s c
    rw [cond_eq_ite] at hv; split at hv
    case isFalse => cases hv
    rename_i hc
    rw [nblt] at hc
    cases hargs with | cons _ u1 _ us1 r1 rest =>
    cases rest with | cons _ u2 _ us2 r2 rest =>
    cases rest
    cases r1 with | str s =>
    cases r2
    have e := idxBN_nb s.data.toList c.toUInt8
    have hc' : c.toUInt8.toNat = c := by simp; omega
    rw [hc'] at e
    unfold nb at e
    rw [← e] at hv
    cases hv
    refine (hk s c w).mono ?_
    rintro e w' ⟨rfl, rfl⟩
    exact ⟨_, φ, rfl, .int _ _, .refl hr⟩
  | join =>
    simp only [strV] at hv
    split at hv
    case h_2 => cases hv
    rename_i x sep
    split at hv
    case h_2 => cases hv
    rename_i xs hxs
    rw [cond_eq_ite] at hv; split at hv
    case isFalse => cases hv
    rename_i h1
    rw [cond_eq_ite] at hv; split at hv
    case isFalse => cases hv
    rename_i h2
    rw [nble] at h1 h2
    cases hv
    cases hargs with | cons _ u1 _ us1 r1 rest =>
    cases rest with | cons _ u2 _ us2 r2 rest =>
    cases rest
    cases r2 with | str sep =>
    have nil : ∀ (a : Option Addr) (c : Nat), Calls P f [Value.slice a 0 c, Value.string sep].toArray w fun e w' => ∃ u ψ, e = .returned u ∧ VR ψ (.str (joinN [] (sep.data.toList.map UInt8.toNat))) u ∧ St φ h w ψ h w' := fun a c =>
      (hk.1 a c sep w).mono fun e w' ⟨he, hw⟩ => by
        subst he hw
        exact ⟨_, φ, rfl, str_vr [], .refl hr⟩
    cases x <;> simp only [strsV, reduceCtorEq] at hxs
    case nilslice =>
      cases r1
      cases hxs
      exact nil none 0
    case slice b o sz len c ex =>
      cases r1 with | slice _ _ _ _ _ _ a cc h0 g1 g2 g3 =>
      rw [cond_eq_ite] at hxs; split at hxs
      case isFalse => cases hxs
      split at hxs
      case h_2 => cases hxs
      rename_i l hl
      obtain ⟨pl, us, q1, q2, q3, q4⟩ := hr.read hl
      obtain ⟨bs, e1, e2⟩ := strsOf_spec hxs q3
      have hlen : bs.length = len := by
        have := q3.length
        rw [e1, List.length_map] at this
        omega
      rcases Nat.eq_zero_or_pos len with z | z
      · have : bs = [] := List.length_eq_zero_iff.1 (by omega)
        subst this
        rw [e2, z]
        exact nil _ _
      · obtain ⟨pl', k1, k2, _⟩ := h0 (by omega)
        rw [q1] at k1; cases k1
        have hj := joinN_nb (bs.map (·.data.toList)) sep.data.toList
        rw [List.map_map] at hj
        have hj' : joinN xs (sep.data.toList.map UInt8.toNat) = nb (Lib.join (bs.map (·.data.toList)) sep.data.toList) := by rw [hj, e2]; rfl
        rw [hj'] at h1 ⊢
        rw [nb_length] at h1
        rw [k2, ← hlen]
        obtain ⟨pl2, p1, p2⟩ := hr.lies b (by
          unfold Hp.read at hl
          split at hl
          · rename_i hb; rw [hb]; rfl
          · cases hl)
        rw [q1] at p1; cases p1
        have hlt := p2.lt (by
          unfold Hp.read at hl
          split at hl
          · rename_i hb; rw [hb]; rfl
          · cases hl)
        refine (hk.2 pl.blk (pl.base + o) cc bs sep w (fun j y hy => ?_) hlt ?_ (by omega) (by omega)).mono ?_
        · have := q4 j (.string y) (by rw [e1, List.getElem?_map, hy]; rfl)
          exact this
        · have : xs.length = bs.length := by rw [e2, List.length_map]
          omega
        · rintro e w' ⟨rfl, hb⟩
          exact ⟨_, φ, rfl, str_vr _, .below hr hb⟩
  | itoa =>
    simp only [strV] at hv
    split at hv
    case h_2 => cases hv
    rename_i n
    rw [cond_eq_ite] at hv; split at hv
    case isFalse => cases hv
    rename_i hc
    rw [cond_eq_ite] at hv; split at hv
    case isFalse => cases hv
    rename_i hw
    cases hv
    cases hargs with | cons _ u1 _ us1 r1 rest =>
    cases rest
    cases r1
    obtain ⟨h0, h1⟩ := i64_of_wr hw
    refine (hk n w h0 h1 (powCells_ok hr ok.gl hg.2.2.2 hc)).mono ?_
    rintro e w' ⟨rfl, k, os, rfl⟩
    rw [itoaN_nb h0 h1]
    exact ⟨_, φ, rfl, str_vr _, .below hr (below_grow w k os)⟩
  | fmt =>
    simp only [strV] at hv
    split at hv
    case h_2 => cases hv
    rename_i n b
    rw [cond_eq_ite] at hv; split at hv
    case isFalse => cases hv
    rename_i hb
    rw [nbeq] at hb
    subst hb
    rw [cond_eq_ite] at hv; split at hv
    case isFalse => cases hv
    rename_i hc
    rw [cond_eq_ite] at hv; split at hv
    case isFalse => cases hv
    rename_i hw
    cases hv
    cases hargs with | cons _ u1 _ us1 r1 rest =>
    cases rest with | cons _ u2 _ us2 r2 rest =>
    cases rest
    cases r1
    cases r2
    obtain ⟨h0, h1⟩ := i64_of_wr hw
    refine (hk n w h0 h1 (powCells_ok hr ok.gl hg.2.2.2 hc)).mono ?_
    rintro e w' ⟨rfl, k, os, rfl⟩
    rw [itoaN_nb h0 h1]
    exact ⟨_, φ, rfl, str_vr _, .below hr (below_grow w k os)⟩
  | parse =>
    simp only [strV] at hv
    split at hv
    case h_2 => cases hv
    rename_i s b z
    rw [cond_eq_ite] at hv; split at hv
    case isFalse => cases hv
    rename_i hb
    rw [cond_eq_ite] at hv; split at hv
    case isFalse => cases hv
    rename_i hz
    rw [nbeq] at hb hz
    subst hb hz
    cases hargs with | cons _ u1 _ us1 r1 rest =>
    cases rest with | cons _ u2 _ us2 r2 rest =>
    cases rest with | cons _ u3 _ us3 r3 rest =>
    cases rest
    cases r1 with | str s =>
    cases r2
    cases r3
    exact parsed_ok hg hv ok hr hfr (fun v h1 h2 => hk.1 s v w h1 h2) (fun te pe h1 h2 h3 => hk.2.1 s te pe w h1 h2 h3) (fun te pe h1 h2 h3 => hk.2.2 s te pe w h1 h2 h3)
  | atoi =>
    simp only [strV] at hv
    split at hv
    case h_2 => cases hv
    rename_i s
    cases hargs with | cons _ u1 _ us1 r1 rest =>
    cases rest
    cases r1 with | str s =>
    exact parsed_ok hg hv ok hr hfr (fun v h1 h2 => hk.1 s v w h1 h2) (fun te pe h1 h2 h3 => hk.2.1 s te pe w h1 h2 h3) (fun te pe h1 h2 h3 => hk.2.2 s te pe w h1 h2 h3)

theorem strX_rises (g : SG) (l : List (Nat × Sk)) : Rises (strX g l) := by
  intro f args h v h' e
  induction l with
  | nil => cases e
  | cons x l ih =>
    obtain ⟨i, k⟩ := x
    simp only [strX] at e
    rw [cond_eq_ite] at e; split at e
    · cases k <;> simp only [strV, parsed, numErr] at e
      all_goals
        repeat' (first | (cases e; done) | (rw [cond_eq_ite] at e; split at e) | split at e)
        all_goals (cases e; first | exact Nat.le_refl _ | exact Nat.le_succ _)
    · exact ih e

theorem strX_ok {env : Env} {g : SG} (hg : g.ok P) {l : List (Nat × Sk)} (hl : ∀ x, x ∈ l → IsStr P g x) : CallOk P env (strX g l) := by
  intro φ f args h v h' w us hv ok hr hfr hargs
  induction l with
  | nil => cases hv
  | cons x l ih =>
    obtain ⟨i, k⟩ := x
    simp only [strX] at hv
    rw [cond_eq_ite] at hv; split at hv
    · rename_i e
      rw [nbeq] at e
      subst e
      exact str_one hg (hl _ List.mem_cons_self) hv ok hr hfr hargs
    · exact ih (fun x hx => hl x (List.mem_cons_of_mem _ hx)) hv

end Go.Vm
