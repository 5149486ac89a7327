/-
  Vm, part 1: a small machine with plain values, a heap of numbered blocks, and slices that know their block: what it computes is compared with the model's runs in the later parts.
  Its capacities are unknown where append chose them; what is appended to such a slice consumes the old block.
-/
import GoSem.Core.Code
import GoSem.Core.View
namespace Go.Vm

/-! ### Values -/

inductive V where
  | bool (b : Bool)
  | int (k : IntKind) (n : Int)
  | sym (i : Nat)
  | str (l : List Nat)
  | nilptr
  | ptr (b o : Nat)
  | nilslice
  | slice (b o sz len cap : Nat) (ex : Bool)
  | nilmap
  | map (b : Nat)
  | func (f : Nat) (first captured : List V)
  | nilfunc
  | niliface
  | iface (t : Nat) (v : V)
  | agg (l : List V)
  | tup (l : List V)

instance : Inhabited V := ⟨.tup []⟩

def V.cells : V → List V
  | .agg l => l
  | v => [v]

/-- May a value stand in one cell? -/
def V.flat : V → Bool
  | .agg _ => false
  | .tup _ => false
  | _ => true

def ieq : Int → Int → Bool
  | .ofNat a, .ofNat b => Nat.beq a b
  | .negSucc a, .negSucc b => Nat.beq a b
  | _, _ => false

def ilt : Int → Int → Bool
  | .ofNat a, .ofNat b => Nat.blt a b
  | .negSucc a, .negSucc b => Nat.blt b a
  | .negSucc _, .ofNat _ => true
  | .ofNat _, .negSucc _ => false

def keq : IntKind → IntKind → Bool
  | .i8, .i8 | .i16, .i16 | .i32, .i32 | .i64, .i64 | .u8, .u8 | .u16, .u16 | .u32, .u32 | .u64, .u64 => true
  | _, _ => false

def neqs : List Nat → List Nat → Bool
  | [], [] => true
  | a :: x, b :: y => cond (Nat.beq a b) (neqs x y) false
  | _, _ => false

def slt : List Nat → List Nat → Bool
  | _, [] => false
  | [], _ :: _ => true
  | a :: x, b :: y => cond (Nat.blt a b) true (cond (Nat.beq a b) (slt x y) false)

def beqB : Bool → Bool → Bool
  | true, b => b
  | false, b => !b

def oeq : Option Nat → Option Nat → Bool
  | none, none => true
  | some a, some b => Nat.beq a b
  | _, _ => false

mutual
def V.same : V → V → Bool
  | .bool a, .bool b => beqB a b
  | .int k a, .int j b => cond (keq k j) (ieq a b) false
  | .sym a, .sym b => Nat.beq a b
  | .str a, .str b => neqs a b
  | .nilptr, .nilptr => true
  | .ptr a o, .ptr b p => cond (Nat.beq a b) (Nat.beq o p) false
  | .nilslice, .nilslice => true
  | .slice a o s l c e, .slice b p t m d f => cond (Nat.beq a b) (cond (Nat.beq o p) (cond (Nat.beq s t) (cond (Nat.beq l m) (cond (Nat.beq c d) (beqB e f) false) false) false) false) false
  | .nilmap, .nilmap => true
  | .map a, .map b => Nat.beq a b
  | .func f a b, .func g c d => cond (Nat.beq f g) (cond (V.sames a c) (V.sames b d) false) false
  | .nilfunc, .nilfunc => true
  | .niliface, .niliface => true
  | .iface t v, .iface u w => cond (Nat.beq t u) (V.same v w) false
  | .agg a, .agg b => V.sames a b
  | .tup a, .tup b => V.sames a b
  | _, _ => false
def V.sames : List V → List V → Bool
  | [], [] => true
  | a :: x, b :: y => cond (V.same a b) (V.sames x y) false
  | _, _ => false
end

/-! ### Tables by number -/

inductive T (α : Type) where
  | leaf
  | node (l : T α) (v : Option α) (r : T α)

def T.get {α : Type} : T α → Nat → Option α
  | .leaf, _ => none
  | .node l v r, n => match n with
    | 0 => v
    | m + 1 => match Nat.mod m 2 with
      | 0 => l.get (Nat.div m 2)
      | _ + 1 => r.get (Nat.div m 2)

def T.setF {α : Type} : Nat → T α → Nat → α → T α
  | 0, t, _, _ => t
  | f + 1, .leaf, n, x => match n with
    | 0 => .node .leaf (some x) .leaf
    | m + 1 => match Nat.mod m 2 with
      | 0 => .node (T.setF f .leaf (Nat.div m 2) x) none .leaf
      | _ + 1 => .node .leaf none (T.setF f .leaf (Nat.div m 2) x)
  | f + 1, .node l v r, n, x => match n with
    | 0 => .node l (some x) r
    | m + 1 => match Nat.mod m 2 with
      | 0 => .node (T.setF f l (Nat.div m 2) x) v r
      | _ + 1 => .node l v (T.setF f r (Nat.div m 2) x)

def T.set {α : Type} (t : T α) (n : Nat) (x : α) : T α := T.setF (n + 1) t n x

/-! ### The heap -/

inductive Blk where
  | cells (l : List V) (ro : Bool)
  | map (kk : Option IntKind) (l : List (V × V))
  | gone
  /-- Just these cells, never written, nor read here. -/
  | whole (l : List V)

structure Hp where
  next : Nat
  t : T Blk

def takeX {α : Type} : Nat → List α → Option (List α)
  | 0, _ => some []
  | _ + 1, [] => none
  | n + 1, x :: l => match takeX n l with
    | some r => some (x :: r)
    | none => none

def over : List V → List V → List V
  | _ :: l, v :: vs => v :: over l vs
  | l, _ => l

def splice : List V → Nat → List V → List V
  | l, 0, vs => over l vs
  | x :: l, o + 1, vs => x :: splice l o vs
  | [], _ + 1, _ => []

def Hp.blk (h : Hp) (b : Nat) : Blk :=
  match h.t.get b with
  | some x => x
  | none => .gone

def Hp.put (h : Hp) (b : Nat) (x : Blk) : Hp := { next := h.next, t := h.t.set b x }

def Hp.new (h : Hp) (x : Blk) : Hp := { next := h.next + 1, t := h.t.set h.next x }

def Hp.read (h : Hp) (b o n : Nat) : Option (List V) :=
  match h.blk b with
  | .cells l _ => takeX n (l.drop o)
  | _ => none

def allFlat : List V → Bool
  | [] => true
  | v :: l => cond v.flat (allFlat l) false

def Hp.write (h : Hp) (b o : Nat) (vs : List V) : Option Hp :=
  match h.blk b with
  | .cells l false => cond (Nat.ble (o + vs.length) l.length) (cond (allFlat vs) (some (h.put b (.cells (splice l o vs) false))) none) none
  | _ => none

/-! ### Numbers -/

def pow2 : IntKind → Nat
  | .i8 | .u8 => 256
  | .i16 | .u16 => 65536
  | .i32 | .u32 => 4294967296
  | .i64 | .u64 => 18446744073709551616

/-- One more than the greatest. -/
def hiN : IntKind → Nat
  | .i8 => 128
  | .u8 => 256
  | .i16 => 32768
  | .u16 => 65536
  | .i32 => 2147483648
  | .u32 => 4294967296
  | .i64 => 9223372036854775808
  | .u64 => 18446744073709551616

def sgn : IntKind → Bool
  | .i8 | .i16 | .i32 | .i64 => true
  | _ => false

def wrS (k : IntKind) (n : Int) : Int :=
  let m := Int.toNat (Int.emod n (Int.ofNat (pow2 k)))
  cond (Nat.blt m (hiN k)) (Int.ofNat m) (Int.subNatNat m (pow2 k))

def wr (k : IntKind) (n : Int) : Int :=
  match n with
  | .ofNat m => cond (Nat.blt m (hiN k)) n (wrS k n)
  | .negSucc m => cond (sgn k) (cond (Nat.blt m (hiN k)) n (wrS k n)) (wrS k n)

/-- A number's bits, as a number without sign. -/
def toU (k : IntKind) : Int → Nat
  | .ofNat m => Nat.mod m (pow2 k)
  | .negSucc m => Nat.sub (Nat.sub (pow2 k) 1) (Nat.mod m (pow2 k))

def bitsOf : IntKind → Nat
  | .i8 | .u8 => 8
  | .i16 | .u16 => 16
  | .i32 | .u32 => 32
  | .i64 | .u64 => 64

def minN (a b : Nat) : Nat := cond (Nat.ble a b) a b

def shlI (k : IntKind) (x : Int) (n : Nat) : Int := wr k (Int.mul x (Int.ofNat (Nat.pow 2 (minN n (bitsOf k)))))

def shrI (k : IntKind) (x : Int) (n : Nat) : Int :=
  match x with
  | .ofNat m => .ofNat (Nat.div m (Nat.pow 2 (minN n (bitsOf k))))
  | .negSucc m => .negSucc (Nat.div m (Nat.pow 2 (minN n (bitsOf k))))

def arith (op : BinOp) (k : IntKind) (x y : Int) : Option V :=
  match op with
  | .add => some (.int k (wr k (Int.add x y)))
  | .sub => some (.int k (wr k (Int.sub x y)))
  | .mul => some (.int k (wr k (Int.mul x y)))
  | .quo => cond (ieq y (.ofNat 0)) none (some (.int k (wr k (Int.tdiv x y))))
  | .rem => cond (ieq y (.ofNat 0)) none (some (.int k (Int.tmod x y)))
  | .and => some (.int k (wr k (.ofNat (Nat.land (toU k x) (toU k y)))))
  | .or => some (.int k (wr k (.ofNat (Nat.lor (toU k x) (toU k y)))))
  | .xor => some (.int k (wr k (.ofNat (Nat.xor (toU k x) (toU k y)))))
  | .andNot => some (.int k (wr k (.ofNat (Nat.land (toU k x) (Nat.sub (Nat.sub (pow2 k) 1) (toU k y))))))
  | .eql => some (.bool (ieq x y))
  | .neq => some (.bool (!ieq x y))
  | .lss => some (.bool (ilt x y))
  | .leq => some (.bool (!ilt y x))
  | .gtr => some (.bool (ilt y x))
  | .geq => some (.bool (!ilt x y))
  | _ => none

def strArith (op : BinOp) (x y : List Nat) : Option V :=
  match op with
  | .add => cond (Nat.ble (x.length + y.length) 1152921504606846976) (some (.str (x ++ y))) none
  | .eql => some (.bool (neqs x y))
  | .neq => some (.bool (!neqs x y))
  | .lss => some (.bool (slt x y))
  | .leq => some (.bool (slt x y || neqs x y))
  | .gtr => some (.bool (!(slt x y || neqs x y)))
  | .geq => some (.bool (!slt x y))
  | _ => none

/-- What the unknowns come to under operations: (operation, left, right, what it is). -/
abbrev Tab := List (BinOp × V × V × V)

def boEq : BinOp → BinOp → Bool
  | .add, .add | .sub, .sub | .mul, .mul | .quo, .quo | .rem, .rem | .and, .and | .or, .or | .xor, .xor | .shl, .shl | .shr, .shr | .andNot, .andNot
  | .eql, .eql | .neq, .neq | .lss, .lss | .leq, .leq | .gtr, .gtr | .geq, .geq => true
  | _, _ => false

def Tab.look : Tab → BinOp → V → V → Option V
  | [], _, _, _ => none
  | (o, a, b, r) :: l, op, x, y => cond (boEq o op) (cond (V.same a x) (cond (V.same b y) (some r) (Tab.look l op x y)) (Tab.look l op x y)) (Tab.look l op x y)

def binV (tab : Tab) (op : BinOp) (x y : V) : Option V :=
  match x, y with
  | .int k a, .int j b => match op with
    | .shl => match b with
      | .ofNat n => some (.int k (shlI k a n))
      | .negSucc _ => none
    | .shr => match b with
      | .ofNat n => some (.int k (shrI k a n))
      | .negSucc _ => none
    | _ => cond (keq k j) (arith op k a b) none
  | .str a, .str b => strArith op a b
  | .sym i, .int k b => tab.look op (.sym i) (.int k b)
  | .int k a, .sym j => tab.look op (.int k a) (.sym j)
  | .sym i, .sym j => tab.look op (.sym i) (.sym j)
  | _, _ => none

/-- What two values of a type are held against each other by. -/
inductive ETy where
  | bool | int | str | ptr | slice | map | func | iface
  | struct (fs : List (Nat × Option Nat × ETy))

/-- The first of some cells; or, of a struct, so many of them. -/
def fieldOf : Option Nat → List V → Option V
  | none, x :: _ => some x
  | none, [] => none
  | some n, l => match takeX n l with
    | some r => some (.agg r)
    | none => none

mutual
def eqV : ETy → V → V → Option Bool
  | .bool, .bool a, .bool b => some (beqB a b)
  | .int, .int k a, .int j b => cond (keq k j) (some (ieq a b)) none
  | .str, .str a, .str b => some (neqs a b)
  | .ptr, .nilptr, .nilptr => some true
  | .ptr, .nilptr, .ptr _ _ => some false
  | .ptr, .ptr _ _, .nilptr => some false
  | .ptr, .ptr a o, .ptr b p => cond (Nat.beq a b) (some (Nat.beq o p)) none
  | .slice, .nilslice, .nilslice => some true
  | .slice, .nilslice, .slice .. => some false
  | .slice, .slice .., .nilslice => some false
  | .map, .nilmap, .nilmap => some true
  | .map, .nilmap, .map _ => some false
  | .map, .map _, .nilmap => some false
  | .func, .nilfunc, .nilfunc => some true
  | .func, .nilfunc, .func .. => some false
  | .func, .func .., .nilfunc => some false
  | .struct fs, .agg a, .agg b => eqVs fs a b
  | _, _, _ => none
def eqVs : List (Nat × Option Nat × ETy) → List V → List V → Option Bool
  | [], _, _ => some true
  | (o, n, t) :: fs, a, b =>
    match fieldOf n (a.drop o), fieldOf n (b.drop o) with
    | some x, some y => match eqV t x y with
      | some true => eqVs fs a b
      | some false => some false
      | none => none
    | _, _ => none
end

end Go.Vm
