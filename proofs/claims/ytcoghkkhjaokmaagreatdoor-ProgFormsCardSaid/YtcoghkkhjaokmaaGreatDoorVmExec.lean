/-
  Vm, part 2: operations and code of the small machine, and what they do.
-/
import Derived.Test.YtcoghkkhjaokmaaGreatDoorVmBase
namespace Go.Vm

inductive Opd where
  | tmp (t : Nat)
  | val (v : V)

abbrev Fr := T V

def ev (fr : Fr) : Opd → V
  | .tmp t => match fr.get t with
    | some v => v
    | none => .tup []
  | .val v => v

def evs (fr : Fr) : List Opd → List V
  | [] => []
  | x :: l => ev fr x :: evs fr l

def evo (fr : Fr) : Option Opd → Option V
  | none => none
  | some x => some (ev fr x)

/-- Parts of a struct, an array, a slice's literal: where each goes, how many cells it has. -/
def evParts (fr : Fr) : List (Nat × Nat × Opd) → List (Nat × Nat × V)
  | [] => []
  | (o, n, x) :: l => (o, n, ev fr x) :: evParts fr l

def fillV : List V → List (Nat × Nat × V) → Option (List V)
  | c, [] => some c
  | c, (o, n, v) :: l =>
    cond (Nat.beq v.cells.length n) (cond (Nat.ble (o + n) c.length) (fillV (splice c o v.cells) l) none) none

/-- What a conversion does. -/
inductive CTy where
  | int (k : IntKind)      -- a number to a kind
  | same                   -- a string to a string's type
  | rune                   -- a number to a text: below 128 alone

/-- Operations that ask values alone. -/
inductive POp where
  | mov (x : Opd)
  | pick (c a b : Opd)
  | build (zero : List V) (parts : List (Nat × Nat × Opd))
  | nilchk (x : Opd)
  | bin (op : BinOp) (x y : Opd)
  | eq (ty : ETy) (neg : Bool) (x y : Opd)
  | eqi (lit neg : Bool) (x y : Opd)
  | neg (x : Opd)
  | not (x : Opd)
  | compl (x : Opd)
  | conv (c : CTy) (x : Opd)
  | mkiface (t : Nat) (x : Opd)
  | mkfunc (f : Nat) (first captured : List Opd)
  | slc (sz : Nat) (x : Opd) (lo hi mx : Option Opd)
  | sls (x : Opd) (lo hi : Option Opd)
  | sla (n sz : Nat) (x : Opd) (lo hi mx : Option Opd)
  | faddr (off : Nat) (x : Opd)
  | field1 (off : Nat) (x : Opd)
  | fieldn (off n : Nat) (x : Opd)
  | iaddr (sz : Nat) (x i : Opd)
  | iaddra (len sz : Nat) (x i : Opd)
  | idxs (x i : Opd)
  | idx1 (len : Nat) (x i : Opd)
  | idxn (len sz : Nat) (x i : Opd)
  | ext (x : Opd) (i : Nat)
  | lens (x : Opd)
  | lenb (x : Opd)
  | lena (n : Nat)
  | caps (x : Opd)
  | min (l : List Opd)
  | max (l : List Opd)

/-- Operations that lay a block, and write none. -/
inductive AOp where
  | new (zero : List V)
  | box (x : Opd)
  | bslice (zero : List V) (sz len : Nat) (parts : List (Nat × Nat × Opd))
  | mkslice (zero : List V) (sz bytes : Nat) (l c : Opd)
  | mkmap (kk : Option IntKind)
  | bytes (x : Opd)

/-- Operations that may write, or ask more. -/
inductive EOp where
  | store (sz : Nat) (a x : Opd)
  | call (f : Nat) (args : List Opd)
  | callv (x : Opd) (args : List Opd)
  | append (sz bytes : Nat) (s x : Opd)
  | appendz (zero : List V) (sz bytes : Nat) (s x : Opd)
  | copy (sz : Nat) (d s : Opd)
  | clear (zero : List V) (x : Opd)
  | text (x : Opd)
  | lookup (sk : Bool) (zero : V) (ok : Bool) (m k : Opd)
  | mapput (sk : Bool) (m k v : Opd)
  | delete (sk : Bool) (m k : Opd)
  | lenm (x : Opd)
  | extern (name : Nat) (args : List Opd)
  | mark (x : Opd)
  | stop

inductive MOp where
  | p (o : POp)
  | a (o : AOp)
  | load1 (x : Opd)
  | loadn (n : Nat) (x : Opd)
  | e (o : EOp)

structure MO where
  dst : Option Nat
  op : MOp
  guard : Option (Nat × Bool)

/-- One of a region whose order is open: behind which place of those that may write a load may come, and at which place at the latest. -/
structure DO where
  o : MO
  lo : Nat
  hi : Nat

inductive MCode where
  | skip
  | region (ops : List MO)
  | dregion (ops : List DO)
  | seq (a b : MCode)
  | cond (c : Opd) (a b : MCode)
  | block (id : Nat) (c : MCode)
  | loop (c : MCode)
  | exit (id : Nat)
  | ret

/-! ### Values of operations -/

def getX {α : Type} : List α → Nat → Option α
  | [], _ => none
  | x :: _, 0 => some x
  | _ :: l, n + 1 => getX l n

def natOf : V → Option Nat
  | .int _ (.ofNat n) => some n
  | _ => none

/-- A slice's bounds: low, high, and the capacity that is left; the last says whether it is told. -/
def boundL (lo : Option V) (h : Nat) : Option Nat :=
  match lo with
  | none => some 0
  | some v => match natOf v with
    | some l => cond (Nat.ble l h) (some l) none
    | none => none

/-- The end of a slice: as it is told, within the capacity that is known. -/
def boundH (hi : Option V) (len c : Nat) : Option Nat :=
  match hi with
  | none => some len
  | some v => match natOf v with
    | some h => cond (Nat.ble h c) (some h) none
    | none => none

/-- The third number, or the capacity that is known; whether it is exact. -/
def boundM (mx : Option V) (c : Nat) (ex : Bool) : Option (Nat × Bool) :=
  match mx with
  | none => some (c, ex)
  | some v => match natOf v with
    | some m => cond (Nat.ble m c) (some (m, true)) none
    | none => none

def needH (hi mx : Option V) : Bool :=
  match mx with
  | none => true
  | some _ => match hi with
    | none => false
    | some _ => true

def slcV (sz : Nat) (x : V) (lo hi mx : Option V) : Option V :=
  match x with
  | .nilslice => cond (needH hi mx) (match boundM mx 0 true with
    | none => none
    | some (m, _) => match boundH hi 0 m with
      | none => none
      | some h => match boundL lo h with
        | none => none
        | some _ => some .nilslice) none
  | .slice b o sz' len c ex => cond (Nat.beq sz sz') (cond (needH hi mx) (match boundM mx c ex with
    | none => none
    | some (m, e) => match boundH hi len m with
      | none => none
      | some h => match boundL lo h with
        | none => none
        | some l => some (.slice b (o + l * sz) sz (h - l) (m - l) e)) none) none
  | _ => none

/-- A slice of an array that lies in memory. -/
def slaV (n sz : Nat) (x : V) (lo hi mx : Option V) : Option V :=
  match x with
  | .ptr b o => cond (needH hi mx) (match boundM mx n true with
    | none => none
    | some (m, _) => match boundH hi n m with
      | none => none
      | some h => match boundL lo h with
        | none => none
        | some l => some (.slice b (o + l * sz) sz (h - l) (m - l) true)) none
  | _ => none

def slsV (x : V) (lo hi : Option V) : Option V :=
  match x with
  | .str s =>
    match boundH hi s.length s.length with
    | none => none
    | some h => match boundL lo h with
      | none => none
      | some l => some (.str ((s.take h).drop l))
  | _ => none

/-- Is a an unknown or a number that stands below b, by what is told? -/
def belowT (tab : Tab) (a b : V) : Option Bool :=
  match tab.look .lss a b with
  | some (.bool r) => some r
  | _ => none

def pick2 (c : Option Bool) (x y : V) : Option V :=
  match c with
  | some true => some x
  | some false => some y
  | none => none

def min2V (tab : Tab) (x y : V) : Option V :=
  match x, y with
  | .int k a, .int j b => cond (keq k j) (some (.int k (cond (ilt b a) b a))) none
  | .sym i, .int k b => pick2 (belowT tab (.int k b) (.sym i)) (.int k b) (.sym i)
  | .int k a, .sym j => pick2 (belowT tab (.sym j) (.int k a)) (.sym j) (.int k a)
  | _, _ => none

def max2V (tab : Tab) (x y : V) : Option V :=
  match x, y with
  | .int k a, .int j b => cond (keq k j) (some (.int k (cond (ilt a b) b a))) none
  | .sym i, .int k b => pick2 (belowT tab (.sym i) (.int k b)) (.int k b) (.sym i)
  | .int k a, .sym j => pick2 (belowT tab (.int k a) (.sym j)) (.sym j) (.int k a)
  | _, _ => none

def foldV (f : V → V → Option V) : V → List V → Option V
  | x, [] => some x
  | x, y :: l => match f x y with
    | some z => foldV f z l
    | none => none

def convV : CTy → V → Option V
  | .int k, .int _ n => some (.int k (wr k n))
  | .same, .str s => some (.str s)
  | .rune, .int _ (.ofNat n) => cond (Nat.blt n 128) (some (.str [n])) none
  | _, _ => none

/-- Two interface values: nil, or not; of one type of numbers. 'lit': one of them is the literal nil. -/
def eqiV (ints : List Nat) (lit : Bool) (x y : V) : Option Bool :=
  match x, y with
  | .niliface, .niliface => cond lit (some true) none
  | .niliface, .iface _ _ => some false
  | .iface _ _, .niliface => some false
  | .iface t v, .iface u w => cond (Nat.beq t u)
      (cond (hasN t ints) (match v, w with
        | .int k a, .int j b => cond (keq k j) (some (ieq a b)) none
        | _, _ => none) none)
      (some false)
  | _, _ => none
  where
  hasN (n : Nat) : List Nat → Bool
    | [] => false
    | x :: l => cond (Nat.beq x n) true (hasN n l)

/-- What is known of a program: the unknowns' table, the types that are comparable numbers. -/
structure Env where
  tab : Tab
  ints : List Nat

def pV (env : Env) (fr : Fr) : POp → Option V
  | .mov x => some (ev fr x)
  | .pick c a b => match ev fr c with
    | .bool true => some (ev fr a)
    | .bool false => some (ev fr b)
    | _ => none
  | .build zero parts => match fillV zero (evParts fr parts) with
    | some c => some (.agg c)
    | none => none
  | .nilchk x => match ev fr x with
    | .ptr b o => some (.ptr b o)
    | .func f a c => some (.func f a c)
    | _ => none
  | .bin op x y => binV env.tab op (ev fr x) (ev fr y)
  | .eq ty neg x y => match eqV ty (ev fr x) (ev fr y) with
    | some r => some (.bool (cond neg (!r) r))
    | none => none
  | .eqi lit neg x y => match eqiV env.ints lit (ev fr x) (ev fr y) with
    | some r => some (.bool (cond neg (!r) r))
    | none => none
  | .neg x => match ev fr x with
    | .int k n => some (.int k (wr k (Int.sub (.ofNat 0) n)))
    | _ => none
  | .not x => match ev fr x with
    | .bool b => some (.bool (!b))
    | _ => none
  | .compl x => match ev fr x with
    | .int k n => some (.int k (wr k (.ofNat (Nat.xor (Nat.sub (pow2 k) 1) (toU k n)))))
    | _ => none
  | .conv c x => convV c (ev fr x)
  | .mkiface t x => some (.iface t (ev fr x))
  | .mkfunc f first captured => some (.func f (evs fr first) (evs fr captured))
  | .slc sz x lo hi mx => slcV sz (ev fr x) (evo fr lo) (evo fr hi) (evo fr mx)
  | .sls x lo hi => slsV (ev fr x) (evo fr lo) (evo fr hi)
  | .sla n sz x lo hi mx => slaV n sz (ev fr x) (evo fr lo) (evo fr hi) (evo fr mx)
  | .faddr off x => match ev fr x with
    | .ptr b o => some (.ptr b (o + off))
    | _ => none
  | .field1 off x => match ev fr x with
    | .agg l => getX l off
    | _ => none
  | .fieldn off n x => match ev fr x with
    | .agg l => match takeX n (l.drop off) with
      | some r => some (.agg r)
      | none => none
    | _ => none
  | .iaddr sz x i => match ev fr x with
    | .slice b o sz' len _ _ => match natOf (ev fr i) with
      | some n => cond (Nat.blt n len) (cond (Nat.beq sz sz') (some (.ptr b (o + n * sz))) none) none
      | none => none
    | _ => none
  | .iaddra len sz x i => match ev fr x with
    | .ptr b o => match natOf (ev fr i) with
      | some n => cond (Nat.blt n len) (some (.ptr b (o + n * sz))) none
      | none => none
    | _ => none
  | .idxs x i => match ev fr x with
    | .str s => match natOf (ev fr i) with
      | some n => match getX s n with
        | some c => some (.int .u8 (.ofNat c))
        | none => none
      | none => none
    | _ => none
  | .idx1 len x i => match ev fr x with
    | .agg l => match natOf (ev fr i) with
      | some n => cond (Nat.blt n len) (getX l n) none
      | none => none
    | _ => none
  | .idxn len sz x i => match ev fr x with
    | .agg l => match natOf (ev fr i) with
      | some n => cond (Nat.blt n len) (match takeX sz (l.drop (n * sz)) with
        | some r => some (.agg r)
        | none => none) none
      | none => none
    | _ => none
  | .ext x i => match ev fr x with
    | .tup l => getX l i
    | _ => none
  | .lens x => match ev fr x with
    | .str s => some (.int .i64 (.ofNat s.length))
    | _ => none
  | .lenb x => match ev fr x with
    | .nilslice => some (.int .i64 (.ofNat 0))
    | .slice _ _ _ len _ _ => some (.int .i64 (.ofNat len))
    | _ => none
  | .lena n => some (.int .i64 (.ofNat n))
  | .caps x => match ev fr x with
    | .nilslice => some (.int .i64 (.ofNat 0))
    | .slice _ _ _ _ c true => some (.int .i64 (.ofNat c))
    | _ => none
  | .min l => match evs fr l with
    | x :: r => foldV (min2V env.tab) x r
    | [] => none
  | .max l => match evs fr l with
    | x :: r => foldV (max2V env.tab) x r
    | [] => none

def repX (zero : List V) : Nat → List V
  | 0 => []
  | n + 1 => zero ++ repX zero n

/-- The new block, and the value that leads to it where it has number b. -/
def aV (fr : Fr) : AOp → Option (Blk × (Nat → V))
  | .new zero => cond (allFlat zero) (some (.cells zero false, fun b => .ptr b 0)) none
  | .box x => cond (allFlat (ev fr x).cells) (some (.cells (ev fr x).cells false, fun b => .ptr b 0)) none
  | .bslice zero sz len parts => match fillV zero (evParts fr parts) with
    | some c => cond (allFlat c) (cond (Nat.beq c.length (len * sz)) (some (.cells c false, fun b => .slice b 0 sz len len true)) none) none
    | none => none
  | .mkslice zero sz bytes l c => match natOf (ev fr l), natOf (ev fr c) with
    | some n, some m => cond (Nat.ble n m) (cond (Nat.ble (bytes * m) 1099511627776) (cond (Nat.ble m 1099511627776) (cond (allFlat zero) (cond (Nat.beq zero.length sz)
        (some (.cells (repX zero m) false, fun b => .slice b 0 sz n m true)) none) none) none) none) none
    | _, _ => none
  | .mkmap kk => some (.map kk [], fun b => .map b)
  | .bytes x => match ev fr x with
    | .str s => some (.cells (s.map fun c => .int .u8 (.ofNat c)) false, fun b => .slice b 0 1 s.length s.length false)
    | _ => none

/-! ### What may write -/

/-- The cells of what is appended. -/
def srcCells (h : Hp) (sz : Nat) (n : Nat) : V → Option (List V)
  | .nilslice => cond (Nat.beq n 0) (some []) none
  | .slice b o sz' len _ _ => cond (Nat.beq sz sz') (cond (Nat.ble n len) (h.read b o (n * sz)) none) none
  | .str s => cond (Nat.beq sz 1) (cond (Nat.ble n s.length) (some ((s.take n).map fun c => .int .u8 (.ofNat c))) none) none
  | _ => none

def lenV : V → Option Nat
  | .nilslice => some 0
  | .slice _ _ _ len _ _ => some len
  | .str s => some s.length
  | _ => none

def roomy (bytes n : Nat) : Bool := cond (Nat.ble (bytes * n) 1099511627776) (Nat.ble n 1099511627776) false

/-- 'n' cells' rows 'new' behind a slice. -/
def appendC (sz bytes : Nat) (h : Hp) (s : V) (n : Nat) (new : List V) : Option (V × Hp) :=
  match s with
  | .nilslice => cond (roomy bytes n) (some (.slice h.next 0 sz n n false, h.new (.cells new false))) none
  | .slice b o sz' len c ex => cond (Nat.beq sz sz')
      (cond (Nat.ble (len + n) c)
        (match h.write b (o + len * sz) new with
        | some h' => some (.slice b o sz (len + n) c ex, h')
        | none => none)
        (cond (roomy bytes (len + n))
          (match h.read b o (len * sz) with
          | none => cond ex (cond (Nat.beq len 0) (some (.slice h.next 0 sz n n false, h.new (.cells new false))) none) none
          | some old => cond ex
              (some (.slice h.next 0 sz (len + n) (len + n) false, h.new (.cells (old ++ new) false)))
              (cond (Nat.beq o 0) (match h.blk b with
              | .cells _ false => some (.slice h.next 0 sz (len + n) (len + n) false, (h.put b .gone).new (.cells (old ++ new) false))
              | _ => none) none))
          none))
      none
  | _ => none

def appendV (sz bytes : Nat) (h : Hp) (s x : V) : Option (V × Hp) :=
  match lenV x with
  | none => none
  | some n => match n with
    | 0 => match s with
      | .nilslice => some (.nilslice, h)
      | .slice b o sz' len c ex => cond (Nat.beq sz sz') (some (.slice b o sz' len c ex, h)) none
      | _ => none
    | n' + 1 => match srcCells h sz (n' + 1) x with
      | none => none
      | some new => cond (allFlat new) (appendC sz bytes h s (n' + 1) new) none

/-- 'append(s, make([]T, n)...)'. -/
def appendZ (zero : List V) (sz bytes : Nat) (h : Hp) (s x : V) : Option (V × Hp) :=
  match natOf x with
  | none => none
  | some n => match n with
    | 0 => match s with
      | .nilslice => some (.nilslice, h)
      | .slice b o sz' len c ex => cond (Nat.beq sz sz') (some (.slice b o sz' len c ex, h)) none
      | _ => none
    | n' + 1 => cond (Nat.beq zero.length sz) (cond (allFlat zero) (cond (roomy bytes (n' + 1)) (appendC sz bytes h s (n' + 1) (repX zero (n' + 1))) none) none) none

def mapFind (k : V) : List (V × V) → Option V
  | [] => none
  | (a, v) :: l => cond (V.same a k) (some v) (mapFind k l)

def mapSet (k v : V) : List (V × V) → List (V × V)
  | [] => [(k, v)]
  | (a, w) :: l => cond (V.same a k) ((a, v) :: l) ((a, w) :: mapSet k v l)

def mapDel (k : V) : List (V × V) → List (V × V)
  | [] => []
  | (a, w) :: l => cond (V.same a k) l ((a, w) :: mapDel k l)

/-- A key that is one: a number of the map's kind, or a text. -/
def keyOk : Option IntKind → V → Bool
  | some k, .int j _ => keq k j
  | none, .str _ => true
  | _, _ => false

def keyIs (sk : Bool) (kk : Option IntKind) (v : V) : Bool :=
  match kk with
  | none => cond sk (keyOk kk v) false
  | some _ => cond sk false (keyOk kk v)

/-- Functions of the library that have no text: by number. -/
abbrev Ext := Nat → List V → Hp → Option (V × Hp)

/-- Where a result stands: in a slot; behind a slot's pointer, one cell, or a struct of cells. -/
inductive RV where
  | tmp (t : Nat)
  | cell1 (t : Nat)
  | celln (n t : Nat)

structure Fun where
  ntmps : Nat
  nargs : Nat
  body : MCode
  results : List RV

structure Prog where
  funs : T Fun
  env : Env
  /-- What is told of the blocks of package-level variables (for the layer above). -/
  gl : Nat → Option (Blk → Prop) := fun _ => none

def eV (call : Nat → List V → Hp → Option (V × Hp)) (fr : Fr) (h : Hp) : EOp → Option (V × Hp)
  | .store sz a x => match ev fr a with
    | .ptr b o => cond (Nat.beq (ev fr x).cells.length sz) (match h.write b o (ev fr x).cells with
      | some h' => some (.tup [], h')
      | none => none) none
    | _ => none
  | .call f args => call f (evs fr args) h
  | .callv x args => match ev fr x with
    | .func f first captured => call f (first ++ evs fr args ++ captured) h
    | _ => none
  | .append sz bytes s x => appendV sz bytes h (ev fr s) (ev fr x)
  | .appendz zero sz bytes s x => appendZ zero sz bytes h (ev fr s) (ev fr x)
  | .copy sz d s => match lenV (ev fr s), ev fr d with
    | some n, .slice b o sz' len _ _ => cond (Nat.beq sz sz') (match srcCells h sz (minN n len) (ev fr s) with
      | some new => match new with
        | [] => some (.int .i64 (.ofNat (minN n len)), h)
        | c :: r => match h.write b o (c :: r) with
          | some h' => some (.int .i64 (.ofNat (minN n len)), h')
          | none => none
      | none => none) none
    | some _, .nilslice => some (.int .i64 (.ofNat 0), h)
    | _, _ => none
  | .clear zero x => match ev fr x with
    | .nilslice => some (.tup [], h)
    | .slice _ _ _ 0 _ _ => some (.tup [], h)
    | .slice b o sz (n + 1) _ _ => cond (Nat.beq zero.length sz) (match h.write b o (repX zero (n + 1)) with
      | some h' => some (.tup [], h')
      | none => none) none
    | _ => none
  | .text x => match ev fr x with
    | .nilslice => some (.str [], h)
    | .slice b o sz len _ _ => cond (Nat.beq sz 1) (match h.read b o len with
      | some l => match bytesOf l with
        | some s => some (.str s, h)
        | none => none
      | none => none) none
    | _ => none
  | .lookup sk zero ok m k => match ev fr m with
    | .nilmap => some (cond ok (.tup [zero, .bool false]) zero, h)
    | .map b => match h.blk b with
      | .map kk l => cond (keyIs sk kk (ev fr k)) (match mapFind (ev fr k) l with
        | some v => some (cond ok (.tup [v, .bool true]) v, h)
        | none => some (cond ok (.tup [zero, .bool false]) zero, h)) none
      | _ => none
    | _ => none
  | .mapput sk m k v => match ev fr m with
    | .map b => match h.blk b with
      | .map kk l => cond (keyIs sk kk (ev fr k)) (some (.tup [], h.put b (.map kk (mapSet (ev fr k) (ev fr v) l)))) none
      | _ => none
    | _ => none
  | .delete sk m k => match ev fr m with
    | .nilmap => some (.tup [], h)
    | .map b => match h.blk b with
      | .map kk l => cond (keyIs sk kk (ev fr k)) (some (.tup [], h.put b (.map kk (mapDel (ev fr k) l)))) none
      | _ => none
    | _ => none
  | .lenm x => match ev fr x with
    | .nilmap => some (.int .i64 (.ofNat 0), h)
    | .map b => match h.blk b with
      | .map _ l => some (.int .i64 (.ofNat l.length), h)
      | _ => none
    | _ => none
  | .extern f args => call f (evs fr args) h
  | .mark x => match ev fr x with
    | .slice b o sz len c ex => match h.blk b with
      | .cells _ false => cond (Nat.blt 0 c) (some (.slice b o sz len c ex, h)) none
      | _ => none
    | _ => none
  | .stop => none
  where
  bytesOf : List V → Option (List Nat)
    | [] => some []
    | .int .u8 (.ofNat n) :: l => cond (Nat.blt n 256) (match bytesOf l with
      | some r => some (n :: r)
      | none => none) none
    | _ => none

/-! ### Runs -/

def putO (fr : Fr) (dst : Option Nat) (v : V) : Fr :=
  match dst with
  | none => fr
  | some d => fr.set d v

inductive G where
  | yes | no | bad

def gate (fr : Fr) : Option (Nat × Bool) → G
  | none => .yes
  | some (t, want) => match ev fr (.tmp t) with
    | .bool b => cond (beqB b want) .yes .no
    | .tup _ => .no
    | _ => .bad

def opV (env : Env) (call : Nat → List V → Hp → Option (V × Hp)) (fr : Fr) (h : Hp) : MOp → Option (V × Hp)
  | .p o => match pV env fr o with
    | some v => some (v, h)
    | none => none
  | .a o => match aV fr o with
    | some (b, mk) => some (mk h.next, h.new b)
    | none => none
  | .load1 x => match ev fr x with
    | .ptr b o => match h.read b o 1 with
      | some (v :: _) => some (v, h)
      | _ => none
    | _ => none
  | .loadn n x => match ev fr x with
    | .ptr b o => match h.read b o n with
      | some l => some (.agg l, h)
      | none => none
    | _ => none
  | .e o => eV call fr h o

def runOps (env : Env) (call : Nat → List V → Hp → Option (V × Hp)) : List MO → Fr → Hp → Option (Fr × Hp)
  | [], fr, h => some (fr, h)
  | o :: l, fr, h => match gate fr o.guard with
    | .no => runOps env call l (putO fr o.dst (.tup [])) h
    | .bad => none
    | .yes => match opV env call fr h o.op with
      | some (v, h') => runOps env call l (putO fr o.dst v) h'
      | none => none

/-- A load that was done: between which of the writing ones it may come, where, and what it found. -/
structure Rd where
  lo : Nat
  hi : Nat
  b : Nat
  o : Nat
  l : List V

def isE : MOp → Bool
  | .e _ => true
  | _ => false

def rdOf (fr : Fr) (h : Hp) (d : DO) : List Rd :=
  match d.o.op with
  | .load1 x => match ev fr x with
    | .ptr b o => match h.read b o 1 with
      | some l => [⟨d.lo, d.hi, b, o, l⟩]
      | none => []
    | _ => []
  | .loadn n x => match ev fr x with
    | .ptr b o => match h.read b o n with
      | some l => [⟨d.lo, d.hi, b, o, l⟩]
      | none => []
    | _ => []
  | _ => []

def stillAt (r : Rd) (h : Hp) : Bool :=
  match h.read r.b r.o r.l.length with
  | some l => V.sames r.l l
  | none => false

/-- Is what was read the same at each of the heaps where it may be read? -/
def stillAll (r : Rd) : List (Nat × Hp) → Bool
  | [] => true
  | (c, h) :: l => cond (Nat.ble r.lo c) (cond (Nat.ble c r.hi) (cond (stillAt r h) (stillAll r l) false) (stillAll r l)) (stillAll r l)

def allStill (stages : List (Nat × Hp)) : List Rd → Bool
  | [] => true
  | r :: l => cond (stillAll r stages) (allStill stages l) false

/-- A region whose order is open, in one order: 'stages': the heaps behind each that may write, and its place plus one. -/
def runD (env : Env) (call : Nat → List V → Hp → Option (V × Hp)) : List DO → Nat → Fr → Hp → List (Nat × Hp) → List Rd → Option (Fr × Hp)
  | [], _, fr, h, stages, rds => cond (allStill stages rds) (some (fr, h)) none
  | d :: l, p, fr, h, stages, rds => match gate fr d.o.guard with
    | .no => runD env call l (p + 1) (putO fr d.o.dst (.tup [])) h (cond (isE d.o.op) ((p + 1, h) :: stages) stages) rds
    | .bad => none
    | .yes => match opV env call fr h d.o.op with
      | some (v, h') => runD env call l (p + 1) (putO fr d.o.dst v) h' (cond (isE d.o.op) ((p + 1, h') :: stages) stages) (rdOf fr h d ++ rds)
      | none => none

inductive Res where
  | fail
  | ok (fr : Fr) (h : Hp)
  | exit (id : Nat) (fr : Fr) (h : Hp)
  | ret (fr : Fr) (h : Hp)

def argsFr : List V → Nat → Fr → Fr
  | [], _, fr => fr
  | v :: l, n, fr => argsFr l (n + 1) (fr.set n v)

def res1 (fr : Fr) (h : Hp) : RV → Option V
  | .tmp t => some (ev fr (.tmp t))
  | .cell1 t => match ev fr (.tmp t) with
    | .ptr b o => match h.read b o 1 with
      | some (v :: _) => some v
      | _ => none
    | _ => none
  | .celln n t => match ev fr (.tmp t) with
    | .ptr b o => match h.read b o n with
      | some l => some (.agg l)
      | none => none
    | _ => none

def resV (fr : Fr) (h : Hp) : List RV → Option (List V)
  | [] => some []
  | t :: l => match res1 fr h t with
    | some v => match resV fr h l with
      | some r => some (v :: r)
      | none => none
    | none => none

def tupOf : List V → V
  | [v] => v
  | l => .tup l

def resP (fr : Fr) (h : Hp) (l : List RV) : Option (V × Hp) :=
  match resV fr h l with
  | some r => some (tupOf r, h)
  | none => none

def callV (p : Prog) (ext : Ext) (ex : MCode → Fr → Hp → Res) (f : Nat) (args : List V) (h : Hp) : Option (V × Hp) :=
  match ext f args h with
  | some r => some r
  | none => match p.funs.get f with
    | none => none
    | some fn => cond (Nat.beq args.length fn.nargs) (match ex fn.body (argsFr args 0 .leaf) h with
      | .ok fr h' => resP fr h' fn.results
      | .ret fr h' => resP fr h' fn.results
      | _ => none) none

def exec (p : Prog) (ext : Ext) : Nat → MCode → Fr → Hp → Res
  | 0, _, _, _ => .fail
  | n + 1, c, fr, h => match c with
    | .skip => .ok fr h
    | .region ops => match runOps p.env (callV p ext (exec p ext n)) ops fr h with
      | some (fr', h') => .ok fr' h'
      | none => .fail
    | .dregion ops => match runD p.env (callV p ext (exec p ext n)) ops 0 fr h [(0, h)] [] with
      | some (fr', h') => .ok fr' h'
      | none => .fail
    | .seq a b => match exec p ext n a fr h with
      | .ok fr' h' => exec p ext n b fr' h'
      | r => r
    | .cond c a b => match ev fr c with
      | .bool true => exec p ext n a fr h
      | .bool false => exec p ext n b fr h
      | _ => .fail
    | .block id c => match exec p ext n c fr h with
      | .exit id' fr' h' => cond (Nat.beq id' id) (.ok fr' h') (.exit id' fr' h')
      | r => r
    | .loop c => match exec p ext n c fr h with
      | .ok fr' h' => exec p ext n (.loop c) fr' h'
      | r => r
    | .exit id => .exit id fr h
    | .ret => .ret fr h

def call (p : Prog) (ext : Ext) (n : Nat) (f : Nat) (args : List V) (h : Hp) : Option (V × Hp) := callV p ext (exec p ext n) f args h

end Go.Vm
