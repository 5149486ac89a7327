/-
  Vm, part 3: a function of a loaded program as a function of the small machine. What can't be taken is none.
-/
import Derived.Test.YtcoghkkhjaokmaaGreatDoorVmLook
import GoSem.Core.Region
import GoSem.Machine.Frame
import GoSem.Extern.Table
import GoSem.Dispatch
namespace Go.Vm

def cvFlat : Value → Option V
  | .bool b => some (.bool b)
  | .int k n => some (.int k n)
  | .string s => some (.str (s.data.toList.map UInt8.toNat))
  | .pointer none => some .nilptr
  | .slice none 0 0 => some .nilslice
  | .map none => some .nilmap
  | .nilFunc => some .nilfunc
  | .nilIface => some .niliface
  | .func (.func f) a c => cond (Nat.beq a.size 0) (cond (Nat.beq c.size 0) (some (.func f [] [])) none) none
  | _ => none

def mapO {α β : Type} (f : α → Option β) : List α → Option (List β)
  | [] => some []
  | x :: l => match f x with
    | some y => match mapO f l with
      | some r => some (y :: r)
      | none => none
    | none => none

def cv : Value → Option V
  | .agg cs => match mapO cvFlat cs.toList with
    | some l => some (.agg l)
    | none => none
  | .tuple vs => cond (Nat.beq vs.size 0) (some (.tup [])) none
  | v => cvFlat v

def cOpd (P : Program) : Operand → Option Opd
  | .tmp t => some (.tmp t)
  | .const v => match cv v with
    | some x => some (.val x)
    | none => none
  | .global g => cond (Nat.blt g P.globals.size) (some (.val (.ptr g 0))) none
  | .func f => some (.val (.func f [] []))

def cOpds (P : Program) (l : List Operand) : Option (List Opd) := mapO (cOpd P) l

def cOpt (P : Program) : Option Operand → Option (Option Opd)
  | none => some none
  | some x => match cOpd P x with
    | some y => some (some y)
    | none => none

def szP (P : Program) (t : TypeId) : Option Nat := (P.info? t).map (·.size)
def bytesP (P : Program) (t : TypeId) : Option Nat := (P.info? t).map (·.bytes)

def zeroP (P : Program) (t : TypeId) : Option V := ((P.info? t).bind (·.zero)).bind cv

def aggP (P : Program) (t : TypeId) : Option Bool :=
  match P.underlying t with
  | some (.struct _) | some (.array _ _) => some true
  | some _ => some false
  | none => none

/-- A struct's places: offset and size of each field. -/
def placesP (P : Program) (fs : List Field) : Option (List (Nat × Nat)) :=
  mapO (fun f => (szP P f.type).map fun n => (f.offset, n)) fs

def cParts (P : Program) (place : Nat → Option (Nat × Nat)) (l : List (Nat × Operand)) : Option (List (Nat × Nat × Opd)) :=
  mapO (fun (i, x) => match place i, cOpd P x with
    | some (o, n), some y => some (o, n, y)
    | _, _ => none) l

/-- By what values of a type are held against each other. -/
def etyP (P : Program) : Nat → TypeId → Option ETy
  | 0, _ => none
  | d + 1, t => match P.underlying t with
    | some .bool => some .bool
    | some (.int _) => some .int
    | some .string => some .str
    | some (.pointer e) => match szP P e with
      | some (_ + 1) => some .ptr
      | _ => none
    | some (.slice _) => some .slice
    | some (.map _ _) => some .map
    | some (.func _ _ _) => some .func
    | some (.struct fs) => cond (P.stoodInHeld t) none
        (match mapO (fun f => cond (decide (f.name = "_")) none (match etyP P d f.type, aggP P f.type, szP P f.type with
          | some e, some false, some _ => some (f.offset, none, e)
          | some e, some true, some n => some (f.offset, some n, e)
          | _, _, _ => none)) fs.toList with
        | some l => some (.struct l)
        | none => none)
    | _ => none

def isEqOp : BinOp → Bool
  | .eql | .neq => true
  | _ => false

def isConstOpd : Operand → Bool
  | .const _ => true
  | _ => false

def cBin (P : Program) (op : BinOp) (t : TypeId) (x y : Opd) (lit : Bool) : Option POp :=
  match P.underlying t with
  | some (.interface _) => cond (isEqOp op) (some (.eqi lit (match op with | .neq => true | _ => false) x y)) none
  | some (.int _) => some (.bin op x y)
  | some .string => some (.bin op x y)
  | _ => cond (isEqOp op) (cond (P.eqGuardType P.depth t) none (match etyP P 3 t with
    | some e => some (.eq e (match op with | .neq => true | _ => false) x y)
    | none => none)) none

def cConv (P : Program) (src dst : TypeId) (x : Opd) : Option MOp :=
  match P.underlying src, P.underlying dst with
  | some (.int _), some (.int k) => some (.p (.conv (.int k) x))
  | some .string, some .string => some (.p (.conv .same x))
  | some (.int _), some .string => some (.p (.conv .rune x))
  | some .string, some (.slice e) => match P.underlying e with
    | some (.int .u8) => some (.a (.bytes x))
    | _ => none
  | some (.slice e), some .string => match P.underlying e with
    | some (.int .u8) => some (.e (.text x))
    | _ => none
  | some (.slice _), some (.slice e) => cond (Nat.beq src dst) (match P.underlying e with
    | some (.int .u8) => some (.e (.mark x))
    | _ => none) none
  | _, _ => none

def cSlice (P : Program) (t : TypeId) (x : Opd) (lo hi mx : Option Opd) : Option POp :=
  match P.underlying t with
  | some (.array n e) => match szP P e with
    | some sz => some (.sla n sz x lo hi mx)
    | none => none
  | some (.slice e) => match szP P e with
    | some sz => some (.slc sz x lo hi mx)
    | none => none
  | some .string => match mx with
    | none => some (.sls x lo hi)
    | some _ => none
  | _ => none

def cBuiltin (P : Program) (b : Builtin) (ts : Array TypeId) (args : List Opd) : Option MOp :=
  match b, args with
  | .len, [x] => match (ts[0]?).bind P.underlying with
    | some .string => some (.p (.lens x))
    | some (.slice _) => some (.p (.lenb x))
    | some (.array n _) => some (.p (.lena n))
    | some (.map _ _) => some (.e (.lenm x))
    | _ => none
  | .cap, [x] => match (ts[0]?).bind P.underlying with
    | some (.slice _) => some (.p (.caps x))
    | _ => none
  | .min, l => some (.p (.min l))
  | .max, l => some (.p (.max l))
  | .append, [s, x] => match (ts[0]?).bind P.underlying with
    | some (.slice e) => match szP P e, bytesP P e, zeroP P e with
      | some (sz + 1), some bytes, some z => cond (Nat.beq z.cells.length (sz + 1)) (match (ts[1]?).bind P.underlying with
        | some (.int _) => some (.e (.appendz z.cells (sz + 1) bytes s x))
        | some (.slice _) => some (.e (.append (sz + 1) bytes s x))
        | some .string => some (.e (.append (sz + 1) bytes s x))
        | _ => none) none
      | _, _, _ => none
    | _ => none
  | .copy, [d, s] => match (ts[0]?).bind P.underlying with
    | some (.slice e) => match szP P e with
      | some (sz + 1) => some (.e (.copy (sz + 1) d s))
      | _ => none
    | _ => none
  | .clear, [x] => match (ts[0]?).bind P.underlying with
    | some (.slice e) => match zeroP P e with
      | some z => some (.e (.clear z.cells x))
      | none => none
    | _ => none
  | .delete, [m, k] => match (ts[0]?).bind P.underlying with
    | some (.map kt _) => match P.underlying kt with
      | some (.int _) => some (.e (.delete false m k))
      | some .string => some (.e (.delete true m k))
      | _ => none
    | _ => none
  | _, _ => none

/-- Is a function one that has a text, entered as any? -/
def entered (P : Program) (f : FuncId) : Bool :=
  match P.funcs[f]? with
  | some fn => cond (decide (fn.name = "runtime.NumGoroutine")) false fn.body.isSome
  | none => false

def cCall (P : Program) (c : Call) : Option MOp :=
  match cOpds P c.args.toList with
  | none => none
  | some args => match c.callee with
    | .builtin b => cBuiltin P b c.argTypes args
    | .value (.func f) => cond (entered P f) (some (.e (.call f args))) (some (.e (.extern f args)))
    | .value x => match cOpd P x with
      | some y => some (.e (.callv y args))
      | none => none
    | .invoke _ _ => none

def cOp (P : Program) : Op → Option MOp
  | .move x => (cOpd P x).map fun x => .p (.mov x)
  | .assign x => (cOpd P x).map fun x => .p (.mov x)
  | .pick c a b => match cOpd P c, cOpd P a, cOpd P b with
    | some c, some a, some b => some (.p (.pick c a b))
    | _, _, _ => none
  | .alloc t => match zeroP P t with
    | some z => some (.a (.new z.cells))
    | none => none
  | .box _ x => (cOpd P x).map fun x => .a (.box x)
  | .build t parts => match zeroP P t, P.underlying t with
    | some z, some (.struct fs) => match placesP P fs.toList with
      | some pl => (cParts P (fun i => pl[i]?) parts.toList).map fun l => .p (.build z.cells l)
      | none => none
    | some z, some (.array _ e) => match szP P e with
      | some n => (cParts P (fun i => some (i * n, n)) parts.toList).map fun l => .p (.build z.cells l)
      | none => none
    | _, _ => none
  | .buildSlice t len parts => match P.underlying t with
    | some (.slice e) => match szP P e, zeroP P e with
      | some (sz + 1), some z => cond (Nat.beq z.cells.length (sz + 1)) (cond (Nat.ble (len * (sz + 1)) 16777216)
          ((cParts P (fun i => some (i * (sz + 1), sz + 1)) parts.toList).map fun l => .a (.bslice (repX z.cells len) (sz + 1) len l)) none) none
      | _, _ => none
    | _ => none
  | .load t x => match aggP P t, szP P t, cOpd P x with
    | some true, some n, some x => some (.loadn n x)
    | some false, some _, some x => some (.load1 x)
    | _, _, _ => none
  | .store t a x => match szP P t, cOpd P a, cOpd P x with
    | some n, some a, some x => some (.e (.store n a x))
    | _, _, _ => none
  | .nilCheck x => (cOpd P x).map fun x => .p (.nilchk x)
  | .binOp op t a b _ => match cOpd P a, cOpd P b with
    | some x, some y => (cBin P op t x y (isConstOpd a || isConstOpd b)).map .p
    | _, _ => none
  | .unOp op _ x => match op, cOpd P x with
    | .neg, some x => some (.p (.neg x))
    | .not, some x => some (.p (.not x))
    | .xor, some x => some (.p (.compl x))
    | _, _ => none
  | .convert s d x => match cOpd P x with
    | some x => cConv P s d x
    | none => none
  | .makeInterface t x => match P.underlying t with
    | some (.interface _) => none
    | some _ => (cOpd P x).map fun x => .p (.mkiface t x)
    | none => none
  | .makeFunc (.func f) first captured => match cOpds P first.toList, cOpds P captured.toList with
    | some a, some c => some (.p (.mkfunc f a c))
    | _, _ => none
  | .makeMap t none => match P.underlying t with
    | some (.map kt _) => match P.underlying kt with
      | some (.int k) => some (.a (.mkmap (some k)))
      | some .string => some (.a (.mkmap none))
      | _ => none
    | _ => none
  | .makeSlice t l c => match P.underlying t, cOpd P l, cOpd P c with
    | some (.slice e), some l, some c => match szP P e, bytesP P e, zeroP P e with
      | some (sz + 1), some bytes, some z => some (.a (.mkslice z.cells (sz + 1) bytes l c))
      | _, _, _ => none
    | _, _, _ => none
  | .slice t x lo hi mx => match cOpd P x, cOpt P lo, cOpt P hi, cOpt P mx with
    | some x, some lo, some hi, some mx => (cSlice P t x lo hi mx).map .p
    | _, _, _, _ => none
  | .fieldAddr t x f => match P.underlying t, cOpd P x with
    | some (.struct fs), some x => match fs[f]? with
      | some fd => match szP P fd.type with
        | some (_ + 1) => some (.p (.faddr fd.offset x))
        | _ => none
      | none => none
    | _, _ => none
  | .field t x f => match P.underlying t, cOpd P x with
    | some (.struct fs), some x => match fs[f]? with
      | some fd => match aggP P fd.type, szP P fd.type with
        | some true, some n => some (.p (.fieldn fd.offset n x))
        | some false, some _ => some (.p (.field1 fd.offset x))
        | _, _ => none
      | none => none
    | _, _ => none
  | .indexAddr t x i => match P.underlying t, cOpd P x, cOpd P i with
    | some (.slice e), some x, some i => match szP P e with
      | some n => some (.p (.iaddr n x i))
      | none => none
    | some (.array len e), some x, some i => match szP P e with
      | some n => some (.p (.iaddra len n x i))
      | none => none
    | _, _, _ => none
  | .index t x i => match P.underlying t, cOpd P x, cOpd P i with
    | some .string, some x, some i => some (.p (.idxs x i))
    | some (.array len e), some x, some i => match aggP P e, szP P e with
      | some true, some n => some (.p (.idxn len n x i))
      | some false, some 1 => some (.p (.idx1 len x i))
      | _, _ => none
    | _, _, _ => none
  | .lookup t m k ok => match P.underlying t, cOpd P m, cOpd P k with
    | some (.map kt e), some m, some k => match P.underlying kt, zeroP P e with
      | some (.int _), some z => some (.e (.lookup false z ok m k))
      | some .string, some z => some (.e (.lookup true z ok m k))
      | _, _ => none
    | _, _, _ => none
  | .mapUpdate t m k v => match P.underlying t, cOpd P m, cOpd P k, cOpd P v with
    | some (.map kt _), some m, some k, some v => match P.underlying kt with
      | some (.int _) => some (.e (.mapput false m k v))
      | some .string => some (.e (.mapput true m k v))
      | _ => none
    | _, _, _, _ => none
  | .extract x i => (cOpd P x).map fun x => .p (.ext x i)
  | .call c => cCall P c
  | .panic _ => some (.e .stop)
  | _ => none

def dstOk (ntmps : Nat) : Option Nat → Bool
  | none => true
  | some d => Nat.blt d ntmps

def cGuard (ops : Array Oper) : Option (Nat × Bool) → Option (Option (Nat × Bool))
  | none => some none
  | some (j, w) => match (ops[j]?).bind (·.dst) with
    | some d => some (some (d, w))
    | none => none

def cOper (P : Program) (ntmps : Nat) (ops : Array Oper) (o : Oper) : Option MO :=
  match cOp P o.op, cGuard ops o.guard with
  | some m, some g => cond (dstOk ntmps o.dst) (some ⟨o.dst, m, g⟩) none
  | _, _ => none

/-! ### Regions whose order is open -/

def memN (n : Nat) : List Nat → Bool
  | [] => false
  | x :: l => cond (Nat.beq x n) true (memN n l)

/-- Those of 'l' (numbers, rising) that come before the operation with the ancestors 'anc' and have not been laid. -/
def owed (anc : Nat) (done : List Nat) : List Nat → List Nat
  | [] => []
  | i :: l => cond (Nat.testBit anc i) (cond (memN i done) (owed anc done l) (i :: owed anc done l)) (owed anc done l)

def effsOf (isEff : Nat → Bool) : List Nat → List Nat
  | [] => []
  | i :: l => cond (isEff i) (i :: effsOf isEff l) (effsOf isEff l)

/-- One order: each that may write as early as can be. -/
def layE (anc : Nat → Nat) (all : List Nat) : List Nat → List Nat → List Nat
  | [], done => done ++ (all.filter fun i => !memN i done)
  | e :: l, done => layE anc all l (done ++ owed (anc e) done all ++ [e])

/-- Behind which place a load of number j may come: behind the last that may write and comes before it. -/
def loOf (anc : Nat → Nat) (isEff : Nat → Bool) (j : Nat) : Nat → List Nat → Nat → Nat
  | _, [], acc => acc
  | p, i :: l, acc => loOf anc isEff j (p + 1) l (cond (isEff i) (cond (Nat.testBit (anc j) i) (p + 1) acc) acc)

/-- And at which at the latest: that of the first that may write and comes behind it. -/
def hiOf (anc : Nat → Nat) (isEff : Nat → Bool) (j : Nat) : Nat → List Nat → Nat
  | p, [] => p
  | p, i :: l => cond (isEff i) (cond (Nat.testBit (anc i) j) p (hiOf anc isEff j (p + 1) l)) (hiOf anc isEff j (p + 1) l)

def hitsD (d : Option Nat) (l : List Nat) : Bool :=
  match d with
  | none => false
  | some x => memN x l

def sameD : Option Nat → Option Nat → Bool
  | some a, some b => Nat.beq a b
  | _, _ => false

/-- Two of one order, x ahead of y. -/
def pairOk (anc : Nat → Nat) (x y : Nat × DO) : Bool :=
  cond (Nat.beq x.1 y.1) false (cond (Nat.testBit (anc x.1) y.1) false (cond (sameD x.2.o.dst y.2.o.dst) false
    (cond (Nat.testBit (anc y.1) x.1) true (cond (isE y.2.o.op) false (cond (hitsD x.2.o.dst y.2.o.looks) false (!hitsD y.2.o.dst x.2.o.looks))))))

def allR {α : Type} (r : α → Bool) : List α → Bool
  | [] => true
  | x :: l => cond (r x) (allR r l) false

def allPairs {α : Type} (r : α → α → Bool) : List α → Bool
  | [] => true
  | x :: l => cond (allR (r x) l) (allPairs r l) false

def ancL (anc : Nat → Nat) : List Edge → Nat
  | [] => 0
  | e :: l => cond (Region.binds .any e) (Nat.lor (Nat.lor (2 ^ e.on) (anc e.on)) (ancL anc l)) (ancL anc l)

def ancOk (n : Nat) (anc : Nat → Nat) (ops : Array Oper) (j : Nat) : Bool :=
  match ops[j]? with
  | none => false
  | some o => cond (Nat.beq (anc j) (ancL anc o.after.toList)) (cond (Nat.testBit (anc j) j) false
      (allR (fun e => cond (Region.binds .any e) (Nat.blt e.on n) true) o.after.toList)) false

def isL : MOp → Bool
  | .load1 _ => true
  | .loadn _ _ => true
  | _ => false

def loOk (anc : Nat → Nat) (L : List (Nat × DO)) (j : Nat) : Nat → Bool
  | 0 => true
  | c + 1 => match getX L c with
    | some (i, d) => cond (isE d.o.op) (Nat.testBit (anc j) i) false
    | none => false

def hiOk (anc : Nat → Nat) (L : List (Nat × DO)) (j : Nat) (c : Nat) : Bool :=
  match getX L c with
  | some (i, _) => Nat.testBit (anc i) j
  | none => true

def windOk (anc : Nat → Nat) (L : List (Nat × DO)) (x : Nat × DO) : Bool :=
  cond (isL x.2.o.op) (cond (loOk anc L x.1 x.2.lo) (hiOk anc L x.1 x.2.hi) false) true

def drawOk (n : Nat) (anc : Nat → Nat) (ops : Array Oper) (L : List (Nat × DO)) : Bool :=
  cond (allR (ancOk n anc ops) (List.range n)) (cond (allR (fun i => memN i (L.map (·.1))) (List.range n))
    (cond (allPairs (pairOk anc) L) (allR (windOk anc L) L) false) false) false

def cDraw (P : Program) (ntmps : Nat) (ops : Array Oper) : Option (List DO) :=
  match mapO (cOper P ntmps ops) ops.toList with
  | none => none
  | some ms =>
    let b := Region.before ops
    let anc := fun i => b.getD i 0
    let all := List.range ops.size
    let isEff := fun i => match ms[i]? with
      | some m => isE m.op
      | none => false
    let order := layE anc all (effsOf isEff all) []
    match mapO (fun i => match ms[i]? with
      | some m => some (i, ({ o := m, lo := loOf anc isEff i 0 order 0, hi := hiOf anc isEff i 0 order } : DO))
      | none => none) order with
    | none => none
    | some L => cond (drawOk ops.size anc ops L) (some (L.map (·.2))) none

def cCode (P : Program) (ntmps : Nat) : Code → Option MCode
  | .skip => some .skip
  | .region _ ops false => (mapO (cOper P ntmps ops) ops.toList).map .region
  | .region _ ops true => (cDraw P ntmps ops).map .dregion
  | .seq a b => match cCode P ntmps a, cCode P ntmps b with
    | some x, some y => some (.seq x y)
    | _, _ => none
  | .cond c a b => match cOpd P c, cCode P ntmps a, cCode P ntmps b with
    | some c, some x, some y => some (.cond c x y)
    | _, _, _ => none
  | .block id c => (cCode P ntmps c).map (.block id)
  | .loop c => (cCode P ntmps c).map .loop
  | .exit id => some (.exit id)
  | .ret => some .ret
  | _ => none

def cRes (P : Program) : ResultVar → Option RV
  | .tmp t => some (.tmp t)
  | .cell a t => match aggP P t, szP P t with
    | some true, some n => some (.celln n a)
    | some false, some _ => some (.cell1 a)
    | _, _ => none

def cFun (P : Program) (fn : Func) : Option Fun :=
  match fn.body with
  | none => none
  | some c => match cCode P fn.ntmps c, mapO (cRes P) fn.results.toList with
    | some m, some r => cond (Nat.ble (fn.params.size + fn.nfree) fn.ntmps) (some ⟨fn.ntmps, fn.params.size + fn.nfree, m, r⟩) none
    | _, _ => none

end Go.Vm
