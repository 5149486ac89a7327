/-
  Vm, part 37: the same machine in a form in which the kernel runs it faster: small alternatives, plain recursors.
-/
import Derived.Test.YtcoghkkhjaokmaaGreatDoorVmConst
namespace Go.Vm

def pickK (c a b : V) : Option V := match c with
  | .bool true => some a
  | .bool false => some b
  | _ => none
def nilchkK (x : V) : Option V := match x with
  | .ptr b o => some (.ptr b o)
  | .func f a c => some (.func f a c)
  | _ => none
def aggK (o : Option (List V)) : Option V := match o with
  | some c => some (.agg c)
  | none => none
def eqK (neg : Bool) (r : Option Bool) : Option V := match r with
  | some r => some (.bool (cond neg (!r) r))
  | none => none
def faddrK (off : Nat) (x : V) : Option V := match x with
  | .ptr b o => some (.ptr b (o + off))
  | _ => none
def iaddrK (sz : Nat) (x i : V) : Option V := match x with
  | .slice b o sz' len _ _ => match natOf i with
    | some n => cond (Nat.blt n len) (cond (Nat.beq sz sz') (some (.ptr b (o + n * sz))) none) none
    | none => none
  | _ => none
def extK (i : Nat) (x : V) : Option V := match x with
  | .tup l => getX l i
  | _ => none
def lenbK (x : V) : Option V := match x with
  | .nilslice => some (.int .i64 (.ofNat 0))
  | .slice _ _ _ len _ _ => some (.int .i64 (.ofNat len))
  | _ => none
def notK (x : V) : Option V := match x with
  | .bool b => some (.bool (!b))
  | _ => none
def fieldnK (off n : Nat) (x : V) : Option V := match x with
  | .agg l => match takeX n (l.drop off) with
    | some r => some (.agg r)
    | none => none
  | _ => none
def field1K (off : Nat) (x : V) : Option V := match x with
  | .agg l => getX l off
  | _ => none

def pK (env : Env) (fr : Fr) (o : POp) : Option V := match o with
  | .mov x => some (ev fr x)
  | .pick c a b => pickK (ev fr c) (ev fr a) (ev fr b)
  | .build c l => aggK (fillV c (evParts fr l))
  | .nilchk x => nilchkK (ev fr x)
  | .bin op x y => binV env.tab op (ev fr x) (ev fr y)
  | .eq ty neg x y => eqK neg (eqV ty (ev fr x) (ev fr y))
  | .faddr off x => faddrK off (ev fr x)
  | .iaddr sz x y => iaddrK sz (ev fr x) (ev fr y)
  | .ext x i => extK i (ev fr x)
  | .lenb x => lenbK (ev fr x)
  | .not x => notK (ev fr x)
  | .field1 n x => field1K n (ev fr x)
  | .fieldn off n x => fieldnK off n (ev fr x)
  | o => pV env fr o

theorem pK_eq (env : Env) (fr : Fr) (o : POp) : pK env fr o = pV env fr o := by cases o <;> rfl

def load1K (fr : Fr) (h : Hp) (x : Opd) : Option (V × Hp) := match ev fr x with
  | .ptr b o => match h.read b o 1 with
    | some (v :: _) => some (v, h)
    | _ => none
  | _ => none
def loadnK (fr : Fr) (h : Hp) (n : Nat) (x : Opd) : Option (V × Hp) := match ev fr x with
  | .ptr b o => match h.read b o n with
    | some l => some (.agg l, h)
    | none => none
  | _ => none
def storeK (fr : Fr) (h : Hp) (sz : Nat) (a x : Opd) : Option (V × Hp) := match ev fr a with
  | .ptr b o => cond (Nat.beq (ev fr x).cells.length sz) (match h.write b o (ev fr x).cells with
    | some h' => some (.tup [], h')
    | none => none) none
  | _ => none
def callvK (call : Nat → List V → Hp → Option (V × Hp)) (fr : Fr) (h : Hp) (x : Opd) (args : List Opd) : Option (V × Hp) := match ev fr x with
  | .func f first captured => call f (first ++ evs fr args ++ captured) h
  | _ => none
def eK (call : Nat → List V → Hp → Option (V × Hp)) (fr : Fr) (h : Hp) (o : EOp) : Option (V × Hp) := match o with
  | .store sz a x => storeK fr h sz a x
  | .call f args => call f (evs fr args) h
  | .callv x args => callvK call fr h x args
  | .append sz bytes s x => appendV sz bytes h (ev fr s) (ev fr x)
  | .extern f args => call f (evs fr args) h
  | o => eV call fr h o

theorem eK_eq (call : Nat → List V → Hp → Option (V × Hp)) (fr : Fr) (h : Hp) (o : EOp) : eK call fr h o = eV call fr h o := by cases o <;> rfl

def allocK (fr : Fr) (h : Hp) (o : AOp) : Option (V × Hp) := match aV fr o with
  | some (b, mk) => some (mk h.next, h.new b)
  | none => none
def pureK (env : Env) (fr : Fr) (h : Hp) (o : POp) : Option (V × Hp) := match pK env fr o with
  | some v => some (v, h)
  | none => none
def opK (env : Env) (call : Nat → List V → Hp → Option (V × Hp)) (fr : Fr) (h : Hp) (o : MOp) : Option (V × Hp) := match o with
  | .p o => pureK env fr h o
  | .a o => allocK fr h o
  | .load1 x => load1K fr h x
  | .loadn n x => loadnK fr h n x
  | .e o => eK call fr h o

theorem opK_eq (env : Env) (call : Nat → List V → Hp → Option (V × Hp)) (fr : Fr) (h : Hp) (o : MOp) : opK env call fr h o = opV env call fr h o := by
  cases o
  case p o => simp only [opK, pureK, pK_eq, opV]; rfl
  case e o => exact eK_eq call fr h o
  all_goals rfl

def goK {α : Type} (k : Fr → Hp → Option α) (fr : Fr) (dst : Option Nat) (r : Option (V × Hp)) : Option α := match r with
  | some (v, h') => k (putO fr dst v) h'
  | none => none
def gateK {α : Type} (fr : Fr) (g : Option (Nat × Bool)) (no yes : Option α) : Option α := match g with
  | none => yes
  | some g => match gate fr (some g) with
    | .no => no
    | .bad => none
    | .yes => yes

noncomputable def runK (env : Env) (call : Nat → List V → Hp → Option (V × Hp)) (l : List MO) : Fr → Hp → Option (Fr × Hp) :=
  List.rec (motive := fun _ => Fr → Hp → Option (Fr × Hp)) (fun fr h => some (fr, h))
    (fun o _ ih fr h => gateK fr o.guard (ih (putO fr o.dst (.tup [])) h) (goK ih fr o.dst (opK env call fr h o.op))) l

theorem runK_eq (env : Env) (call : Nat → List V → Hp → Option (V × Hp)) : ∀ (l : List MO) (fr : Fr) (h : Hp), runK env call l fr h = runOps env call l fr h
  | [], _, _ => rfl
  | o :: l, fr, h => by
    show gateK fr o.guard (runK env call l (putO fr o.dst (.tup [])) h) (goK (runK env call l) fr o.dst (opK env call fr h o.op)) = _
    have ih : runK env call l = runOps env call l := funext fun fr => funext fun h => runK_eq env call l fr h
    rw [ih, opK_eq]
    simp only [runOps]
    cases o.guard with
    | none => rfl
    | some g => rfl

def stK (e : Bool) (p : Nat) (h : Hp) (st : List (Nat × Hp)) : List (Nat × Hp) := cond e ((p, h) :: st) st
def goD (k : Nat → Fr → Hp → List (Nat × Hp) → List Rd → Option (Fr × Hp)) (p : Nat) (fr : Fr) (dst : Option Nat) (e : Bool) (st : List (Nat × Hp)) (rds : List Rd) (r : Option (V × Hp)) : Option (Fr × Hp) := match r with
  | some (v, h') => k (p + 1) (putO fr dst v) h' (stK e (p + 1) h' st) rds
  | none => none
def endD (fr : Fr) (h : Hp) (st : List (Nat × Hp)) (rds : List Rd) : Option (Fr × Hp) := cond (allStill st rds) (some (fr, h)) none

noncomputable def runDK (env : Env) (call : Nat → List V → Hp → Option (V × Hp)) (l : List DO) : Nat → Fr → Hp → List (Nat × Hp) → List Rd → Option (Fr × Hp) :=
  List.rec (motive := fun _ => Nat → Fr → Hp → List (Nat × Hp) → List Rd → Option (Fr × Hp)) (fun _ fr h st rds => endD fr h st rds)
    (fun d _ ih p fr h st rds => gateK fr d.o.guard (ih (p + 1) (putO fr d.o.dst (.tup [])) h (stK (isE d.o.op) (p + 1) h st) rds)
      (goD ih p fr d.o.dst (isE d.o.op) st (rdOf fr h d ++ rds) (opK env call fr h d.o.op))) l

theorem runDK_eq (env : Env) (call : Nat → List V → Hp → Option (V × Hp)) : ∀ (l : List DO) (p : Nat) (fr : Fr) (h : Hp) (st : List (Nat × Hp)) (rds : List Rd), runDK env call l p fr h st rds = runD env call l p fr h st rds
  | [], _, _, _, _, _ => rfl
  | d :: l, p, fr, h, st, rds => by
    show gateK fr d.o.guard (runDK env call l (p + 1) (putO fr d.o.dst (.tup [])) h (stK (isE d.o.op) (p + 1) h st) rds)
      (goD (runDK env call l) p fr d.o.dst (isE d.o.op) st (rdOf fr h d ++ rds) (opK env call fr h d.o.op)) = _
    have ih : runDK env call l = runD env call l := funext fun p => funext fun fr => funext fun h => funext fun st => funext fun rds => runDK_eq env call l p fr h st rds
    rw [ih, opK_eq]
    simp only [runD]
    cases d.o.guard with
    | none => rfl
    | some g => rfl

def regK (r : Option (Fr × Hp)) : Res := match r with
  | some (fr', h') => .ok fr' h'
  | none => .fail
def seqK (k : Fr → Hp → Res) (r : Res) : Res := match r with
  | .ok fr' h' => k fr' h'
  | r => r
def condK (v : V) (a b : Res) : Res := match v with
  | .bool true => a
  | .bool false => b
  | _ => .fail
def blockK (id : Nat) (r : Res) : Res := match r with
  | .exit id' fr' h' => cond (Nat.beq id' id) (.ok fr' h') (.exit id' fr' h')
  | r => r
def resK (rs : List RV) (r : Res) : Option (V × Hp) := match r with
  | .ok fr h' => resP fr h' rs
  | .ret fr h' => resP fr h' rs
  | _ => none
def funK (ex : MCode → Fr → Hp → Res) (args : List V) (h : Hp) (fn : Option Fun) : Option (V × Hp) := match fn with
  | none => none
  | some fn => cond (Nat.beq args.length fn.nargs) (resK fn.results (ex fn.body (argsFr args 0 .leaf) h)) none
def orK (a b : Option (V × Hp)) : Option (V × Hp) := match a with
  | some r => some r
  | none => b
def callK (p : Prog) (ext : Ext) (ex : MCode → Fr → Hp → Res) (f : Nat) (args : List V) (h : Hp) : Option (V × Hp) := orK (ext f args h) (funK ex args h (p.funs.get f))

theorem callK_eq (p : Prog) (ext : Ext) (ex : MCode → Fr → Hp → Res) : callK p ext ex = callV p ext ex := by
  funext f args h
  unfold callK callV orK funK resK
  cases ext f args h with
  | some r => rfl
  | none => cases p.funs.get f <;> rfl

noncomputable def stepK (p : Prog) (ext : Ext) (ex : MCode → Fr → Hp → Res) (c : MCode) (fr : Fr) (h : Hp) : Res := match c with
  | .skip => .ok fr h
  | .region ops => regK (runK p.env (callK p ext ex) ops fr h)
  | .dregion ops => regK (runDK p.env (callK p ext ex) ops 0 fr h [(0, h)] [])
  | .seq a b => seqK (ex b) (ex a fr h)
  | .cond c a b => condK (ev fr c) (ex a fr h) (ex b fr h)
  | .block id c => blockK id (ex c fr h)
  | .loop c => seqK (ex (.loop c)) (ex c fr h)
  | .exit id => .exit id fr h
  | .ret => .ret fr h
noncomputable def execK (p : Prog) (ext : Ext) (n : Nat) : MCode → Fr → Hp → Res :=
  Nat.rec (motive := fun _ => MCode → Fr → Hp → Res) (fun _ _ _ => .fail) (fun _ ih c fr h => stepK p ext ih c fr h) n

theorem execK_eq (p : Prog) (ext : Ext) : ∀ (n : Nat) (c : MCode) (fr : Fr) (h : Hp), execK p ext n c fr h = exec p ext n c fr h
  | 0, _, _, _ => rfl
  | n + 1, c, fr, h => by
    show stepK p ext (execK p ext n) c fr h = _
    have ih : execK p ext n = exec p ext n := funext fun c => funext fun fr => funext fun h => execK_eq p ext n c fr h
    rw [ih]
    cases c with
    | region ops =>
      show regK (runK p.env (callK p ext (exec p ext n)) ops fr h) = _
      rw [callK_eq, runK_eq]
      rfl
    | dregion ops =>
      show regK (runDK p.env (callK p ext (exec p ext n)) ops 0 fr h [(0, h)] []) = _
      rw [callK_eq, runDK_eq]
      rfl
    | _ => rfl

noncomputable def runsK (p : Prog) (ext : Ext) (n f : Nat) (args : List V) (g : Nat) : Bool :=
  match callK p ext (execK p ext n) f args (h00 g) with
  | some (.bool true, _) => true
  | _ => false

theorem runs_of {p : Prog} {ext : Ext} {n f : Nat} {args : List V} {g : Nat} (h : runsK p ext n f args g = true) : runs p ext n f args g = true := by
  have ih : execK p ext n = exec p ext n := funext fun c => funext fun fr => funext fun h => execK_eq p ext n c fr h
  unfold runsK at h
  rw [ih, callK_eq] at h
  exact h

end Go.Vm
