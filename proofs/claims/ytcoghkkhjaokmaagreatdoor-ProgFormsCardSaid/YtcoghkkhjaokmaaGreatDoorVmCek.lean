/-
  Vm, part 38: walking by simp, with what comes behind kept as data: so that simp never looks ahead.
-/
import Derived.Test.YtcoghkkhjaokmaaGreatDoorVmHeapW
namespace Go.Vm

variable {p : Prog} {ext : Ext}

inductive KF where
  | seq (b : MCode)
  | block (id : Nat)

/-- What comes behind. -/
def RK (p : Prog) (ext : Ext) : List KF → Res → (Res → Prop) → Prop
  | [], r, Q => Q r
  | .seq b :: K, r, Q => thenR (fun r => RK p ext K r Q) (fun fr h => WP p ext b fr h fun r => RK p ext K r Q) r
  | .block id :: K, r, Q => blockR id (fun r => RK p ext K r Q) r

def WS (p : Prog) (ext : Ext) (c : MCode) (K : List KF) (fr : Fr) (h : Hp) (Q : Res → Prop) : Prop := WP p ext c fr h fun r => RK p ext K r Q
def OS (p : Prog) (ext : Ext) (l : List MO) (K : List KF) (fr : Fr) (h : Hp) (Q : Res → Prop) : Prop := WPo p ext l fr h fun fr h => RK p ext K (.ok fr h) Q
def DS (p : Prog) (ext : Ext) (l : List DO) (K : List KF) (i : Nat) (fr : Fr) (h : Hp) (st : List (Nat × Hp)) (rds : List Rd) (Q : Res → Prop) : Prop := WPd p ext l i fr h st rds fun fr h => RK p ext K (.ok fr h) Q

theorem WS.start {c : MCode} {fr : Fr} {h : Hp} {Q : Res → Prop} : WP p ext c fr h Q ↔ WS p ext c [] fr h Q := Iff.rfl

/-! ### Code -/

section
variable {K : List KF} {fr : Fr} {h : Hp} {Q : Res → Prop}

theorem WS.seq {a b : MCode} : WS p ext (.seq a b) K fr h Q ↔ WS p ext a (.seq b :: K) fr h Q := WP.seq
theorem WS.block {id : Nat} {c : MCode} : WS p ext (.block id c) K fr h Q ↔ WS p ext c (.block id :: K) fr h Q := WP.block
theorem WS.skip : WS p ext .skip K fr h Q ↔ RK p ext K (.ok fr h) Q := WP.skip
theorem WS.exit {id : Nat} : WS p ext (.exit id) K fr h Q ↔ RK p ext K (.exit id fr h) Q := WP.exit
theorem WS.ret : WS p ext .ret K fr h Q ↔ RK p ext K (.ret fr h) Q := WP.ret
theorem WS.region {l : List MO} : WS p ext (.region l) K fr h Q ↔ OS p ext l K fr h Q := WP.region
theorem WS.dregion {l : List DO} : WS p ext (.dregion l) K fr h Q ↔ DS p ext l K 0 fr h [(0, h)] [] Q := WP.dregion

/-- Which way. -/
def condS (p : Prog) (ext : Ext) (v : V) (a b : MCode) (K : List KF) (fr : Fr) (h : Hp) (Q : Res → Prop) : Prop := condP v (WS p ext a K fr h Q) (WS p ext b K fr h Q)
theorem WS.cond {c : Opd} {a b : MCode} : WS p ext (.cond c a b) K fr h Q ↔ condS p ext (ev fr c) a b K fr h Q := W.cond
theorem condS_tt {a b : MCode} : condS p ext (.bool true) a b K fr h Q ↔ WS p ext a K fr h Q := Iff.rfl
theorem condS_ff {a b : MCode} : condS p ext (.bool false) a b K fr h Q ↔ WS p ext b K fr h Q := Iff.rfl
theorem condS_of {t : Bool} {a b : MCode} (h1 : t = true → WS p ext a K fr h Q) (h2 : t = false → WS p ext b K fr h Q) : condS p ext (.bool t) a b K fr h Q := condP_of h1 h2

theorem RK.nil {r : Res} : RK p ext [] r Q ↔ Q r := Iff.rfl
theorem RK.seq_ok {b : MCode} : RK p ext (.seq b :: K) (.ok fr h) Q ↔ WS p ext b K fr h Q := Iff.rfl
theorem RK.seq_ret {b : MCode} : RK p ext (.seq b :: K) (.ret fr h) Q ↔ RK p ext K (.ret fr h) Q := Iff.rfl
theorem RK.seq_exit {b : MCode} {id : Nat} : RK p ext (.seq b :: K) (.exit id fr h) Q ↔ RK p ext K (.exit id fr h) Q := Iff.rfl
theorem RK.block_ok {id : Nat} : RK p ext (.block id :: K) (.ok fr h) Q ↔ RK p ext K (.ok fr h) Q := Iff.rfl
theorem RK.block_ret {id : Nat} : RK p ext (.block id :: K) (.ret fr h) Q ↔ RK p ext K (.ret fr h) Q := Iff.rfl
theorem RK.block_same {id : Nat} : RK p ext (.block id :: K) (.exit id fr h) Q ↔ RK p ext K (.ok fr h) Q := by
  simp only [RK, blockR_exit, show Nat.beq id id = true from nbeq.2 rfl, cond_true]
theorem RK.block_other {id id' : Nat} (hne : id' ≠ id) : RK p ext (.block id :: K) (.exit id' fr h) Q ↔ RK p ext K (.exit id' fr h) Q := by
  simp only [RK, blockR_exit, show Nat.beq id' id = false from by rw [nbeq_d]; exact decide_eq_false hne, cond_false]

/-! ### Operations -/

theorem OS.nil : OS p ext [] K fr h Q ↔ RK p ext K (.ok fr h) Q := WPo.nil

/-- A value has come, or not. -/
def valS (p : Prog) (ext : Ext) (o : Option V) (d : Option Nat) (l : List MO) (K : List KF) (fr : Fr) (h : Hp) (Q : Res → Prop) : Prop := optP o fun v => OS p ext l K (putO fr d v) h Q
theorem valS_some {v : V} {d : Option Nat} {l : List MO} : valS p ext (some v) d l K fr h Q ↔ OS p ext l K (putO fr d v) h Q := Iff.rfl
/-- A value and a heap. -/
def effS (p : Prog) (ext : Ext) (o : Option (V × Hp)) (d : Option Nat) (l : List MO) (K : List KF) (fr : Fr) (Q : Res → Prop) : Prop := optP o fun r => OS p ext l K (putO fr d r.1) r.2 Q
theorem effS_some {v : V} {h1 : Hp} {d : Option Nat} {l : List MO} : effS p ext (some (v, h1)) d l K fr Q ↔ OS p ext l K (putO fr d v) h1 Q := Iff.rfl
/-- A new block. -/
def newS (p : Prog) (ext : Ext) (o : Option (Blk × (Nat → V))) (d : Option Nat) (l : List MO) (K : List KF) (fr : Fr) (h : Hp) (Q : Res → Prop) : Prop := optP o fun r => OS p ext l K (putO fr d (r.2 h.next)) (h.new r.1) Q
theorem newS_some {x : Blk} {mk : Nat → V} {d : Option Nat} {l : List MO} : newS p ext (some (x, mk)) d l K fr h Q ↔ OS p ext l K (putO fr d (mk h.next)) (h.new x) Q := Iff.rfl
/-- One cell behind a pointer. -/
def loadV (h : Hp) (v : V) : Option V := match v with
  | .ptr b o => cellAt (h.blk b) o
  | _ => none
theorem loadV_ptr {b o : Nat} : loadV h (.ptr b o) = cellAt (h.blk b) o := rfl
def loadnV (h : Hp) (n : Nat) (v : V) : Option V := match v with
  | .ptr b o => aggO (h.read b o n)
  | _ => none
theorem loadnV_ptr {b o n : Nat} : loadnV h n (.ptr b o) = aggO (h.read b o n) := rfl
def storeV (h : Hp) (sz : Nat) (a x : V) : Option (V × Hp) := match a with
  | .ptr b o => (storeH h sz b o x.cells).map fun h1 => (.tup [], h1)
  | _ => none
theorem storeV_ptr {b o sz : Nat} {x : V} : storeV h sz (.ptr b o) x = (storeH h sz b o x.cells).map fun h1 => (.tup [], h1) := rfl
/-- A call, and what is done behind it. -/
def callS (p : Prog) (ext : Ext) (f : Nat) (args : List V) (h : Hp) (d : Option Nat) (l : List MO) (K : List KF) (fr : Fr) (Q : Res → Prop) : Prop := WPc p ext f args h fun v h1 => OS p ext l K (putO fr d v) h1 Q
theorem Ret.call {f : Nat} {args : List V} {h' : Hp} {v : V} (a : Ret p ext f args h v h') {d : Option Nat} {l : List MO} : callS p ext f args h d l K fr Q ↔ OS p ext l K (putO fr d v) h' Q := a.wpc
theorem callS_of {f : Nat} {args : List V} {d : Option Nat} {l : List MO} (hw : WPc p ext f args h fun v h1 => OS p ext l K (putO fr d v) h1 Q) : callS p ext f args h d l K fr Q := hw
def callvS (p : Prog) (ext : Ext) (x : V) (args : List V) (h : Hp) (d : Option Nat) (l : List MO) (K : List KF) (fr : Fr) (Q : Res → Prop) : Prop := funP x fun f first captured => callS p ext f (first ++ args ++ captured) h d l K fr Q
theorem callvS_func {f : Nat} {a c args : List V} {d : Option Nat} {l : List MO} : callvS p ext (.func f a c) args h d l K fr Q ↔ callS p ext f (a ++ args ++ c) h d l K fr Q := Iff.rfl

theorem OS.pure {d : Option Nat} {o : POp} {l : List MO} : OS p ext (⟨d, .p o, none⟩ :: l) K fr h Q ↔ valS p ext (pV p.env fr o) d l K fr h Q := W.pure
theorem OS.alloc {d : Option Nat} {o : AOp} {l : List MO} : OS p ext (⟨d, .a o, none⟩ :: l) K fr h Q ↔ newS p ext (aV fr o) d l K fr h Q := W.alloc
theorem OS.load1 {d : Option Nat} {x : Opd} {l : List MO} : OS p ext (⟨d, .load1 x, none⟩ :: l) K fr h Q ↔ valS p ext (loadV h (ev fr x)) d l K fr h Q := by
  refine (W.load1 (p := p) (ext := ext)).trans ?_
  unfold valS
  cases ev fr x <;> simp only [ptrP, loadV, optP, at1_eq]
  rfl
theorem OS.loadn {d : Option Nat} {n : Nat} {x : Opd} {l : List MO} : OS p ext (⟨d, .loadn n x, none⟩ :: l) K fr h Q ↔ valS p ext (loadnV h n (ev fr x)) d l K fr h Q := by
  refine (W.loadn (p := p) (ext := ext)).trans ?_
  unfold valS
  cases ev fr x <;> simp only [ptrP, loadnV, optP]
  rename_i b o
  cases h.read b o n <;> simp only [aggO]
  rfl
theorem OS.call {d : Option Nat} {f : Nat} {args : List Opd} {l : List MO} : OS p ext (⟨d, .e (.call f args), none⟩ :: l) K fr h Q ↔ callS p ext f (evs fr args) h d l K fr Q := WPo.call
theorem OS.extern {d : Option Nat} {f : Nat} {args : List Opd} {l : List MO} : OS p ext (⟨d, .e (.extern f args), none⟩ :: l) K fr h Q ↔ callS p ext f (evs fr args) h d l K fr Q := WPo.extern
theorem OS.callv {d : Option Nat} {x : Opd} {args : List Opd} {l : List MO} : OS p ext (⟨d, .e (.callv x args), none⟩ :: l) K fr h Q ↔ callvS p ext (ev fr x) (evs fr args) h d l K fr Q := W.callv
theorem OS.store {d : Option Nat} {sz : Nat} {a x : Opd} {l : List MO} : OS p ext (⟨d, .e (.store sz a x), none⟩ :: l) K fr h Q ↔ effS p ext (storeV h sz (ev fr a) (ev fr x)) d l K fr Q := by
  refine (W.store (p := p) (ext := ext)).trans ?_
  unfold effS
  cases ev fr a <;> simp only [ptrP, storeV, optP]
  rename_i b o
  cases storeH h sz b o (ev fr x).cells <;> simp only [Option.map]
  rfl
theorem OS.append {d : Option Nat} {sz by_ : Nat} {s x : Opd} {l : List MO} : OS p ext (⟨d, .e (.append sz by_ s x), none⟩ :: l) K fr h Q ↔ effS p ext (appendV sz by_ h (ev fr s) (ev fr x)) d l K fr Q := W.append
theorem OS.appendz {d : Option Nat} {z : List V} {sz by_ : Nat} {s x : Opd} {l : List MO} : OS p ext (⟨d, .e (.appendz z sz by_ s x), none⟩ :: l) K fr h Q ↔ effS p ext (appendZ z sz by_ h (ev fr s) (ev fr x)) d l K fr Q := W.appendz
theorem OS.eff {d : Option Nat} {o : EOp} (ho : o.calls = false) {l : List MO} : OS p ext (⟨d, .e o, none⟩ :: l) K fr h Q ↔ effS p ext (eW fr h o) d l K fr Q := W.eff ho
theorem OS.copy {d : Option Nat} {sz : Nat} {a x : Opd} {l : List MO} : OS p ext (⟨d, .e (.copy sz a x), none⟩ :: l) K fr h Q ↔ effS p ext (eW fr h (.copy sz a x)) d l K fr Q := W.eff rfl
theorem OS.text {d : Option Nat} {x : Opd} {l : List MO} : OS p ext (⟨d, .e (.text x), none⟩ :: l) K fr h Q ↔ effS p ext (eW fr h (.text x)) d l K fr Q := W.eff rfl
theorem OS.lookup {d : Option Nat} {sk : Bool} {z : V} {ok : Bool} {m k : Opd} {l : List MO} : OS p ext (⟨d, .e (.lookup sk z ok m k), none⟩ :: l) K fr h Q ↔ effS p ext (eW fr h (.lookup sk z ok m k)) d l K fr Q := W.eff rfl
theorem OS.mapput {d : Option Nat} {sk : Bool} {m k v : Opd} {l : List MO} : OS p ext (⟨d, .e (.mapput sk m k v), none⟩ :: l) K fr h Q ↔ effS p ext (eW fr h (.mapput sk m k v)) d l K fr Q := W.eff rfl
theorem OS.delete {d : Option Nat} {sk : Bool} {m k : Opd} {l : List MO} : OS p ext (⟨d, .e (.delete sk m k), none⟩ :: l) K fr h Q ↔ effS p ext (eW fr h (.delete sk m k)) d l K fr Q := W.eff rfl
theorem OS.lenm {d : Option Nat} {x : Opd} {l : List MO} : OS p ext (⟨d, .e (.lenm x), none⟩ :: l) K fr h Q ↔ effS p ext (eW fr h (.lenm x)) d l K fr Q := W.eff rfl
theorem OS.mark {d : Option Nat} {x : Opd} {l : List MO} : OS p ext (⟨d, .e (.mark x), none⟩ :: l) K fr h Q ↔ effS p ext (eW fr h (.mark x)) d l K fr Q := W.eff rfl

def gateS (p : Prog) (ext : Ext) (v : V) (want : Bool) (d : Option Nat) (o : MOp) (l : List MO) (K : List KF) (fr : Fr) (h : Hp) (Q : Res → Prop) : Prop :=
  gateP v want (OS p ext (⟨d, o, none⟩ :: l) K fr h Q) (OS p ext l K (putO fr d (.tup [])) h Q)
theorem OS.guard {d : Option Nat} {o : MOp} {t : Nat} {want : Bool} {l : List MO} : OS p ext (⟨d, o, some (t, want)⟩ :: l) K fr h Q ↔ gateS p ext (ev fr (.tmp t)) want d o l K fr h Q := W.guard
theorem gateS_tt {d : Option Nat} {o : MOp} {l : List MO} : gateS p ext (.bool true) true d o l K fr h Q ↔ OS p ext (⟨d, o, none⟩ :: l) K fr h Q := by unfold gateS; rw [gateP_tt]
theorem gateS_ff {d : Option Nat} {o : MOp} {l : List MO} : gateS p ext (.bool false) false d o l K fr h Q ↔ OS p ext (⟨d, o, none⟩ :: l) K fr h Q := by unfold gateS; rw [gateP_ff]
theorem gateS_tf {d : Option Nat} {o : MOp} {l : List MO} : gateS p ext (.bool true) false d o l K fr h Q ↔ OS p ext l K (putO fr d (.tup [])) h Q := by unfold gateS; rw [gateP_tf]
theorem gateS_ft {d : Option Nat} {o : MOp} {l : List MO} : gateS p ext (.bool false) true d o l K fr h Q ↔ OS p ext l K (putO fr d (.tup [])) h Q := by unfold gateS; rw [gateP_ft]
theorem gateS_tup {want : Bool} {x : List V} {d : Option Nat} {o : MOp} {l : List MO} : gateS p ext (.tup x) want d o l K fr h Q ↔ OS p ext l K (putO fr d (.tup [])) h Q := Iff.rfl

/-! ### Regions whose order is open -/

variable {lo hi i : Nat} {st : List (Nat × Hp)} {rds : List Rd}

theorem DS.nil : DS p ext [] K i fr h st rds Q ↔ allStill st rds = true ∧ RK p ext K (.ok fr h) Q := WPd.nil
def valD (p : Prog) (ext : Ext) (o : Option V) (d : Option Nat) (l : List DO) (K : List KF) (i : Nat) (fr : Fr) (h : Hp) (st : List (Nat × Hp)) (rds : List Rd) (Q : Res → Prop) : Prop := optP o fun v => DS p ext l K (i + 1) (putO fr d v) h st rds Q
theorem valD_some {v : V} {d : Option Nat} {l : List DO} : valD p ext (some v) d l K i fr h st rds Q ↔ DS p ext l K (i + 1) (putO fr d v) h st rds Q := Iff.rfl
def effD (p : Prog) (ext : Ext) (o : Option (V × Hp)) (d : Option Nat) (l : List DO) (K : List KF) (i : Nat) (fr : Fr) (st : List (Nat × Hp)) (rds : List Rd) (Q : Res → Prop) : Prop := optP o fun r => DS p ext l K (i + 1) (putO fr d r.1) r.2 ((i + 1, r.2) :: st) rds Q
theorem effD_some {v : V} {h1 : Hp} {d : Option Nat} {l : List DO} : effD p ext (some (v, h1)) d l K i fr st rds Q ↔ DS p ext l K (i + 1) (putO fr d v) h1 ((i + 1, h1) :: st) rds Q := Iff.rfl
def newD (p : Prog) (ext : Ext) (o : Option (Blk × (Nat → V))) (d : Option Nat) (l : List DO) (K : List KF) (i : Nat) (fr : Fr) (h : Hp) (st : List (Nat × Hp)) (rds : List Rd) (Q : Res → Prop) : Prop := optP o fun r => DS p ext l K (i + 1) (putO fr d (r.2 h.next)) (h.new r.1) st rds Q
theorem newD_some {x : Blk} {mk : Nat → V} {d : Option Nat} {l : List DO} : newD p ext (some (x, mk)) d l K i fr h st rds Q ↔ DS p ext l K (i + 1) (putO fr d (mk h.next)) (h.new x) st rds Q := Iff.rfl
def loadD (p : Prog) (ext : Ext) (x : V) (d : Option Nat) (lo hi : Nat) (l : List DO) (K : List KF) (i : Nat) (fr : Fr) (h : Hp) (st : List (Nat × Hp)) (rds : List Rd) (Q : Res → Prop) : Prop := ptrP x fun b o => optP (h.at1 b o) fun v => DS p ext l K (i + 1) (putO fr d v) h st (⟨lo, hi, b, o, [v]⟩ :: rds) Q
def loadD' (p : Prog) (ext : Ext) (c : Option V) (b o : Nat) (d : Option Nat) (lo hi : Nat) (l : List DO) (K : List KF) (i : Nat) (fr : Fr) (h : Hp) (st : List (Nat × Hp)) (rds : List Rd) (Q : Res → Prop) : Prop := optP c fun v => DS p ext l K (i + 1) (putO fr d v) h st (⟨lo, hi, b, o, [v]⟩ :: rds) Q
theorem loadD_ptr {b o : Nat} {d : Option Nat} {l : List DO} : loadD p ext (.ptr b o) d lo hi l K i fr h st rds Q ↔ loadD' p ext (cellAt (h.blk b) o) b o d lo hi l K i fr h st rds Q := by unfold loadD loadD'; rw [ptrP_ptr, at1_eq]
theorem loadD'_some {v : V} {b o : Nat} {d : Option Nat} {l : List DO} : loadD' p ext (some v) b o d lo hi l K i fr h st rds Q ↔ DS p ext l K (i + 1) (putO fr d v) h st (⟨lo, hi, b, o, [v]⟩ :: rds) Q := Iff.rfl
def loadnD (p : Prog) (ext : Ext) (n : Nat) (x : V) (d : Option Nat) (lo hi : Nat) (l : List DO) (K : List KF) (i : Nat) (fr : Fr) (h : Hp) (st : List (Nat × Hp)) (rds : List Rd) (Q : Res → Prop) : Prop := ptrP x fun b o => optP (h.read b o n) fun v => DS p ext l K (i + 1) (putO fr d (.agg v)) h st (⟨lo, hi, b, o, v⟩ :: rds) Q
def loadnD' (p : Prog) (ext : Ext) (c : Option (List V)) (b o : Nat) (d : Option Nat) (lo hi : Nat) (l : List DO) (K : List KF) (i : Nat) (fr : Fr) (h : Hp) (st : List (Nat × Hp)) (rds : List Rd) (Q : Res → Prop) : Prop := optP c fun v => DS p ext l K (i + 1) (putO fr d (.agg v)) h st (⟨lo, hi, b, o, v⟩ :: rds) Q
theorem loadnD_ptr {b o n : Nat} {d : Option Nat} {l : List DO} : loadnD p ext n (.ptr b o) d lo hi l K i fr h st rds Q ↔ loadnD' p ext (h.read b o n) b o d lo hi l K i fr h st rds Q := Iff.rfl
theorem loadnD'_some {v : List V} {b o : Nat} {d : Option Nat} {l : List DO} : loadnD' p ext (some v) b o d lo hi l K i fr h st rds Q ↔ DS p ext l K (i + 1) (putO fr d (.agg v)) h st (⟨lo, hi, b, o, v⟩ :: rds) Q := Iff.rfl
def callD (p : Prog) (ext : Ext) (f : Nat) (args : List V) (h : Hp) (d : Option Nat) (l : List DO) (K : List KF) (i : Nat) (fr : Fr) (st : List (Nat × Hp)) (rds : List Rd) (Q : Res → Prop) : Prop := WPc p ext f args h fun v h1 => DS p ext l K (i + 1) (putO fr d v) h1 ((i + 1, h1) :: st) rds Q
theorem Ret.callD {f : Nat} {args : List V} {h' : Hp} {v : V} (a : Ret p ext f args h v h') {d : Option Nat} {l : List DO} : callD p ext f args h d l K i fr st rds Q ↔ DS p ext l K (i + 1) (putO fr d v) h' ((i + 1, h') :: st) rds Q := a.wpc
theorem callD_of {f : Nat} {args : List V} {d : Option Nat} {l : List DO} (hw : WPc p ext f args h fun v h1 => DS p ext l K (i + 1) (putO fr d v) h1 ((i + 1, h1) :: st) rds Q) : callD p ext f args h d l K i fr st rds Q := hw
def callvD (p : Prog) (ext : Ext) (x : V) (args : List V) (h : Hp) (d : Option Nat) (l : List DO) (K : List KF) (i : Nat) (fr : Fr) (st : List (Nat × Hp)) (rds : List Rd) (Q : Res → Prop) : Prop := funP x fun f first captured => callD p ext f (first ++ args ++ captured) h d l K i fr st rds Q
theorem callvD_func {f : Nat} {a c args : List V} {d : Option Nat} {l : List DO} : callvD p ext (.func f a c) args h d l K i fr st rds Q ↔ callD p ext f (a ++ args ++ c) h d l K i fr st rds Q := Iff.rfl

theorem DS.pure {d : Option Nat} {o : POp} {l : List DO} : DS p ext (⟨⟨d, .p o, none⟩, lo, hi⟩ :: l) K i fr h st rds Q ↔ valD p ext (pV p.env fr o) d l K i fr h st rds Q := D.pure
theorem DS.alloc {d : Option Nat} {o : AOp} {l : List DO} : DS p ext (⟨⟨d, .a o, none⟩, lo, hi⟩ :: l) K i fr h st rds Q ↔ newD p ext (aV fr o) d l K i fr h st rds Q := D.alloc
theorem DS.load1 {d : Option Nat} {x : Opd} {l : List DO} : DS p ext (⟨⟨d, .load1 x, none⟩, lo, hi⟩ :: l) K i fr h st rds Q ↔ loadD p ext (ev fr x) d lo hi l K i fr h st rds Q := D.load1
theorem DS.loadn {d : Option Nat} {n : Nat} {x : Opd} {l : List DO} : DS p ext (⟨⟨d, .loadn n x, none⟩, lo, hi⟩ :: l) K i fr h st rds Q ↔ loadnD p ext n (ev fr x) d lo hi l K i fr h st rds Q := D.loadn
theorem DS.call {d : Option Nat} {f : Nat} {args : List Opd} {l : List DO} : DS p ext (⟨⟨d, .e (.call f args), none⟩, lo, hi⟩ :: l) K i fr h st rds Q ↔ callD p ext f (evs fr args) h d l K i fr st rds Q := D.call
theorem DS.extern {d : Option Nat} {f : Nat} {args : List Opd} {l : List DO} : DS p ext (⟨⟨d, .e (.extern f args), none⟩, lo, hi⟩ :: l) K i fr h st rds Q ↔ callD p ext f (evs fr args) h d l K i fr st rds Q := D.extern
theorem DS.callv {d : Option Nat} {x : Opd} {args : List Opd} {l : List DO} : DS p ext (⟨⟨d, .e (.callv x args), none⟩, lo, hi⟩ :: l) K i fr h st rds Q ↔ callvD p ext (ev fr x) (evs fr args) h d l K i fr st rds Q := D.callv
theorem DS.store {d : Option Nat} {sz : Nat} {a x : Opd} {l : List DO} : DS p ext (⟨⟨d, .e (.store sz a x), none⟩, lo, hi⟩ :: l) K i fr h st rds Q ↔ effD p ext (storeV h sz (ev fr a) (ev fr x)) d l K i fr st rds Q := by
  refine (D.store (p := p) (ext := ext)).trans ?_
  unfold effD
  cases ev fr a <;> simp only [ptrP, storeV, optP]
  rename_i b o
  cases storeH h sz b o (ev fr x).cells <;> simp only [Option.map]
  rfl
theorem DS.append {d : Option Nat} {sz by_ : Nat} {s x : Opd} {l : List DO} : DS p ext (⟨⟨d, .e (.append sz by_ s x), none⟩, lo, hi⟩ :: l) K i fr h st rds Q ↔ effD p ext (appendV sz by_ h (ev fr s) (ev fr x)) d l K i fr st rds Q := D.append
theorem DS.eff {d : Option Nat} {o : EOp} (ho : o.calls = false) {l : List DO} : DS p ext (⟨⟨d, .e o, none⟩, lo, hi⟩ :: l) K i fr h st rds Q ↔ effD p ext (eW fr h o) d l K i fr st rds Q := D.eff ho
theorem DS.lookup {d : Option Nat} {sk : Bool} {z : V} {ok : Bool} {m k : Opd} {l : List DO} : DS p ext (⟨⟨d, .e (.lookup sk z ok m k), none⟩, lo, hi⟩ :: l) K i fr h st rds Q ↔ effD p ext (eW fr h (.lookup sk z ok m k)) d l K i fr st rds Q := D.eff rfl
theorem DS.mapput {d : Option Nat} {sk : Bool} {m k v : Opd} {l : List DO} : DS p ext (⟨⟨d, .e (.mapput sk m k v), none⟩, lo, hi⟩ :: l) K i fr h st rds Q ↔ effD p ext (eW fr h (.mapput sk m k v)) d l K i fr st rds Q := D.eff rfl
theorem DS.lenm {d : Option Nat} {x : Opd} {l : List DO} : DS p ext (⟨⟨d, .e (.lenm x), none⟩, lo, hi⟩ :: l) K i fr h st rds Q ↔ effD p ext (eW fr h (.lenm x)) d l K i fr st rds Q := D.eff rfl
theorem DS.text {d : Option Nat} {x : Opd} {l : List DO} : DS p ext (⟨⟨d, .e (.text x), none⟩, lo, hi⟩ :: l) K i fr h st rds Q ↔ effD p ext (eW fr h (.text x)) d l K i fr st rds Q := D.eff rfl
def gateD (p : Prog) (ext : Ext) (v : V) (want : Bool) (d : Option Nat) (o : MOp) (lo hi : Nat) (l : List DO) (K : List KF) (i : Nat) (fr : Fr) (h : Hp) (st : List (Nat × Hp)) (rds : List Rd) (Q : Res → Prop) : Prop :=
  gateP v want (DS p ext (⟨⟨d, o, none⟩, lo, hi⟩ :: l) K i fr h st rds Q) (DS p ext l K (i + 1) (putO fr d (.tup [])) h (stAdd (isE o) i h st) rds Q)
theorem DS.guard {d : Option Nat} {o : MOp} {t : Nat} {want : Bool} {l : List DO} : DS p ext (⟨⟨d, o, some (t, want)⟩, lo, hi⟩ :: l) K i fr h st rds Q ↔ gateD p ext (ev fr (.tmp t)) want d o lo hi l K i fr h st rds Q := D.guard
theorem gateD_tt {d : Option Nat} {o : MOp} {l : List DO} : gateD p ext (.bool true) true d o lo hi l K i fr h st rds Q ↔ DS p ext (⟨⟨d, o, none⟩, lo, hi⟩ :: l) K i fr h st rds Q := by unfold gateD; rw [gateP_tt]
theorem gateD_ff {d : Option Nat} {o : MOp} {l : List DO} : gateD p ext (.bool false) false d o lo hi l K i fr h st rds Q ↔ DS p ext (⟨⟨d, o, none⟩, lo, hi⟩ :: l) K i fr h st rds Q := by unfold gateD; rw [gateP_ff]
theorem gateD_tf {d : Option Nat} {o : MOp} {l : List DO} : gateD p ext (.bool true) false d o lo hi l K i fr h st rds Q ↔ DS p ext l K (i + 1) (putO fr d (.tup [])) h (stAdd (isE o) i h st) rds Q := by unfold gateD; rw [gateP_tf]
theorem gateD_ft {d : Option Nat} {o : MOp} {l : List DO} : gateD p ext (.bool false) true d o lo hi l K i fr h st rds Q ↔ DS p ext l K (i + 1) (putO fr d (.tup [])) h (stAdd (isE o) i h st) rds Q := by unfold gateD; rw [gateP_ft]
theorem gateD_tup {want : Bool} {x : List V} {d : Option Nat} {o : MOp} {l : List DO} : gateD p ext (.tup x) want d o lo hi l K i fr h st rds Q ↔ DS p ext l K (i + 1) (putO fr d (.tup [])) h (stAdd (isE o) i h st) rds Q := Iff.rfl
end

/-! ### Functions -/

/-- A function's results. -/
def endS (o : Option (List V)) (h : Hp) (Q : V → Hp → Prop) : Prop := optP o fun r => Q (tupOf r) h
theorem endS_some {r : List V} {h : Hp} {Q : V → Hp → Prop} : endS (some r) h Q ↔ Q (tupOf r) h := Iff.rfl
theorem endR_okS {rs : List RV} {Q : V → Hp → Prop} {fr : Fr} {h : Hp} : endR rs Q (.ok fr h) ↔ endS (resV fr h rs) h Q := endR_okP
theorem endR_retS {rs : List RV} {Q : V → Hp → Prop} {fr : Fr} {h : Hp} : endR rs Q (.ret fr h) ↔ endS (resV fr h rs) h Q := endR_okP

theorem enter {f : Nat} {args : List V} {h : Hp} {Q : V → Hp → Prop} {m : Fun} (he : ext f args h = none) (hf : p.funs.get f = some m) (hn : args.length = m.nargs) (hw : WS p ext m.body [] (argsFr args 0 .leaf) h (endR m.results Q)) : WPc p ext f args h Q :=
  wpc_fun he hf hn hw

/-! ### Loops over a row's places -/

/-- A round's end: the next one; the loop's end; or the function's. -/
def roundR (b0 b1 : Nat) (J : Fr → Hp → Prop) (Q : Res → Prop) : Res → Prop
  | .fail => False
  | .ok fr h => J fr h
  | .ret fr h => Q (.ret fr h)
  | .exit id fr h => cond (Nat.beq id b1) (J fr h) (cond (Nat.beq id b0) (Q (.ok fr h)) (Q (.exit id fr h)))

section
variable {b0 b1 : Nat} {J : Fr → Hp → Prop} {Q : Res → Prop} {fr : Fr} {h : Hp}
theorem roundR_ok : roundR b0 b1 J Q (.ok fr h) ↔ J fr h := Iff.rfl
theorem roundR_ret : roundR b0 b1 J Q (.ret fr h) ↔ Q (.ret fr h) := Iff.rfl
theorem roundR_next : roundR b0 b1 J Q (.exit b1 fr h) ↔ J fr h := by simp only [roundR, show Nat.beq b1 b1 = true from nbeq.2 rfl, cond_true]
theorem roundR_end (hne : b0 ≠ b1) : roundR b0 b1 J Q (.exit b0 fr h) ↔ Q (.ok fr h) := by
  simp only [roundR, show Nat.beq b0 b1 = false from by rw [nbeq_d]; exact decide_eq_false hne, show Nat.beq b0 b0 = true from nbeq.2 rfl, cond_true, cond_false]
end

/-- 'for i := range n': what stands ahead of round i. -/
theorem ws_range {b0 b1 t u ti tn : Nat} {body : MCode} {fr : Fr} {h : Hp} {K : List KF} {Q : Res → Prop} (n : Nat) (I : Nat → Fr → Hp → Prop)
    (hn : n < 4611686018427387904) (hne : ti ≠ t ∧ tn ≠ t ∧ tn ≠ ti ∧ ti ≠ u ∧ tn ≠ u ∧ b1 ≠ b0)
    (hi : ev fr (.tmp ti) = .int .i64 0) (hl : ev fr (.tmp tn) = .int .i64 n) (h0 : I 0 fr h)
    (hst : ∀ i d v fr h, (d = t ∨ d = u ∨ d = ti) → I i fr h → I i (putO fr (some d) v) h)
    (hb : ∀ i fr h, i < n → ev fr (.tmp ti) = .int .i64 i → ev fr (.tmp tn) = .int .i64 n → I i fr h →
      WS p ext body [] fr h (roundR b0 b1 (fun fr' h' => ev fr' (.tmp ti) = .int .i64 i ∧ ev fr' (.tmp tn) = .int .i64 n ∧ I (i + 1) fr' h') fun r => RK p ext K r Q))
    (hq : ∀ fr h, I n fr h → RK p ext K (.ok fr h) Q) :
    WS p ext (.block b0 (.loop (.seq (.region [⟨some t, .p (.bin .lss (.tmp ti) (.tmp tn)), none⟩]) (.seq (.cond (.tmp t) .skip (.exit b0)) (.seq (.block b1 body)
      (.region [⟨some u, .p (.bin .add (.tmp ti) (.val (.int .i64 (.ofNat 1)))), none⟩, ⟨some ti, .p (.mov (.tmp u)), none⟩])))))) K fr h Q := by
  refine wp_range n I hn hne hi hl h0 hst (fun i fr h h1 h2 h3 h4 => ?_) hq
  refine (hb i fr h h1 h2 h3 h4 : WP _ _ _ _ _ _).mono fun r hr => ?_
  have hr : roundR b0 b1 _ _ r := hr
  cases r <;> exact hr

/-- A round of any loop. -/
def loopR (J : Fr → Hp → Prop) (Q : Res → Prop) : Res → Prop
  | .fail => False
  | .ok fr h => J fr h
  | .exit id fr h => Q (.exit id fr h)
  | .ret fr h => Q (.ret fr h)
section
variable {J : Fr → Hp → Prop} {Q : Res → Prop} {fr : Fr} {h : Hp}
theorem loopR_ok : loopR J Q (.ok fr h) ↔ J fr h := Iff.rfl
theorem loopR_exit {id : Nat} : loopR J Q (.exit id fr h) ↔ Q (.exit id fr h) := Iff.rfl
theorem loopR_ret : loopR J Q (.ret fr h) ↔ Q (.ret fr h) := Iff.rfl
end

theorem ws_loop {c : MCode} {K : List KF} {Q : Res → Prop} (I : Nat → Fr → Hp → Prop)
    (hI : ∀ k fr h, I k fr h → WS p ext c [] fr h (loopR (fun fr' h' => ∃ k', k' < k ∧ I k' fr' h') fun r => RK p ext K r Q)) {k : Nat} {fr : Fr} {h : Hp} (hi : I k fr h) : WS p ext (.loop c) K fr h Q := by
  refine wp_loop' I (fun k fr h hi => ?_) hi
  refine (hI k fr h hi : WP _ _ _ _ _ _).mono fun r hr => ?_
  have hr : loopR _ _ r := hr
  cases r <;> exact hr

theorem bin_shr_lit {tab : Tab} {k j : IntKind} {a : Int} {n : Nat} : binV tab .shr (.int k a) (.int j (@OfNat.ofNat Int n _)) = some (.int k (shrI k a n)) := rfl
theorem bin_shl_lit {tab : Tab} {k j : IntKind} {a : Int} {n : Nat} : binV tab .shl (.int k a) (.int j (@OfNat.ofNat Int n _)) = some (.int k (shlI k a n)) := rfl
attribute [simp] bin_shr_lit bin_shl_lit loopR_ok loopR_exit loopR_ret

/-- A few bits of a number. -/
theorem and_range {a : Int} {m : Nat} (hm : m < 65536) : ∃ q : Nat, wr .i64 (.ofNat (Nat.land (toU .i64 a) (toU .i64 (m : Int)))) = (q : Int) ∧ q ≤ m := by
  have hle : Nat.land (toU .i64 a) m ≤ m := Nat.and_le_right
  have h2 : toU .i64 (m : Int) = m := by
    show m % 18446744073709551616 = m
    omega
  refine ⟨Nat.land (toU .i64 a) m, ?_, hle⟩
  rw [h2]
  generalize Nat.land (toU .i64 a) m = q at hle
  rw [show Int.ofNat q = (q : Int) from rfl, wr_of (by omega) (by omega)]

/-! ### What simp is told -/

attribute [-simp] WP.skip WP.exit WP.ret WP.region WP.dregion WP.seq WP.block W.cond WPo.nil W.pure W.alloc W.load1 W.loadn W.callv WPo.call WPo.extern W.guard W.store W.append W.appendz W.copy W.text W.lookup W.mapput W.delete W.lenm W.mark
attribute [-simp] WPd.nil D.pure D.alloc D.load1 D.loadn D.call D.extern D.callv D.guard D.store D.append D.appendz D.copy D.text D.lookup D.mapput D.delete D.lenm D.mark endR_okP endR_retP

attribute [simp ↓] WS.seq WS.block WS.skip WS.exit WS.ret WS.region WS.dregion WS.cond condS_tt condS_ff RK.nil RK.seq_ok RK.seq_ret RK.seq_exit RK.block_ok RK.block_ret RK.block_same RK.block_other
attribute [simp ↓] OS.nil OS.pure OS.alloc OS.load1 OS.loadn OS.call OS.extern OS.callv OS.store OS.append OS.appendz OS.copy OS.text OS.lookup OS.mapput OS.delete OS.lenm OS.mark OS.guard
attribute [simp ↓] DS.nil DS.pure DS.alloc DS.load1 DS.loadn DS.call DS.extern DS.callv DS.store DS.append DS.lookup DS.mapput DS.lenm DS.text DS.guard
attribute [simp] condS_tt condS_ff valS_some effS_some newS_some loadV_ptr loadnV_ptr storeV_ptr callvS_func gateS_tt gateS_ff gateS_tf gateS_ft gateS_tup valD_some effD_some newD_some loadD_ptr loadD'_some loadnD_ptr loadnD'_some callvD_func gateD_tt gateD_ff gateD_tf gateD_ft gateD_tup
attribute [simp] roundR_ok roundR_ret roundR_next roundR_end endS_some endR_okS endR_retS

end Go.Vm
