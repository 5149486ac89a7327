/-
  Vm, part 33: the rules of walking as equations, for simp.
-/
import Derived.Test.YtcoghkkhjaokmaaGreatDoorVmMono
namespace Go.Vm

variable {p : Prog} {ext : Ext}

/-- A call comes to a value and a heap. -/
def Ret (p : Prog) (ext : Ext) (f : Nat) (args : List V) (h : Hp) (v : V) (h' : Hp) : Prop := ∃ n, call p ext n f args h = some (v, h')

theorem Ret.det {f : Nat} {args : List V} {h h1 h2 : Hp} {v1 v2 : V} (a : Ret p ext f args h v1 h1) (b : Ret p ext f args h v2 h2) : v1 = v2 ∧ h1 = h2 := by
  obtain ⟨n, a⟩ := a
  obtain ⟨m, b⟩ := b
  have e1 := call_mono (p := p) (ext := ext) (Nat.le_max_left n m) _ _ _ _ a
  have e2 := call_mono (p := p) (ext := ext) (Nat.le_max_right n m) _ _ _ _ b
  rw [e1] at e2
  cases e2
  exact ⟨rfl, rfl⟩

theorem Ret.wpc {f : Nat} {args : List V} {h h' : Hp} {v : V} (a : Ret p ext f args h v h') {Q : V → Hp → Prop} : WPc p ext f args h Q ↔ Q v h' := by
  constructor
  · rintro ⟨n, v', h2, e, q⟩
    obtain ⟨rfl, rfl⟩ := a.det ⟨n, e⟩
    exact q
  · intro q
    obtain ⟨n, e⟩ := a
    exact ⟨n, v, h', e, q⟩

theorem ret_of {f : Nat} {args : List V} {h : Hp} {v : V} {h' : Hp} (hw : WPc p ext f args h fun v1 h1 => v1 = v ∧ h1 = h') : Ret p ext f args h v h' := by
  obtain ⟨n, v1, h1, e, rfl, rfl⟩ := hw
  exact ⟨n, e⟩

theorem rets_of {f : Nat} {args : List V} {h : Hp} {Q : V → Hp → Prop} (hw : WPc p ext f args h Q) : ∃ v h', Ret p ext f args h v h' ∧ Q v h' := by
  obtain ⟨n, v1, h1, e, q⟩ := hw
  exact ⟨v1, h1, ⟨n, e⟩, q⟩

/-! ### Code -/

theorem WP.skip {fr : Fr} {h : Hp} {Q : Res → Prop} : WP p ext .skip fr h Q ↔ Q (.ok fr h) := by
  refine ⟨?_, wp_skip'⟩
  rintro ⟨n, hn, q⟩
  cases n with
  | zero => exact absurd rfl hn
  | succ n => exact q

theorem WP.exit {id : Nat} {fr : Fr} {h : Hp} {Q : Res → Prop} : WP p ext (.exit id) fr h Q ↔ Q (.exit id fr h) := by
  refine ⟨?_, wp_exit'⟩
  rintro ⟨n, hn, q⟩
  cases n with
  | zero => exact absurd rfl hn
  | succ n => exact q

theorem WP.ret {fr : Fr} {h : Hp} {Q : Res → Prop} : WP p ext .ret fr h Q ↔ Q (.ret fr h) := by
  refine ⟨?_, wp_ret'⟩
  rintro ⟨n, hn, q⟩
  cases n with
  | zero => exact absurd rfl hn
  | succ n => exact q

theorem WP.region {l : List MO} {fr : Fr} {h : Hp} {Q : Res → Prop} : WP p ext (.region l) fr h Q ↔ WPo p ext l fr h fun fr' h' => Q (.ok fr' h') := by
  refine ⟨?_, wp_region'⟩
  rintro ⟨n, hn, q⟩
  cases n with
  | zero => exact absurd rfl hn
  | succ n =>
    rw [exec_region] at hn q
    cases e : runOps p.env (callV p ext (exec p ext n)) l fr h with
    | none => rw [e] at hn; exact absurd rfl hn
    | some r => rw [e] at q; exact ⟨n, r.1, r.2, e, q⟩

theorem WP.dregion {l : List DO} {fr : Fr} {h : Hp} {Q : Res → Prop} : WP p ext (.dregion l) fr h Q ↔ WPd p ext l 0 fr h [(0, h)] [] fun fr' h' => Q (.ok fr' h') := by
  refine ⟨?_, wp_dregion'⟩
  rintro ⟨n, hn, q⟩
  cases n with
  | zero => exact absurd rfl hn
  | succ n =>
    rw [exec_dregion] at hn q
    cases e : runD p.env (callV p ext (exec p ext n)) l 0 fr h [(0, h)] [] with
    | none => rw [e] at hn; exact absurd rfl hn
    | some r => rw [e] at q; exact ⟨n, r.1, r.2, e, q⟩

theorem WP.seq {a b : MCode} {fr : Fr} {h : Hp} {Q : Res → Prop} : WP p ext (.seq a b) fr h Q ↔ WP p ext a fr h (thenR Q fun fr' h' => WP p ext b fr' h' Q) := by
  refine ⟨?_, wp_seq'⟩
  rintro ⟨n, hn, q⟩
  cases n with
  | zero => exact absurd rfl hn
  | succ n =>
    rw [exec_seq] at hn q
    cases e : exec p ext n a fr h with
    | fail => rw [e] at hn; exact absurd rfl hn
    | ok fr' h' => rw [e] at q hn; exact ⟨n, by rw [e]; exact (by simp), by rw [e]; exact ⟨n, hn, q⟩⟩
    | exit id fr' h' => rw [e] at q; exact ⟨n, by rw [e]; simp, by rw [e]; exact q⟩
    | ret fr' h' => rw [e] at q; exact ⟨n, by rw [e]; simp, by rw [e]; exact q⟩

theorem WP.cond {c : Opd} {a b : MCode} {fr : Fr} {h : Hp} {Q : Res → Prop} : WP p ext (.cond c a b) fr h Q ↔ ∃ t, ev fr c = .bool t ∧ (t = true → WP p ext a fr h Q) ∧ (t = false → WP p ext b fr h Q) := by
  refine ⟨?_, fun ⟨t, h1, h2, h3⟩ => wp_cond' t h1 h2 h3⟩
  rintro ⟨n, hn, q⟩
  cases n with
  | zero => exact absurd rfl hn
  | succ n =>
    rw [exec_cond] at hn q
    split at hn
    · rename_i e; rw [e] at q; exact ⟨true, e, fun _ => ⟨n, hn, q⟩, fun h => by cases h⟩
    · rename_i e; rw [e] at q; exact ⟨false, e, fun h => (by cases h), fun _ => ⟨n, hn, q⟩⟩
    · exact absurd rfl hn

theorem WP.block {id : Nat} {c : MCode} {fr : Fr} {h : Hp} {Q : Res → Prop} : WP p ext (.block id c) fr h Q ↔ WP p ext c fr h (blockR id Q) := by
  refine ⟨?_, wp_block'⟩
  rintro ⟨n, hn, q⟩
  cases n with
  | zero => exact absurd rfl hn
  | succ n =>
    rw [exec_block] at hn q
    cases e : exec p ext n c fr h with
    | fail => rw [e] at hn; exact absurd rfl hn
    | ok fr' h' => rw [e] at q; exact ⟨n, by rw [e]; simp, by rw [e]; exact q⟩
    | ret fr' h' => rw [e] at q; exact ⟨n, by rw [e]; simp, by rw [e]; exact q⟩
    | exit id' fr' h' =>
      rw [e] at q
      refine ⟨n, by rw [e]; simp, ?_⟩
      rw [e]
      simp only [blockR_exit] at q ⊢
      cases hb : Nat.beq id' id <;> rw [hb] at q <;> exact q

/-! ### Operations -/

theorem WPo.nil {fr : Fr} {h : Hp} {Q : Fr → Hp → Prop} : WPo p ext [] fr h Q ↔ Q fr h := by
  refine ⟨?_, wpo_nil⟩
  rintro ⟨n, fr', h', e, q⟩
  cases e
  exact q

theorem runOps_none {C : CallF} {env : Env} {d : Option Nat} {o : MOp} {l : List MO} {fr : Fr} {h : Hp} {r : Fr × Hp} : runOps env C (⟨d, o, none⟩ :: l) fr h = some r ↔ ∃ v h1, opV env C fr h o = some (v, h1) ∧ runOps env C l (putO fr d v) h1 = some r := by
  simp only [runOps, gate]
  cases e : opV env C fr h o with
  | none => simp
  | some q =>
    obtain ⟨v, h1⟩ := q
    simp only [Option.some.injEq, Prod.mk.injEq]
    constructor
    · intro hh; exact ⟨v, h1, ⟨rfl, rfl⟩, hh⟩
    · rintro ⟨_, _, ⟨rfl, rfl⟩, hh⟩; exact hh

theorem WPo.pure {d : Option Nat} {o : POp} {l : List MO} {fr : Fr} {h : Hp} {Q : Fr → Hp → Prop} : WPo p ext (⟨d, .p o, none⟩ :: l) fr h Q ↔ ∃ v, pV p.env fr o = some v ∧ WPo p ext l (putO fr d v) h Q := by
  refine ⟨?_, fun ⟨v, h1, h2⟩ => wpo_p h1 h2⟩
  rintro ⟨n, fr', h', e, q⟩
  obtain ⟨v, h1, e1, e2⟩ := runOps_none.1 e
  simp only [opV] at e1
  split at e1
  · rename_i v' hv; cases e1; exact ⟨_, hv, n, fr', h', e2, q⟩
  · cases e1

theorem WPo.alloc {d : Option Nat} {o : AOp} {l : List MO} {fr : Fr} {h : Hp} {Q : Fr → Hp → Prop} : WPo p ext (⟨d, .a o, none⟩ :: l) fr h Q ↔ ∃ b mk, aV fr o = some (b, mk) ∧ WPo p ext l (putO fr d (mk h.next)) (h.new b) Q := by
  refine ⟨?_, fun ⟨b, mk, h1, h2⟩ => wpo_a h1 h2⟩
  rintro ⟨n, fr', h', e, q⟩
  obtain ⟨v, h1, e1, e2⟩ := runOps_none.1 e
  simp only [opV] at e1
  split at e1
  · rename_i b mk hv; cases e1; exact ⟨_, _, hv, n, fr', h', e2, q⟩
  · cases e1

theorem WPo.load1 {d : Option Nat} {x : Opd} {l : List MO} {fr : Fr} {h : Hp} {Q : Fr → Hp → Prop} : WPo p ext (⟨d, .load1 x, none⟩ :: l) fr h Q ↔ ∃ b o, ev fr x = .ptr b o ∧ ∃ v, h.read b o 1 = some [v] ∧ WPo p ext l (putO fr d v) h Q := by
  refine ⟨?_, fun ⟨b, o, h1, v, h2, h3⟩ => wpo_load1 h1 h2 h3⟩
  rintro ⟨n, fr', h', e, q⟩
  obtain ⟨v, h1, e1, e2⟩ := runOps_none.1 e
  simp only [opV] at e1
  split at e1
  case h_2 => cases e1
  rename_i b o hx
  split at e1
  case h_2 => cases e1
  rename_i v' r hr
  cases e1
  refine ⟨b, o, hx, v, ?_, n, fr', h', e2, q⟩
  have hlen : (v :: r).length = 1 := by
    unfold Hp.read at hr
    split at hr
    · obtain ⟨e3, e4⟩ := takeX_eq hr
      rw [e3, List.length_take]; simp at e4 ⊢; omega
    · cases hr
  have : r = [] := by cases r; rfl; simp at hlen
  rw [hr, this]

theorem WPo.loadn {d : Option Nat} {x : Opd} {m : Nat} {l : List MO} {fr : Fr} {h : Hp} {Q : Fr → Hp → Prop} : WPo p ext (⟨d, .loadn m x, none⟩ :: l) fr h Q ↔ ∃ b o, ev fr x = .ptr b o ∧ ∃ v, h.read b o m = some v ∧ WPo p ext l (putO fr d (.agg v)) h Q := by
  refine ⟨?_, fun ⟨b, o, h1, v, h2, h3⟩ => wpo_loadn h1 h2 h3⟩
  rintro ⟨n, fr', h', e, q⟩
  obtain ⟨v, h1, e1, e2⟩ := runOps_none.1 e
  simp only [opV] at e1
  split at e1
  case h_2 => cases e1
  rename_i b o hx
  split at e1
  case h_2 => cases e1
  rename_i v' hr
  cases e1
  exact ⟨b, o, hx, _, hr, n, fr', h', e2, q⟩

theorem WPo.call {d : Option Nat} {f : Nat} {args : List Opd} {l : List MO} {fr : Fr} {h : Hp} {Q : Fr → Hp → Prop} : WPo p ext (⟨d, .e (.call f args), none⟩ :: l) fr h Q ↔ WPc p ext f (evs fr args) h fun v h1 => WPo p ext l (putO fr d v) h1 Q := by
  refine ⟨?_, wpo_call⟩
  rintro ⟨n, fr', h', e, q⟩
  obtain ⟨v, h1, e1, e2⟩ := runOps_none.1 e
  exact ⟨n, v, h1, e1, n, fr', h', e2, q⟩

theorem WPo.extern {d : Option Nat} {f : Nat} {args : List Opd} {l : List MO} {fr : Fr} {h : Hp} {Q : Fr → Hp → Prop} : WPo p ext (⟨d, .e (.extern f args), none⟩ :: l) fr h Q ↔ WPc p ext f (evs fr args) h fun v h1 => WPo p ext l (putO fr d v) h1 Q := by
  refine ⟨?_, wpo_extern⟩
  rintro ⟨n, fr', h', e, q⟩
  obtain ⟨v, h1, e1, e2⟩ := runOps_none.1 e
  exact ⟨n, v, h1, e1, n, fr', h', e2, q⟩

theorem WPo.callv {d : Option Nat} {x : Opd} {args : List Opd} {l : List MO} {fr : Fr} {h : Hp} {Q : Fr → Hp → Prop} : WPo p ext (⟨d, .e (.callv x args), none⟩ :: l) fr h Q ↔
    ∃ f first captured, ev fr x = .func f first captured ∧ WPc p ext f (first ++ evs fr args ++ captured) h fun v h1 => WPo p ext l (putO fr d v) h1 Q := by
  refine ⟨?_, fun ⟨f, a, c, h1, h2⟩ => wpo_callv h1 h2⟩
  rintro ⟨n, fr', h', e, q⟩
  obtain ⟨v, h1, e1, e2⟩ := runOps_none.1 e
  simp only [opV, eV] at e1
  split at e1
  · rename_i f a c hx; exact ⟨f, a, c, hx, n, v, h1, e1, n, fr', h', e2, q⟩
  · cases e1

def EOp.calls : EOp → Bool
  | .call _ _ | .callv _ _ | .extern _ _ => true
  | _ => false

/-- What one does that may write and calls nothing. -/
def eW (fr : Fr) (h : Hp) (o : EOp) : Option (V × Hp) := eV (fun _ _ _ => none) fr h o

theorem eV_calls {C : CallF} {fr : Fr} {h : Hp} {o : EOp} (ho : o.calls = false) : eV C fr h o = eW fr h o := by
  cases o <;> first | rfl | cases ho

theorem WPo.eff {d : Option Nat} {o : EOp} {l : List MO} {fr : Fr} {h : Hp} {Q : Fr → Hp → Prop} (ho : o.calls = false) : WPo p ext (⟨d, .e o, none⟩ :: l) fr h Q ↔ ∃ v h1, eW fr h o = some (v, h1) ∧ WPo p ext l (putO fr d v) h1 Q := by
  refine ⟨?_, fun ⟨v, h1, e1, e2⟩ => wpo_e (fun C => (eV_calls ho).trans e1) e2⟩
  rintro ⟨n, fr', h', e, q⟩
  obtain ⟨v, h1, e1, e2⟩ := runOps_none.1 e
  exact ⟨v, h1, (eV_calls ho).symm.trans e1, n, fr', h', e2, q⟩

theorem WPo.guard {d : Option Nat} {o : MOp} {t : Nat} {want : Bool} {l : List MO} {fr : Fr} {h : Hp} {Q : Fr → Hp → Prop} {b : Bool} (hb : ev fr (.tmp t) = .bool b) :
    WPo p ext (⟨d, o, some (t, want)⟩ :: l) fr h Q ↔ (b = want → WPo p ext (⟨d, o, none⟩ :: l) fr h Q) ∧ (b = !want → WPo p ext l (putO fr d (.tup [])) h Q) := by
  refine ⟨?_, fun ⟨h1, h2⟩ => wpo_guard b hb h1 fun hne => h2 (by cases b <;> cases want <;> simp_all)⟩
  rintro ⟨n, fr', h', e, q⟩
  refine ⟨fun hw => ⟨n, fr', h', ?_, q⟩, fun hw => ⟨n, fr', h', ?_, q⟩⟩
  · have : beqB b want = true := by subst hw; cases b <;> rfl
    simp only [runOps, gate, hb, this, cond_true] at e ⊢
    exact e
  · have : beqB b want = false := by subst hw; cases want <;> rfl
    simp only [runOps, gate, hb, this, cond_false] at e ⊢
    exact e

theorem WPo.guardNo {d : Option Nat} {o : MOp} {t : Nat} {want : Bool} {l : List MO} {fr : Fr} {h : Hp} {Q : Fr → Hp → Prop} {x : List V} (hb : ev fr (.tmp t) = .tup x) :
    WPo p ext (⟨d, o, some (t, want)⟩ :: l) fr h Q ↔ WPo p ext l (putO fr d (.tup [])) h Q := by
  refine ⟨?_, wpo_guard_no hb⟩
  rintro ⟨n, fr', h', e, q⟩
  refine ⟨n, fr', h', ?_, q⟩
  simp only [runOps, gate, hb] at e
  exact e

/-! ### The same, in a form that simp walks -/

def optP {α : Type} : Option α → (α → Prop) → Prop
  | none, _ => False
  | some a, K => K a

theorem optP_some {α : Type} {a : α} {K : α → Prop} : optP (some a) K = K a := rfl
theorem optP_none {α : Type} {K : α → Prop} : optP none K = False := rfl
theorem optP_iff {α : Type} {o : Option α} {K : α → Prop} : optP o K ↔ ∃ a, o = some a ∧ K a := by
  cases o with
  | none => simp [optP]
  | some a => simp [optP]

def boolP : V → (Bool → Prop) → Prop
  | .bool b, K => K b
  | _, _ => False

theorem boolP_bool {b : Bool} {K : Bool → Prop} : boolP (.bool b) K = K b := rfl
theorem boolP_iff {v : V} {K : Bool → Prop} : boolP v K ↔ ∃ b, v = .bool b ∧ K b := by
  cases v <;> simp [boolP]

/-- One cell. -/
def Hp.at1 (h : Hp) (b o : Nat) : Option V := match h.read b o 1 with
  | some [v] => some v
  | _ => none

theorem Hp.at1_iff {h : Hp} {b o : Nat} {v : V} : h.at1 b o = some v ↔ h.read b o 1 = some [v] := by
  unfold Hp.at1
  split
  · rename_i w hw; rw [hw]; simp
  · rename_i hne
    constructor
    · intro h; cases h
    · intro h; exact absurd h (hne v)

def ptrP : V → (Nat → Nat → Prop) → Prop
  | .ptr b o, K => K b o
  | _, _ => False

theorem ptrP_ptr {b o : Nat} {K : Nat → Nat → Prop} : ptrP (.ptr b o) K = K b o := rfl
theorem ptrP_iff {v : V} {K : Nat → Nat → Prop} : ptrP v K ↔ ∃ b o, v = .ptr b o ∧ K b o := by
  constructor
  · cases v <;> simp only [ptrP, false_implies]
    intro k; exact ⟨_, _, rfl, k⟩
  · rintro ⟨b, o, rfl, k⟩; exact k

def funP : V → (Nat → List V → List V → Prop) → Prop
  | .func f a c, K => K f a c
  | _, _ => False

theorem funP_func {f : Nat} {a c : List V} {K : Nat → List V → List V → Prop} : funP (.func f a c) K = K f a c := rfl
theorem funP_iff {v : V} {K : Nat → List V → List V → Prop} : funP v K ↔ ∃ f a c, v = .func f a c ∧ K f a c := by
  constructor
  · cases v <;> simp only [funP, false_implies]
    intro k; exact ⟨_, _, _, rfl, k⟩
  · rintro ⟨b, o, c, rfl, k⟩; exact k

/-- Which way. -/
def condP : V → Prop → Prop → Prop
  | .bool true, a, _ => a
  | .bool false, _, b => b
  | _, _, _ => False

theorem condP_tt {a b : Prop} : condP (.bool true) a b = a := rfl
theorem condP_ff {a b : Prop} : condP (.bool false) a b = b := rfl
theorem condP_of {t : Bool} {a b : Prop} (h1 : t = true → a) (h2 : t = false → b) : condP (.bool t) a b := by cases t; exact h2 rfl; exact h1 rfl

theorem W.cond {c : Opd} {a b : MCode} {fr : Fr} {h : Hp} {Q : Res → Prop} : WP p ext (.cond c a b) fr h Q ↔ condP (ev fr c) (WP p ext a fr h Q) (WP p ext b fr h Q) := by
  rw [WP.cond]
  constructor
  · rintro ⟨t, e, h1, h2⟩
    rw [e]
    exact condP_of h1 h2
  · intro hc
    cases e : ev fr c <;> rw [e] at hc <;> simp only [condP] at hc
    rename_i t
    cases t with
    | true => exact ⟨true, rfl, fun _ => hc, fun h => by cases h⟩
    | false => exact ⟨false, rfl, fun h => (by cases h), fun _ => hc⟩
theorem W.pure {d : Option Nat} {o : POp} {l : List MO} {fr : Fr} {h : Hp} {Q : Fr → Hp → Prop} : WPo p ext (⟨d, .p o, none⟩ :: l) fr h Q ↔ optP (pV p.env fr o) fun v => WPo p ext l (putO fr d v) h Q := by
  rw [WPo.pure, optP_iff]
theorem W.alloc {d : Option Nat} {o : AOp} {l : List MO} {fr : Fr} {h : Hp} {Q : Fr → Hp → Prop} : WPo p ext (⟨d, .a o, none⟩ :: l) fr h Q ↔ optP (aV fr o) fun r => WPo p ext l (putO fr d (r.2 h.next)) (h.new r.1) Q := by
  rw [WPo.alloc, optP_iff]
  constructor
  · rintro ⟨b, mk, e, k⟩; exact ⟨(b, mk), e, k⟩
  · rintro ⟨⟨b, mk⟩, e, k⟩; exact ⟨b, mk, e, k⟩
theorem W.load1 {d : Option Nat} {x : Opd} {l : List MO} {fr : Fr} {h : Hp} {Q : Fr → Hp → Prop} : WPo p ext (⟨d, .load1 x, none⟩ :: l) fr h Q ↔ ptrP (ev fr x) fun b o => optP (h.at1 b o) fun v => WPo p ext l (putO fr d v) h Q := by
  rw [WPo.load1, ptrP_iff]
  simp only [optP_iff, Hp.at1_iff]
theorem W.loadn {d : Option Nat} {x : Opd} {m : Nat} {l : List MO} {fr : Fr} {h : Hp} {Q : Fr → Hp → Prop} : WPo p ext (⟨d, .loadn m x, none⟩ :: l) fr h Q ↔ ptrP (ev fr x) fun b o => optP (h.read b o m) fun v => WPo p ext l (putO fr d (.agg v)) h Q := by
  rw [WPo.loadn, ptrP_iff]
  simp only [optP_iff]
theorem W.callv {d : Option Nat} {x : Opd} {args : List Opd} {l : List MO} {fr : Fr} {h : Hp} {Q : Fr → Hp → Prop} : WPo p ext (⟨d, .e (.callv x args), none⟩ :: l) fr h Q ↔
    funP (ev fr x) fun f first captured => WPc p ext f (first ++ evs fr args ++ captured) h fun v h1 => WPo p ext l (putO fr d v) h1 Q := by
  rw [WPo.callv, funP_iff]
theorem W.eff {d : Option Nat} {o : EOp} {l : List MO} {fr : Fr} {h : Hp} {Q : Fr → Hp → Prop} (ho : o.calls = false) : WPo p ext (⟨d, .e o, none⟩ :: l) fr h Q ↔ optP (eW fr h o) fun r => WPo p ext l (putO fr d r.1) r.2 Q := by
  rw [WPo.eff ho, optP_iff]
  constructor
  · rintro ⟨b, mk, e, k⟩; exact ⟨(b, mk), e, k⟩
  · rintro ⟨⟨b, mk⟩, e, k⟩; exact ⟨b, mk, e, k⟩

/-- What a guard's slot holds. -/
def gateP : V → Bool → Prop → Prop → Prop
  | .bool b, want, y, n => (b = want → y) ∧ (b = !want → n)
  | .tup _, _, _, n => n
  | _, _, _, _ => False

theorem gateP_bool {b want : Bool} {y n : Prop} : gateP (.bool b) want y n = ((b = want → y) ∧ (b = !want → n)) := rfl
theorem gateP_tup {l : List V} {want : Bool} {y n : Prop} : gateP (.tup l) want y n = n := rfl
theorem gateP_yes {want : Bool} {y n : Prop} : gateP (.bool want) want y n = y := by cases want <;> simp [gateP]
theorem gateP_tt {y n : Prop} : gateP (.bool true) true y n = y := gateP_yes
theorem gateP_ff {y n : Prop} : gateP (.bool false) false y n = y := gateP_yes
theorem gateP_tf {y n : Prop} : gateP (.bool true) false y n = n := by simp [gateP]
theorem gateP_ft {y n : Prop} : gateP (.bool false) true y n = n := by simp [gateP]

theorem W.guard {d : Option Nat} {o : MOp} {t : Nat} {want : Bool} {l : List MO} {fr : Fr} {h : Hp} {Q : Fr → Hp → Prop} :
    WPo p ext (⟨d, o, some (t, want)⟩ :: l) fr h Q ↔ gateP (ev fr (.tmp t)) want (WPo p ext (⟨d, o, none⟩ :: l) fr h Q) (WPo p ext l (putO fr d (.tup [])) h Q) := by
  cases e : ev fr (.tmp t)
  case bool b => exact WPo.guard e
  case tup x => exact WPo.guardNo e
  all_goals
    refine ⟨?_, fun h => h.elim⟩
    rintro ⟨n, fr', h', e1, q⟩
    simp only [runOps, gate, e] at e1
    cases e1

/-! ### Frames -/

theorem ev_val {fr : Fr} {v : V} : ev fr (.val v) = v := rfl
theorem ev_put {fr : Fr} {d t : Nat} {v : V} : ev (putO fr (some d) v) (.tmp t) = if t = d then v else ev fr (.tmp t) := by
  simp only [ev, putO, T.get_set]
  by_cases e : t = d
  · rw [if_pos e, if_pos e]
  · rw [if_neg e, if_neg e]
theorem ev_put_same {fr : Fr} {d : Nat} {v : V} : ev (putO fr (some d) v) (.tmp d) = v := by rw [ev_put, if_pos rfl]
theorem ev_put_ne {fr : Fr} {d t : Nat} {v : V} (hne : t ≠ d) : ev (putO fr (some d) v) (.tmp t) = ev fr (.tmp t) := by rw [ev_put, if_neg hne]
theorem put_none {fr : Fr} {v : V} : putO fr none v = fr := rfl
theorem ev_args {l : List V} {t : Nat} : ev (argsFr l 0 .leaf) (.tmp t) = l.getD t (.tup []) := by
  rw [ev_argsFr]
  by_cases hl : t < l.length
  · rw [if_pos ⟨Nat.zero_le _, by omega⟩]; rfl
  · rw [if_neg (by omega)]
    rw [List.getD_eq_getElem?_getD, List.getElem?_eq_none (by omega)]
    simp [ev]


/-! ### Numbers -/

theorem ieq_t {a b : Int} : ieq a b = decide (a = b) := by
  by_cases h : a = b
  · rw [decide_eq_true h, ieq_iff]; exact h
  · rw [decide_eq_false h]
    cases e : ieq a b with
    | false => rfl
    | true => exact absurd (ieq_iff.1 e) h
theorem ilt_t {a b : Int} : ilt a b = decide (a < b) := by
  by_cases h : a < b
  · rw [decide_eq_true h, ilt_iff]; exact h
  · rw [decide_eq_false h]
    cases e : ilt a b with
    | false => rfl
    | true => exact absurd (ilt_iff.1 e) h
theorem keq_self {k : IntKind} : keq k k = true := by cases k <;> rfl

section
variable {tab : Tab} {k : IntKind} {a b : Int}
theorem bin_add : binV tab .add (.int k a) (.int k b) = some (.int k (wr k (a + b))) := by simp only [binV, keq_self, cond_true]; rfl
theorem bin_sub : binV tab .sub (.int k a) (.int k b) = some (.int k (wr k (a - b))) := by simp only [binV, keq_self, cond_true]; rfl
theorem bin_mul : binV tab .mul (.int k a) (.int k b) = some (.int k (wr k (a * b))) := by simp only [binV, keq_self, cond_true]; rfl
theorem bin_quo (hb : b ≠ 0) : binV tab .quo (.int k a) (.int k b) = some (.int k (wr k (Int.tdiv a b))) := by
  have : ieq b (.ofNat 0) = false := by rw [ieq_t]; exact decide_eq_false hb
  simp only [binV, keq_self, cond_true, arith, this, cond_false]
theorem bin_rem (hb : b ≠ 0) : binV tab .rem (.int k a) (.int k b) = some (.int k (Int.tmod a b)) := by
  have : ieq b (.ofNat 0) = false := by rw [ieq_t]; exact decide_eq_false hb
  simp only [binV, keq_self, cond_true, arith, this, cond_false]
theorem bin_and : binV tab .and (.int k a) (.int k b) = some (.int k (wr k (.ofNat (Nat.land (toU k a) (toU k b))))) := by simp only [binV, keq_self, cond_true]; rfl
theorem bin_or : binV tab .or (.int k a) (.int k b) = some (.int k (wr k (.ofNat (Nat.lor (toU k a) (toU k b))))) := by simp only [binV, keq_self, cond_true]; rfl
theorem bin_xor : binV tab .xor (.int k a) (.int k b) = some (.int k (wr k (.ofNat (Nat.xor (toU k a) (toU k b))))) := by simp only [binV, keq_self, cond_true]; rfl
theorem bin_shl {j : IntKind} {n : Nat} : binV tab .shl (.int k a) (.int j (.ofNat n)) = some (.int k (shlI k a n)) := rfl
theorem bin_shr {j : IntKind} {n : Nat} : binV tab .shr (.int k a) (.int j (.ofNat n)) = some (.int k (shrI k a n)) := rfl
theorem bin_eql : binV tab .eql (.int k a) (.int k b) = some (.bool (decide (a = b))) := by simp only [binV, keq_self, cond_true, arith, ieq_t]
theorem bin_neq : binV tab .neq (.int k a) (.int k b) = some (.bool (!decide (a = b))) := by simp only [binV, keq_self, cond_true, arith, ieq_t]
theorem bin_lss : binV tab .lss (.int k a) (.int k b) = some (.bool (decide (a < b))) := by simp only [binV, keq_self, cond_true, arith, ilt_t]
theorem bin_gtr : binV tab .gtr (.int k a) (.int k b) = some (.bool (decide (b < a))) := by simp only [binV, keq_self, cond_true, arith, ilt_t]
theorem bin_leq : binV tab .leq (.int k a) (.int k b) = some (.bool (decide (a ≤ b))) := by
  have : (!ilt b a) = decide (a ≤ b) := by rw [ilt_t]; by_cases h : b < a <;> simp [h] <;> omega
  simp only [binV, keq_self, cond_true, arith, this]
theorem bin_geq : binV tab .geq (.int k a) (.int k b) = some (.bool (decide (b ≤ a))) := by
  have : (!ilt a b) = decide (b ≤ a) := by rw [ilt_t]; by_cases h : a < b <;> simp [h] <;> omega
  simp only [binV, keq_self, cond_true, arith, this]
theorem min2_int : min2V tab (.int k a) (.int k b) = some (.int k (min a b)) := by
  simp only [min2V, keq_self, cond_true, ilt_t]
  by_cases h : b < a <;> simp [h] <;> omega
theorem max2_int : max2V tab (.int k a) (.int k b) = some (.int k (max a b)) := by
  simp only [max2V, keq_self, cond_true, ilt_t]
  by_cases h : a < b <;> simp [h] <;> omega
end

theorem wr_of {n : Int} (h1 : -9223372036854775808 ≤ n) (h2 : n < 9223372036854775808) : wr .i64 n = n := by
  cases n with
  | ofNat m =>
    have : Nat.blt m 9223372036854775808 = true := nblt.2 (by have : (m : Int) < 9223372036854775808 := h2; omega)
    simp only [wr, hiN, this, cond_true]
  | negSucc m =>
    have : Nat.blt m 9223372036854775808 = true := nblt.2 (by have := h1; omega)
    simp only [wr, hiN, sgn, this, cond_true]

/-! ### Effects -/

section
variable {d : Option Nat} {l : List MO} {fr : Fr} {h : Hp} {Q : Fr → Hp → Prop}

def storeH (h : Hp) (sz : Nat) (b o : Nat) (vs : List V) : Option Hp := cond (Nat.beq vs.length sz) (h.write b o vs) none

theorem W.store {sz : Nat} {a x : Opd} : WPo p ext (⟨d, .e (.store sz a x), none⟩ :: l) fr h Q ↔ ptrP (ev fr a) fun b o => optP (storeH h sz b o (ev fr x).cells) fun h1 => WPo p ext l (putO fr d (.tup [])) h1 Q := by
  rw [WPo.eff rfl, ptrP_iff]
  simp only [optP_iff, eW, eV, storeH]
  constructor
  · rintro ⟨v, h1, e, k⟩
    split at e
    case h_2 => cases e
    rename_i b o hb
    refine ⟨b, o, hb, h1, ?_⟩
    rw [cond_eq_ite] at e ⊢
    split at e
    case isFalse => cases e
    rename_i hc
    rw [if_pos hc]
    split at e
    · cases e; rename_i hw; exact ⟨hw, k⟩
    · cases e
  · rintro ⟨b, o, hb, h1, e, k⟩
    refine ⟨.tup [], h1, ?_, k⟩
    rw [hb]
    simp only
    rw [cond_eq_ite] at e ⊢
    split at e
    case isFalse => cases e
    rename_i hc
    rw [if_pos hc, e]

theorem W.append {sz by_ : Nat} {s x : Opd} : WPo p ext (⟨d, .e (.append sz by_ s x), none⟩ :: l) fr h Q ↔ optP (appendV sz by_ h (ev fr s) (ev fr x)) fun r => WPo p ext l (putO fr d r.1) r.2 Q := W.eff rfl
theorem W.appendz {z : List V} {sz by_ : Nat} {s x : Opd} : WPo p ext (⟨d, .e (.appendz z sz by_ s x), none⟩ :: l) fr h Q ↔ optP (appendZ z sz by_ h (ev fr s) (ev fr x)) fun r => WPo p ext l (putO fr d r.1) r.2 Q := W.eff rfl
theorem W.copy {sz : Nat} {a x : Opd} : WPo p ext (⟨d, .e (.copy sz a x), none⟩ :: l) fr h Q ↔ optP (eW fr h (.copy sz a x)) fun r => WPo p ext l (putO fr d r.1) r.2 Q := W.eff rfl
theorem W.text {x : Opd} : WPo p ext (⟨d, .e (.text x), none⟩ :: l) fr h Q ↔ optP (eW fr h (.text x)) fun r => WPo p ext l (putO fr d r.1) r.2 Q := W.eff rfl
theorem W.lookup {sk : Bool} {z : V} {ok : Bool} {m k : Opd} : WPo p ext (⟨d, .e (.lookup sk z ok m k), none⟩ :: l) fr h Q ↔ optP (eW fr h (.lookup sk z ok m k)) fun r => WPo p ext l (putO fr d r.1) r.2 Q := W.eff rfl
theorem W.mapput {sk : Bool} {m k v : Opd} : WPo p ext (⟨d, .e (.mapput sk m k v), none⟩ :: l) fr h Q ↔ optP (eW fr h (.mapput sk m k v)) fun r => WPo p ext l (putO fr d r.1) r.2 Q := W.eff rfl
theorem W.delete {sk : Bool} {m k : Opd} : WPo p ext (⟨d, .e (.delete sk m k), none⟩ :: l) fr h Q ↔ optP (eW fr h (.delete sk m k)) fun r => WPo p ext l (putO fr d r.1) r.2 Q := W.eff rfl
theorem W.lenm {x : Opd} : WPo p ext (⟨d, .e (.lenm x), none⟩ :: l) fr h Q ↔ optP (eW fr h (.lenm x)) fun r => WPo p ext l (putO fr d r.1) r.2 Q := W.eff rfl
theorem W.mark {x : Opd} : WPo p ext (⟨d, .e (.mark x), none⟩ :: l) fr h Q ↔ optP (eW fr h (.mark x)) fun r => WPo p ext l (putO fr d r.1) r.2 Q := W.eff rfl
end

theorem endR_okP {rs : List RV} {Q : V → Hp → Prop} {fr : Fr} {h : Hp} : endR rs Q (.ok fr h) ↔ optP (resV fr h rs) fun r => Q (tupOf r) h := by
  simp only [endR, optP_iff, resP]
  constructor
  · rintro ⟨v, e, k⟩
    split at e
    · rename_i r hr; cases e; exact ⟨r, hr, k⟩
    · cases e
  · rintro ⟨r, e, k⟩
    exact ⟨tupOf r, by rw [e], k⟩
theorem endR_retP {rs : List RV} {Q : V → Hp → Prop} {fr : Fr} {h : Hp} : endR rs Q (.ret fr h) ↔ optP (resV fr h rs) fun r => Q (tupOf r) h := endR_okP

/-! ### Regions whose order is open -/

def stAdd (b : Bool) (i : Nat) (h : Hp) (st : List (Nat × Hp)) : List (Nat × Hp) := cond b ((i + 1, h) :: st) st

theorem WPd.nil {i : Nat} {fr : Fr} {h : Hp} {st : List (Nat × Hp)} {rds : List Rd} {Q : Fr → Hp → Prop} : WPd p ext [] i fr h st rds Q ↔ allStill st rds = true ∧ Q fr h := by
  constructor
  · rintro ⟨n, fr', h', e, q⟩
    simp only [runD] at e
    rw [cond_eq_ite] at e; split at e
    · rename_i hs; cases e; exact ⟨hs, q⟩
    · cases e
  · rintro ⟨hs, q⟩
    exact ⟨0, fr, h, by simp [runD, hs], q⟩

theorem runD_none {C : CallF} {env : Env} {d : Option Nat} {o : MOp} {lo hi : Nat} {l : List DO} {i : Nat} {fr : Fr} {h : Hp} {st : List (Nat × Hp)} {rds : List Rd} {r : Fr × Hp} :
    runD env C (⟨⟨d, o, none⟩, lo, hi⟩ :: l) i fr h st rds = some r ↔ ∃ v h1, opV env C fr h o = some (v, h1) ∧ runD env C l (i + 1) (putO fr d v) h1 (cond (isE o) ((i + 1, h1) :: st) st) (rdOf fr h ⟨⟨d, o, none⟩, lo, hi⟩ ++ rds) = some r := by
  simp only [runD, gate]
  cases e : opV env C fr h o with
  | none => simp
  | some q =>
    obtain ⟨v, h1⟩ := q
    simp only [Option.some.injEq, Prod.mk.injEq]
    constructor
    · intro hh; exact ⟨v, h1, ⟨rfl, rfl⟩, hh⟩
    · rintro ⟨_, _, ⟨rfl, rfl⟩, hh⟩; exact hh

section
variable {d : Option Nat} {lo hi : Nat} {l : List DO} {i : Nat} {fr : Fr} {h : Hp} {st : List (Nat × Hp)} {rds : List Rd} {Q : Fr → Hp → Prop}

theorem D.pure {o : POp} : WPd p ext (⟨⟨d, .p o, none⟩, lo, hi⟩ :: l) i fr h st rds Q ↔ optP (pV p.env fr o) fun v => WPd p ext l (i + 1) (putO fr d v) h st rds Q := by
  rw [optP_iff]
  constructor
  · rintro ⟨n, fr', h', e, q⟩
    obtain ⟨v, h1, e1, e2⟩ := runD_none.1 e
    simp only [opV] at e1
    split at e1
    · rename_i v' hv; cases e1; exact ⟨_, hv, n, fr', h', e2, q⟩
    · cases e1
  · rintro ⟨v, e1, n, fr', h', e2, q⟩
    exact ⟨n, fr', h', runD_none.2 ⟨v, h, by simp [opV, e1], e2⟩, q⟩

theorem D.alloc {o : AOp} : WPd p ext (⟨⟨d, .a o, none⟩, lo, hi⟩ :: l) i fr h st rds Q ↔ optP (aV fr o) fun r => WPd p ext l (i + 1) (putO fr d (r.2 h.next)) (h.new r.1) st rds Q := by
  rw [optP_iff]
  constructor
  · rintro ⟨n, fr', h', e, q⟩
    obtain ⟨v, h1, e1, e2⟩ := runD_none.1 e
    simp only [opV] at e1
    split at e1
    · rename_i b mk hv; cases e1; exact ⟨_, hv, n, fr', h', e2, q⟩
    · cases e1
  · rintro ⟨⟨b, mk⟩, e1, n, fr', h', e2, q⟩
    exact ⟨n, fr', h', runD_none.2 ⟨_, _, by simp only [opV, e1], e2⟩, q⟩

theorem D.load1 {x : Opd} : WPd p ext (⟨⟨d, .load1 x, none⟩, lo, hi⟩ :: l) i fr h st rds Q ↔ ptrP (ev fr x) fun b o => optP (h.at1 b o) fun v => WPd p ext l (i + 1) (putO fr d v) h st (⟨lo, hi, b, o, [v]⟩ :: rds) Q := by
  rw [ptrP_iff]
  simp only [optP_iff, Hp.at1_iff]
  constructor
  · rintro ⟨n, fr', h', e, q⟩
    obtain ⟨v, h1, e1, e2⟩ := runD_none.1 e
    simp only [opV] at e1
    split at e1
    case h_2 => cases e1
    rename_i b o hx
    split at e1
    case h_2 => cases e1
    rename_i v' r hr
    cases e1
    have hlen : (v :: r).length = 1 := by
      unfold Hp.read at hr
      split at hr
      · obtain ⟨e3, e4⟩ := takeX_eq hr
        rw [e3, List.length_take]; simp at e4 ⊢; omega
      · cases hr
    have hr0 : r = [] := by cases r; rfl; simp at hlen
    subst hr0
    refine ⟨b, o, hx, v, hr, n, fr', h', ?_, q⟩
    simpa [rdOf, hx, hr, isE] using e2
  · rintro ⟨b, o, hx, v, hr, n, fr', h', e2, q⟩
    exact ⟨n, fr', h', runD_none.2 ⟨v, h, by simp [opV, hx, hr], by simpa [rdOf, hx, hr, isE] using e2⟩, q⟩

theorem D.loadn {x : Opd} {m : Nat} : WPd p ext (⟨⟨d, .loadn m x, none⟩, lo, hi⟩ :: l) i fr h st rds Q ↔ ptrP (ev fr x) fun b o => optP (h.read b o m) fun v => WPd p ext l (i + 1) (putO fr d (.agg v)) h st (⟨lo, hi, b, o, v⟩ :: rds) Q := by
  rw [ptrP_iff]
  simp only [optP_iff]
  constructor
  · rintro ⟨n, fr', h', e, q⟩
    obtain ⟨v, h1, e1, e2⟩ := runD_none.1 e
    simp only [opV] at e1
    split at e1
    case h_2 => cases e1
    rename_i b o hx
    split at e1
    case h_2 => cases e1
    rename_i r hr
    cases e1
    refine ⟨b, o, hx, r, hr, n, fr', h', ?_, q⟩
    simpa [rdOf, hx, hr, isE] using e2
  · rintro ⟨b, o, hx, v, hr, n, fr', h', e2, q⟩
    exact ⟨n, fr', h', runD_none.2 ⟨.agg v, h, by simp [opV, hx, hr], by simpa [rdOf, hx, hr, isE] using e2⟩, q⟩

theorem D.eff {o : EOp} (ho : o.calls = false) : WPd p ext (⟨⟨d, .e o, none⟩, lo, hi⟩ :: l) i fr h st rds Q ↔ optP (eW fr h o) fun r => WPd p ext l (i + 1) (putO fr d r.1) r.2 ((i + 1, r.2) :: st) rds Q := by
  rw [optP_iff]
  constructor
  · rintro ⟨n, fr', h', e, q⟩
    obtain ⟨v, h1, e1, e2⟩ := runD_none.1 e
    exact ⟨(v, h1), (eV_calls ho).symm.trans e1, n, fr', h', e2, q⟩
  · rintro ⟨⟨v, h1⟩, e1, n, fr', h', e2, q⟩
    exact ⟨n, fr', h', runD_none.2 ⟨v, h1, (eV_calls ho).trans e1, e2⟩, q⟩

theorem D.store {sz : Nat} {a x : Opd} : WPd p ext (⟨⟨d, .e (.store sz a x), none⟩, lo, hi⟩ :: l) i fr h st rds Q ↔ ptrP (ev fr a) fun b o => optP (storeH h sz b o (ev fr x).cells) fun h1 => WPd p ext l (i + 1) (putO fr d (.tup [])) h1 ((i + 1, h1) :: st) rds Q := by
  rw [D.eff rfl, ptrP_iff]
  simp only [optP_iff, eW, eV, storeH]
  constructor
  · rintro ⟨⟨v, h1⟩, e, k⟩
    split at e
    case h_2 => cases e
    rename_i b o hb
    refine ⟨b, o, hb, h1, ?_⟩
    rw [cond_eq_ite] at e ⊢
    split at e
    case isFalse => cases e
    rename_i hc
    rw [if_pos hc]
    split at e
    · cases e; rename_i hw; exact ⟨hw, k⟩
    · cases e
  · rintro ⟨b, o, hb, h1, e, k⟩
    refine ⟨(.tup [], h1), ?_, k⟩
    rw [hb]
    simp only
    rw [cond_eq_ite] at e ⊢
    split at e
    case isFalse => cases e
    rename_i hc
    rw [if_pos hc, e]
theorem D.append {sz by_ : Nat} {s x : Opd} : WPd p ext (⟨⟨d, .e (.append sz by_ s x), none⟩, lo, hi⟩ :: l) i fr h st rds Q ↔ optP (appendV sz by_ h (ev fr s) (ev fr x)) fun r => WPd p ext l (i + 1) (putO fr d r.1) r.2 ((i + 1, r.2) :: st) rds Q := D.eff rfl
theorem D.appendz {z : List V} {sz by_ : Nat} {s x : Opd} : WPd p ext (⟨⟨d, .e (.appendz z sz by_ s x), none⟩, lo, hi⟩ :: l) i fr h st rds Q ↔ optP (appendZ z sz by_ h (ev fr s) (ev fr x)) fun r => WPd p ext l (i + 1) (putO fr d r.1) r.2 ((i + 1, r.2) :: st) rds Q := D.eff rfl
theorem D.copy {sz : Nat} {a x : Opd} : WPd p ext (⟨⟨d, .e (.copy sz a x), none⟩, lo, hi⟩ :: l) i fr h st rds Q ↔ optP (eW fr h (.copy sz a x)) fun r => WPd p ext l (i + 1) (putO fr d r.1) r.2 ((i + 1, r.2) :: st) rds Q := D.eff rfl
theorem D.text {x : Opd} : WPd p ext (⟨⟨d, .e (.text x), none⟩, lo, hi⟩ :: l) i fr h st rds Q ↔ optP (eW fr h (.text x)) fun r => WPd p ext l (i + 1) (putO fr d r.1) r.2 ((i + 1, r.2) :: st) rds Q := D.eff rfl
theorem D.lookup {sk : Bool} {z : V} {ok : Bool} {m k : Opd} : WPd p ext (⟨⟨d, .e (.lookup sk z ok m k), none⟩, lo, hi⟩ :: l) i fr h st rds Q ↔ optP (eW fr h (.lookup sk z ok m k)) fun r => WPd p ext l (i + 1) (putO fr d r.1) r.2 ((i + 1, r.2) :: st) rds Q := D.eff rfl
theorem D.mapput {sk : Bool} {m k v : Opd} : WPd p ext (⟨⟨d, .e (.mapput sk m k v), none⟩, lo, hi⟩ :: l) i fr h st rds Q ↔ optP (eW fr h (.mapput sk m k v)) fun r => WPd p ext l (i + 1) (putO fr d r.1) r.2 ((i + 1, r.2) :: st) rds Q := D.eff rfl
theorem D.delete {sk : Bool} {m k : Opd} : WPd p ext (⟨⟨d, .e (.delete sk m k), none⟩, lo, hi⟩ :: l) i fr h st rds Q ↔ optP (eW fr h (.delete sk m k)) fun r => WPd p ext l (i + 1) (putO fr d r.1) r.2 ((i + 1, r.2) :: st) rds Q := D.eff rfl
theorem D.lenm {x : Opd} : WPd p ext (⟨⟨d, .e (.lenm x), none⟩, lo, hi⟩ :: l) i fr h st rds Q ↔ optP (eW fr h (.lenm x)) fun r => WPd p ext l (i + 1) (putO fr d r.1) r.2 ((i + 1, r.2) :: st) rds Q := D.eff rfl
theorem D.mark {x : Opd} : WPd p ext (⟨⟨d, .e (.mark x), none⟩, lo, hi⟩ :: l) i fr h st rds Q ↔ optP (eW fr h (.mark x)) fun r => WPd p ext l (i + 1) (putO fr d r.1) r.2 ((i + 1, r.2) :: st) rds Q := D.eff rfl

theorem D.call {f : Nat} {args : List Opd} : WPd p ext (⟨⟨d, .e (.call f args), none⟩, lo, hi⟩ :: l) i fr h st rds Q ↔ WPc p ext f (evs fr args) h fun v h1 => WPd p ext l (i + 1) (putO fr d v) h1 ((i + 1, h1) :: st) rds Q := by
  constructor
  · rintro ⟨n, fr', h', e, q⟩
    obtain ⟨v, h1, e1, e2⟩ := runD_none.1 e
    exact ⟨n, v, h1, e1, n, fr', h', e2, q⟩
  · rintro ⟨n, v, h1, e, m, fr', h', e2, q⟩
    have e1 := call_mono (p := p) (ext := ext) (Nat.le_max_left n m) _ _ _ _ e
    have e3 := runD_mono (call_mono (p := p) (ext := ext) (Nat.le_max_right n m)) e2
    exact ⟨max n m, fr', h', runD_none.2 ⟨v, h1, e1, e3⟩, q⟩

theorem D.extern {f : Nat} {args : List Opd} : WPd p ext (⟨⟨d, .e (.extern f args), none⟩, lo, hi⟩ :: l) i fr h st rds Q ↔ WPc p ext f (evs fr args) h fun v h1 => WPd p ext l (i + 1) (putO fr d v) h1 ((i + 1, h1) :: st) rds Q := by
  constructor
  · rintro ⟨n, fr', h', e, q⟩
    obtain ⟨v, h1, e1, e2⟩ := runD_none.1 e
    exact ⟨n, v, h1, e1, n, fr', h', e2, q⟩
  · rintro ⟨n, v, h1, e, m, fr', h', e2, q⟩
    have e1 := call_mono (p := p) (ext := ext) (Nat.le_max_left n m) _ _ _ _ e
    have e3 := runD_mono (call_mono (p := p) (ext := ext) (Nat.le_max_right n m)) e2
    exact ⟨max n m, fr', h', runD_none.2 ⟨v, h1, e1, e3⟩, q⟩

theorem D.callv {x : Opd} {args : List Opd} : WPd p ext (⟨⟨d, .e (.callv x args), none⟩, lo, hi⟩ :: l) i fr h st rds Q ↔
    funP (ev fr x) fun f first captured => WPc p ext f (first ++ evs fr args ++ captured) h fun v h1 => WPd p ext l (i + 1) (putO fr d v) h1 ((i + 1, h1) :: st) rds Q := by
  rw [funP_iff]
  constructor
  · rintro ⟨n, fr', h', e, q⟩
    obtain ⟨v, h1, e1, e2⟩ := runD_none.1 e
    simp only [opV, eV] at e1
    split at e1
    · rename_i f a c hx; exact ⟨f, a, c, hx, n, v, h1, e1, n, fr', h', e2, q⟩
    · cases e1
  · rintro ⟨f, a, c, hx, n, v, h1, e, m, fr', h', e2, q⟩
    have e1 := call_mono (p := p) (ext := ext) (Nat.le_max_left n m) _ _ _ _ e
    have e3 := runD_mono (call_mono (p := p) (ext := ext) (Nat.le_max_right n m)) e2
    exact ⟨max n m, fr', h', runD_none.2 ⟨v, h1, by simp only [opV, eV, hx]; exact e1, e3⟩, q⟩

theorem D.guard {o : MOp} {t : Nat} {want : Bool} :
    WPd p ext (⟨⟨d, o, some (t, want)⟩, lo, hi⟩ :: l) i fr h st rds Q ↔ gateP (ev fr (.tmp t)) want (WPd p ext (⟨⟨d, o, none⟩, lo, hi⟩ :: l) i fr h st rds Q) (WPd p ext l (i + 1) (putO fr d (.tup [])) h (stAdd (isE o) i h st) rds Q) := by
  have key : ∀ C r, runD p.env C (⟨⟨d, o, some (t, want)⟩, lo, hi⟩ :: l) i fr h st rds = some r ↔ gateP (ev fr (.tmp t)) want (runD p.env C (⟨⟨d, o, none⟩, lo, hi⟩ :: l) i fr h st rds = some r) (runD p.env C l (i + 1) (putO fr d (.tup [])) h (stAdd (isE o) i h st) rds = some r) := by
    intro C r
    cases e : ev fr (.tmp t)
    case bool b =>
      have rd : rdOf fr h ⟨⟨d, o, some (t, want)⟩, lo, hi⟩ = rdOf fr h ⟨⟨d, o, none⟩, lo, hi⟩ := rfl
      cases b <;> cases want <;> simp [runD, gate, e, gateP, beqB, stAdd, rd]
    case tup x => simp [runD, gate, e, gateP, stAdd]
    all_goals simp [runD, gate, e, gateP]
  constructor
  · rintro ⟨n, fr', h', e, q⟩
    have := (key _ _).1 e
    cases e : ev fr (.tmp t) <;> rw [e] at this <;> simp only [gateP] at this ⊢
    · exact ⟨fun hb => ⟨n, fr', h', this.1 hb, q⟩, fun hb => ⟨n, fr', h', this.2 hb, q⟩⟩
    · exact ⟨n, fr', h', this, q⟩
  · intro hg
    cases e : ev fr (.tmp t) <;> rw [e] at hg <;> simp only [gateP] at hg
    · rename_i b
      by_cases hb : b = want
      · obtain ⟨n, fr', h', e1, q⟩ := hg.1 hb
        refine ⟨n, fr', h', (key _ _).2 ?_, q⟩
        rw [e]
        exact ⟨fun _ => e1, fun hb' => by rw [hb'] at hb; cases want <;> cases hb⟩
      · have hb' : b = !want := by cases b <;> cases want <;> simp_all
        obtain ⟨n, fr', h', e1, q⟩ := hg.2 hb'
        refine ⟨n, fr', h', (key _ _).2 ?_, q⟩
        rw [e]
        exact ⟨fun hb'' => absurd hb'' hb, fun _ => e1⟩
    · obtain ⟨n, fr', h', e1, q⟩ := hg
      refine ⟨n, fr', h', (key _ _).2 ?_, q⟩
      rw [e]
      exact e1
end

@[congr] theorem optP_congr {α : Type} {o o' : Option α} {K : α → Prop} (h : o = o') : optP o K = optP o' K := by rw [h]
@[congr] theorem condP_congr {v v' : V} {a b : Prop} (h : v = v') : condP v a b = condP v' a b := by rw [h]
@[congr] theorem gateP_congr {v v' : V} {w : Bool} {a b : Prop} (h : v = v') : gateP v w a b = gateP v' w a b := by rw [h]
@[congr] theorem ptrP_congr {v v' : V} {K : Nat → Nat → Prop} (h : v = v') : ptrP v K = ptrP v' K := by rw [h]
@[congr] theorem funP_congr {v v' : V} {K : Nat → List V → List V → Prop} (h : v = v') : funP v K = funP v' K := by rw [h]
@[congr] theorem WP_congr {c : MCode} {fr fr' : Fr} {h h' : Hp} {Q : Res → Prop} (e1 : fr = fr') (e2 : h = h') : WP p ext c fr h Q = WP p ext c fr' h' Q := by rw [e1, e2]
@[congr] theorem WPo_congr {l : List MO} {fr fr' : Fr} {h h' : Hp} {Q : Fr → Hp → Prop} (e1 : fr = fr') (e2 : h = h') : WPo p ext l fr h Q = WPo p ext l fr' h' Q := by rw [e1, e2]
@[congr] theorem WPd_congr {l : List DO} {i : Nat} {fr fr' : Fr} {h h' : Hp} {st : List (Nat × Hp)} {rds : List Rd} {Q : Fr → Hp → Prop} (e1 : fr = fr') (e2 : h = h') : WPd p ext l i fr h st rds Q = WPd p ext l i fr' h' st rds Q := by rw [e1, e2]
@[congr] theorem WPc_congr {f : Nat} {args args' : List V} {h h' : Hp} {Q : V → Hp → Prop} (e1 : args = args') (e2 : h = h') : WPc p ext f args h Q = WPc p ext f args' h' Q := by rw [e1, e2]

attribute [simp] WP.skip WP.exit WP.ret WP.region WP.dregion WP.seq WP.block W.cond WPo.nil W.pure W.alloc W.load1 W.loadn W.callv WPo.call WPo.extern W.guard W.store W.append W.appendz W.copy W.text W.lookup W.mapput W.delete W.lenm W.mark
attribute [simp] D.store D.append D.appendz D.copy D.text D.lookup D.mapput D.delete D.lenm D.mark WPd.nil D.pure D.alloc D.load1 D.loadn D.call D.extern D.callv D.guard stAdd isE
attribute [simp] optP_some optP_none boolP_bool condP_tt condP_ff ptrP_ptr funP_func gateP_tup gateP_tt gateP_ff gateP_tf gateP_ft ev_val ev_put put_none ev_args endR_okP endR_retP
attribute [simp] bin_add bin_sub bin_mul bin_and bin_or bin_xor bin_eql bin_neq bin_lss bin_gtr bin_leq bin_geq min2_int max2_int
attribute [simp] evs evo resV res1 tupOf V.cells

/-! ### Operations that ask values alone, one by one -/

def pickV (c a b : V) : Option V := match c with
  | .bool true => some a
  | .bool false => some b
  | _ => none
def nilchkV (x : V) : Option V := match x with
  | .ptr b o => some (.ptr b o)
  | .func f a c => some (.func f a c)
  | _ => none
def eqP (ty : ETy) (neg : Bool) (x y : V) : Option V := match eqV ty x y with
  | some r => some (.bool (cond neg (!r) r))
  | none => none
def eqiP (ints : List Nat) (lit neg : Bool) (x y : V) : Option V := match eqiV ints lit x y with
  | some r => some (.bool (cond neg (!r) r))
  | none => none
def negV (x : V) : Option V := match x with
  | .int k n => some (.int k (wr k (Int.sub (.ofNat 0) n)))
  | _ => none
def notV (x : V) : Option V := match x with
  | .bool b => some (.bool (!b))
  | _ => none
def complV (x : V) : Option V := match x with
  | .int k n => some (.int k (wr k (.ofNat (Nat.xor (Nat.sub (pow2 k) 1) (toU k n)))))
  | _ => none
def faddrV (off : Nat) (x : V) : Option V := match x with
  | .ptr b o => some (.ptr b (o + off))
  | _ => none
def field1V (off : Nat) (x : V) : Option V := match x with
  | .agg l => getX l off
  | _ => none
def fieldnV (off n : Nat) (x : V) : Option V := match x with
  | .agg l => match takeX n (l.drop off) with
    | some r => some (.agg r)
    | none => none
  | _ => none
def iaddrV (sz : Nat) (x i : V) : Option V := match x with
  | .slice b o sz' len _ _ => match natOf i with
    | some n => cond (Nat.blt n len) (cond (Nat.beq sz sz') (some (.ptr b (o + n * sz))) none) none
    | none => none
  | _ => none
def iaddraV (len sz : Nat) (x i : V) : Option V := match x with
  | .ptr b o => match natOf i with
    | some n => cond (Nat.blt n len) (some (.ptr b (o + n * sz))) none
    | none => none
  | _ => none
def idxsV (x i : V) : Option V := match x with
  | .str s => match natOf i with
    | some n => match getX s n with
      | some c => some (.int .u8 (.ofNat c))
      | none => none
    | none => none
  | _ => none
def idx1V (len : Nat) (x i : V) : Option V := match x with
  | .agg l => match natOf i with
    | some n => cond (Nat.blt n len) (getX l n) none
    | none => none
  | _ => none
def idxnV (len sz : Nat) (x i : V) : Option V := match x with
  | .agg l => match natOf i with
    | some n => cond (Nat.blt n len) (match takeX sz (l.drop (n * sz)) with
      | some r => some (.agg r)
      | none => none) none
    | none => none
  | _ => none
def extV' (i : Nat) (x : V) : Option V := match x with
  | .tup l => getX l i
  | _ => none
def lensV (x : V) : Option V := match x with
  | .str s => some (.int .i64 (.ofNat s.length))
  | _ => none
def lenbV (x : V) : Option V := match x with
  | .nilslice => some (.int .i64 (.ofNat 0))
  | .slice _ _ _ len _ _ => some (.int .i64 (.ofNat len))
  | _ => none
def capsV (x : V) : Option V := match x with
  | .nilslice => some (.int .i64 (.ofNat 0))
  | .slice _ _ _ _ c true => some (.int .i64 (.ofNat c))
  | _ => none
def aggO (o : Option (List V)) : Option V := match o with
  | some c => some (.agg c)
  | none => none

section
variable {env : Env} {fr : Fr} {x y z : Opd}
theorem pV_mov : pV env fr (.mov x) = some (ev fr x) := rfl
theorem pV_pick : pV env fr (.pick x y z) = pickV (ev fr x) (ev fr y) (ev fr z) := rfl
theorem pV_build {c : List V} {l : List (Nat × Nat × Opd)} : pV env fr (.build c l) = aggO (fillV c (evParts fr l)) := rfl
theorem pV_nilchk : pV env fr (.nilchk x) = nilchkV (ev fr x) := rfl
theorem pV_bin {op : BinOp} : pV env fr (.bin op x y) = binV env.tab op (ev fr x) (ev fr y) := rfl
theorem pV_eq {ty : ETy} {neg : Bool} : pV env fr (.eq ty neg x y) = eqP ty neg (ev fr x) (ev fr y) := rfl
theorem pV_eqi {lit neg : Bool} : pV env fr (.eqi lit neg x y) = eqiP env.ints lit neg (ev fr x) (ev fr y) := rfl
theorem pV_neg : pV env fr (.neg x) = negV (ev fr x) := rfl
theorem pV_not : pV env fr (.not x) = notV (ev fr x) := rfl
theorem pV_compl : pV env fr (.compl x) = complV (ev fr x) := rfl
theorem pV_conv {c : CTy} : pV env fr (.conv c x) = convV c (ev fr x) := rfl
theorem pV_mkiface {t : Nat} : pV env fr (.mkiface t x) = some (.iface t (ev fr x)) := rfl
theorem pV_mkfunc {f : Nat} {a c : List Opd} : pV env fr (.mkfunc f a c) = some (.func f (evs fr a) (evs fr c)) := rfl
theorem pV_slc {sz : Nat} {lo hi mx : Option Opd} : pV env fr (.slc sz x lo hi mx) = slcV sz (ev fr x) (evo fr lo) (evo fr hi) (evo fr mx) := rfl
theorem pV_sls {lo hi : Option Opd} : pV env fr (.sls x lo hi) = slsV (ev fr x) (evo fr lo) (evo fr hi) := rfl
theorem pV_sla {n sz : Nat} {lo hi mx : Option Opd} : pV env fr (.sla n sz x lo hi mx) = slaV n sz (ev fr x) (evo fr lo) (evo fr hi) (evo fr mx) := rfl
theorem pV_faddr {off : Nat} : pV env fr (.faddr off x) = faddrV off (ev fr x) := rfl
theorem pV_field1 {off : Nat} : pV env fr (.field1 off x) = field1V off (ev fr x) := rfl
theorem pV_fieldn {off n : Nat} : pV env fr (.fieldn off n x) = fieldnV off n (ev fr x) := rfl
theorem pV_iaddr {sz : Nat} : pV env fr (.iaddr sz x y) = iaddrV sz (ev fr x) (ev fr y) := rfl
theorem pV_iaddra {n sz : Nat} : pV env fr (.iaddra n sz x y) = iaddraV n sz (ev fr x) (ev fr y) := rfl
theorem pV_idxs : pV env fr (.idxs x y) = idxsV (ev fr x) (ev fr y) := rfl
theorem pV_idx1 {n : Nat} : pV env fr (.idx1 n x y) = idx1V n (ev fr x) (ev fr y) := rfl
theorem pV_idxn {n sz : Nat} : pV env fr (.idxn n sz x y) = idxnV n sz (ev fr x) (ev fr y) := rfl
theorem pV_ext {i : Nat} : pV env fr (.ext x i) = extV' i (ev fr x) := rfl
theorem pV_lens : pV env fr (.lens x) = lensV (ev fr x) := rfl
theorem pV_lenb : pV env fr (.lenb x) = lenbV (ev fr x) := rfl
theorem pV_lena {n : Nat} : pV env fr (.lena n) = some (.int .i64 (.ofNat n)) := rfl
theorem pV_caps : pV env fr (.caps x) = capsV (ev fr x) := rfl
theorem pV_min {l : List Opd} : pV env fr (.min (x :: l)) = foldV (min2V env.tab) (ev fr x) (evs fr l) := rfl
theorem pV_max {l : List Opd} : pV env fr (.max (x :: l)) = foldV (max2V env.tab) (ev fr x) (evs fr l) := rfl
end

theorem pickV_t {a b : V} : pickV (.bool true) a b = some a := rfl
theorem pickV_f {a b : V} : pickV (.bool false) a b = some b := rfl
theorem nilchkV_ptr {b o : Nat} : nilchkV (.ptr b o) = some (.ptr b o) := rfl
theorem nilchkV_func {f : Nat} {a c : List V} : nilchkV (.func f a c) = some (.func f a c) := rfl
theorem eqP_some {ty : ETy} {neg r : Bool} {x y : V} (h : eqV ty x y = some r) : eqP ty neg x y = some (.bool (cond neg (!r) r)) := by simp only [eqP, h]
theorem notV_bool {b : Bool} : notV (.bool b) = some (.bool (!b)) := rfl
theorem negV_int {k : IntKind} {n : Int} : negV (.int k n) = some (.int k (wr k (-n))) := by
  simp only [negV]
  rw [show Int.sub (.ofNat 0) n = -n from by show (0 : Int) - n = -n; omega]
theorem faddrV_ptr {off b o : Nat} : faddrV off (.ptr b o) = some (.ptr b (o + off)) := rfl
theorem field1V_agg {off : Nat} {l : List V} : field1V off (.agg l) = getX l off := rfl
theorem iaddrV_slice {sz b o len c n : Nat} {ex : Bool} (h : n < len) : iaddrV sz (.slice b o sz len c ex) (.int .i64 (n : Int)) = some (.ptr b (o + n * sz)) := by
  show cond (Nat.blt n len) (cond (Nat.beq sz sz) _ _) none = _
  rw [show Nat.blt n len = true from nblt.2 h, show Nat.beq sz sz = true from nbeq.2 rfl]
  rfl
theorem extV'_tup {i : Nat} {l : List V} : extV' i (.tup l) = getX l i := rfl
theorem lensV_str {s : List Nat} : lensV (.str s) = some (.int .i64 (s.length : Int)) := rfl
theorem lenbV_nil : lenbV .nilslice = some (.int .i64 0) := rfl
theorem lenbV_slice {b o sz len c : Nat} {ex : Bool} : lenbV (.slice b o sz len c ex) = some (.int .i64 (len : Int)) := rfl
theorem aggO_some {c : List V} : aggO (some c) = some (.agg c) := rfl
theorem convV_int {k j : IntKind} {n : Int} : convV (.int k) (.int j n) = some (.int k (wr k n)) := rfl
theorem foldV_nil {f : V → V → Option V} {x : V} : foldV f x [] = some x := rfl
theorem foldV_cons {f : V → V → Option V} {x y : V} {l : List V} : foldV f x (y :: l) = (f x y).bind fun z => foldV f z l := by
  simp only [foldV]; cases f x y <;> rfl

attribute [simp] pV_mov pV_pick pV_build pV_nilchk pV_bin pV_eq pV_eqi pV_neg pV_not pV_compl pV_conv pV_mkiface pV_mkfunc pV_slc pV_sls pV_sla pV_faddr pV_field1 pV_fieldn pV_iaddr pV_iaddra pV_idxs pV_idx1 pV_idxn pV_ext pV_lens pV_lenb pV_lena pV_caps pV_min pV_max
attribute [simp] pickV_t pickV_f nilchkV_ptr nilchkV_func notV_bool negV_int faddrV_ptr field1V_agg iaddrV_slice extV'_tup lensV_str lenbV_nil lenbV_slice aggO_some convV_int foldV_nil foldV_cons

end Go.Vm
