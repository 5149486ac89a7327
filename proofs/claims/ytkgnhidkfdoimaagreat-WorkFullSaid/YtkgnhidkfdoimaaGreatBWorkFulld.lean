/-
 Texts that the claim's last one rests on, joined.
-/
import Derived.Test.YtkgnhidkfdoimaaGreatBWorkFullc
import Derived.WideKeyArgs
import Derived.ChangeSlices

section
namespace Go.Vm
variable {p : Prog} {ext : Ext}
theorem WP.skip {fr : Fr} {h : Hp} {Q : Res → Prop} : WP p ext .skip fr h Q ↔ Q (.ok fr h) := by
 refine ⟨?_, wp_skip'⟩;rintro ⟨n, hn, q⟩
 cases n with
 | zero => exact absurd rfl hn
 | succ n => exact q
theorem WP.exit {id : Nat} {fr : Fr} {h : Hp} {Q : Res → Prop} : WP p ext (.exit id) fr h Q ↔ Q (.exit id fr h) := by
 refine ⟨?_, wp_exit'⟩;rintro ⟨n, hn, q⟩
 cases n with
 | zero => exact absurd rfl hn
 | succ n => exact q
theorem WP.ret {fr : Fr} {h : Hp} {Q : Res → Prop} : WP p ext .ret fr h Q ↔ Q (.ret fr h) := by
 refine ⟨?_, wp_ret'⟩;rintro ⟨n, hn, q⟩
 cases n with
 | zero => exact absurd rfl hn
 | succ n => exact q
theorem WP.region {l : List MO} {fr : Fr} {h : Hp} {Q : Res → Prop} : WP p ext (.region l) fr h Q ↔ WPo p ext l fr h fun fr' h' => Q (.ok fr' h') := by
 refine ⟨?_, wp_region'⟩;rintro ⟨n, hn, q⟩
 cases n with
 | zero => exact absurd rfl hn
 | succ n =>
  rw [exec_region] at hn q
  cases e : runOps p.env (callV p ext (exec p ext n)) l fr h with
  | none => rw [e] at hn; exact absurd rfl hn
  | some r => rw [e] at q; exact ⟨n, r.1, r.2, e, q⟩
theorem WP.dregion {l : List DO} {fr : Fr} {h : Hp} {Q : Res → Prop} : WP p ext (.dregion l) fr h Q ↔ WPd p ext l 0 fr h [(0, h)] [] fun fr' h' => Q (.ok fr' h') := by
 refine ⟨?_, wp_dregion'⟩;rintro ⟨n, hn, q⟩
 cases n with
 | zero => exact absurd rfl hn
 | succ n =>
  rw [exec_dregion] at hn q
  cases e : runD p.env (callV p ext (exec p ext n)) l 0 fr h [(0, h)] [] with
  | none => rw [e] at hn; exact absurd rfl hn
  | some r => rw [e] at q; exact ⟨n, r.1, r.2, e, q⟩
theorem WP.seq {a b : MCode} {fr : Fr} {h : Hp} {Q : Res → Prop} : WP p ext (.seq a b) fr h Q ↔ WP p ext a fr h (thenR Q fun fr' h' => WP p ext b fr' h' Q) := by
 refine ⟨?_, wp_seq'⟩;rintro ⟨n, hn, q⟩
 cases n with
 | zero => exact absurd rfl hn
 | succ n =>
  rw [exec_seq] at hn q
  cases e : exec p ext n a fr h with
  | fail => rw [e] at hn; exact absurd rfl hn
  | ok fr' h' => rw [e] at q hn; exact ⟨n, by rw [e]; exact (by simp), by rw [e]; exact ⟨n, hn, q⟩⟩
  | exit id fr' h' => rw [e] at q; exact ⟨n, by rw [e]; simp, by rw [e]; exact q⟩
  | ret fr' h' => rw [e] at q; exact ⟨n, by rw [e]; simp, by rw [e]; exact q⟩
theorem WP.cond {c : Opd} {a b : MCode} {fr : Fr} {h : Hp} {Q : Res → Prop} : WP p ext (.cond c a b) fr h Q ↔ ∃ t, ev fr c = .bool t ∧ (t = true → WP p ext a fr h Q) ∧ (t = false → WP p ext b fr h Q) := by
 refine ⟨?_, fun ⟨t, h1, h2, h3⟩ => wp_cond' t h1 h2 h3⟩;rintro ⟨n, hn, q⟩
 cases n with
 | zero => exact absurd rfl hn
 | succ n =>
  rw [exec_cond] at hn q;split at hn
  ·rename_i e; rw [e] at q; exact ⟨true, e, fun _ => ⟨n, hn, q⟩, fun h => by cases h⟩
  ·rename_i e; rw [e] at q; exact ⟨false, e, fun h => (by cases h), fun _ => ⟨n, hn, q⟩⟩
  ·exact absurd rfl hn
theorem WP.block {id : Nat} {c : MCode} {fr : Fr} {h : Hp} {Q : Res → Prop} : WP p ext (.block id c) fr h Q ↔ WP p ext c fr h (blockR id Q) := by
 refine ⟨?_, wp_block'⟩;rintro ⟨n, hn, q⟩
 cases n with
 | zero => exact absurd rfl hn
 | succ n =>
  rw [exec_block] at hn q
  cases e : exec p ext n c fr h with
  | fail => rw [e] at hn; exact absurd rfl hn
  | ok fr' h' => rw [e] at q; exact ⟨n, by rw [e]; simp, by rw [e]; exact q⟩
  | ret fr' h' => rw [e] at q; exact ⟨n, by rw [e]; simp, by rw [e]; exact q⟩
  | exit id' fr' h' =>
   rw [e] at q;refine ⟨n, by rw [e]; simp, ?_⟩;rw [e];simp only [blockR_exit] at q ⊢;cases hb : Nat.beq id' id <;> rw [hb] at q <;> exact q
theorem WPo.nil {fr : Fr} {h : Hp} {Q : Fr → Hp → Prop} : WPo p ext [] fr h Q ↔ Q fr h := by
 refine ⟨?_, wpo_nil⟩;rintro ⟨n, fr', h', e, q⟩;cases e;exact q
theorem runOps_none {C : CallF} {env : Env} {d : Option Nat} {o : MOp} {l : List MO} {fr : Fr} {h : Hp} {r : Fr × Hp} : runOps env C (⟨d, o, none⟩ :: l) fr h = some r ↔ ∃ v h1, opV env C fr h o = some (v, h1) ∧ runOps env C l (putO fr d v) h1 = some r := by
 simp only [runOps, gate]
 cases e : opV env C fr h o with
 | none => simp
 | some q =>
  obtain ⟨v, h1⟩ := q;simp only [Option.some.injEq, Prod.mk.injEq];constructor
  ·intro hh; exact ⟨v, h1, ⟨rfl, rfl⟩, hh⟩
  ·rintro ⟨_, _, ⟨rfl, rfl⟩, hh⟩; exact hh
theorem WPo.pure {d : Option Nat} {o : POp} {l : List MO} {fr : Fr} {h : Hp} {Q : Fr → Hp → Prop} : WPo p ext (⟨d, .p o, none⟩ :: l) fr h Q ↔ ∃ v, pV p.env fr o = some v ∧ WPo p ext l (putO fr d v) h Q := by
 refine ⟨?_, fun ⟨v, h1, h2⟩ => wpo_p h1 h2⟩;rintro ⟨n, fr', h', e, q⟩;obtain ⟨v, h1, e1, e2⟩ := runOps_none.1 e;simp only [opV] at e1;split at e1
 ·rename_i v' hv; cases e1; exact ⟨_, hv, n, fr', h', e2, q⟩
 ·cases e1
theorem WPo.alloc {d : Option Nat} {o : AOp} {l : List MO} {fr : Fr} {h : Hp} {Q : Fr → Hp → Prop} : WPo p ext (⟨d, .a o, none⟩ :: l) fr h Q ↔ ∃ b mk, aV fr o = some (b, mk) ∧ WPo p ext l (putO fr d (mk h.next)) (h.new b) Q := by
 refine ⟨?_, fun ⟨b, mk, h1, h2⟩ => wpo_a h1 h2⟩;rintro ⟨n, fr', h', e, q⟩;obtain ⟨v, h1, e1, e2⟩ := runOps_none.1 e;simp only [opV] at e1;split at e1
 ·rename_i b mk hv; cases e1; exact ⟨_, _, hv, n, fr', h', e2, q⟩
 ·cases e1
theorem WPo.load1 {d : Option Nat} {x : Opd} {l : List MO} {fr : Fr} {h : Hp} {Q : Fr → Hp → Prop} : WPo p ext (⟨d, .load1 x, none⟩ :: l) fr h Q ↔ ∃ b o, ev fr x = .ptr b o ∧ ∃ v, h.read b o 1 = some [v] ∧ WPo p ext l (putO fr d v) h Q := by
 refine ⟨?_, fun ⟨b, o, h1, v, h2, h3⟩ => wpo_load1 h1 h2 h3⟩;rintro ⟨n, fr', h', e, q⟩;obtain ⟨v, h1, e1, e2⟩ := runOps_none.1 e;simp only [opV] at e1;split at e1
 case h_2 => cases e1
 rename_i b o hx;split at e1
 case h_2 => cases e1
 rename_i v' r hr;cases e1;refine ⟨b, o, hx, v, ?_, n, fr', h', e2, q⟩
 have hlen : (v :: r).length = 1 := by
  unfold Hp.read at hr;split at hr
  ·obtain ⟨e3, e4⟩ := takeX_eq hr;rw [e3, List.length_take]; simp at e4 ⊢; omega
  ·cases hr
 have : r = [] := (by cases r; rfl; simp at hlen);rw [hr, this]
theorem WPo.loadn {d : Option Nat} {x : Opd} {m : Nat} {l : List MO} {fr : Fr} {h : Hp} {Q : Fr → Hp → Prop} : WPo p ext (⟨d, .loadn m x, none⟩ :: l) fr h Q ↔ ∃ b o, ev fr x = .ptr b o ∧ ∃ v, h.read b o m = some v ∧ WPo p ext l (putO fr d (.agg v)) h Q := by
 refine ⟨?_, fun ⟨b, o, h1, v, h2, h3⟩ => wpo_loadn h1 h2 h3⟩;rintro ⟨n, fr', h', e, q⟩;obtain ⟨v, h1, e1, e2⟩ := runOps_none.1 e;simp only [opV] at e1;split at e1
 case h_2 => cases e1
 rename_i b o hx;split at e1
 case h_2 => cases e1
 rename_i v' hr;cases e1;exact ⟨b, o, hx, _, hr, n, fr', h', e2, q⟩
theorem WPo.call {d : Option Nat} {f : Nat} {args : List Opd} {l : List MO} {fr : Fr} {h : Hp} {Q : Fr → Hp → Prop} : WPo p ext (⟨d, .e (.call f args), none⟩ :: l) fr h Q ↔ WPc p ext f (evs fr args) h fun v h1 => WPo p ext l (putO fr d v) h1 Q := by
 refine ⟨?_, wpo_call⟩;rintro ⟨n, fr', h', e, q⟩;obtain ⟨v, h1, e1, e2⟩ := runOps_none.1 e;exact ⟨n, v, h1, e1, n, fr', h', e2, q⟩
theorem WPo.extern {d : Option Nat} {f : Nat} {args : List Opd} {l : List MO} {fr : Fr} {h : Hp} {Q : Fr → Hp → Prop} : WPo p ext (⟨d, .e (.extern f args), none⟩ :: l) fr h Q ↔ WPc p ext f (evs fr args) h fun v h1 => WPo p ext l (putO fr d v) h1 Q := by
 refine ⟨?_, wpo_extern⟩;rintro ⟨n, fr', h', e, q⟩;obtain ⟨v, h1, e1, e2⟩ := runOps_none.1 e;exact ⟨n, v, h1, e1, n, fr', h', e2, q⟩
theorem WPo.callv {d : Option Nat} {x : Opd} {args : List Opd} {l : List MO} {fr : Fr} {h : Hp} {Q : Fr → Hp → Prop} : WPo p ext (⟨d, .e (.callv x args), none⟩ :: l) fr h Q ↔
  ∃ f first captured, ev fr x = .func f first captured ∧ WPc p ext f (first ++ evs fr args ++ captured) h fun v h1 => WPo p ext l (putO fr d v) h1 Q := by
 refine ⟨?_, fun ⟨f, a, c, h1, h2⟩ => wpo_callv h1 h2⟩;rintro ⟨n, fr', h', e, q⟩;obtain ⟨v, h1, e1, e2⟩ := runOps_none.1 e;simp only [opV, eV] at e1;split at e1
 ·rename_i f a c hx; exact ⟨f, a, c, hx, n, v, h1, e1, n, fr', h', e2, q⟩
 ·cases e1
def EOp.calls : EOp → Bool
 | .call _ _ | .callv _ _ | .extern _ _ => true
 | _ => false
def eW (fr : Fr) (h : Hp) (o : EOp) : Option (V × Hp) := eV (fun _ _ _ => none) fr h o
theorem eV_calls {C : CallF} {fr : Fr} {h : Hp} {o : EOp} (ho : o.calls = false) : eV C fr h o = eW fr h o := by
 cases o <;> first | rfl | cases ho
theorem WPo.eff {d : Option Nat} {o : EOp} {l : List MO} {fr : Fr} {h : Hp} {Q : Fr → Hp → Prop} (ho : o.calls = false) : WPo p ext (⟨d, .e o, none⟩ :: l) fr h Q ↔ ∃ v h1, eW fr h o = some (v, h1) ∧ WPo p ext l (putO fr d v) h1 Q := by
 refine ⟨?_, fun ⟨v, h1, e1, e2⟩ => wpo_e (fun C => (eV_calls ho).trans e1) e2⟩;rintro ⟨n, fr', h', e, q⟩;obtain ⟨v, h1, e1, e2⟩ := runOps_none.1 e;exact ⟨v, h1, (eV_calls ho).symm.trans e1, n, fr', h', e2, q⟩
theorem WPo.guard {d : Option Nat} {o : MOp} {t : Nat} {want : Bool} {l : List MO} {fr : Fr} {h : Hp} {Q : Fr → Hp → Prop} {b : Bool} (hb : ev fr (.tmp t) = .bool b) :
  WPo p ext (⟨d, o, some (t, want)⟩ :: l) fr h Q ↔ (b = want → WPo p ext (⟨d, o, none⟩ :: l) fr h Q) ∧ (b = !want → WPo p ext l (putO fr d (.tup [])) h Q) := by
 refine ⟨?_, fun ⟨h1, h2⟩ => wpo_guard b hb h1 fun hne => h2 (by cases b <;> cases want <;> simp_all)⟩;rintro ⟨n, fr', h', e, q⟩;refine ⟨fun hw => ⟨n, fr', h', ?_, q⟩, fun hw => ⟨n, fr', h', ?_, q⟩⟩
 ·have : beqB b want = true := (by subst hw; cases b <;> rfl);simp only [runOps, gate, hb, this, cond_true] at e ⊢;exact e
 ·have : beqB b want = false := (by subst hw; cases want <;> rfl);simp only [runOps, gate, hb, this, cond_false] at e ⊢;exact e
theorem WPo.guardNo {d : Option Nat} {o : MOp} {t : Nat} {want : Bool} {l : List MO} {fr : Fr} {h : Hp} {Q : Fr → Hp → Prop} {x : List V} (hb : ev fr (.tmp t) = .tup x) :
  WPo p ext (⟨d, o, some (t, want)⟩ :: l) fr h Q ↔ WPo p ext l (putO fr d (.tup [])) h Q := by
 refine ⟨?_, wpo_guard_no hb⟩;rintro ⟨n, fr', h', e, q⟩;refine ⟨n, fr', h', ?_, q⟩;simp only [runOps, gate, hb] at e;exact e
def optP {α : Type} : Option α → (α → Prop) → Prop
 | none, _ => False
 | some a, K => K a
theorem optP_some {α : Type} {a : α} {K : α → Prop} : optP (some a) K = K a := rfl
theorem optP_none {α : Type} {K : α → Prop} : optP none K = False := rfl
theorem optP_iff {α : Type} {o : Option α} {K : α → Prop} : optP o K ↔ ∃ a, o = some a ∧ K a := by
 cases o with
 | none => simp [optP]
 | some a => simp [optP]
def boolP : V → (Bool → Prop) → Prop
 | .bool b, K => K b
 | _, _ => False
theorem boolP_bool {b : Bool} {K : Bool → Prop} : boolP (.bool b) K = K b := rfl
def Hp.at1 (h : Hp) (b o : Nat) : Option V := match h.read b o 1 with
 | some [v] => some v
 | _ => none
theorem Hp.at1_iff {h : Hp} {b o : Nat} {v : V} : h.at1 b o = some v ↔ h.read b o 1 = some [v] := by
 unfold Hp.at1;split
 ·rename_i w hw; rw [hw]; simp
 ·rename_i hne;constructor
  ·intro h; cases h
  ·intro h; exact absurd h (hne v)
def ptrP : V → (Nat → Nat → Prop) → Prop
 | .ptr b o, K => K b o
 | _, _ => False
theorem ptrP_ptr {b o : Nat} {K : Nat → Nat → Prop} : ptrP (.ptr b o) K = K b o := rfl
theorem ptrP_iff {v : V} {K : Nat → Nat → Prop} : ptrP v K ↔ ∃ b o, v = .ptr b o ∧ K b o := by
 constructor
 ·cases v <;> simp only [ptrP, false_implies];intro k; exact ⟨_, _, rfl, k⟩
 ·rintro ⟨b, o, rfl, k⟩; exact k
def funP : V → (Nat → List V → List V → Prop) → Prop
 | .func f a c, K => K f a c
 | _, _ => False
theorem funP_func {f : Nat} {a c : List V} {K : Nat → List V → List V → Prop} : funP (.func f a c) K = K f a c := rfl
theorem funP_iff {v : V} {K : Nat → List V → List V → Prop} : funP v K ↔ ∃ f a c, v = .func f a c ∧ K f a c := by
 constructor
 ·cases v <;> simp only [funP, false_implies];intro k; exact ⟨_, _, _, rfl, k⟩
 ·rintro ⟨b, o, c, rfl, k⟩; exact k
def condP : V → Prop → Prop → Prop
 | .bool true, a, _ => a
 | .bool false, _, b => b
 | _, _, _ => False
theorem condP_tt {a b : Prop} : condP (.bool true) a b = a := rfl
theorem condP_ff {a b : Prop} : condP (.bool false) a b = b := rfl
theorem condP_of {t : Bool} {a b : Prop} (h1 : t = true → a) (h2 : t = false → b) : condP (.bool t) a b := by cases t; exact h2 rfl; exact h1 rfl
theorem W.cond {c : Opd} {a b : MCode} {fr : Fr} {h : Hp} {Q : Res → Prop} : WP p ext (.cond c a b) fr h Q ↔ condP (ev fr c) (WP p ext a fr h Q) (WP p ext b fr h Q) := by
 rw [WP.cond];constructor
 ·rintro ⟨t, e, h1, h2⟩;rw [e];exact condP_of h1 h2
 ·intro hc;cases e : ev fr c <;> rw [e] at hc <;> simp only [condP] at hc;rename_i t
  cases t with
  | true => exact ⟨true, rfl, fun _ => hc, fun h => by cases h⟩
  | false => exact ⟨false, rfl, fun h => (by cases h), fun _ => hc⟩
theorem W.pure {d : Option Nat} {o : POp} {l : List MO} {fr : Fr} {h : Hp} {Q : Fr → Hp → Prop} : WPo p ext (⟨d, .p o, none⟩ :: l) fr h Q ↔ optP (pV p.env fr o) fun v => WPo p ext l (putO fr d v) h Q := by
 rw [WPo.pure, optP_iff]
theorem W.alloc {d : Option Nat} {o : AOp} {l : List MO} {fr : Fr} {h : Hp} {Q : Fr → Hp → Prop} : WPo p ext (⟨d, .a o, none⟩ :: l) fr h Q ↔ optP (aV fr o) fun r => WPo p ext l (putO fr d (r.2 h.next)) (h.new r.1) Q := by
 rw [WPo.alloc, optP_iff];constructor
 ·rintro ⟨b, mk, e, k⟩; exact ⟨(b, mk), e, k⟩
 ·rintro ⟨⟨b, mk⟩, e, k⟩; exact ⟨b, mk, e, k⟩
theorem W.load1 {d : Option Nat} {x : Opd} {l : List MO} {fr : Fr} {h : Hp} {Q : Fr → Hp → Prop} : WPo p ext (⟨d, .load1 x, none⟩ :: l) fr h Q ↔ ptrP (ev fr x) fun b o => optP (h.at1 b o) fun v => WPo p ext l (putO fr d v) h Q := by
 rw [WPo.load1, ptrP_iff];simp only [optP_iff, Hp.at1_iff]
theorem W.loadn {d : Option Nat} {x : Opd} {m : Nat} {l : List MO} {fr : Fr} {h : Hp} {Q : Fr → Hp → Prop} : WPo p ext (⟨d, .loadn m x, none⟩ :: l) fr h Q ↔ ptrP (ev fr x) fun b o => optP (h.read b o m) fun v => WPo p ext l (putO fr d (.agg v)) h Q := by
 rw [WPo.loadn, ptrP_iff];simp only [optP_iff]
theorem W.callv {d : Option Nat} {x : Opd} {args : List Opd} {l : List MO} {fr : Fr} {h : Hp} {Q : Fr → Hp → Prop} : WPo p ext (⟨d, .e (.callv x args), none⟩ :: l) fr h Q ↔
  funP (ev fr x) fun f first captured => WPc p ext f (first ++ evs fr args ++ captured) h fun v h1 => WPo p ext l (putO fr d v) h1 Q := by
 rw [WPo.callv, funP_iff]
theorem W.eff {d : Option Nat} {o : EOp} {l : List MO} {fr : Fr} {h : Hp} {Q : Fr → Hp → Prop} (ho : o.calls = false) : WPo p ext (⟨d, .e o, none⟩ :: l) fr h Q ↔ optP (eW fr h o) fun r => WPo p ext l (putO fr d r.1) r.2 Q := by
 rw [WPo.eff ho, optP_iff];constructor
 ·rintro ⟨b, mk, e, k⟩; exact ⟨(b, mk), e, k⟩
 ·rintro ⟨⟨b, mk⟩, e, k⟩; exact ⟨b, mk, e, k⟩
def gateP : V → Bool → Prop → Prop → Prop
 | .bool b, want, y, n => (b = want → y) ∧ (b = !want → n)
 | .tup _, _, _, n => n
 | _, _, _, _ => False
theorem gateP_tup {l : List V} {want : Bool} {y n : Prop} : gateP (.tup l) want y n = n := rfl
theorem W.guard {d : Option Nat} {o : MOp} {t : Nat} {want : Bool} {l : List MO} {fr : Fr} {h : Hp} {Q : Fr → Hp → Prop} :
  WPo p ext (⟨d, o, some (t, want)⟩ :: l) fr h Q ↔ gateP (ev fr (.tmp t)) want (WPo p ext (⟨d, o, none⟩ :: l) fr h Q) (WPo p ext l (putO fr d (.tup [])) h Q) := by
 cases e : ev fr (.tmp t)
 case bool b => exact WPo.guard e
 case tup x => exact WPo.guardNo e
 all_goals
  refine ⟨?_, fun h => h.elim⟩;rintro ⟨n, fr', h', e1, q⟩;simp only [runOps, gate, e] at e1;cases e1
theorem ev_val {fr : Fr} {v : V} : ev fr (.val v) = v := rfl
theorem ev_put {fr : Fr} {d t : Nat} {v : V} : ev (putO fr (some d) v) (.tmp t) = if t = d then v else ev fr (.tmp t) := by
 simp only [ev, putO, T.get_set]
 by_cases e : t = d
 ·rw [if_pos e, if_pos e]
 ·rw [if_neg e, if_neg e]
theorem put_none {fr : Fr} {v : V} : putO fr none v = fr := rfl
theorem ieq_t {a b : Int} : ieq a b = decide (a = b) := by
 by_cases h : a = b
 ·rw [decide_eq_true h, ieq_iff]; exact h
 ·rw [decide_eq_false h]
  cases e : ieq a b with
  | false => rfl
  | true => exact absurd (ieq_iff.1 e) h
theorem ilt_t {a b : Int} : ilt a b = decide (a < b) := by
 by_cases h : a < b
 ·rw [decide_eq_true h, ilt_iff]; exact h
 ·rw [decide_eq_false h]
  cases e : ilt a b with
  | false => rfl
  | true => exact absurd (ilt_iff.1 e) h
theorem keq_self {k : IntKind} : keq k k = true := by cases k <;> rfl
section
variable {tab : Tab} {k : IntKind} {a b : Int}
theorem bin_add : binV tab .add (.int k a) (.int k b) = some (.int k (wr k (a + b))) := by simp only [binV, keq_self, cond_true]; rfl
theorem bin_sub : binV tab .sub (.int k a) (.int k b) = some (.int k (wr k (a - b))) := by simp only [binV, keq_self, cond_true]; rfl
theorem bin_mul : binV tab .mul (.int k a) (.int k b) = some (.int k (wr k (a * b))) := by simp only [binV, keq_self, cond_true]; rfl
theorem bin_and : binV tab .and (.int k a) (.int k b) = some (.int k (wr k (.ofNat (Nat.land (toU k a) (toU k b))))) := by simp only [binV, keq_self, cond_true]; rfl
theorem bin_eql : binV tab .eql (.int k a) (.int k b) = some (.bool (decide (a = b))) := by simp only [binV, keq_self, cond_true, arith, ieq_t]
theorem bin_neq : binV tab .neq (.int k a) (.int k b) = some (.bool (!decide (a = b))) := by simp only [binV, keq_self, cond_true, arith, ieq_t]
theorem bin_lss : binV tab .lss (.int k a) (.int k b) = some (.bool (decide (a < b))) := by simp only [binV, keq_self, cond_true, arith, ilt_t]
theorem bin_gtr : binV tab .gtr (.int k a) (.int k b) = some (.bool (decide (b < a))) := by simp only [binV, keq_self, cond_true, arith, ilt_t]
theorem bin_leq : binV tab .leq (.int k a) (.int k b) = some (.bool (decide (a ≤ b))) := by
 have : (!ilt b a) = decide (a ≤ b) := (by rw [ilt_t]; by_cases h : b < a <;> simp [h] <;> omega);simp only [binV, keq_self, cond_true, arith, this]
theorem bin_geq : binV tab .geq (.int k a) (.int k b) = some (.bool (decide (b ≤ a))) := by
 have : (!ilt a b) = decide (b ≤ a) := (by rw [ilt_t]; by_cases h : a < b <;> simp [h] <;> omega);simp only [binV, keq_self, cond_true, arith, this]
theorem min2_int : min2V tab (.int k a) (.int k b) = some (.int k (min a b)) := by
 simp only [min2V, keq_self, cond_true, ilt_t]
 by_cases h : b < a <;> simp [h] <;> omega
theorem max2_int : max2V tab (.int k a) (.int k b) = some (.int k (max a b)) := by
 simp only [max2V, keq_self, cond_true, ilt_t]
 by_cases h : a < b <;> simp [h] <;> omega
end
theorem wr_of {n : Int} (h1 : -9223372036854775808 ≤ n) (h2 : n < 9223372036854775808) : wr .i64 n = n := by
 cases n with
 | ofNat m =>
  have : Nat.blt m 9223372036854775808 = true := nblt.2 (by have : (m : Int) < 9223372036854775808 := h2; omega);simp only [wr, hiN, this, cond_true]
 | negSucc m =>
  have : Nat.blt m 9223372036854775808 = true := nblt.2 (by have := h1; omega);simp only [wr, hiN, sgn, this, cond_true]
section
variable {d : Option Nat} {l : List MO} {fr : Fr} {h : Hp} {Q : Fr → Hp → Prop}
def storeH (h : Hp) (sz : Nat) (b o : Nat) (vs : List V) : Option Hp := cond (Nat.beq vs.length sz) (h.write b o vs) none
end
def stAdd (b : Bool) (i : Nat) (h : Hp) (st : List (Nat × Hp)) : List (Nat × Hp) := cond b ((i + 1, h) :: st) st
theorem WPd.nil {i : Nat} {fr : Fr} {h : Hp} {st : List (Nat × Hp)} {rds : List Rd} {Q : Fr → Hp → Prop} : WPd p ext [] i fr h st rds Q ↔ allStill st rds = true ∧ Q fr h := by
 constructor
 ·rintro ⟨n, fr', h', e, q⟩;simp only [runD] at e;rw [cond_eq_ite] at e; split at e
  ·rename_i hs; cases e; exact ⟨hs, q⟩
  ·cases e
 ·rintro ⟨hs, q⟩;exact ⟨0, fr, h, by simp [runD, hs], q⟩
theorem runD_none {C : CallF} {env : Env} {d : Option Nat} {o : MOp} {lo hi : Nat} {l : List DO} {i : Nat} {fr : Fr} {h : Hp} {st : List (Nat × Hp)} {rds : List Rd} {r : Fr × Hp} :
  runD env C (⟨⟨d, o, none⟩, lo, hi⟩ :: l) i fr h st rds = some r ↔ ∃ v h1, opV env C fr h o = some (v, h1) ∧ runD env C l (i + 1) (putO fr d v) h1 (cond (isE o) ((i + 1, h1) :: st) st) (rdOf fr h ⟨⟨d, o, none⟩, lo, hi⟩ ++ rds) = some r := by
 simp only [runD, gate]
 cases e : opV env C fr h o with
 | none => simp
 | some q =>
  obtain ⟨v, h1⟩ := q;simp only [Option.some.injEq, Prod.mk.injEq];constructor
  ·intro hh; exact ⟨v, h1, ⟨rfl, rfl⟩, hh⟩
  ·rintro ⟨_, _, ⟨rfl, rfl⟩, hh⟩; exact hh
section
variable {d : Option Nat} {lo hi : Nat} {l : List DO} {i : Nat} {fr : Fr} {h : Hp} {st : List (Nat × Hp)} {rds : List Rd} {Q : Fr → Hp → Prop}
theorem D.pure {o : POp} : WPd p ext (⟨⟨d, .p o, none⟩, lo, hi⟩ :: l) i fr h st rds Q ↔ optP (pV p.env fr o) fun v => WPd p ext l (i + 1) (putO fr d v) h st rds Q := by
 rw [optP_iff];constructor
 ·rintro ⟨n, fr', h', e, q⟩;obtain ⟨v, h1, e1, e2⟩ := runD_none.1 e;simp only [opV] at e1;split at e1
  ·rename_i v' hv; cases e1; exact ⟨_, hv, n, fr', h', e2, q⟩
  ·cases e1
 ·rintro ⟨v, e1, n, fr', h', e2, q⟩;exact ⟨n, fr', h', runD_none.2 ⟨v, h, by simp [opV, e1], e2⟩, q⟩
theorem D.alloc {o : AOp} : WPd p ext (⟨⟨d, .a o, none⟩, lo, hi⟩ :: l) i fr h st rds Q ↔ optP (aV fr o) fun r => WPd p ext l (i + 1) (putO fr d (r.2 h.next)) (h.new r.1) st rds Q := by
 rw [optP_iff];constructor
 ·rintro ⟨n, fr', h', e, q⟩;obtain ⟨v, h1, e1, e2⟩ := runD_none.1 e;simp only [opV] at e1;split at e1
  ·rename_i b mk hv; cases e1; exact ⟨_, hv, n, fr', h', e2, q⟩
  ·cases e1
 ·rintro ⟨⟨b, mk⟩, e1, n, fr', h', e2, q⟩;exact ⟨n, fr', h', runD_none.2 ⟨_, _, by simp only [opV, e1], e2⟩, q⟩
theorem D.load1 {x : Opd} : WPd p ext (⟨⟨d, .load1 x, none⟩, lo, hi⟩ :: l) i fr h st rds Q ↔ ptrP (ev fr x) fun b o => optP (h.at1 b o) fun v => WPd p ext l (i + 1) (putO fr d v) h st (⟨lo, hi, b, o, [v]⟩ :: rds) Q := by
 rw [ptrP_iff];simp only [optP_iff, Hp.at1_iff];constructor
 ·rintro ⟨n, fr', h', e, q⟩;obtain ⟨v, h1, e1, e2⟩ := runD_none.1 e;simp only [opV] at e1;split at e1
  case h_2 => cases e1
  rename_i b o hx;split at e1
  case h_2 => cases e1
  rename_i v' r hr;cases e1
  have hlen : (v :: r).length = 1 := by
   unfold Hp.read at hr;split at hr
   ·obtain ⟨e3, e4⟩ := takeX_eq hr;rw [e3, List.length_take]; simp at e4 ⊢; omega
   ·cases hr
  have hr0 : r = [] := (by cases r; rfl; simp at hlen);subst hr0;refine ⟨b, o, hx, v, hr, n, fr', h', ?_, q⟩;simpa [rdOf, hx, hr, isE] using e2
 ·rintro ⟨b, o, hx, v, hr, n, fr', h', e2, q⟩;exact ⟨n, fr', h', runD_none.2 ⟨v, h, by simp [opV, hx, hr], by simpa [rdOf, hx, hr, isE] using e2⟩, q⟩
theorem D.loadn {x : Opd} {m : Nat} : WPd p ext (⟨⟨d, .loadn m x, none⟩, lo, hi⟩ :: l) i fr h st rds Q ↔ ptrP (ev fr x) fun b o => optP (h.read b o m) fun v => WPd p ext l (i + 1) (putO fr d (.agg v)) h st (⟨lo, hi, b, o, v⟩ :: rds) Q := by
 rw [ptrP_iff];simp only [optP_iff];constructor
 ·rintro ⟨n, fr', h', e, q⟩;obtain ⟨v, h1, e1, e2⟩ := runD_none.1 e;simp only [opV] at e1;split at e1
  case h_2 => cases e1
  rename_i b o hx;split at e1
  case h_2 => cases e1
  rename_i r hr;cases e1;refine ⟨b, o, hx, r, hr, n, fr', h', ?_, q⟩;simpa [rdOf, hx, hr, isE] using e2
 ·rintro ⟨b, o, hx, v, hr, n, fr', h', e2, q⟩;exact ⟨n, fr', h', runD_none.2 ⟨.agg v, h, by simp [opV, hx, hr], by simpa [rdOf, hx, hr, isE] using e2⟩, q⟩
theorem D.eff {o : EOp} (ho : o.calls = false) : WPd p ext (⟨⟨d, .e o, none⟩, lo, hi⟩ :: l) i fr h st rds Q ↔ optP (eW fr h o) fun r => WPd p ext l (i + 1) (putO fr d r.1) r.2 ((i + 1, r.2) :: st) rds Q := by
 rw [optP_iff];constructor
 ·rintro ⟨n, fr', h', e, q⟩;obtain ⟨v, h1, e1, e2⟩ := runD_none.1 e;exact ⟨(v, h1), (eV_calls ho).symm.trans e1, n, fr', h', e2, q⟩
 ·rintro ⟨⟨v, h1⟩, e1, n, fr', h', e2, q⟩;exact ⟨n, fr', h', runD_none.2 ⟨v, h1, (eV_calls ho).trans e1, e2⟩, q⟩
theorem D.call {f : Nat} {args : List Opd} : WPd p ext (⟨⟨d, .e (.call f args), none⟩, lo, hi⟩ :: l) i fr h st rds Q ↔ WPc p ext f (evs fr args) h fun v h1 => WPd p ext l (i + 1) (putO fr d v) h1 ((i + 1, h1) :: st) rds Q := by
 constructor
 ·rintro ⟨n, fr', h', e, q⟩;obtain ⟨v, h1, e1, e2⟩ := runD_none.1 e;exact ⟨n, v, h1, e1, n, fr', h', e2, q⟩
 ·rintro ⟨n, v, h1, e, m, fr', h', e2, q⟩;have e1 := call_mono (p := p) (ext := ext) (Nat.le_max_left n m) _ _ _ _ e;have e3 := runD_mono (call_mono (p := p) (ext := ext) (Nat.le_max_right n m)) e2;exact ⟨max n m, fr', h', runD_none.2 ⟨v, h1, e1, e3⟩, q⟩
theorem D.extern {f : Nat} {args : List Opd} : WPd p ext (⟨⟨d, .e (.extern f args), none⟩, lo, hi⟩ :: l) i fr h st rds Q ↔ WPc p ext f (evs fr args) h fun v h1 => WPd p ext l (i + 1) (putO fr d v) h1 ((i + 1, h1) :: st) rds Q := by
 constructor
 ·rintro ⟨n, fr', h', e, q⟩;obtain ⟨v, h1, e1, e2⟩ := runD_none.1 e;exact ⟨n, v, h1, e1, n, fr', h', e2, q⟩
 ·rintro ⟨n, v, h1, e, m, fr', h', e2, q⟩;have e1 := call_mono (p := p) (ext := ext) (Nat.le_max_left n m) _ _ _ _ e;have e3 := runD_mono (call_mono (p := p) (ext := ext) (Nat.le_max_right n m)) e2;exact ⟨max n m, fr', h', runD_none.2 ⟨v, h1, e1, e3⟩, q⟩
theorem D.callv {x : Opd} {args : List Opd} : WPd p ext (⟨⟨d, .e (.callv x args), none⟩, lo, hi⟩ :: l) i fr h st rds Q ↔
  funP (ev fr x) fun f first captured => WPc p ext f (first ++ evs fr args ++ captured) h fun v h1 => WPd p ext l (i + 1) (putO fr d v) h1 ((i + 1, h1) :: st) rds Q := by
 rw [funP_iff];constructor
 ·rintro ⟨n, fr', h', e, q⟩;obtain ⟨v, h1, e1, e2⟩ := runD_none.1 e;simp only [opV, eV] at e1;split at e1
  ·rename_i f a c hx; exact ⟨f, a, c, hx, n, v, h1, e1, n, fr', h', e2, q⟩
  ·cases e1
 ·rintro ⟨f, a, c, hx, n, v, h1, e, m, fr', h', e2, q⟩;have e1 := call_mono (p := p) (ext := ext) (Nat.le_max_left n m) _ _ _ _ e;have e3 := runD_mono (call_mono (p := p) (ext := ext) (Nat.le_max_right n m)) e2;exact ⟨max n m, fr', h', runD_none.2 ⟨v, h1, by simp only [opV, eV, hx]; exact e1, e3⟩, q⟩
theorem D.guard {o : MOp} {t : Nat} {want : Bool} :
  WPd p ext (⟨⟨d, o, some (t, want)⟩, lo, hi⟩ :: l) i fr h st rds Q ↔ gateP (ev fr (.tmp t)) want (WPd p ext (⟨⟨d, o, none⟩, lo, hi⟩ :: l) i fr h st rds Q) (WPd p ext l (i + 1) (putO fr d (.tup [])) h (stAdd (isE o) i h st) rds Q) := by
 have key : ∀ C r, runD p.env C (⟨⟨d, o, some (t, want)⟩, lo, hi⟩ :: l) i fr h st rds = some r ↔ gateP (ev fr (.tmp t)) want (runD p.env C (⟨⟨d, o, none⟩, lo, hi⟩ :: l) i fr h st rds = some r) (runD p.env C l (i + 1) (putO fr d (.tup [])) h (stAdd (isE o) i h st) rds = some r) := by
  intro C r;cases e : ev fr (.tmp t)
  case bool b =>
   have rd : rdOf fr h ⟨⟨d, o, some (t, want)⟩, lo, hi⟩ = rdOf fr h ⟨⟨d, o, none⟩, lo, hi⟩ := rfl;cases b <;> cases want <;> simp [runD, gate, e, gateP, beqB, stAdd, rd]
  case tup x => simp [runD, gate, e, gateP, stAdd]
  all_goals simp [runD, gate, e, gateP]
 constructor
 ·rintro ⟨n, fr', h', e, q⟩;have := (key _ _).1 e;cases e : ev fr (.tmp t) <;> rw [e] at this <;> simp only [gateP] at this ⊢
  ·exact ⟨fun hb => ⟨n, fr', h', this.1 hb, q⟩, fun hb => ⟨n, fr', h', this.2 hb, q⟩⟩
  ·exact ⟨n, fr', h', this, q⟩
 ·intro hg;cases e : ev fr (.tmp t) <;> rw [e] at hg <;> simp only [gateP] at hg
  ·rename_i b
   by_cases hb : b = want
   ·obtain ⟨n, fr', h', e1, q⟩ := hg.1 hb;refine ⟨n, fr', h', (key _ _).2 ?_, q⟩;rw [e];exact ⟨fun _ => e1, fun hb' => by rw [hb'] at hb; cases want <;> cases hb⟩
   ·have hb' : b = !want := (by cases b <;> cases want <;> simp_all);obtain ⟨n, fr', h', e1, q⟩ := hg.2 hb';refine ⟨n, fr', h', (key _ _).2 ?_, q⟩;rw [e];exact ⟨fun hb'' => absurd hb'' hb, fun _ => e1⟩
  ·obtain ⟨n, fr', h', e1, q⟩ := hg;refine ⟨n, fr', h', (key _ _).2 ?_, q⟩;rw [e];exact e1
end
attribute [simp] WP.skip WP.exit WP.ret WP.region WP.dregion WP.seq WP.block W.cond WPo.nil W.pure W.alloc W.load1 W.loadn W.callv WPo.call WPo.extern W.guard
attribute [simp] WPd.nil D.pure D.alloc D.load1 D.loadn D.call D.extern D.callv D.guard stAdd isE
attribute [simp] optP_some optP_none boolP_bool condP_tt condP_ff ptrP_ptr funP_func gateP_tup ev_val ev_put put_none
attribute [simp] bin_add bin_sub bin_mul bin_and bin_eql bin_neq bin_lss bin_gtr bin_leq bin_geq min2_int max2_int
attribute [simp] evs evo resV res1 tupOf V.cells
def pickV (c a b : V) : Option V := match c with
 | .bool true => some a
 | .bool false => some b
 | _ => none
def nilchkV (x : V) : Option V := match x with
 | .ptr b o => some (.ptr b o)
 | .func f a c => some (.func f a c)
 | _ => none
def eqP (ty : ETy) (neg : Bool) (x y : V) : Option V := match eqV ty x y with
 | some r => some (.bool (cond neg (!r) r))
 | none => none
def eqiP (ints : List Nat) (lit neg : Bool) (x y : V) : Option V := match eqiV ints lit x y with
 | some r => some (.bool (cond neg (!r) r))
 | none => none
def negV (x : V) : Option V := match x with
 | .int k n => some (.int k (wr k (Int.sub (.ofNat 0) n)))
 | _ => none
def notV (x : V) : Option V := match x with
 | .bool b => some (.bool (!b))
 | _ => none
def complV (x : V) : Option V := match x with
 | .int k n => some (.int k (wr k (.ofNat (Nat.xor (Nat.sub (pow2 k) 1) (toU k n)))))
 | _ => none
def faddrV (off : Nat) (x : V) : Option V := match x with
 | .ptr b o => some (.ptr b (o + off))
 | _ => none
def field1V (off : Nat) (x : V) : Option V := match x with
 | .agg l => getX l off
 | _ => none
def fieldnV (off n : Nat) (x : V) : Option V := match x with
 | .agg l => match takeX n (l.drop off) with
  | some r => some (.agg r)
  | none => none
 | _ => none
def iaddrV (sz : Nat) (x i : V) : Option V := match x with
 | .slice b o sz' len _ _ => match natOf i with
  | some n => cond (Nat.blt n len) (cond (Nat.beq sz sz') (some (.ptr b (o + n * sz))) none) none
  | none => none
 | _ => none
def iaddraV (len sz : Nat) (x i : V) : Option V := match x with
 | .ptr b o => match natOf i with
  | some n => cond (Nat.blt n len) (some (.ptr b (o + n * sz))) none
  | none => none
 | _ => none
def idxsV (x i : V) : Option V := match x with
 | .str s => match natOf i with
  | some n => match getX s n with
   | some c => some (.int .u8 (.ofNat c))
   | none => none
  | none => none
 | _ => none
def idx1V (len : Nat) (x i : V) : Option V := match x with
 | .agg l => match natOf i with
  | some n => cond (Nat.blt n len) (getX l n) none
  | none => none
 | _ => none
def idxnV (len sz : Nat) (x i : V) : Option V := match x with
 | .agg l => match natOf i with
  | some n => cond (Nat.blt n len) (match takeX sz (l.drop (n * sz)) with
   | some r => some (.agg r)
   | none => none) none
  | none => none
 | _ => none
def extV' (i : Nat) (x : V) : Option V := match x with
 | .tup l => getX l i
 | _ => none
def lensV (x : V) : Option V := match x with
 | .str s => some (.int .i64 (.ofNat s.length))
 | _ => none
def lenbV (x : V) : Option V := match x with
 | .nilslice => some (.int .i64 (.ofNat 0))
 | .slice _ _ _ len _ _ => some (.int .i64 (.ofNat len))
 | _ => none
def capsV (x : V) : Option V := match x with
 | .nilslice => some (.int .i64 (.ofNat 0))
 | .slice _ _ _ _ c true => some (.int .i64 (.ofNat c))
 | _ => none
def aggO (o : Option (List V)) : Option V := match o with
 | some c => some (.agg c)
 | none => none
section
variable {env : Env} {fr : Fr} {x y z : Opd}
theorem pV_mov : pV env fr (.mov x) = some (ev fr x) := rfl
theorem pV_pick : pV env fr (.pick x y z) = pickV (ev fr x) (ev fr y) (ev fr z) := rfl
theorem pV_build {c : List V} {l : List (Nat × Nat × Opd)} : pV env fr (.build c l) = aggO (fillV c (evParts fr l)) := rfl
theorem pV_nilchk : pV env fr (.nilchk x) = nilchkV (ev fr x) := rfl
theorem pV_bin {op : BinOp} : pV env fr (.bin op x y) = binV env.tab op (ev fr x) (ev fr y) := rfl
theorem pV_eq {ty : ETy} {neg : Bool} : pV env fr (.eq ty neg x y) = eqP ty neg (ev fr x) (ev fr y) := rfl
theorem pV_eqi {lit neg : Bool} : pV env fr (.eqi lit neg x y) = eqiP env.ints lit neg (ev fr x) (ev fr y) := rfl
theorem pV_neg : pV env fr (.neg x) = negV (ev fr x) := rfl
theorem pV_not : pV env fr (.not x) = notV (ev fr x) := rfl
theorem pV_compl : pV env fr (.compl x) = complV (ev fr x) := rfl
theorem pV_conv {c : CTy} : pV env fr (.conv c x) = convV c (ev fr x) := rfl
theorem pV_mkiface {t : Nat} : pV env fr (.mkiface t x) = some (.iface t (ev fr x)) := rfl
theorem pV_mkfunc {f : Nat} {a c : List Opd} : pV env fr (.mkfunc f a c) = some (.func f (evs fr a) (evs fr c)) := rfl
theorem pV_slc {sz : Nat} {lo hi mx : Option Opd} : pV env fr (.slc sz x lo hi mx) = slcV sz (ev fr x) (evo fr lo) (evo fr hi) (evo fr mx) := rfl
theorem pV_sls {lo hi : Option Opd} : pV env fr (.sls x lo hi) = slsV (ev fr x) (evo fr lo) (evo fr hi) := rfl
theorem pV_sla {n sz : Nat} {lo hi mx : Option Opd} : pV env fr (.sla n sz x lo hi mx) = slaV n sz (ev fr x) (evo fr lo) (evo fr hi) (evo fr mx) := rfl
theorem pV_faddr {off : Nat} : pV env fr (.faddr off x) = faddrV off (ev fr x) := rfl
theorem pV_field1 {off : Nat} : pV env fr (.field1 off x) = field1V off (ev fr x) := rfl
theorem pV_fieldn {off n : Nat} : pV env fr (.fieldn off n x) = fieldnV off n (ev fr x) := rfl
theorem pV_iaddr {sz : Nat} : pV env fr (.iaddr sz x y) = iaddrV sz (ev fr x) (ev fr y) := rfl
theorem pV_iaddra {n sz : Nat} : pV env fr (.iaddra n sz x y) = iaddraV n sz (ev fr x) (ev fr y) := rfl
theorem pV_idxs : pV env fr (.idxs x y) = idxsV (ev fr x) (ev fr y) := rfl
theorem pV_idx1 {n : Nat} : pV env fr (.idx1 n x y) = idx1V n (ev fr x) (ev fr y) := rfl
theorem pV_idxn {n sz : Nat} : pV env fr (.idxn n sz x y) = idxnV n sz (ev fr x) (ev fr y) := rfl
theorem pV_ext {i : Nat} : pV env fr (.ext x i) = extV' i (ev fr x) := rfl
theorem pV_lens : pV env fr (.lens x) = lensV (ev fr x) := rfl
theorem pV_lenb : pV env fr (.lenb x) = lenbV (ev fr x) := rfl
theorem pV_lena {n : Nat} : pV env fr (.lena n) = some (.int .i64 (.ofNat n)) := rfl
theorem pV_caps : pV env fr (.caps x) = capsV (ev fr x) := rfl
theorem pV_min {l : List Opd} : pV env fr (.min (x :: l)) = foldV (min2V env.tab) (ev fr x) (evs fr l) := rfl
theorem pV_max {l : List Opd} : pV env fr (.max (x :: l)) = foldV (max2V env.tab) (ev fr x) (evs fr l) := rfl
end
theorem pickV_t {a b : V} : pickV (.bool true) a b = some a := rfl
theorem pickV_f {a b : V} : pickV (.bool false) a b = some b := rfl
theorem nilchkV_ptr {b o : Nat} : nilchkV (.ptr b o) = some (.ptr b o) := rfl
theorem nilchkV_func {f : Nat} {a c : List V} : nilchkV (.func f a c) = some (.func f a c) := rfl
theorem eqP_some {ty : ETy} {neg r : Bool} {x y : V} (h : eqV ty x y = some r) : eqP ty neg x y = some (.bool (cond neg (!r) r)) := by simp only [eqP, h]
theorem notV_bool {b : Bool} : notV (.bool b) = some (.bool (!b)) := rfl
theorem faddrV_ptr {off b o : Nat} : faddrV off (.ptr b o) = some (.ptr b (o + off)) := rfl
theorem field1V_agg {off : Nat} {l : List V} : field1V off (.agg l) = getX l off := rfl
theorem extV'_tup {i : Nat} {l : List V} : extV' i (.tup l) = getX l i := rfl
theorem lensV_str {s : List Nat} : lensV (.str s) = some (.int .i64 (s.length : Int)) := rfl
theorem lenbV_nil : lenbV .nilslice = some (.int .i64 0) := rfl
theorem lenbV_slice {b o sz len c : Nat} {ex : Bool} : lenbV (.slice b o sz len c ex) = some (.int .i64 (len : Int)) := rfl
theorem aggO_some {c : List V} : aggO (some c) = some (.agg c) := rfl
theorem convV_int {k j : IntKind} {n : Int} : convV (.int k) (.int j n) = some (.int k (wr k n)) := rfl
theorem foldV_nil {f : V → V → Option V} {x : V} : foldV f x [] = some x := rfl
attribute [simp] pV_mov pV_pick pV_build pV_nilchk pV_bin pV_eq pV_eqi pV_neg pV_not pV_compl pV_conv pV_mkiface pV_mkfunc pV_slc pV_sls pV_sla pV_faddr pV_field1 pV_fieldn pV_iaddr pV_iaddra pV_idxs pV_idx1 pV_idxn pV_ext pV_lens pV_lenb pV_lena pV_caps pV_min pV_max
attribute [simp] pickV_t pickV_f nilchkV_ptr nilchkV_func notV_bool faddrV_ptr field1V_agg extV'_tup lensV_str lenbV_nil lenbV_slice aggO_some convV_int foldV_nil
end Go.Vm
end

section
namespace Go.Vm
def cellAt : Blk → Nat → Option V
 | .cells l _, o => l[o]?
 | _, _ => none
theorem takeX_one {l : List V} {o : Nat} : takeX 1 (l.drop o) = (l[o]?).map fun v => [v] := by
 cases e : l.drop o with
 | nil =>
  have : l.length ≤ o := (by simpa using e);rw [List.getElem?_eq_none (by omega)];rfl
 | cons v r =>
  have : l[o]? = some v := by
   have := List.getElem?_drop (xs := l) (i := o) (j := 0);rw [e] at this;simpa using this.symm
  rw [this];rfl
theorem at1_eq {h : Hp} {b o : Nat} : h.at1 b o = cellAt (h.blk b) o := by
 unfold Hp.at1 Hp.read
 cases h.blk b with
 | cells l ro =>
  simp only [takeX_one, cellAt];cases l[o]? <;> rfl
 | map kk l => rfl
 | gone => rfl
 | whole l => rfl
theorem cellAt_cells {l : List V} {ro : Bool} {o : Nat} : cellAt (.cells l ro) o = l[o]? := rfl
theorem read_cells {h : Hp} {b o n : Nat} {l : List V} {ro : Bool} (hb : h.blk b = .cells l ro) (hn : o + n ≤ l.length) : h.read b o n = some ((l.drop o).take n) := by
 unfold Hp.read;rw [hb];exact takeX_of (by simp; omega)
theorem write_cells {h : Hp} {b o : Nat} {vs l : List V} (hb : h.blk b = .cells l false) (hn : o + vs.length ≤ l.length) (hf : allFlat vs = true) : h.write b o vs = some (h.put b (.cells (splice l o vs) false)) := by
 unfold Hp.write;rw [hb];simp only;rw [show Nat.ble (o + vs.length) l.length = true from nble.2 hn, hf];rfl
theorem put_next {h : Hp} {b : Nat} {x : Blk} : (h.put b x).next = h.next := rfl
theorem new_next {h : Hp} {x : Blk} : (h.new x).next = h.next + 1 := rfl
theorem natOf_cast {k : IntKind} {n : Nat} : natOf (.int k (n : Int)) = some n := rfl
theorem natOf_lit {k : IntKind} {n : Nat} : natOf (.int k (@OfNat.ofNat Int n _)) = some n := rfl
theorem natOf_zero {k : IntKind} : natOf (.int k 0) = some 0 := rfl
theorem natOf_one {k : IntKind} : natOf (.int k 1) = some 1 := rfl
theorem blt_d {a b : Nat} : Nat.blt a b = decide (a < b) := by rw [Bool.eq_iff_iff, nblt, decide_eq_true_iff]
theorem ble_d {a b : Nat} : Nat.ble a b = decide (a ≤ b) := by rw [Bool.eq_iff_iff, nble, decide_eq_true_iff]
theorem beq_d {a b : Nat} : Nat.beq a b = decide (a = b) := by rw [Bool.eq_iff_iff, nbeq, decide_eq_true_iff]
theorem allFlat_cons {v : V} {l : List V} : allFlat (v :: l) = (v.flat && allFlat l) := by
 simp only [allFlat]; cases v.flat <;> rfl
mutual
theorem same_self : ∀ v : V, V.same v v = true
 | .bool b => by cases b <;> rfl
 | .int k n => by simp only [V.same, keq_self, cond_true, ieq_iff]
 | .sym i => by simp only [V.same, nbeq]
 | .str l => by
  have : ∀ l, neqs l l = true := fun l => by induction l with
   | nil => rfl
   | cons a l ih => simp only [neqs, show Nat.beq a a = true from nbeq.2 rfl, cond_true, ih]
  exact this l
 | .nilptr => rfl
 | .ptr b o => by simp only [V.same, show ∀ n, Nat.beq n n = true from fun n => nbeq.2 rfl, cond_true]
 | .nilslice => rfl
 | .slice b o sz len c e => by cases e <;> simp only [V.same, show ∀ n, Nat.beq n n = true from fun n => nbeq.2 rfl, cond_true] <;> rfl
 | .nilmap => rfl
 | .map b => by simp only [V.same, nbeq]
 | .func f a c => by simp only [V.same, show Nat.beq f f = true from nbeq.2 rfl, cond_true, sames_self a, sames_self c]
 | .nilfunc => rfl
 | .niliface => rfl
 | .iface t v => by simp only [V.same, show Nat.beq t t = true from nbeq.2 rfl, cond_true, same_self v]
 | .agg l => by simp only [V.same, sames_self l]
 | .tup l => by simp only [V.same, sames_self l]
theorem sames_self : ∀ l : List V, V.sames l l = true
 | [] => rfl
 | v :: l => by simp only [V.sames, same_self v, cond_true, sames_self l]
end
theorem stillAll_cons {r : Rd} {c : Nat} {h : Hp} {st : List (Nat × Hp)} : stillAll r ((c, h) :: st) = true ↔ (r.lo ≤ c → c ≤ r.hi → stillAt r h = true) ∧ stillAll r st = true := by
 simp only [stillAll];rw [cond_eq_ite, nble_d]
 by_cases h1 : r.lo ≤ c
 ·rw [if_pos (decide_eq_true h1), cond_eq_ite, nble_d]
  by_cases h2 : c ≤ r.hi
  ·rw [if_pos (decide_eq_true h2), cond_eq_ite]
   by_cases h3 : stillAt r h = true
   ·rw [if_pos h3]; simp [h3]
   ·rw [if_neg h3]; simp [h1, h2, h3]
  ·rw [if_neg (by simpa using h2)]; simp [h2]
 ·rw [if_neg (by simpa using h1)]; simp [h1]
theorem stillAll_nil {r : Rd} : stillAll r [] = true := rfl
theorem allStill_cons {r : Rd} {l : List Rd} {st : List (Nat × Hp)} : allStill st (r :: l) = true ↔ stillAll r st = true ∧ allStill st l = true := by
 simp only [allStill];rw [cond_eq_ite]
 by_cases h : stillAll r st = true
 ·rw [if_pos h]; simp [h]
 ·rw [if_neg h]; simp [h]
theorem allStill_nil {st : List (Nat × Hp)} : allStill st [] = true := rfl
attribute [simp] stillAll_cons stillAll_nil allStill_cons allStill_nil
def V.hasB (x : Nat) : V → Prop
 | .slice b _ _ _ _ _ => x = b
 | .ptr b _ => x = b
 | _ => False
theorem roomy_of {by_ n : Nat} (h1 : by_ * n ≤ 1099511627776) (h2 : n ≤ 1099511627776) : roomy by_ n = true := by
 unfold roomy;rw [show Nat.ble (by_ * n) 1099511627776 = true from nble.2 h1, show Nat.ble n 1099511627776 = true from nble.2 h2];rfl
attribute [simp] at1_eq cellAt_cells blk_put blk_new put_next new_next natOf_cast natOf_lit natOf_zero natOf_one blt_d ble_d beq_d allFlat_cons V.flat
attribute [simp] fillV evParts splice over getX
end Go.Vm
end

section
namespace Go.Vm
variable {p : Prog} {ext : Ext}
inductive KF where
 | seq (b : MCode)
 | block (id : Nat)
def RK (p : Prog) (ext : Ext) : List KF → Res → (Res → Prop) → Prop
 | [], r, Q => Q r
 | .seq b :: K, r, Q => thenR (fun r => RK p ext K r Q) (fun fr h => WP p ext b fr h fun r => RK p ext K r Q) r
 | .block id :: K, r, Q => blockR id (fun r => RK p ext K r Q) r
def WS (p : Prog) (ext : Ext) (c : MCode) (K : List KF) (fr : Fr) (h : Hp) (Q : Res → Prop) : Prop := WP p ext c fr h fun r => RK p ext K r Q
def OS (p : Prog) (ext : Ext) (l : List MO) (K : List KF) (fr : Fr) (h : Hp) (Q : Res → Prop) : Prop := WPo p ext l fr h fun fr h => RK p ext K (.ok fr h) Q
def DS (p : Prog) (ext : Ext) (l : List DO) (K : List KF) (i : Nat) (fr : Fr) (h : Hp) (st : List (Nat × Hp)) (rds : List Rd) (Q : Res → Prop) : Prop := WPd p ext l i fr h st rds fun fr h => RK p ext K (.ok fr h) Q
theorem WS.start {c : MCode} {fr : Fr} {h : Hp} {Q : Res → Prop} : WP p ext c fr h Q ↔ WS p ext c [] fr h Q := Iff.rfl
section
variable {K : List KF} {fr : Fr} {h : Hp} {Q : Res → Prop}
theorem WS.seq {a b : MCode} : WS p ext (.seq a b) K fr h Q ↔ WS p ext a (.seq b :: K) fr h Q := WP.seq
theorem WS.block {id : Nat} {c : MCode} : WS p ext (.block id c) K fr h Q ↔ WS p ext c (.block id :: K) fr h Q := WP.block
theorem WS.skip : WS p ext .skip K fr h Q ↔ RK p ext K (.ok fr h) Q := WP.skip
theorem WS.exit {id : Nat} : WS p ext (.exit id) K fr h Q ↔ RK p ext K (.exit id fr h) Q := WP.exit
theorem WS.ret : WS p ext .ret K fr h Q ↔ RK p ext K (.ret fr h) Q := WP.ret
theorem WS.region {l : List MO} : WS p ext (.region l) K fr h Q ↔ OS p ext l K fr h Q := WP.region
theorem WS.dregion {l : List DO} : WS p ext (.dregion l) K fr h Q ↔ DS p ext l K 0 fr h [(0, h)] [] Q := WP.dregion
def condS (p : Prog) (ext : Ext) (v : V) (a b : MCode) (K : List KF) (fr : Fr) (h : Hp) (Q : Res → Prop) : Prop := condP v (WS p ext a K fr h Q) (WS p ext b K fr h Q)
theorem WS.cond {c : Opd} {a b : MCode} : WS p ext (.cond c a b) K fr h Q ↔ condS p ext (ev fr c) a b K fr h Q := W.cond
theorem condS_tt {a b : MCode} : condS p ext (.bool true) a b K fr h Q ↔ WS p ext a K fr h Q := Iff.rfl
theorem condS_ff {a b : MCode} : condS p ext (.bool false) a b K fr h Q ↔ WS p ext b K fr h Q := Iff.rfl
theorem RK.nil {r : Res} : RK p ext [] r Q ↔ Q r := Iff.rfl
theorem RK.seq_ok {b : MCode} : RK p ext (.seq b :: K) (.ok fr h) Q ↔ WS p ext b K fr h Q := Iff.rfl
theorem RK.seq_ret {b : MCode} : RK p ext (.seq b :: K) (.ret fr h) Q ↔ RK p ext K (.ret fr h) Q := Iff.rfl
theorem RK.seq_exit {b : MCode} {id : Nat} : RK p ext (.seq b :: K) (.exit id fr h) Q ↔ RK p ext K (.exit id fr h) Q := Iff.rfl
theorem RK.block_ok {id : Nat} : RK p ext (.block id :: K) (.ok fr h) Q ↔ RK p ext K (.ok fr h) Q := Iff.rfl
theorem RK.block_ret {id : Nat} : RK p ext (.block id :: K) (.ret fr h) Q ↔ RK p ext K (.ret fr h) Q := Iff.rfl
theorem RK.block_same {id : Nat} : RK p ext (.block id :: K) (.exit id fr h) Q ↔ RK p ext K (.ok fr h) Q := by
 simp only [RK, blockR_exit, show Nat.beq id id = true from nbeq.2 rfl, cond_true]
theorem RK.block_other {id id' : Nat} (hne : id' ≠ id) : RK p ext (.block id :: K) (.exit id' fr h) Q ↔ RK p ext K (.exit id' fr h) Q := by
 simp only [RK, blockR_exit, show Nat.beq id' id = false from by rw [nbeq_d]; exact decide_eq_false hne, cond_false]
theorem OS.nil : OS p ext [] K fr h Q ↔ RK p ext K (.ok fr h) Q := WPo.nil
def valS (p : Prog) (ext : Ext) (o : Option V) (d : Option Nat) (l : List MO) (K : List KF) (fr : Fr) (h : Hp) (Q : Res → Prop) : Prop := optP o fun v => OS p ext l K (putO fr d v) h Q
theorem valS_some {v : V} {d : Option Nat} {l : List MO} : valS p ext (some v) d l K fr h Q ↔ OS p ext l K (putO fr d v) h Q := Iff.rfl
def effS (p : Prog) (ext : Ext) (o : Option (V × Hp)) (d : Option Nat) (l : List MO) (K : List KF) (fr : Fr) (Q : Res → Prop) : Prop := optP o fun r => OS p ext l K (putO fr d r.1) r.2 Q
theorem effS_some {v : V} {h1 : Hp} {d : Option Nat} {l : List MO} : effS p ext (some (v, h1)) d l K fr Q ↔ OS p ext l K (putO fr d v) h1 Q := Iff.rfl
def newS (p : Prog) (ext : Ext) (o : Option (Blk × (Nat → V))) (d : Option Nat) (l : List MO) (K : List KF) (fr : Fr) (h : Hp) (Q : Res → Prop) : Prop := optP o fun r => OS p ext l K (putO fr d (r.2 h.next)) (h.new r.1) Q
theorem newS_some {x : Blk} {mk : Nat → V} {d : Option Nat} {l : List MO} : newS p ext (some (x, mk)) d l K fr h Q ↔ OS p ext l K (putO fr d (mk h.next)) (h.new x) Q := Iff.rfl
def loadV (h : Hp) (v : V) : Option V := match v with
 | .ptr b o => cellAt (h.blk b) o
 | _ => none
theorem loadV_ptr {b o : Nat} : loadV h (.ptr b o) = cellAt (h.blk b) o := rfl
def loadnV (h : Hp) (n : Nat) (v : V) : Option V := match v with
 | .ptr b o => aggO (h.read b o n)
 | _ => none
theorem loadnV_ptr {b o n : Nat} : loadnV h n (.ptr b o) = aggO (h.read b o n) := rfl
def storeV (h : Hp) (sz : Nat) (a x : V) : Option (V × Hp) := match a with
 | .ptr b o => (storeH h sz b o x.cells).map fun h1 => (.tup [], h1)
 | _ => none
theorem storeV_ptr {b o sz : Nat} {x : V} : storeV h sz (.ptr b o) x = (storeH h sz b o x.cells).map fun h1 => (.tup [], h1) := rfl
def callS (p : Prog) (ext : Ext) (f : Nat) (args : List V) (h : Hp) (d : Option Nat) (l : List MO) (K : List KF) (fr : Fr) (Q : Res → Prop) : Prop := WPc p ext f args h fun v h1 => OS p ext l K (putO fr d v) h1 Q
theorem callS_of {f : Nat} {args : List V} {d : Option Nat} {l : List MO} (hw : WPc p ext f args h fun v h1 => OS p ext l K (putO fr d v) h1 Q) : callS p ext f args h d l K fr Q := hw
def callvS (p : Prog) (ext : Ext) (x : V) (args : List V) (h : Hp) (d : Option Nat) (l : List MO) (K : List KF) (fr : Fr) (Q : Res → Prop) : Prop := funP x fun f first captured => callS p ext f (first ++ args ++ captured) h d l K fr Q
theorem callvS_func {f : Nat} {a c args : List V} {d : Option Nat} {l : List MO} : callvS p ext (.func f a c) args h d l K fr Q ↔ callS p ext f (a ++ args ++ c) h d l K fr Q := Iff.rfl
theorem OS.pure {d : Option Nat} {o : POp} {l : List MO} : OS p ext (⟨d, .p o, none⟩ :: l) K fr h Q ↔ valS p ext (pV p.env fr o) d l K fr h Q := W.pure
theorem OS.alloc {d : Option Nat} {o : AOp} {l : List MO} : OS p ext (⟨d, .a o, none⟩ :: l) K fr h Q ↔ newS p ext (aV fr o) d l K fr h Q := W.alloc
theorem OS.load1 {d : Option Nat} {x : Opd} {l : List MO} : OS p ext (⟨d, .load1 x, none⟩ :: l) K fr h Q ↔ valS p ext (loadV h (ev fr x)) d l K fr h Q := by
 refine (W.load1 (p := p) (ext := ext)).trans ?_;unfold valS;cases ev fr x <;> simp only [ptrP, loadV, optP, at1_eq];rfl
theorem OS.loadn {d : Option Nat} {n : Nat} {x : Opd} {l : List MO} : OS p ext (⟨d, .loadn n x, none⟩ :: l) K fr h Q ↔ valS p ext (loadnV h n (ev fr x)) d l K fr h Q := by
 refine (W.loadn (p := p) (ext := ext)).trans ?_;unfold valS;cases ev fr x <;> simp only [ptrP, loadnV, optP];rename_i b o;cases h.read b o n <;> simp only [aggO];rfl
theorem OS.call {d : Option Nat} {f : Nat} {args : List Opd} {l : List MO} : OS p ext (⟨d, .e (.call f args), none⟩ :: l) K fr h Q ↔ callS p ext f (evs fr args) h d l K fr Q := WPo.call
theorem OS.extern {d : Option Nat} {f : Nat} {args : List Opd} {l : List MO} : OS p ext (⟨d, .e (.extern f args), none⟩ :: l) K fr h Q ↔ callS p ext f (evs fr args) h d l K fr Q := WPo.extern
theorem OS.callv {d : Option Nat} {x : Opd} {args : List Opd} {l : List MO} : OS p ext (⟨d, .e (.callv x args), none⟩ :: l) K fr h Q ↔ callvS p ext (ev fr x) (evs fr args) h d l K fr Q := W.callv
theorem OS.eff {d : Option Nat} {o : EOp} (ho : o.calls = false) {l : List MO} : OS p ext (⟨d, .e o, none⟩ :: l) K fr h Q ↔ effS p ext (eW fr h o) d l K fr Q := W.eff ho
def gateS (p : Prog) (ext : Ext) (v : V) (want : Bool) (d : Option Nat) (o : MOp) (l : List MO) (K : List KF) (fr : Fr) (h : Hp) (Q : Res → Prop) : Prop :=
 gateP v want (OS p ext (⟨d, o, none⟩ :: l) K fr h Q) (OS p ext l K (putO fr d (.tup [])) h Q)
theorem OS.guard {d : Option Nat} {o : MOp} {t : Nat} {want : Bool} {l : List MO} : OS p ext (⟨d, o, some (t, want)⟩ :: l) K fr h Q ↔ gateS p ext (ev fr (.tmp t)) want d o l K fr h Q := W.guard
theorem gateS_tup {want : Bool} {x : List V} {d : Option Nat} {o : MOp} {l : List MO} : gateS p ext (.tup x) want d o l K fr h Q ↔ OS p ext l K (putO fr d (.tup [])) h Q := Iff.rfl
variable {lo hi i : Nat} {st : List (Nat × Hp)} {rds : List Rd}
theorem DS.nil : DS p ext [] K i fr h st rds Q ↔ allStill st rds = true ∧ RK p ext K (.ok fr h) Q := WPd.nil
def valD (p : Prog) (ext : Ext) (o : Option V) (d : Option Nat) (l : List DO) (K : List KF) (i : Nat) (fr : Fr) (h : Hp) (st : List (Nat × Hp)) (rds : List Rd) (Q : Res → Prop) : Prop := optP o fun v => DS p ext l K (i + 1) (putO fr d v) h st rds Q
theorem valD_some {v : V} {d : Option Nat} {l : List DO} : valD p ext (some v) d l K i fr h st rds Q ↔ DS p ext l K (i + 1) (putO fr d v) h st rds Q := Iff.rfl
def effD (p : Prog) (ext : Ext) (o : Option (V × Hp)) (d : Option Nat) (l : List DO) (K : List KF) (i : Nat) (fr : Fr) (st : List (Nat × Hp)) (rds : List Rd) (Q : Res → Prop) : Prop := optP o fun r => DS p ext l K (i + 1) (putO fr d r.1) r.2 ((i + 1, r.2) :: st) rds Q
theorem effD_some {v : V} {h1 : Hp} {d : Option Nat} {l : List DO} : effD p ext (some (v, h1)) d l K i fr st rds Q ↔ DS p ext l K (i + 1) (putO fr d v) h1 ((i + 1, h1) :: st) rds Q := Iff.rfl
def newD (p : Prog) (ext : Ext) (o : Option (Blk × (Nat → V))) (d : Option Nat) (l : List DO) (K : List KF) (i : Nat) (fr : Fr) (h : Hp) (st : List (Nat × Hp)) (rds : List Rd) (Q : Res → Prop) : Prop := optP o fun r => DS p ext l K (i + 1) (putO fr d (r.2 h.next)) (h.new r.1) st rds Q
theorem newD_some {x : Blk} {mk : Nat → V} {d : Option Nat} {l : List DO} : newD p ext (some (x, mk)) d l K i fr h st rds Q ↔ DS p ext l K (i + 1) (putO fr d (mk h.next)) (h.new x) st rds Q := Iff.rfl
def loadD (p : Prog) (ext : Ext) (x : V) (d : Option Nat) (lo hi : Nat) (l : List DO) (K : List KF) (i : Nat) (fr : Fr) (h : Hp) (st : List (Nat × Hp)) (rds : List Rd) (Q : Res → Prop) : Prop := ptrP x fun b o => optP (h.at1 b o) fun v => DS p ext l K (i + 1) (putO fr d v) h st (⟨lo, hi, b, o, [v]⟩ :: rds) Q
def loadD' (p : Prog) (ext : Ext) (c : Option V) (b o : Nat) (d : Option Nat) (lo hi : Nat) (l : List DO) (K : List KF) (i : Nat) (fr : Fr) (h : Hp) (st : List (Nat × Hp)) (rds : List Rd) (Q : Res → Prop) : Prop := optP c fun v => DS p ext l K (i + 1) (putO fr d v) h st (⟨lo, hi, b, o, [v]⟩ :: rds) Q
theorem loadD_ptr {b o : Nat} {d : Option Nat} {l : List DO} : loadD p ext (.ptr b o) d lo hi l K i fr h st rds Q ↔ loadD' p ext (cellAt (h.blk b) o) b o d lo hi l K i fr h st rds Q := by unfold loadD loadD'; rw [ptrP_ptr, at1_eq]
theorem loadD'_some {v : V} {b o : Nat} {d : Option Nat} {l : List DO} : loadD' p ext (some v) b o d lo hi l K i fr h st rds Q ↔ DS p ext l K (i + 1) (putO fr d v) h st (⟨lo, hi, b, o, [v]⟩ :: rds) Q := Iff.rfl
def loadnD (p : Prog) (ext : Ext) (n : Nat) (x : V) (d : Option Nat) (lo hi : Nat) (l : List DO) (K : List KF) (i : Nat) (fr : Fr) (h : Hp) (st : List (Nat × Hp)) (rds : List Rd) (Q : Res → Prop) : Prop := ptrP x fun b o => optP (h.read b o n) fun v => DS p ext l K (i + 1) (putO fr d (.agg v)) h st (⟨lo, hi, b, o, v⟩ :: rds) Q
def loadnD' (p : Prog) (ext : Ext) (c : Option (List V)) (b o : Nat) (d : Option Nat) (lo hi : Nat) (l : List DO) (K : List KF) (i : Nat) (fr : Fr) (h : Hp) (st : List (Nat × Hp)) (rds : List Rd) (Q : Res → Prop) : Prop := optP c fun v => DS p ext l K (i + 1) (putO fr d (.agg v)) h st (⟨lo, hi, b, o, v⟩ :: rds) Q
theorem loadnD_ptr {b o n : Nat} {d : Option Nat} {l : List DO} : loadnD p ext n (.ptr b o) d lo hi l K i fr h st rds Q ↔ loadnD' p ext (h.read b o n) b o d lo hi l K i fr h st rds Q := Iff.rfl
theorem loadnD'_some {v : List V} {b o : Nat} {d : Option Nat} {l : List DO} : loadnD' p ext (some v) b o d lo hi l K i fr h st rds Q ↔ DS p ext l K (i + 1) (putO fr d (.agg v)) h st (⟨lo, hi, b, o, v⟩ :: rds) Q := Iff.rfl
def callD (p : Prog) (ext : Ext) (f : Nat) (args : List V) (h : Hp) (d : Option Nat) (l : List DO) (K : List KF) (i : Nat) (fr : Fr) (st : List (Nat × Hp)) (rds : List Rd) (Q : Res → Prop) : Prop := WPc p ext f args h fun v h1 => DS p ext l K (i + 1) (putO fr d v) h1 ((i + 1, h1) :: st) rds Q
def callvD (p : Prog) (ext : Ext) (x : V) (args : List V) (h : Hp) (d : Option Nat) (l : List DO) (K : List KF) (i : Nat) (fr : Fr) (st : List (Nat × Hp)) (rds : List Rd) (Q : Res → Prop) : Prop := funP x fun f first captured => callD p ext f (first ++ args ++ captured) h d l K i fr st rds Q
theorem callvD_func {f : Nat} {a c args : List V} {d : Option Nat} {l : List DO} : callvD p ext (.func f a c) args h d l K i fr st rds Q ↔ callD p ext f (a ++ args ++ c) h d l K i fr st rds Q := Iff.rfl
def gateD (p : Prog) (ext : Ext) (v : V) (want : Bool) (d : Option Nat) (o : MOp) (lo hi : Nat) (l : List DO) (K : List KF) (i : Nat) (fr : Fr) (h : Hp) (st : List (Nat × Hp)) (rds : List Rd) (Q : Res → Prop) : Prop :=
 gateP v want (DS p ext (⟨⟨d, o, none⟩, lo, hi⟩ :: l) K i fr h st rds Q) (DS p ext l K (i + 1) (putO fr d (.tup [])) h (stAdd (isE o) i h st) rds Q)
theorem gateD_tup {want : Bool} {x : List V} {d : Option Nat} {o : MOp} {l : List DO} : gateD p ext (.tup x) want d o lo hi l K i fr h st rds Q ↔ DS p ext l K (i + 1) (putO fr d (.tup [])) h (stAdd (isE o) i h st) rds Q := Iff.rfl
end
def endS (o : Option (List V)) (h : Hp) (Q : V → Hp → Prop) : Prop := optP o fun r => Q (tupOf r) h
theorem endS_some {r : List V} {h : Hp} {Q : V → Hp → Prop} : endS (some r) h Q ↔ Q (tupOf r) h := Iff.rfl
theorem enter {f : Nat} {args : List V} {h : Hp} {Q : V → Hp → Prop} {m : Fun} (he : ext f args h = none) (hf : p.funs.get f = some m) (hn : args.length = m.nargs) (hw : WS p ext m.body [] (argsFr args 0 .leaf) h (endR m.results Q)) : WPc p ext f args h Q :=
 wpc_fun he hf hn hw
def roundR (b0 b1 : Nat) (J : Fr → Hp → Prop) (Q : Res → Prop) : Res → Prop
 | .fail => False
 | .ok fr h => J fr h
 | .ret fr h => Q (.ret fr h)
 | .exit id fr h => cond (Nat.beq id b1) (J fr h) (cond (Nat.beq id b0) (Q (.ok fr h)) (Q (.exit id fr h)))
section
variable {b0 b1 : Nat} {J : Fr → Hp → Prop} {Q : Res → Prop} {fr : Fr} {h : Hp}
theorem roundR_ok : roundR b0 b1 J Q (.ok fr h) ↔ J fr h := Iff.rfl
theorem roundR_ret : roundR b0 b1 J Q (.ret fr h) ↔ Q (.ret fr h) := Iff.rfl
end
def loopR (J : Fr → Hp → Prop) (Q : Res → Prop) : Res → Prop
 | .fail => False
 | .ok fr h => J fr h
 | .exit id fr h => Q (.exit id fr h)
 | .ret fr h => Q (.ret fr h)
section
variable {J : Fr → Hp → Prop} {Q : Res → Prop} {fr : Fr} {h : Hp}
theorem loopR_ok : loopR J Q (.ok fr h) ↔ J fr h := Iff.rfl
theorem loopR_exit {id : Nat} : loopR J Q (.exit id fr h) ↔ Q (.exit id fr h) := Iff.rfl
theorem loopR_ret : loopR J Q (.ret fr h) ↔ Q (.ret fr h) := Iff.rfl
end
theorem ws_loop {c : MCode} {K : List KF} {Q : Res → Prop} (I : Nat → Fr → Hp → Prop)
  (hI : ∀ k fr h, I k fr h → WS p ext c [] fr h (loopR (fun fr' h' => ∃ k', k' < k ∧ I k' fr' h') fun r => RK p ext K r Q)) {k : Nat} {fr : Fr} {h : Hp} (hi : I k fr h) : WS p ext (.loop c) K fr h Q := by
 refine wp_loop' I (fun k fr h hi => ?_) hi;refine (hI k fr h hi : WP _ _ _ _ _ _).mono fun r hr => ?_;have hr : loopR _ _ r := hr;cases r <;> exact hr
theorem bin_shr_lit {tab : Tab} {k j : IntKind} {a : Int} {n : Nat} : binV tab .shr (.int k a) (.int j (@OfNat.ofNat Int n _)) = some (.int k (shrI k a n)) := rfl
theorem bin_shl_lit {tab : Tab} {k j : IntKind} {a : Int} {n : Nat} : binV tab .shl (.int k a) (.int j (@OfNat.ofNat Int n _)) = some (.int k (shlI k a n)) := rfl
attribute [simp] bin_shr_lit bin_shl_lit loopR_ok loopR_exit loopR_ret
theorem and_range {a : Int} {m : Nat} (hm : m < 65536) : ∃ q : Nat, wr .i64 (.ofNat (Nat.land (toU .i64 a) (toU .i64 (m : Int)))) = (q : Int) ∧ q ≤ m := by
 have hle : Nat.land (toU .i64 a) m ≤ m := Nat.and_le_right
 have h2 : toU .i64 (m : Int) = m := by
  show m % 18446744073709551616 = m;omega
 refine ⟨Nat.land (toU .i64 a) m, ?_, hle⟩;rw [h2];generalize Nat.land (toU .i64 a) m = q at hle;rw [show Int.ofNat q = (q : Int) from rfl, wr_of (by omega) (by omega)]
attribute [-simp] WP.skip WP.exit WP.ret WP.region WP.dregion WP.seq WP.block W.cond WPo.nil W.pure W.alloc W.load1 W.loadn W.callv WPo.call WPo.extern W.guard
attribute [-simp] WPd.nil D.pure D.alloc D.load1 D.loadn D.call D.extern D.callv D.guard
attribute [simp ↓] WS.seq WS.block WS.skip WS.exit WS.ret WS.region WS.dregion WS.cond condS_tt condS_ff RK.nil RK.seq_ok RK.seq_ret RK.seq_exit RK.block_ok RK.block_ret RK.block_same RK.block_other
attribute [simp ↓] OS.nil OS.pure OS.alloc OS.load1 OS.loadn OS.call OS.extern OS.callv OS.guard
attribute [simp ↓] DS.nil
attribute [simp] condS_tt condS_ff valS_some effS_some newS_some loadV_ptr loadnV_ptr storeV_ptr callvS_func gateS_tup valD_some effD_some newD_some loadD_ptr loadD'_some loadnD_ptr loadnD'_some callvD_func gateD_tup
attribute [simp] roundR_ok roundR_ret endS_some
end Go.Vm
end

section
namespace Go.Vm
open Go.RowKit
variable {P : Program}
theorem trodAll_stays {H : Type} {enc : TypeId × Value → H} (hl : laidOutB P = true) {W W' : World} (hb : Below W.heap.size W W') {sp : Nat → Bool} :
  ∀ {ts : List TypeId} {vs : List Value} {ds : List (DataW H)} {p : List MemPlace}, (∀ t, t ∈ ts → P.readableRec t = true ∧ t < P.types.size) → DataW.TrodAll enc P W 0 (fun _ => true) true ts vs ds p →
  (∀ x, x ∈ p → x.block < W.heap.size) → (∀ x, x ∈ p → sp x.block = true) → DataW.TrodAll enc P W' 0 sp true ts vs ds p
 | [], [], [], p, _, h, _, _ => h
 | t :: ts, v :: vs, d :: ds, p, hr, h, hlt, hsp => by
  obtain ⟨q, r, h1, h2, rfl⟩ := h;obtain ⟨k1, k2⟩ := hr t List.mem_cons_self
  exact ⟨q, r, WideElems.Trod_stays hl k1 k2 h1 (fun x hx => hb.same (hlt x (List.mem_append_left _ hx))) (fun x hx => hsp x (List.mem_append_left _ hx)),
   trodAll_stays hl hb (fun t ht => hr t (List.mem_cons_of_mem _ ht)) h2 (fun x hx => hlt x (List.mem_append_right _ hx)) (fun x hx => hsp x (List.mem_append_right _ hx)), rfl⟩
 | [], [], _ :: _, _, _, h, _, _ => h.elim
 | [], _ :: _, _, _, _, h, _, _ => h.elim
 | _ :: _, [], _, _, _, h, _, _ => h.elim
 | _ :: _, _ :: _, [], _, _, h, _, _ => h.elim
theorem frozen_below {W W' : World} (hb : Below W.heap.size W W') {a : Addr} (ha : a.block < W.heap.size) : W'.frozen? a = W.frozen? a := by
 simp only [World.frozen?, hb.block a.block ha]
theorem post_kept {H : Type} {enc : TypeId × Value → H} {f : Func} {s : ChangeSpec} {apart fresh handsOn again : Bool} {W W' : World} {args : Array Value} {v : Value} {ds gs : List (DataW H)} {before : List MemPlace}
  (hW : DataW.Whole enc P f.params.toList s.vars apart W args.toList ds gs before) (hnv : s.vars = [])
  (hl : laidOutB P = true) (hr : ∀ t, t ∈ f.params.toList → P.readableRec t = true ∧ t < P.types.size)
  (hfn : (s.fn H (ds ++ gs)).args = ds) (hvn : (s.fn H (ds ++ gs)).vars = [])
  (hres : ∀ (b : Nat) (sp : Nat → Bool) (hd : Bool), DataW.TrodAll enc P W' b sp hd f.resultTypes.toList (v.resultList f.resultTypes.size) (s.fn H (ds ++ gs)).results [])
  (hb : Below W.heap.size W W')
  (hok : ∀ (j : Nat) (t : TypeId) (r : Value), f.resultTypes[j]? = some t → (v.resultList f.resultTypes.size)[j]? = some r → Value.okWide P W' .any 0 t r) :
  s.post enc P f apart fresh handsOn again W args v W' := by
 have hW0 := hW;obtain ⟨p, q, h1, h2, h3, hz, hn⟩ := hW;rw [hnv] at h2
 have hq : q = [] := by
  cases gs with
  | nil => exact h2
  | cons g gs => exact h2.elim
 subst hq;rw [List.append_nil] at h3;subst h3;have hlt : ∀ x, x ∈ before → x.block < W.heap.size := fun x hx => hW0.lt x hx
 have hargs : ∀ sp : Nat → Bool, (∀ x, x ∈ before → sp x.block = true) → DataW.TrodAll enc P W' 0 sp true f.params.toList args.toList (s.fn H (ds ++ gs)).args before := fun sp hsp => by
  rw [hfn];exact trodAll_stays hl hb hr h1 hlt hsp
 have hvars : ∀ sp : Nat → Bool, DataW.TrodVars enc P W' sp s.vars (s.fn H (ds ++ gs)).vars [] := fun sp => by
  rw [hnv, hvn];rfl
 have hk : W.keptBut W' (fun _ => False) := keptBut_of hb.os hb.output fun k hk => hb.block k hk
 have hnd : ∀ b off, MemPlace.cell b off ∈ before → W'.frozen? ⟨b, off, none⟩ = false := fun b off hp => by
  rw [frozen_below hb (hlt _ hp)];exact hz b off hp
 have hold : ∀ x, x ∈ before → (fun b => decide (b < W.heap.size)) x.block = true := fun x hx => (by simpa using hlt x hx);refine ⟨ds, gs, before, [], before, [], hW0, hres _ _ _, hargs _ hold, hvars _, World.keptBut_mono (fun p hp => hp.elim) hk, fun _ => ?_⟩;exact ⟨hok, _, _, [] ++ before, ⟨[] ++ before, [], Go.ChangeShapes.trodAll_append (hargs (fun _ => true) fun _ _ => rfl) (hres 0 (fun _ => true) true), hvars _, by simp, fun b off hp => hnd b off (by simpa using hp), by simpa using hn⟩, fun p hp _ => by simpa using hp⟩
theorem top_wp (hm : P.follows .mixedOrders = true) {p : Prog} (hp : Valid P p) {ext : Ext} (hrx : Rises ext) (hx : CallOk P p.env ext) {φ : Emb} {h0 : Hp} {w : World} (hr : HR φ h0 w) (hok : EnvOk P φ p.env) (hfr : ∀ b, h0.next ≤ b → φ.at_ b = none)
  (hro : ∀ b, (h0.blk b).open_ = false) {f : Nat} {args : List V} {us : List Value} (hen : entered P f = true) (hargs : VRs φ args us) (hw : WPc p ext f args h0 fun v _ => v = .bool true) :
  Calls P f us.toArray w fun e w' => e = .returned (.bool true) ∧ Below w.heap.size w w' := by
 obtain ⟨n, v, h', hc, rfl⟩ := hw;have := call_ok hm hp hrx hx n φ f args h0 (.bool true) h' w us hc hok hr (fun b h1 _ => hfr b h1) hargs;rcases this with ⟨_, h2⟩ | ⟨u, ψ, w', h1, _⟩
 ·refine h2.mono ?_;rintro e w' ⟨u, ψ, rfl, r1, r2⟩;cases r1;exact ⟨rfl, r2.os, r2.tape, r2.output, r2.size, fun k hk => r2.kept k hk fun b pl hb => by rw [hro b] at hb; cases hb⟩
 ·rw [callFunc_entered hen] at h1;cases h1
theorem cells_there {w : World} {a : Addr} {n : Nat} {g : Nat → Value} (h : ∀ i, i < n → w.cell? (a.add i) = some (g i)) (hn : 0 < n) :
  ∃ b off c e fz, a = ⟨b, off, none⟩ ∧ w.heap[b]? = some (.cells c e fz) ∧ off + n ≤ c.size ∧ ∀ i, i < n → c[off + i]? = some (g i) := by
 obtain ⟨b, off, spot⟩ := a;have hspot : spot = none := (by simpa [Addr.add] using World.cell?_spot (h 0 hn));subst hspot
 have h' : ∀ i, i < n → w.cell? ⟨b, off + i, none⟩ = some (g i) := fun i hi => by rw [← Go.WideShapes.add_plain]; exact h i hi
 cases hb : w.heap[b]? with
 | none => have := h' 0 hn; simp [World.cell?, hb] at this
 | some o =>
  cases o with
  | cells c e fz =>
   have hc : ∀ i, i < n → c[off + i]? = some (g i) := fun i hi => (by have := h' i hi; simpa [World.cell?, hb] using this);refine ⟨b, off, c, e, fz, rfl, hb, ?_, hc⟩;have := (Array.getElem?_eq_some_iff.1 (hc (n - 1) (by omega))).1;omega
  | _ => have := h' 0 hn; simp [World.cell?, hb] at this
end Go.Vm
end

section
namespace Go.Vm
open Go.RowKit
variable {P : Program}
def NumsV (j : IntKind) (h : Hp) (s : V) (xs : List Int) : Prop :=
 ((s = .nilslice ∨ ∃ b o c ex, s = .slice b o 1 0 c ex) ∧ xs = []) ∨ ∃ b o c ex l ro, s = .slice b o 1 xs.length c ex ∧ h.blk b = .cells l ro ∧ xs.length ≤ c ∧ ∀ i x, xs[i]? = some x → l[o + i]? = some (.int j x)
theorem NumsV.mono {j : IntKind} {h h' : Hp} {s : V} {xs : List Int} (hs : NumsV j h s xs) (hk : ∀ x, s.hasB x → h'.blk x = h.blk x) : NumsV j h' s xs := by
 rcases hs with h1 | ⟨b, o, c, ex, l, ro, rfl, h2, h3⟩
 ·exact .inl h1
 ·exact .inr ⟨b, o, c, ex, l, ro, rfl, by rw [hk b rfl, h2], h3⟩
inductive Arg where
 | int (k : IntKind) (n : Int)
 | bool (b : Bool)
 | nums (k : IntKind) (xs : List Int)
inductive ArgK where
 | int (k : IntKind)
 | bool
 | nums (k : IntKind)
def Arg.kind : Arg → ArgK
 | .int k _ => .int k
 | .bool _ => .bool
 | .nums k _ => .nums k
def ArgV (h : Hp) : Arg → V → Prop
 | .int k n, v => v = .int k n ∧ (Lit.int k n).wf = true
 | .bool b, v => v = .bool b
 | .nums k xs, v => NumsV k h v xs ∧ (∀ x, x ∈ xs → (Lit.int k x).wf = true) ∧ xs.length ≤ maxLen ∧ ∀ x, v.hasB x → x < h.next
theorem ArgV.mono {h h' : Hp} {a : Arg} {v : V} (ha : ArgV h a v) (hn : h.next ≤ h'.next) (hk : ∀ x, x < h.next → h'.blk x = h.blk x) : ArgV h' a v := by
 cases a with
 | int k n => exact ha
 | bool b => exact ha
 | nums k xs => exact ⟨ha.1.mono fun x hx => hk x (ha.2.2.2 x hx), ha.2.1, ha.2.2.1, fun x hx => Nat.lt_of_lt_of_le (ha.2.2.2 x hx) hn⟩
inductive ArgsV (h : Hp) : List Arg → List V → Prop
 | nil : ArgsV h [] []
 | cons {a : Arg} {v : V} {as : List Arg} {vs : List V} (ha : ArgV h a v) (has : ArgsV h as vs) : ArgsV h (a :: as) (v :: vs)
def kindOk (P : Program) (t : TypeId) : ArgK → Prop
 | .int k => P.underlying t = some (.int k)
 | .bool => P.underlying t = some .bool
 | .nums k => ∃ e, P.underlying t = some (.slice e) ∧ P.underlying e = some (.int k) ∧ P.cellsOf e = 1
inductive KindsOk (P : Program) : List TypeId → List ArgK → Prop
 | nil : KindsOk P [] []
 | cons {t : TypeId} {k : ArgK} {ts : List TypeId} {ks : List ArgK} (h : kindOk P t k) (hs : KindsOk P ts ks) : KindsOk P (t :: ts) (k :: ks)
structure Bare (P : Program) (φ : Emb) (h : Hp) (w : World) : Prop where
 hr : HR φ h w
 ro : ∀ b, (h.blk b).open_ = false
 fr : ∀ b, h.next ≤ b → φ.at_ b = none
 gl : ∀ g, g < P.globals.size → ∃ x, φ.at_ g = some ⟨g, 0, x⟩
 sy : φ.sym = fun _ => .int .i64 0
 nx : P.globals.size ≤ h.next
theorem Bare.start {w : World} : Bare P (emb0 P fun _ => .int .i64 0) (h00 P.globals.size) w where
 hr := ⟨fun b hb => (by rw [blk_h00] at hb; cases hb), fun b b' pl pl' hb => (by rw [blk_h00] at hb; cases hb), fun b _ => blk_h00 _ b⟩
 ro b := by rw [blk_h00]; rfl
 fr b h1 := by
  show (if b < P.globals.size then some (⟨b, 0, 0⟩ : Place) else none) = _;have h1 : P.globals.size ≤ b := h1;rw [if_neg (by omega)]
 gl g hg := ⟨0, by show (if g < P.globals.size then _ else _) = _; rw [if_pos hg]⟩
 sy := rfl
 nx := Nat.le_refl _
theorem rowK_get (k : IntKind) : ∀ (l : List Int) (i : Nat) (v : V), (l.map (V.int k))[i]? = some v → v = .int k (l.getD i 0) ∧ i < l.length := by
 intro l i v h;rw [List.getElem?_map] at h
 cases e : l[i]? with
 | none => rw [e] at h; cases h
 | some x =>
  rw [e] at h;cases h;exact ⟨by rw [List.getD_eq_getElem?_getD, e]; rfl, (List.getElem?_eq_some_iff.1 e).1⟩
theorem Bare.row {φ : Emb} {h : Hp} {w : World} (hb : Bare P φ h w) {k : IntKind} {b off : Nat} {c : Array Value} {ee : TypeId} {fz : Nat × Nat} (zs : List Int) (hc : w.heap[b]? = some (.cells c ee fz)) (hsz : off + zs.length ≤ c.size)
  (hcell : ∀ i, i < zs.length → c[off + i]? = some (.int k (zs.getD i 0))) :
  Bare P ⟨fun x => if x = h.next then some ⟨b, off, zs.length⟩ else φ.at_ x, φ.sym⟩ (h.new (.cells (zs.map (V.int k)) true)) w ∧ φ.Le ⟨fun x => if x = h.next then some ⟨b, off, zs.length⟩ else φ.at_ x, φ.sym⟩ := by
 have hle : φ.Le ⟨fun x => if x = h.next then some ⟨b, off, zs.length⟩ else φ.at_ x, φ.sym⟩ := ⟨fun x pl e => by
  show (if x = h.next then _ else φ.at_ x) = _;rw [if_neg (fun e' => by rw [e', hb.fr _ (Nat.le_refl _)] at e; cases e)]
  exact e, rfl⟩
 have hro : ∀ x, ((h.new (.cells (zs.map (V.int k)) true)).blk x).open_ = false := fun x => by
  rw [blk_new];split
  ·rfl
  ·exact hb.ro x
 refine ⟨⟨⟨fun x hx => ?_, fun x x' q q' _ _ ho => ?_, fun x hx => ?_⟩, hro, fun x hx => ?_, fun g hg => ?_, hb.sy, Nat.le_succ_of_le hb.nx⟩, hle⟩
 ·rw [blk_new] at hx ⊢
  by_cases e : x = h.next
  ·rw [if_pos e];refine ⟨⟨b, off, zs.length⟩, by show (if x = h.next then _ else φ.at_ x) = _; rw [if_pos e], ?_⟩;show CellsRo _ _ _ _;refine ⟨by rw [List.length_map]; exact Nat.le_refl _, c, ee, fz, hc, hsz, fun i v hi => ?_⟩;obtain ⟨rfl, hlt⟩ := rowK_get k zs i v hi;exact ⟨_, hcell i hlt, .int _ _⟩
  ·rw [if_neg e] at hx ⊢;obtain ⟨q, h1, h2⟩ := hb.hr.lies x hx;exact ⟨q, hle.at_ _ _ h1, h2.mono hle rfl⟩
 ·rw [hro, hro] at ho;rcases ho with e | e <;> cases e
 ·have hx : h.next + 1 ≤ x := hx;rw [blk_new, if_neg (by omega)];exact hb.hr.fresh x (by omega)
 ·have hx : h.next + 1 ≤ x := hx;show (if x = h.next then _ else φ.at_ x) = _;rw [if_neg (by omega)];exact hb.fr x (by omega)
 ·obtain ⟨y, e⟩ := hb.gl g hg;exact ⟨y, hle.at_ _ _ e⟩
theorem Bare.arg {H : Type} {enc : TypeId × Value → H} {φ : Emb} {h : Hp} {w : World} (hb : Bare P φ h w) {t : TypeId} {k : ArgK} (hk : kindOk P t k) {r : Reach} {b0 : Nat} {u : Value} {d : DataW H} {ps : List MemPlace}
  (hval : Value.okWide P w r b0 t u) (hd : DataW.Trod enc P w 0 (fun _ => true) true t u d ps) :
  ∃ φ' h' a v, Bare P φ' h' w ∧ φ.Le φ' ∧ h.next ≤ h'.next ∧ (∀ x, x < h.next → h'.blk x = h.blk x) ∧ a.kind = k ∧ ArgV h' a v ∧ VR φ' v u := by
 cases k with
 | int k =>
  obtain ⟨n, rfl, _, _, hw⟩ := Go.ChangeShapes.open_int hk hval hd;exact ⟨φ, h, .int k n, .int k n, hb, .refl φ, Nat.le_refl _, fun _ _ => rfl, rfl, ⟨rfl, hw⟩, .int k n⟩
 | bool =>
  obtain ⟨b, rfl, _⟩ := open_bool hk hval hd;exact ⟨φ, h, .bool b, .bool b, hb, .refl φ, Nat.le_refl _, fun _ _ => rfl, rfl, rfl, .bool b⟩
 | nums k =>
  obtain ⟨e, ht, he, hc1⟩ := hk;obtain ⟨a0, len, cap, rfl⟩ := Go.WideShapes.okWide_slice ht hval;obtain ⟨fuel, hf⟩ := hd;rcases Go.ChangeShapes.open_ints ht he hc1 hf with ⟨hcs, _⟩ | ⟨a, len', cap', zs, hcs, _, hl, hmx, hz, _, hcell, hwz⟩
  ·simp [Value.cells] at hcs;obtain ⟨rfl, rfl, rfl⟩ := hcs;exact ⟨φ, h, .nums k [], .nilslice, hb, .refl φ, Nat.le_refl _, fun _ _ => rfl, rfl, ⟨.inl ⟨.inl rfl, rfl⟩, fun _ h => (by cases h), Nat.zero_le _, fun x hx => hx.elim⟩, .nilslice⟩
  ·simp [Value.cells] at hcs;obtain ⟨rfl, rfl, rfl⟩ := hcs;simp at hz;rcases Nat.eq_zero_or_pos cap with hc0 | hpos
   ·subst hc0;have hl0 : len = 0 := (by omega);subst hl0
    refine ⟨φ, { h with next := h.next + 1 }, .nums k [], .slice h.next 0 1 0 0 true, ?_, .refl φ, Nat.le_succ _, fun _ _ => rfl, rfl, ⟨.inl ⟨.inr ⟨_, _, _, _, rfl⟩, rfl⟩, fun _ h => (by cases h), Nat.zero_le _, fun x hx => ?_⟩,
     .slice h.next 0 1 0 0 true a 0 (fun hh => absurd hh (by omega)) (Nat.le_refl _) (Nat.zero_le _) (fun _ => rfl)⟩
    ·exact ⟨⟨hb.hr.lies, hb.hr.apart, fun x hx => hb.hr.fresh x (Nat.le_of_succ_le hx)⟩, hb.ro, fun x hx => hb.fr x (Nat.le_of_succ_le hx), hb.gl, hb.sy, Nat.le_succ_of_le hb.nx⟩
    ·have : x = h.next := hx;subst this;exact Nat.lt_succ_self _
   ·obtain ⟨b, off, c, ee, fz, rfl, hbk, hsz, hc⟩ := cells_there (n := cap) (g := fun i => .int k (zs.getD i 0)) (fun i hi => hcell i (by omega)) hpos;obtain ⟨hb', hle⟩ := hb.row zs hbk (by omega) (k := k) fun i hi => hc i (by omega)
    refine ⟨_, _, .nums k (zs.take len), .slice h.next 0 1 len cap true, hb', hle, Nat.le_succ _, fun x hx => by rw [blk_new, if_neg (by omega)], rfl, ⟨.inr ⟨h.next, 0, cap, true, zs.map (V.int k), true, ?_, by rw [blk_new, if_pos rfl], by rw [List.length_take]; omega, fun i x hi => ?_⟩, fun x hx => hwz x (List.take_subset _ _ hx), ?_, fun x hx => ?_⟩,
     .slice h.next 0 1 len cap true ⟨b, off, none⟩ cap (fun _ => ⟨⟨b, off, zs.length⟩, by show (if h.next = h.next then _ else _) = _; rw [if_pos rfl], rfl, fun e => by cases e⟩) hl (Nat.le_refl _) (fun _ => rfl)⟩
    ·rw [List.length_take, Nat.min_eq_left (by omega)]
    ·rw [List.getElem?_take] at hi;split at hi
     ·rw [Nat.zero_add, List.getElem?_map, hi]; rfl
     ·cases hi
    ·rw [List.length_take]; omega
    ·have : x = h.next := hx;subst this;exact Nat.lt_succ_self _
theorem Bare.args {H : Type} {enc : TypeId × Value → H} {w : World} {r : Reach} {b0 : Nat} : ∀ {ts : List TypeId} {ks : List ArgK} {us : List Value} {ds : List (DataW H)} {ps : List MemPlace} {φ : Emb} {h : Hp}, KindsOk P ts ks → Bare P φ h w →
  (∀ (j : Nat) t u, ts[j]? = some t → us[j]? = some u → Value.okWide P w r b0 t u) → DataW.TrodAll enc P w 0 (fun _ => true) true ts us ds ps →
  ∃ φ' h' as vs, Bare P φ' h' w ∧ φ.Le φ' ∧ h.next ≤ h'.next ∧ (∀ x, x < h.next → h'.blk x = h.blk x) ∧ as.map Arg.kind = ks ∧ ArgsV h' as vs ∧ VRs φ' vs us
 | [], _, us, ds, ps, φ, h, .nil, hb, _, htr => by
  cases us with
  | nil => exact ⟨φ, h, [], [], hb, .refl φ, Nat.le_refl _, fun _ _ => rfl, rfl, .nil, .nil⟩
  | cons u us => cases ds <;> exact htr.elim
 | t :: ts, _, us, ds, ps, φ, h, .cons (k := k) (ks := ks) hk hks, hb, hval, htr => by
  obtain ⟨u, us', d, ds', p, q, rfl, rfl, rfl, h1, h2⟩ := Go.ChangeShapes.trodAll_cons htr;obtain ⟨φ1, g1, a, v, hb1, le1, n1, k1, e1, a1, r1⟩ := hb.arg hk (hval 0 t u rfl rfl) h1;obtain ⟨φ2, g2, as, vs, hb2, le2, n2, k2, e2, a2, r2⟩ := Bare.args hks hb1 (fun j t u ht hu => hval (j + 1) t u ht hu) h2;exact ⟨φ2, g2, a :: as, v :: vs, hb2, le1.trans le2, Nat.le_trans n1 n2, fun x hx => (k2 x (by omega)).trans (k1 x hx), by rw [List.map_cons, e1, e2], .cons (a1.mono n2 k2) a2, .cons _ _ _ _ (r1.mono le2) r2⟩
theorem top_args (hm : P.follows .mixedOrders = true) {p : Prog} (hp : Valid P p) {ext : Ext} (hrx : Rises ext) (hx : CallOk P p.env ext) (htab : p.env.tab = []) (hints : IntsOk P p.env.ints)
  {f : Nat} (hen : entered P f = true) {ts : List TypeId} {ks : List ArgK} (hks : KindsOk P ts ks)
  (hw : ∀ (h : Hp) (as : List Arg) (vs : List V), as.map Arg.kind = ks → ArgsV h as vs → P.globals.size ≤ h.next → WPc p ext f vs h fun v _ => v = .bool true)
  {H : Type} {enc : TypeId × Value → H} {w : World} {r : Reach} {b0 : Nat} {us : List Value} {ds : List (DataW H)} {ps : List MemPlace}
  (hval : ∀ (j : Nat) t u, ts[j]? = some t → us[j]? = some u → Value.okWide P w r b0 t u) (hd : DataW.TrodAll enc P w 0 (fun _ => true) true ts us ds ps) :
  Calls P f us.toArray w fun e w' => e = .returned (.bool true) ∧ Below w.heap.size w w' := by
 obtain ⟨φ, h, as, vs, hb, _, _, _, e, ha, hv⟩ := Bare.args hks (Bare.start (P := P) (w := w)) hval hd;refine top_wp hm hp hrx hx hb.hr ⟨fun i => ⟨.i64, 0, by rw [hb.sy]⟩, hb.gl, by rw [htab]; exact fun _ _ _ _ _ _ h => (by cases h), hints⟩ hb.fr hb.ro hen hv (hw h as vs e ha hb.nx)
end Go.Vm
end

section
namespace Go.Dv
open Go.Vm
inductive Md where
 | p | c | w | n | o
deriving DecidableEq
structure Fz where
 S : Nat → Prop
 n : Nat
instance : CoeFun Fz fun _ => Nat → Prop := ⟨Fz.S⟩
def Fz.add (S : Fz) (x : Nat) : Fz := ⟨fun c => S.S c ∨ c = x, S.n⟩
def Fz.At (S : Fz) (m : Md) (b : Nat) (ro : Bool) : Prop := S.S b ∧ (m = .n → S.n ≤ b ∧ ro = false) ∧ (m = .o → b < S.n)
theorem Fz.at_p {S : Fz} {b : Nat} {ro : Bool} (h : S.S b) : S.At .p b ro := ⟨h, nofun, nofun⟩
theorem Fz.at_c {S : Fz} {b : Nat} {ro : Bool} (h : S.S b) : S.At .c b ro := ⟨h, nofun, nofun⟩
theorem Fz.at_w {S : Fz} {b : Nat} {ro : Bool} (h : S.S b) : S.At .w b ro := ⟨h, nofun, nofun⟩
inductive D where
 | any
 | lit (v : V)
 | ptr (b o : Nat)
 | rptr (l : List D) (o : Nat)
 | slice (b o sz len cap : Nat) (ex : Bool)
 | row (sz : Nat) (m : Md) (l : List (List D))
 | map (b : Nat)
 | func (f : Nat) (first captured : List D)
 | iface (t : Nat) (v : D)
 | agg (l : List D)
 | tup (l : List D)
instance : Inhabited D := ⟨.any⟩
def atomV : V → Bool
 | .bool _ | .int _ _ | .sym _ | .str _ | .nilptr | .nilslice | .nilmap | .nilfunc | .niliface => true
 | _ => false
mutual
def VD (h : Hp) (ψ : Nat → Option Nat) (S : Fz) : D → V → Prop
 | .any, _ => True
 | .lit w, v => v = w ∧ atomV w = true
 | .ptr b o, v => ∃ c, ψ b = some c ∧ v = .ptr c o
 | .rptr l k, v => ∃ c o cs ro, S c ∧ v = .ptr c (o + k) ∧ h.blk c = .cells cs ro ∧ VDp h ψ S l (cs.drop o)
 | .slice b o sz len cap ex, v => ∃ c, ψ b = some c ∧ v = .slice c o sz len cap ex
 | .row sz m l, v => (v = .nilslice ∧ l = []) ∨ ∃ b o c ex, v = .slice b o sz l.length c ex ∧ l.length ≤ c ∧ (m = .c → c = l.length ∧ ex = true) ∧
   ((m = .w ∧ l = []) ∨ ∃ cs ro, S.At m b ro ∧ h.blk b = .cells cs ro ∧ VDss h ψ S sz l (cs.drop o))
 | .map b, v => ∃ c, ψ b = some c ∧ v = .map c
 | .func f a c, v => ∃ a' c', v = .func f a' c' ∧ VDl h ψ S a a' ∧ VDl h ψ S c c'
 | .iface t d, v => ∃ v', v = .iface t v' ∧ VD h ψ S d v'
 | .agg l, v => ∃ l', v = .agg l' ∧ VDl h ψ S l l'
 | .tup l, v => ∃ l', v = .tup l' ∧ VDl h ψ S l l'
def VDl (h : Hp) (ψ : Nat → Option Nat) (S : Fz) : List D → List V → Prop
 | [], vs => vs = []
 | d :: l, vs => ∃ v r, vs = v :: r ∧ VD h ψ S d v ∧ VDl h ψ S l r
def VDp (h : Hp) (ψ : Nat → Option Nat) (S : Fz) : List D → List V → Prop
 | [], _ => True
 | d :: l, vs => ∃ v r, vs = v :: r ∧ VD h ψ S d v ∧ VDp h ψ S l r
def VDss (h : Hp) (ψ : Nat → Option Nat) (S : Fz) (sz : Nat) : List (List D) → List V → Prop
 | [], _ => True
 | e :: l, cs => e.length = sz ∧ VDp h ψ S e cs ∧ VDss h ψ S sz l (cs.drop sz)
end
section
variable {h h' : Hp} {ψ ψ' : Nat → Option Nat} {S S' : Fz}
structure Ex (h : Hp) (ψ : Nat → Option Nat) (S : Fz) (h' : Hp) (ψ' : Nat → Option Nat) (S' : Fz) : Prop where
 emb : ∀ b c, ψ b = some c → ψ' b = some c
 frz : ∀ c, S c → S' c ∧ h'.blk c = h.blk c
 thr : S'.n = S.n := by exact rfl
theorem Ex.at_ {h h' : Hp} {ψ ψ' : Nat → Option Nat} {S S' : Fz} (x : Ex h ψ S h' ψ' S') {m : Md} {b : Nat} {ro : Bool} (k : S.At m b ro) : S'.At m b ro ∧ h'.blk b = h.blk b :=
 ⟨⟨(x.frz b k.1).1, fun e => by rw [x.thr]; exact k.2.1 e, fun e => by rw [x.thr]; exact k.2.2 e⟩, (x.frz b k.1).2⟩
theorem Ex.refl : Ex h ψ S h ψ S := ⟨fun _ _ e => e, fun _ k => ⟨k, rfl⟩, rfl⟩
theorem Ex.trans {h1 h2 h3 : Hp} {ψ1 ψ2 ψ3 : Nat → Option Nat} {S1 S2 S3 : Fz} (x : Ex h1 ψ1 S1 h2 ψ2 S2) (y : Ex h2 ψ2 S2 h3 ψ3 S3) : Ex h1 ψ1 S1 h3 ψ3 S3 :=
 ⟨fun b c e => y.emb b c (x.emb b c e), fun c k => ⟨(y.frz c (x.frz c k).1).1, ((y.frz c (x.frz c k).1).2).trans (x.frz c k).2⟩, y.thr.trans x.thr⟩
mutual
theorem VD.mono (x : Ex h ψ S h' ψ' S') : ∀ (d : D) {v : V}, VD h ψ S d v → VD h' ψ' S' d v
 | .any, _, _ => by simp [VD]
 | .lit w, _, k => by simpa [VD] using k
 | .ptr b o, _, k => by simp only [VD] at k ⊢; obtain ⟨c, e, rfl⟩ := k; exact ⟨c, x.emb _ _ e, rfl⟩
 | .rptr l k0, _, k => by
  simp only [VD] at k ⊢;obtain ⟨c, o, cs, ro, hs, rfl, hb, hp⟩ := k;exact ⟨c, o, cs, ro, (x.frz c hs).1, rfl, (x.frz c hs).2.trans hb, VDp.mono x l hp⟩
 | .slice b o sz len cap ex, _, k => by simp only [VD] at k ⊢; obtain ⟨c, e, rfl⟩ := k; exact ⟨c, x.emb _ _ e, rfl⟩
 | .row sz m l, _, k => by
  simp only [VD] at k ⊢;rcases k with k | ⟨b, o, c, ex, rfl, h1, h2, k⟩
  ·exact .inl k
  ·refine .inr ⟨b, o, c, ex, rfl, h1, h2, ?_⟩;rcases k with k | ⟨cs, ro, hs, hb, hp⟩
   ·exact .inl k
   ·exact .inr ⟨cs, ro, (x.at_ hs).1, (x.at_ hs).2.trans hb, VDss.mono x sz l hp⟩
 | .map b, _, k => by simp only [VD] at k ⊢; obtain ⟨c, e, rfl⟩ := k; exact ⟨c, x.emb _ _ e, rfl⟩
 | .func f a c, _, k => by
  simp only [VD] at k ⊢;obtain ⟨a', c', rfl, h1, h2⟩ := k;exact ⟨a', c', rfl, VDl.mono x a h1, VDl.mono x c h2⟩
 | .iface t d, _, k => by simp only [VD] at k ⊢; obtain ⟨v', rfl, k⟩ := k; exact ⟨v', rfl, VD.mono x d k⟩
 | .agg l, _, k => by simp only [VD] at k ⊢; obtain ⟨v', rfl, k⟩ := k; exact ⟨v', rfl, VDl.mono x l k⟩
 | .tup l, _, k => by simp only [VD] at k ⊢; obtain ⟨v', rfl, k⟩ := k; exact ⟨v', rfl, VDl.mono x l k⟩
theorem VDl.mono (x : Ex h ψ S h' ψ' S') : ∀ (l : List D) {vs : List V}, VDl h ψ S l vs → VDl h' ψ' S' l vs
 | [], _, k => by simpa [VDl] using k
 | d :: l, _, k => by
  simp only [VDl] at k ⊢;obtain ⟨v, r, rfl, h1, h2⟩ := k;exact ⟨v, r, rfl, VD.mono x d h1, VDl.mono x l h2⟩
theorem VDp.mono (x : Ex h ψ S h' ψ' S') : ∀ (l : List D) {vs : List V}, VDp h ψ S l vs → VDp h' ψ' S' l vs
 | [], _, _ => by simp [VDp]
 | d :: l, _, k => by
  simp only [VDp] at k ⊢;obtain ⟨v, r, rfl, h1, h2⟩ := k;exact ⟨v, r, rfl, VD.mono x d h1, VDp.mono x l h2⟩
theorem VDss.mono (x : Ex h ψ S h' ψ' S') (sz : Nat) : ∀ (l : List (List D)) {vs : List V}, VDss h ψ S sz l vs → VDss h' ψ' S' sz l vs
 | [], _, _ => by simp [VDss]
 | e :: l, _, k => by
  simp only [VDss] at k ⊢;exact ⟨k.1, VDp.mono x e k.2.1, VDss.mono x sz l k.2.2⟩
end
mutual
def D.under (n : Nat) : D → Prop
 | .ptr b _ => b < n
 | .slice b _ _ _ _ _ => b < n
 | .map b => b < n
 | .rptr l _ => D.unders n l
 | .row _ _ l => D.underss n l
 | .func _ a c => D.unders n a ∧ D.unders n c
 | .iface _ d => D.under n d
 | .agg l => D.unders n l
 | .tup l => D.unders n l
 | .any => True
 | .lit _ => True
def D.unders (n : Nat) : List D → Prop
 | [] => True
 | d :: l => D.under n d ∧ D.unders n l
def D.underss (n : Nat) : List (List D) → Prop
 | [] => True
 | e :: l => D.unders n e ∧ D.underss n l
end
mutual
theorem VD.under {n : Nat} (hn : ∀ b c, ψ b = some c → b < n) : ∀ (d : D) {v : V}, VD h ψ S d v → d.under n
 | .any, _, _ => by simp [D.under]
 | .lit w, _, _ => by simp [D.under]
 | .ptr b o, _, k => by simp only [VD] at k; obtain ⟨c, e, rfl⟩ := k; exact hn _ _ e
 | .rptr l k0, _, k => by
  simp only [VD] at k;obtain ⟨c, o, cs, ro, hs, rfl, hb, hp⟩ := k;simp only [D.under];exact VDp.under hn l hp
 | .slice b o sz len cap ex, _, k => by simp only [VD] at k; obtain ⟨c, e, rfl⟩ := k; exact hn _ _ e
 | .row sz m l, _, k => by
  simp only [VD] at k;simp only [D.under];rcases k with ⟨_, rfl⟩ | ⟨b, o, c, ex, rfl, h1, h2, k⟩
  ·simp [D.underss]
  ·rcases k with ⟨_, rfl⟩ | ⟨cs, ro, hs, hb, hp⟩
   ·simp [D.underss]
   ·exact VDss.under hn sz l hp
 | .map b, _, k => by simp only [VD] at k; obtain ⟨c, e, rfl⟩ := k; exact hn _ _ e
 | .func f a c, _, k => by
  simp only [VD] at k;obtain ⟨a', c', rfl, h1, h2⟩ := k;simp only [D.under];exact ⟨VDl.under hn a h1, VDl.under hn c h2⟩
 | .iface t d, _, k => by simp only [VD] at k; obtain ⟨v', rfl, k⟩ := k; simp only [D.under]; exact VD.under hn d k
 | .agg l, _, k => by simp only [VD] at k; obtain ⟨v', rfl, k⟩ := k; simp only [D.under]; exact VDl.under hn l k
 | .tup l, _, k => by simp only [VD] at k; obtain ⟨v', rfl, k⟩ := k; simp only [D.under]; exact VDl.under hn l k
theorem VDl.under {n : Nat} (hn : ∀ b c, ψ b = some c → b < n) : ∀ (l : List D) {vs : List V}, VDl h ψ S l vs → D.unders n l
 | [], _, _ => by simp [D.unders]
 | d :: l, _, k => by
  simp only [VDl] at k;obtain ⟨v, r, rfl, h1, h2⟩ := k;simp only [D.unders];exact ⟨VD.under hn d h1, VDl.under hn l h2⟩
theorem VDp.under {n : Nat} (hn : ∀ b c, ψ b = some c → b < n) : ∀ (l : List D) {vs : List V}, VDp h ψ S l vs → D.unders n l
 | [], _, _ => by simp [D.unders]
 | d :: l, _, k => by
  simp only [VDp] at k;obtain ⟨v, r, rfl, h1, h2⟩ := k;simp only [D.unders];exact ⟨VD.under hn d h1, VDp.under hn l h2⟩
theorem VDss.under {n : Nat} (hn : ∀ b c, ψ b = some c → b < n) (sz : Nat) : ∀ (l : List (List D)) {vs : List V}, VDss h ψ S sz l vs → D.underss n l
 | [], _, _ => by simp [D.underss]
 | e :: l, _, k => by
  simp only [VDss] at k;simp only [D.underss];exact ⟨VDp.under hn e k.2.1, VDss.under hn sz l k.2.2⟩
end
def cutE (ψ : Nat → Option Nat) (n : Nat) : Nat → Option Nat := fun b => if b < n then ψ b else none
theorem cutE_lt {n b : Nat} (hb : b < n) : cutE ψ n b = ψ b := by unfold cutE; rw [if_pos hb]
theorem cutE_some {n b c : Nat} : cutE ψ n b = some c ↔ b < n ∧ ψ b = some c := by
 unfold cutE; split <;> simp_all <;> omega
mutual
theorem VD.cut {n : Nat} : ∀ (d : D) {v : V}, d.under n → VD h ψ S d v → VD h (cutE ψ n) S d v
 | .any, _, _, _ => by simp [VD]
 | .lit w, _, _, k => by simpa [VD] using k
 | .ptr b o, _, hb, k => by simp only [VD, D.under] at k hb ⊢; rw [cutE_lt hb]; exact k
 | .rptr l k0, _, hb, k => by
  simp only [VD, D.under] at k hb ⊢;obtain ⟨c, o, cs, ro, hs, rfl, hb', hp⟩ := k;exact ⟨c, o, cs, ro, hs, rfl, hb', VDp.cut l hb hp⟩
 | .slice b o sz len cap ex, _, hb, k => by simp only [VD, D.under] at k hb ⊢; rw [cutE_lt hb]; exact k
 | .row sz m l, _, hb, k => by
  simp only [VD, D.under] at k hb ⊢;rcases k with k | ⟨b, o, c, ex, rfl, h1, h2, k⟩
  ·exact .inl k
  ·refine .inr ⟨b, o, c, ex, rfl, h1, h2, ?_⟩;rcases k with k | ⟨cs, ro, hs, hb', hp⟩
   ·exact .inl k
   ·exact .inr ⟨cs, ro, hs, hb', VDss.cut sz l hb hp⟩
 | .map b, _, hb, k => by simp only [VD, D.under] at k hb ⊢; rw [cutE_lt hb]; exact k
 | .func f a c, _, hb, k => by
  simp only [VD, D.under] at k hb ⊢;obtain ⟨a', c', rfl, h1, h2⟩ := k;exact ⟨a', c', rfl, VDl.cut a hb.1 h1, VDl.cut c hb.2 h2⟩
 | .iface t d, _, hb, k => by simp only [VD, D.under] at k hb ⊢; obtain ⟨v', rfl, k⟩ := k; exact ⟨v', rfl, VD.cut d hb k⟩
 | .agg l, _, hb, k => by simp only [VD, D.under] at k hb ⊢; obtain ⟨v', rfl, k⟩ := k; exact ⟨v', rfl, VDl.cut l hb k⟩
 | .tup l, _, hb, k => by simp only [VD, D.under] at k hb ⊢; obtain ⟨v', rfl, k⟩ := k; exact ⟨v', rfl, VDl.cut l hb k⟩
theorem VDl.cut {n : Nat} : ∀ (l : List D) {vs : List V}, D.unders n l → VDl h ψ S l vs → VDl h (cutE ψ n) S l vs
 | [], _, _, k => by simpa [VDl] using k
 | d :: l, _, hb, k => by
  simp only [VDl, D.unders] at k hb ⊢;obtain ⟨v, r, rfl, h1, h2⟩ := k;exact ⟨v, r, rfl, VD.cut d hb.1 h1, VDl.cut l hb.2 h2⟩
theorem VDp.cut {n : Nat} : ∀ (l : List D) {vs : List V}, D.unders n l → VDp h ψ S l vs → VDp h (cutE ψ n) S l vs
 | [], _, _, _ => by simp [VDp]
 | d :: l, _, hb, k => by
  simp only [VDp, D.unders] at k hb ⊢;obtain ⟨v, r, rfl, h1, h2⟩ := k;exact ⟨v, r, rfl, VD.cut d hb.1 h1, VDp.cut l hb.2 h2⟩
theorem VDss.cut {n : Nat} (sz : Nat) : ∀ (l : List (List D)) {vs : List V}, D.underss n l → VDss h ψ S sz l vs → VDss h (cutE ψ n) S sz l vs
 | [], _, _, _ => by simp [VDss]
 | e :: l, _, hb, k => by
  simp only [VDss, D.underss] at k hb ⊢;exact ⟨k.1, VDp.cut e hb.1 k.2.1, VDss.cut sz l hb.2 k.2.2⟩
end
@[simp] theorem md_ite_n {c : Prop} [Decidable c] : ((if c then Md.c else Md.p) = Md.n) = False := by split <;> simp
mutual
def D.le : D → D → Prop
 | _, .any => True
 | .lit v, .lit w => v = w
 | .lit v, .row _ _ l => v = .nilslice ∧ l = []
 | .row sz m l, .row sz' m' l' => sz = sz' ∧ (m' = m ∨ m = .c ∧ m' = .p ∨ m' = .w ∨ m = .n ∧ m' = .p) ∧ D.less l l'
 | .agg l, .agg l' => D.les l l'
 | .tup l, .tup l' => D.les l l'
 | .iface t d, .iface t' d' => t = t' ∧ D.le d d'
 | .rptr l k, .rptr l' k' => k = k' ∧ D.les l l'
 | .func f a c, .func f' a' c' => f = f' ∧ D.les a a' ∧ D.les c c'
 | .ptr b o, .ptr b' o' => b = b' ∧ o = o'
 | .slice b o sz len cap ex, .slice b' o' sz' len' cap' ex' => b = b' ∧ o = o' ∧ sz = sz' ∧ len = len' ∧ cap = cap' ∧ ex = ex'
 | .map b, .map b' => b = b'
 | _, _ => False
def D.les : List D → List D → Prop
 | [], [] => True
 | d :: l, d' :: l' => D.le d d' ∧ D.les l l'
 | _, _ => False
def D.less : List (List D) → List (List D) → Prop
 | [], [] => True
 | e :: l, e' :: l' => D.les e e' ∧ D.less l l'
 | _, _ => False
end
theorem les_length : ∀ {l l' : List D}, D.les l l' → l.length = l'.length
 | [], [], _ => rfl
 | d :: l, d' :: l', k => by simp only [D.les] at k; simp [les_length k.2]
 | [], _ :: _, k => by simp [D.les] at k
 | _ :: _, [], k => by simp [D.les] at k
theorem less_length : ∀ {l l' : List (List D)}, D.less l l' → l.length = l'.length
 | [], [], _ => rfl
 | d :: l, d' :: l', k => by simp only [D.less] at k; simp [less_length k.2]
 | [], _ :: _, k => by simp [D.less] at k
 | _ :: _, [], k => by simp [D.less] at k
mutual
theorem VD.le : ∀ (d d' : D) {v : V}, D.le d d' → VD h ψ S d v → VD h ψ S d' v
 | d, .any, _, _, _ => by simp [VD]
 | .lit x, .lit w, _, k, hv => by simp only [D.le] at k; subst k; exact hv
 | .lit x, .row sz m l, _, k, hv => by
  simp only [D.le] at k;obtain ⟨rfl, rfl⟩ := k;simp only [VD] at hv ⊢;exact .inl ⟨hv.1, trivial⟩
 | .row sz m l, .row sz' m' l', _, k, hv => by
  simp only [D.le] at k;obtain ⟨rfl, hm, hl⟩ := k;have hlen := less_length hl;simp only [VD] at hv ⊢;rcases hv with ⟨rfl, rfl⟩ | ⟨b, o, c, ex, rfl, h1, h2, hv⟩
  ·cases l' with
   | nil => exact .inl ⟨rfl, rfl⟩
   | cons e l' => simp [D.less] at hl
  ·refine .inr ⟨b, o, c, ex, by rw [hlen], by rw [← hlen]; exact h1, fun hc => ?_, ?_⟩
   ·rcases hm with rfl | ⟨_, rfl⟩ | rfl | ⟨_, rfl⟩
    ·rw [← hlen]; exact h2 hc
    ·cases hc
    ·cases hc
    ·cases hc
   ·rcases hv with ⟨hw, rfl⟩ | ⟨cs, ro, hs, hb, hp⟩
    ·cases l' with
     | nil =>
      refine .inl ⟨?_, rfl⟩;rcases hm with rfl | ⟨h3, _⟩ | rfl | ⟨h3, _⟩
      ·exact hw
      ·rw [hw] at h3; cases h3
      ·rfl
      ·rw [hw] at h3; cases h3
     | cons e l' => simp [D.less] at hl
    ·refine .inr ⟨cs, ro, ?_, hb, VDss.le sz l l' hl hp⟩;rcases hm with rfl | ⟨_, rfl⟩ | rfl | ⟨_, rfl⟩
     ·exact hs
     ·exact Fz.at_p hs.1
     ·exact Fz.at_w hs.1
     ·exact Fz.at_p hs.1
 | .agg l, .agg l', _, k, hv => by
  simp only [D.le, VD] at k hv ⊢;obtain ⟨v', rfl, hv⟩ := hv;exact ⟨v', rfl, VDl.le l l' k hv⟩
 | .tup l, .tup l', _, k, hv => by
  simp only [D.le, VD] at k hv ⊢;obtain ⟨v', rfl, hv⟩ := hv;exact ⟨v', rfl, VDl.le l l' k hv⟩
 | .iface t d, .iface t' d', _, k, hv => by
  simp only [D.le, VD] at k hv ⊢;obtain ⟨v', rfl, hv⟩ := hv;obtain ⟨rfl, k⟩ := k;exact ⟨v', rfl, VD.le d d' k hv⟩
 | .rptr l k0, .rptr l' k0', _, k, hv => by
  simp only [D.le, VD] at k hv ⊢;obtain ⟨rfl, k⟩ := k;obtain ⟨c, o, cs, ro, hs, rfl, hb, hp⟩ := hv;exact ⟨c, o, cs, ro, hs, rfl, hb, VDp.le l l' k hp⟩
 | .func f a c, .func f' a' c', _, k, hv => by
  simp only [D.le, VD] at k hv ⊢;obtain ⟨rfl, k1, k2⟩ := k;obtain ⟨x, y, rfl, h1, h2⟩ := hv;exact ⟨x, y, rfl, VDl.le a a' k1 h1, VDl.le c c' k2 h2⟩
 | .ptr b o, .ptr b' o', _, k, hv => by simp only [D.le] at k; obtain ⟨rfl, rfl⟩ := k; exact hv
 | .slice b o sz len cap ex, .slice b' o' sz' len' cap' ex', _, k, hv => by simp only [D.le] at k; obtain ⟨rfl, rfl, rfl, rfl, rfl, rfl⟩ := k; exact hv
 | .map b, .map b', _, k, hv => by simp only [D.le] at k; subst k; exact hv
 | .any, .lit _, _, k, _ | .any, .ptr _ _, _, k, _ | .any, .rptr _ _, _, k, _ | .any, .slice _ _ _ _ _ _, _, k, _ | .any, .row _ _ _, _, k, _ | .any, .map _, _, k, _ | .any, .func _ _ _, _, k, _ | .any, .iface _ _, _, k, _ | .any, .agg _, _, k, _ | .any, .tup _, _, k, _ => by simp [D.le] at k
 | .lit _, .ptr _ _, _, k, _ | .lit _, .rptr _ _, _, k, _ | .lit _, .slice _ _ _ _ _ _, _, k, _ | .lit _, .map _, _, k, _ | .lit _, .func _ _ _, _, k, _ | .lit _, .iface _ _, _, k, _ | .lit _, .agg _, _, k, _ | .lit _, .tup _, _, k, _ => by simp [D.le] at k
 | .ptr _ _, .lit _, _, k, _ | .ptr _ _, .rptr _ _, _, k, _ | .ptr _ _, .slice _ _ _ _ _ _, _, k, _ | .ptr _ _, .row _ _ _, _, k, _ | .ptr _ _, .map _, _, k, _ | .ptr _ _, .func _ _ _, _, k, _ | .ptr _ _, .iface _ _, _, k, _ | .ptr _ _, .agg _, _, k, _ | .ptr _ _, .tup _, _, k, _ => by simp [D.le] at k
 | .rptr _ _, .lit _, _, k, _ | .rptr _ _, .ptr _ _, _, k, _ | .rptr _ _, .slice _ _ _ _ _ _, _, k, _ | .rptr _ _, .row _ _ _, _, k, _ | .rptr _ _, .map _, _, k, _ | .rptr _ _, .func _ _ _, _, k, _ | .rptr _ _, .iface _ _, _, k, _ | .rptr _ _, .agg _, _, k, _ | .rptr _ _, .tup _, _, k, _ => by simp [D.le] at k
 | .slice _ _ _ _ _ _, .lit _, _, k, _ | .slice _ _ _ _ _ _, .ptr _ _, _, k, _ | .slice _ _ _ _ _ _, .rptr _ _, _, k, _ | .slice _ _ _ _ _ _, .row _ _ _, _, k, _ | .slice _ _ _ _ _ _, .map _, _, k, _ | .slice _ _ _ _ _ _, .func _ _ _, _, k, _ | .slice _ _ _ _ _ _, .iface _ _, _, k, _ | .slice _ _ _ _ _ _, .agg _, _, k, _ | .slice _ _ _ _ _ _, .tup _, _, k, _ => by simp [D.le] at k
 | .row _ _ _, .lit _, _, k, _ | .row _ _ _, .ptr _ _, _, k, _ | .row _ _ _, .rptr _ _, _, k, _ | .row _ _ _, .slice _ _ _ _ _ _, _, k, _ | .row _ _ _, .map _, _, k, _ | .row _ _ _, .func _ _ _, _, k, _ | .row _ _ _, .iface _ _, _, k, _ | .row _ _ _, .agg _, _, k, _ | .row _ _ _, .tup _, _, k, _ => by simp [D.le] at k
 | .map _, .lit _, _, k, _ | .map _, .ptr _ _, _, k, _ | .map _, .rptr _ _, _, k, _ | .map _, .slice _ _ _ _ _ _, _, k, _ | .map _, .row _ _ _, _, k, _ | .map _, .func _ _ _, _, k, _ | .map _, .iface _ _, _, k, _ | .map _, .agg _, _, k, _ | .map _, .tup _, _, k, _ => by simp [D.le] at k
 | .func _ _ _, .lit _, _, k, _ | .func _ _ _, .ptr _ _, _, k, _ | .func _ _ _, .rptr _ _, _, k, _ | .func _ _ _, .slice _ _ _ _ _ _, _, k, _ | .func _ _ _, .row _ _ _, _, k, _ | .func _ _ _, .map _, _, k, _ | .func _ _ _, .iface _ _, _, k, _ | .func _ _ _, .agg _, _, k, _ | .func _ _ _, .tup _, _, k, _ => by simp [D.le] at k
 | .iface _ _, .lit _, _, k, _ | .iface _ _, .ptr _ _, _, k, _ | .iface _ _, .rptr _ _, _, k, _ | .iface _ _, .slice _ _ _ _ _ _, _, k, _ | .iface _ _, .row _ _ _, _, k, _ | .iface _ _, .map _, _, k, _ | .iface _ _, .func _ _ _, _, k, _ | .iface _ _, .agg _, _, k, _ | .iface _ _, .tup _, _, k, _ => by simp [D.le] at k
 | .agg _, .lit _, _, k, _ | .agg _, .ptr _ _, _, k, _ | .agg _, .rptr _ _, _, k, _ | .agg _, .slice _ _ _ _ _ _, _, k, _ | .agg _, .row _ _ _, _, k, _ | .agg _, .map _, _, k, _ | .agg _, .func _ _ _, _, k, _ | .agg _, .iface _ _, _, k, _ | .agg _, .tup _, _, k, _ => by simp [D.le] at k
 | .tup _, .lit _, _, k, _ | .tup _, .ptr _ _, _, k, _ | .tup _, .rptr _ _, _, k, _ | .tup _, .slice _ _ _ _ _ _, _, k, _ | .tup _, .row _ _ _, _, k, _ | .tup _, .map _, _, k, _ | .tup _, .func _ _ _, _, k, _ | .tup _, .iface _ _, _, k, _ | .tup _, .agg _, _, k, _ => by simp [D.le] at k
theorem VDl.le : ∀ (l l' : List D) {vs : List V}, D.les l l' → VDl h ψ S l vs → VDl h ψ S l' vs
 | [], [], _, _, hv => hv
 | d :: l, d' :: l', _, k, hv => by
  simp only [D.les, VDl] at k hv ⊢;obtain ⟨v, r, rfl, h1, h2⟩ := hv;exact ⟨v, r, rfl, VD.le d d' k.1 h1, VDl.le l l' k.2 h2⟩
 | [], _ :: _, _, k, _ => by simp [D.les] at k
 | _ :: _, [], _, k, _ => by simp [D.les] at k
theorem VDp.le : ∀ (l l' : List D) {vs : List V}, D.les l l' → VDp h ψ S l vs → VDp h ψ S l' vs
 | [], [], _, _, hv => hv
 | d :: l, d' :: l', _, k, hv => by
  simp only [D.les, VDp] at k hv ⊢;obtain ⟨v, r, rfl, h1, h2⟩ := hv;exact ⟨v, r, rfl, VD.le d d' k.1 h1, VDp.le l l' k.2 h2⟩
 | [], _ :: _, _, k, _ => by simp [D.les] at k
 | _ :: _, [], _, k, _ => by simp [D.les] at k
theorem VDss.le (sz : Nat) : ∀ (l l' : List (List D)) {vs : List V}, D.less l l' → VDss h ψ S sz l vs → VDss h ψ S sz l' vs
 | [], [], _, _, hv => hv
 | e :: l, e' :: l', _, k, hv => by
  simp only [D.less, VDss] at k hv ⊢;exact ⟨by rw [← les_length k.1]; exact hv.1, VDp.le e e' k.1 hv.2.1, VDss.le sz l l' k.2 hv.2.2⟩
 | [], _ :: _, _, k, _ => by simp [D.less] at k
 | _ :: _, [], _, k, _ => by simp [D.less] at k
end
mutual
theorem D.le_refl : ∀ d : D, D.le d d
 | .any => by simp [D.le]
 | .lit _ => by simp [D.le]
 | .ptr _ _ => by simp [D.le]
 | .rptr l _ => by simp only [D.le]; exact ⟨trivial, D.les_refl l⟩
 | .slice _ _ _ _ _ _ => by simp [D.le]
 | .row _ _ l => by simp only [D.le]; exact ⟨trivial, .inl trivial, D.less_refl l⟩
 | .map _ => by simp [D.le]
 | .func _ a c => by simp only [D.le]; exact ⟨trivial, D.les_refl a, D.les_refl c⟩
 | .iface _ d => by simp only [D.le]; exact ⟨trivial, D.le_refl d⟩
 | .agg l => by simp only [D.le]; exact D.les_refl l
 | .tup l => by simp only [D.le]; exact D.les_refl l
theorem D.les_refl : ∀ l : List D, D.les l l
 | [] => by simp [D.les]
 | d :: l => by simp only [D.les]; exact ⟨D.le_refl d, D.les_refl l⟩
theorem D.less_refl : ∀ l : List (List D), D.less l l
 | [] => by simp [D.less]
 | e :: l => by simp only [D.less]; exact ⟨D.les_refl e, D.less_refl l⟩
end
end
end Go.Dv
end

section
namespace Go.Dv
open Go.Vm
inductive BD where
 | cells (l : List D) (ro : Bool)
 | map (kk : Option IntKind) (l : List (V × D))
 | gone
structure HpD where
 next : Nat
 blk : Nat → BD
def HpD.put (H : HpD) (b : Nat) (x : BD) : HpD := ⟨H.next, fun c => if c = b then x else H.blk c⟩
def HpD.new (H : HpD) (x : BD) : HpD := ⟨H.next + 1, fun c => if c = H.next then x else H.blk c⟩
theorem put_blk {H : HpD} {b c : Nat} {x : BD} : (H.put b x).blk c = if c = b then x else H.blk c := rfl
theorem new_blk {H : HpD} {c : Nat} {x : BD} : (H.new x).blk c = if c = H.next then x else H.blk c := rfl
theorem put_next {H : HpD} {b : Nat} {x : BD} : (H.put b x).next = H.next := rfl
theorem new_next {H : HpD} {x : BD} : (H.new x).next = H.next + 1 := rfl
def VDm (h : Hp) (ψ : Nat → Option Nat) (S : Fz) : List (V × D) → List (V × V) → Prop
 | [], l' => l' = []
 | (k, d) :: l, l' => ∃ v r, l' = (k, v) :: r ∧ VD h ψ S d v ∧ VDm h ψ S l r
def BR (h : Hp) (ψ : Nat → Option Nat) (S : Fz) : BD → Blk → Prop
 | .cells l ro, x => ∃ l', x = .cells l' ro ∧ VDl h ψ S l l'
 | .map kk l, x => ∃ l', x = .map kk l' ∧ VDm h ψ S l l'
 | .gone, _ => True
def BD.isGone : BD → Bool
 | .gone => true
 | _ => false
structure SR (G : Nat → Option (Blk → Prop)) (ψ : Nat → Option Nat) (S : Fz) (H : HpD) (h : Hp) : Prop where
 inj : ∀ b b' c, ψ b = some c → ψ b' = some c → b = b'
 dom : ∀ b c, ψ b = some c → b < H.next ∧ c < h.next
 frz : ∀ c, S c → c < h.next
 live : ∀ b, (H.blk b).isGone = false → ∃ c, ψ b = some c ∧ ¬ S c ∧ BR h ψ S (H.blk b) (h.blk c)
 gl : ∀ c y, G c = some y → S c ∧ y (h.blk c)
 low : S.n ≤ h.next ∧ ∀ b c, ψ b = some c → S.n ≤ c
abbrev FrD := List (Nat × D)
def lk : FrD → Nat → D
 | [], _ => .any
 | (k, d) :: l, t => cond (Nat.beq k t) d (lk l t)
def FrR (h : Hp) (ψ : Nat → Option Nat) (S : Fz) (fr : FrD) (frv : Fr) : Prop := ∀ t, VD h ψ S (lk fr t) (ev frv (.tmp t))
def putD (fr : FrD) (dst : Option Nat) (d : D) : FrD :=
 match dst with
 | none => fr
 | some t => (t, d) :: fr
def keep : List Nat → FrD → FrD
 | [], _ => []
 | t :: l, fr => (t, lk fr t) :: keep l fr
mutual
def dV : V → D
 | .agg l => .agg (dVs l)
 | .tup l => .tup (dVs l)
 | .func f a c => .func f (dVs a) (dVs c)
 | .iface t v => .iface t (dV v)
 | .ptr _ _ => .any
 | .slice _ _ _ _ _ _ => .any
 | .map _ => .any
 | .bool b => .lit (.bool b)
 | .int k n => .lit (.int k n)
 | .sym i => .lit (.sym i)
 | .str l => .lit (.str l)
 | .nilptr => .lit .nilptr
 | .nilslice => .lit .nilslice
 | .nilmap => .lit .nilmap
 | .nilfunc => .lit .nilfunc
 | .niliface => .lit .niliface
def dVs : List V → List D
 | [] => []
 | v :: l => dV v :: dVs l
end
section
variable {h h' : Hp} {ψ ψ' : Nat → Option Nat} {S S' : Fz}
mutual
theorem dV_ok : ∀ v : V, VD h ψ S (dV v) v
 | .agg l => by simp only [dV, VD]; exact ⟨l, rfl, dVs_ok l⟩
 | .tup l => by simp only [dV, VD]; exact ⟨l, rfl, dVs_ok l⟩
 | .func f a c => by simp only [dV, VD]; exact ⟨a, c, rfl, dVs_ok a, dVs_ok c⟩
 | .iface t v => by simp only [dV, VD]; exact ⟨v, rfl, dV_ok v⟩
 | .ptr _ _ => by simp only [dV, VD]
 | .slice _ _ _ _ _ _ => by simp only [dV, VD]
 | .map _ => by simp only [dV, VD]
 | .bool b => by simp [dV, VD, atomV]
 | .int k n => by simp [dV, VD, atomV]
 | .sym i => by simp [dV, VD, atomV]
 | .str l => by simp [dV, VD, atomV]
 | .nilptr => by simp [dV, VD, atomV]
 | .nilslice => by simp [dV, VD, atomV]
 | .nilmap => by simp [dV, VD, atomV]
 | .nilfunc => by simp [dV, VD, atomV]
 | .niliface => by simp [dV, VD, atomV]
theorem dVs_ok : ∀ l : List V, VDl h ψ S (dVs l) l
 | [] => by simp [dVs, VDl]
 | v :: l => by simp only [dVs, VDl]; exact ⟨v, l, rfl, dV_ok v, dVs_ok l⟩
end
theorem VDm.mono (x : Ex h ψ S h' ψ' S') : ∀ {l : List (V × D)} {vs : List (V × V)}, VDm h ψ S l vs → VDm h' ψ' S' l vs
 | [], _, k => k
 | (a, d) :: l, _, k => by
  simp only [VDm] at k ⊢;obtain ⟨v, r, rfl, h1, h2⟩ := k;exact ⟨v, r, rfl, VD.mono x d h1, VDm.mono x h2⟩
theorem BR.mono (x : Ex h ψ S h' ψ' S') : ∀ {y : BD} {z : Blk}, BR h ψ S y z → BR h' ψ' S' y z
 | .cells l ro, _, k => by obtain ⟨l', rfl, k⟩ := k; exact ⟨l', rfl, VDl.mono x l k⟩
 | .map kk l, _, k => by obtain ⟨l', rfl, k⟩ := k; exact ⟨l', rfl, VDm.mono x k⟩
 | .gone, _, _ => trivial
theorem FrR.mono (x : Ex h ψ S h' ψ' S') {fr : FrD} {frv : Fr} (k : FrR h ψ S fr frv) : FrR h' ψ' S' fr frv := fun t => VD.mono x _ (k t)
theorem FrR.put {fr : FrD} {frv : Fr} (k : FrR h ψ S fr frv) {d : D} {v : V} (hv : VD h ψ S d v) (dst : Option Nat) : FrR h ψ S (putD fr dst d) (putO frv dst v) := by
 cases dst with
 | none => exact k
 | some t =>
  intro u;simp only [putD, lk, ev_put]
  by_cases e : t = u
  ·subst e; simpa using hv
  ·rw [if_neg (by omega)];rw [show Nat.beq t u = false from by rw [nbeq_d]; exact decide_eq_false e];exact k u
theorem lk_keep {fr : FrD} {t : Nat} : ∀ {l : List Nat}, lk (keep l fr) t = if t ∈ l then lk fr t else .any
 | [] => rfl
 | u :: l => by
  simp only [keep, lk]
  by_cases e : u = t
  ·subst e; simp
  ·rw [show Nat.beq u t = false from by rw [nbeq_d]; exact decide_eq_false e, cond_false, lk_keep];simp [List.mem_cons, Ne.symm e]
theorem FrR.keep {fr : FrD} {frv : Fr} (k : FrR h ψ S fr frv) (l : List Nat) : FrR h ψ S (keep l fr) frv := by
 intro t;rw [lk_keep];split
 ·exact k t
 ·simp [VD]
def evD (fr : FrD) : Opd → D
 | .tmp t => lk fr t
 | .val v => dV v
def evsD (fr : FrD) : List Opd → List D
 | [] => []
 | x :: l => evD fr x :: evsD fr l
theorem evD_ok {fr : FrD} {frv : Fr} (k : FrR h ψ S fr frv) : ∀ x : Opd, VD h ψ S (evD fr x) (ev frv x)
 | .tmp t => k t
 | .val v => dV_ok v
theorem evsD_ok {fr : FrD} {frv : Fr} (k : FrR h ψ S fr frv) : ∀ l : List Opd, VDl h ψ S (evsD fr l) (evs frv l)
 | [] => by simp [evsD, evs, VDl]
 | x :: l => by simp only [evsD, evs, VDl]; exact ⟨_, _, rfl, evD_ok k x, evsD_ok k l⟩
theorem VDl.length : ∀ {l : List D} {vs : List V}, VDl h ψ S l vs → vs.length = l.length
 | [], _, k => by simp only [VDl] at k; subst k; rfl
 | d :: l, _, k => by simp only [VDl] at k; obtain ⟨v, r, rfl, _, k⟩ := k; simp [VDl.length k]
theorem VDl.get : ∀ {l : List D} {vs : List V} {i : Nat} {d : D}, VDl h ψ S l vs → l[i]? = some d → ∃ v, vs[i]? = some v ∧ VD h ψ S d v
 | [], _, _, _, _, e => by simp at e
 | d :: l, _, i, _, k, e => by
  simp only [VDl] at k;obtain ⟨v, r, rfl, h1, k⟩ := k
  cases i with
  | zero => simp at e; subst e; exact ⟨v, rfl, h1⟩
  | succ i => simp at e ⊢; exact VDl.get k e
theorem VDl.append : ∀ {l m : List D} {vs us : List V}, VDl h ψ S l vs → VDl h ψ S m us → VDl h ψ S (l ++ m) (vs ++ us)
 | [], _, _, _, k, k2 => by simp only [VDl] at k; subst k; simpa using k2
 | d :: l, _, _, _, k, k2 => by
  simp only [VDl, List.cons_append] at k ⊢;obtain ⟨v, r, rfl, h1, k⟩ := k;exact ⟨v, r ++ _, rfl, h1, VDl.append k k2⟩
theorem VDl.take : ∀ {l : List D} {vs : List V} (n : Nat), VDl h ψ S l vs → VDl h ψ S (l.take n) (vs.take n)
 | [], _, n, k => by simp only [VDl] at k; subst k; simp [VDl]
 | d :: l, _, n, k => by
  simp only [VDl] at k;obtain ⟨v, r, rfl, h1, k⟩ := k
  cases n with
  | zero => simp [VDl]
  | succ n => simp only [List.take_succ_cons, VDl]; exact ⟨v, _, rfl, h1, VDl.take n k⟩
theorem VDl.drop : ∀ {l : List D} {vs : List V} (n : Nat), VDl h ψ S l vs → VDl h ψ S (l.drop n) (vs.drop n)
 | [], _, n, k => by simp only [VDl] at k; subst k; simp [VDl]
 | d :: l, _, n, k => by
  cases n with
  | zero => exact k
  | succ n =>
   simp only [VDl] at k;obtain ⟨v, r, rfl, h1, k⟩ := k;exact VDl.drop n k
theorem VDl.set : ∀ {l : List D} {vs : List V} (i : Nat) {d : D} {v : V}, VDl h ψ S l vs → VD h ψ S d v → VDl h ψ S (l.set i d) (vs.set i v)
 | [], _, n, _, _, k, _ => by simp only [VDl] at k; subst k; simp [VDl]
 | d :: l, _, n, _, _, k, k2 => by
  simp only [VDl] at k;obtain ⟨v, r, rfl, h1, k⟩ := k
  cases n with
  | zero => simp only [List.set_cons_zero, VDl]; exact ⟨_, _, rfl, k2, k⟩
  | succ n => simp only [List.set_cons_succ, VDl]; exact ⟨_, _, rfl, h1, VDl.set n k k2⟩
theorem VDp.of : ∀ {l : List D} {vs us : List V}, VDl h ψ S l vs → VDp h ψ S l (vs ++ us)
 | [], _, _, _ => by simp [VDp]
 | d :: l, _, _, k => by
  simp only [VDl] at k;obtain ⟨v, r, rfl, h1, k⟩ := k;simp only [List.cons_append, VDp];exact ⟨_, _, rfl, h1, VDp.of k⟩
theorem VDp.take : ∀ {l : List D} {vs : List V} {n : Nat}, VDp h ψ S l vs → n ≤ l.length → ∃ us, takeX n vs = some us ∧ VDl h ψ S (l.take n) us
 | _, _, 0, _, _ => ⟨[], rfl, by simp [VDl]⟩
 | [], _, n + 1, _, hn => by simp at hn
 | d :: l, _, n + 1, k, hn => by
  simp only [VDp] at k;obtain ⟨v, r, rfl, h1, k⟩ := k;obtain ⟨us, e, k2⟩ := VDp.take (n := n) k (by simpa using hn);exact ⟨v :: us, by simp [takeX, e], by simp only [List.take_succ_cons, VDl]; exact ⟨v, us, rfl, h1, k2⟩⟩
theorem VDp.drop : ∀ {l : List D} {vs : List V} {n : Nat}, VDp h ψ S l vs → VDp h ψ S (l.drop n) (vs.drop n)
 | _, _, 0, k => k
 | [], _, n + 1, _ => by simp [VDp]
 | d :: l, _, n + 1, k => by
  simp only [VDp] at k;obtain ⟨v, r, rfl, h1, k⟩ := k;exact VDp.drop (n := n) k
theorem VDss.get : ∀ {l : List (List D)} {cs : List V} {sz i : Nat} {e : List D}, VDss h ψ S sz l cs → l[i]? = some e → e.length = sz ∧ VDp h ψ S e (cs.drop (i * sz))
 | [], _, _, _, _, _, e => by simp at e
 | x :: l, cs, sz, i, e, k, he => by
  simp only [VDss] at k
  cases i with
  | zero => simp at he; subst he; exact ⟨k.1, by simpa using k.2.1⟩
  | succ i =>
   obtain ⟨h1, h2⟩ := VDss.get k.2.2 (by simpa using he);refine ⟨h1, ?_⟩;rw [List.drop_drop] at h2;rw [show (i + 1) * sz = sz + i * sz from by rw [Nat.succ_mul]; omega];exact h2
theorem VDss.take : ∀ {l : List (List D)} {cs : List V} {sz n : Nat}, VDss h ψ S sz l cs → VDss h ψ S sz (l.take n) cs
 | [], _, _, _, _ => by simp [VDss]
 | x :: l, cs, sz, 0, k => by simp [VDss]
 | x :: l, cs, sz, n + 1, k => by
  simp only [VDss, List.take_succ_cons] at k ⊢;exact ⟨k.1, k.2.1, VDss.take k.2.2⟩
theorem VDss.drop : ∀ {l : List (List D)} {cs : List V} {sz n : Nat}, VDss h ψ S sz l cs → VDss h ψ S sz (l.drop n) (cs.drop (n * sz))
 | [], _, _, _, _ => by simp [VDss]
 | x :: l, cs, sz, 0, k => by simpa using k
 | x :: l, cs, sz, n + 1, k => by
  simp only [VDss, List.drop_succ_cons] at k ⊢;have := VDss.drop (n := n) k.2.2;rw [List.drop_drop] at this;rw [show (n + 1) * sz = sz + n * sz from by rw [Nat.succ_mul]; omega];exact this
theorem VDss.cells : ∀ {l : List (List D)} {cs : List V} {sz : Nat}, VDss h ψ S sz l cs → ∃ us, takeX (l.length * sz) cs = some us ∧ VDl h ψ S l.flatten us
 | [], cs, sz, _ => ⟨[], by simp [takeX], by simp [VDl]⟩
 | x :: l, cs, sz, k => by
  simp only [VDss] at k;obtain ⟨us, e1, k1⟩ := VDp.take (n := sz) k.2.1 (by omega);obtain ⟨ws, e2, k2⟩ := VDss.cells k.2.2;rw [List.take_of_length_le (by omega)] at k1;refine ⟨us ++ ws, ?_, ?_⟩
  ·obtain ⟨a1, a2⟩ := takeX_eq e1;obtain ⟨b1, b2⟩ := takeX_eq e2;rw [List.length_drop] at b2;have hl : (x :: l).length * sz = sz + l.length * sz := (by rw [List.length_cons, Nat.succ_mul]; omega);rw [takeX_of (by omega), hl, List.take_add];rw [← a1, ← b1]
  ·simp only [List.flatten_cons]; exact VDl.append k1 k2
theorem VDss.of : ∀ {l : List (List D)} {cs us : List V} {sz : Nat}, (∀ e, e ∈ l → e.length = sz) → VDl h ψ S l.flatten cs → VDss h ψ S sz l (cs ++ us)
 | [], cs, us, sz, _, _ => by simp [VDss]
 | x :: l, cs, us, sz, he, k => by
  have hx : x.length = sz := he x (List.mem_cons_self ..);have h1 := VDl.take sz k;have h2 := VDl.drop sz k;have hlen := k.length;rw [List.flatten_cons] at h1 h2;rw [List.take_left' hx] at h1;rw [List.drop_left' hx] at h2;have hle : sz ≤ cs.length := (by rw [hlen]; simp; omega);simp only [VDss];refine ⟨hx, ?_, ?_⟩
  ·have := VDp.of (us := cs.drop sz ++ us) h1
   rwa [← List.append_assoc, List.take_append_drop] at this
  ·rw [List.drop_append_of_le_length hle];exact VDss.of (fun e k => he e (List.mem_cons_of_mem _ k)) h2
end
end Go.Dv
end

section
namespace Go.Dv
open Go.Vm
mutual
def toV : D → Option V
 | .lit v => some v
 | .agg l => match toVs l with
  | some r => some (.agg r)
  | none => none
 | .iface t d => match toV d with
  | some v => some (.iface t v)
  | none => none
 | _ => none
def toVs : List D → Option (List V)
 | [] => some []
 | d :: l => match toV d with
  | some v => match toVs l with
   | some r => some (v :: r)
   | none => none
  | none => none
end
def litO (o : Option V) : Option D :=
 match o with
 | some v => cond (atomV v) (some (.lit v)) none
 | none => none
def pickD (t : Bool) (x y : D) : D :=
 match t with
 | true => x
 | false => y
def cellsD : D → Option (List D)
 | .agg l => some l
 | .any => none
 | .tup _ => none
 | d => some [d]
def spliceD : List D → Nat → List D → List D
 | l, 0, vs => vs ++ l.drop vs.length
 | x :: l, o + 1, vs => x :: spliceD l o vs
 | [], _ + 1, _ => []
def evPartsD (fr : FrD) : List (Nat × Nat × Opd) → List (Nat × Nat × D)
 | [] => []
 | (o, n, x) :: l => (o, n, evD fr x) :: evPartsD fr l
def fillD : List D → List (Nat × Nat × D) → Option (List D)
 | c, [] => some c
 | c, (o, n, d) :: l => match cellsD d with
  | some cs => cond (Nat.beq cs.length n) (cond (Nat.ble (o + n) c.length) (fillD (spliceD c o cs) l) none) none
  | none => none
def aggD (o : Option (List D)) : Option D :=
 match o with
 | some l => some (.agg l)
 | none => none
def nilchkD (x : D) : Option D := match x with
 | .ptr b o => some (.ptr b o)
 | .rptr l o => some (.rptr l o)
 | .func f a c => some (.func f a c)
 | _ => none
def binD (tab : Tab) (op : BinOp) (x y : D) : Option D := match x, y with
 | .lit v, .lit w => litO (binV tab op v w)
 | _, _ => none
def isEq (ty : ETy) (x y : D) : Option Bool :=
 match toV x, toV y with
 | some v, some w => eqV ty v w
 | _, _ => match ty, x, y with
  | .ptr, .lit .nilptr, .ptr _ _ => some false
  | .ptr, .lit .nilptr, .rptr _ _ => some false
  | .ptr, .ptr _ _, .lit .nilptr => some false
  | .ptr, .rptr _ _, .lit .nilptr => some false
  | .ptr, .ptr b o, .ptr b' o' => cond (Nat.beq b b') (some (Nat.beq o o')) none
  | .func, .lit .nilfunc, .func _ _ _ => some false
  | .func, .func _ _ _, .lit .nilfunc => some false
  | .slice, .slice _ _ _ _ _ _, .lit .nilslice => some false
  | _, _, _ => none
def eqD (ty : ETy) (neg : Bool) (x y : D) : Option D :=
 match isEq ty x y with
 | some r => some (.lit (.bool (cond neg (!r) r)))
 | none => none
def isEqi (ints : List Nat) (lit : Bool) (x y : D) : Option Bool :=
 match toV x, toV y with
 | some v, some w => eqiV ints lit v w
 | _, _ => match x, y with
  | .lit .niliface, .iface _ _ => some false
  | .iface _ _, .lit .niliface => some false
  | _, _ => none
def eqiD (ints : List Nat) (lit neg : Bool) (x y : D) : Option D :=
 match isEqi ints lit x y with
 | some r => some (.lit (.bool (cond neg (!r) r)))
 | none => none
def lit1 (f : V → Option V) (x : D) : Option D := match x with
 | .lit v => litO (f v)
 | _ => none
def faddrD (off : Nat) (x : D) : Option D := match x with
 | .ptr b o => some (.ptr b (o + off))
 | .rptr l o => some (.rptr l (o + off))
 | _ => none
def field1D (off : Nat) (x : D) : Option D := match x with
 | .agg l => l[off]?
 | _ => none
def fieldnD (off n : Nat) (x : D) : Option D := match x with
 | .agg l => cond (Nat.ble (off + n) l.length) (some (.agg ((l.drop off).take n))) none
 | _ => none
def natD (x : D) : Option Nat := match x with
 | .lit v => natOf v
 | _ => none
def elemD (o : Option (List D)) : Option D := match o with
 | some e => some (.rptr e 0)
 | none => none
def iaddrD (sz : Nat) (x i : D) : Option D := match natD i with
 | some n => match x with
  | .slice b o sz' len _ _ => cond (Nat.blt n len) (cond (Nat.beq sz sz') (some (.ptr b (o + n * sz))) none) none
  | .row sz' _ l => cond (Nat.beq sz sz') (elemD l[n]?) none
  | _ => none
 | none => none
def iaddraD (len sz : Nat) (x i : D) : Option D := match natD i with
 | some n => match x with
  | .ptr b o => cond (Nat.blt n len) (some (.ptr b (o + n * sz))) none
  | _ => none
 | none => none
def idx1D (len : Nat) (x i : D) : Option D := match natD i with
 | some n => match x with
  | .agg l => cond (Nat.blt n len) l[n]? none
  | _ => none
 | none => none
def idxnD (len sz : Nat) (x i : D) : Option D := match natD i with
 | some n => match x with
  | .agg l => cond (Nat.blt n len) (cond (Nat.ble (n * sz + sz) l.length) (some (.agg ((l.drop (n * sz)).take sz))) none) none
  | _ => none
 | none => none
def idxsD (x i : D) : Option D := match x, i with
 | .lit v, .lit w => litO (idxsV v w)
 | _, _ => none
def extD (i : Nat) (x : D) : Option D := match x with
 | .tup l => l[i]?
 | _ => none
def lenbD (x : D) : Option D := match x with
 | .lit .nilslice => some (.lit (.int .i64 0))
 | .slice _ _ _ len _ _ => some (.lit (.int .i64 (len : Int)))
 | .row _ _ l => some (.lit (.int .i64 (l.length : Int)))
 | _ => none
def capsD (x : D) : Option D := match x with
 | .lit .nilslice => some (.lit (.int .i64 0))
 | .slice _ _ _ _ c true => some (.lit (.int .i64 (c : Int)))
 | .row _ .c l => some (.lit (.int .i64 (l.length : Int)))
 | _ => none
def evoD (fr : FrD) : Option Opd → Option D
 | none => none
 | some x => some (evD fr x)
def bndD (x : Option D) : Option (Option V) := match x with
 | none => some none
 | some (.lit v) => some (some v)
 | some _ => none
def sliceO (o : Option V) : Option D := match o with
 | some (.slice b o sz len c e) => some (.slice b o sz len c e)
 | some .nilslice => some (.lit .nilslice)
 | _ => none
def cutMd (m : Md) (mx : Option V) (h : Nat) : Md := match m with
 | .w => .w
 | .n => .n
 | .o => .o
 | _ => match mx with
  | none => .p
  | some v => match natOf v with
   | some k => cond (Nat.beq k h) .c .p
   | none => .p
def slcRow (sz : Nat) (m : Md) (l : List (List D)) (lo hi mx : Option V) : Option D :=
 match boundM mx l.length true with
 | some (k, _) => match boundH hi l.length k with
  | some h => match boundL lo h with
   | some j => some (.row sz (cutMd m mx h) ((l.take h).drop j))
   | none => none
  | none => none
 | none => none
def slcD (sz : Nat) (x : D) (lo hi mx : Option D) : Option D :=
 match bndD lo, bndD hi, bndD mx with
 | some lo, some hi, some mx => match x with
  | .lit .nilslice => sliceO (slcV sz .nilslice lo hi mx)
  | .slice b o sz' len c ex => sliceO (slcV sz (.slice b o sz' len c ex) lo hi mx)
  | .row sz' m l => cond (Nat.beq sz sz') (cond (needH hi mx) (slcRow sz m l lo hi mx) none) none
  | _ => none
 | _, _, _ => none
def slaD (n sz : Nat) (x : D) (lo hi mx : Option D) : Option D :=
 match bndD lo, bndD hi, bndD mx with
 | some lo, some hi, some mx => match x with
  | .ptr b o => sliceO (slaV n sz (.ptr b o) lo hi mx)
  | _ => none
 | _, _, _ => none
def slsD (x : D) (lo hi : Option D) : Option D :=
 match bndD lo, bndD hi with
 | some lo, some hi => match x with
  | .lit v => litO (slsV v lo hi)
  | _ => none
 | _, _ => none
def foldD (f : V → V → Option V) (l : List D) : Option D := match toVs l with
 | some (x :: r) => litO (foldV f x r)
 | _ => none
def pD (env : Env) (fr : FrD) : POp → Option D
 | .mov x => some (evD fr x)
 | .pick c a b => match evD fr c with
  | .lit (.bool t) => some (pickD t (evD fr a) (evD fr b))
  | _ => none
 | .build zero parts => aggD (fillD (dVs zero) (evPartsD fr parts))
 | .nilchk x => nilchkD (evD fr x)
 | .bin op x y => binD env.tab op (evD fr x) (evD fr y)
 | .eq ty neg x y => eqD ty neg (evD fr x) (evD fr y)
 | .eqi lit neg x y => eqiD env.ints lit neg (evD fr x) (evD fr y)
 | .neg x => lit1 negV (evD fr x)
 | .not x => lit1 notV (evD fr x)
 | .compl x => lit1 complV (evD fr x)
 | .conv c x => lit1 (convV c) (evD fr x)
 | .mkiface t x => some (.iface t (evD fr x))
 | .mkfunc f first captured => some (.func f (evsD fr first) (evsD fr captured))
 | .slc sz x lo hi mx => slcD sz (evD fr x) (evoD fr lo) (evoD fr hi) (evoD fr mx)
 | .sls x lo hi => slsD (evD fr x) (evoD fr lo) (evoD fr hi)
 | .sla n sz x lo hi mx => slaD n sz (evD fr x) (evoD fr lo) (evoD fr hi) (evoD fr mx)
 | .faddr off x => faddrD off (evD fr x)
 | .field1 off x => field1D off (evD fr x)
 | .fieldn off n x => fieldnD off n (evD fr x)
 | .iaddr sz x i => iaddrD sz (evD fr x) (evD fr i)
 | .iaddra len sz x i => iaddraD len sz (evD fr x) (evD fr i)
 | .idxs x i => idxsD (evD fr x) (evD fr i)
 | .idx1 len x i => idx1D len (evD fr x) (evD fr i)
 | .idxn len sz x i => idxnD len sz (evD fr x) (evD fr i)
 | .ext x i => extD i (evD fr x)
 | .lens x => lit1 lensV (evD fr x)
 | .lenb x => lenbD (evD fr x)
 | .lena n => some (.lit (.int .i64 (n : Int)))
 | .caps x => capsD (evD fr x)
 | .min l => foldD (min2V env.tab) (evsD fr l)
 | .max l => foldD (max2V env.tab) (evsD fr l)
section
variable {h : Hp} {ψ : Nat → Option Nat} {S : Fz}
mutual
theorem toV_ok : ∀ (d : D) {v w : V}, toV d = some w → VD h ψ S d v → v = w
 | .lit x, _, _, e, k => by simp only [toV, VD] at e k; cases e; exact k.1
 | .agg l, _, _, e, k => by
  simp only [toV] at e;split at e
  ·rename_i r hr;cases e;simp only [VD] at k;obtain ⟨l', rfl, k⟩ := k;rw [toVs_ok l hr k]
  ·cases e
 | .iface t d, _, _, e, k => by
  simp only [toV] at e;split at e
  ·rename_i r hr;cases e;simp only [VD] at k;obtain ⟨l', rfl, k⟩ := k;rw [toV_ok d hr k]
  ·cases e
 | .any, _, _, e, _ | .ptr _ _, _, _, e, _ | .rptr _ _, _, _, e, _ | .slice _ _ _ _ _ _, _, _, e, _ | .row _ _ _, _, _, e, _ | .map _, _, _, e, _ | .func _ _ _, _, _, e, _ | .tup _, _, _, e, _ => by simp [toV] at e
theorem toVs_ok : ∀ (l : List D) {vs ws : List V}, toVs l = some ws → VDl h ψ S l vs → vs = ws
 | [], _, _, e, k => by simp only [toVs, VDl] at e k; cases e; exact k
 | d :: l, _, _, e, k => by
  simp only [toVs] at e;split at e
  ·rename_i v hv;split at e
   ·rename_i r hr;cases e;simp only [VDl] at k;obtain ⟨v', r', rfl, k1, k2⟩ := k;rw [toV_ok d hv k1, toVs_ok l hr k2]
   ·cases e
  ·cases e
end
theorem litO_some {o : Option V} {d : D} (e : litO o = some d) : ∃ v, o = some v ∧ d = .lit v ∧ VD h ψ S d v := by
 unfold litO at e;split at e
 ·rename_i v;rw [cond_eq_ite] at e;split at e
  ·rename_i ha; cases e; exact ⟨v, rfl, rfl, by simp [VD, ha]⟩
  ·cases e
 ·cases e
theorem cellsD_ok {d : D} {v : V} {l : List D} (e : cellsD d = some l) (k : VD h ψ S d v) : VDl h ψ S l v.cells := by
 cases d with
 | agg l' => cases e; simp only [VD] at k; obtain ⟨l', rfl, k⟩ := k; exact k
 | any => cases e
 | tup => cases e
 | lit w => cases e; have k' := k; simp only [VD] at k'; obtain ⟨rfl, ha⟩ := k'; cases v <;> first | (simp only [VDl, V.cells]; exact ⟨_, _, rfl, k, rfl⟩) | cases ha
 | ptr b o => cases e; have k' := k; simp only [VD] at k'; obtain ⟨c, _, rfl⟩ := k'; simp only [VDl, V.cells]; exact ⟨_, _, rfl, k, rfl⟩
 | rptr l o => cases e; have k' := k; simp only [VD] at k'; obtain ⟨_, _, _, _, _, rfl, _⟩ := k'; simp only [VDl, V.cells]; exact ⟨_, _, rfl, k, rfl⟩
 | slice => cases e; have k' := k; simp only [VD] at k'; obtain ⟨c, _, rfl⟩ := k'; simp only [VDl, V.cells]; exact ⟨_, _, rfl, k, rfl⟩
 | row => cases e; have k' := k; simp only [VD] at k'; rcases k' with ⟨rfl, _⟩ | ⟨_, _, _, _, rfl, _⟩ <;> (simp only [VDl, V.cells]; exact ⟨_, _, rfl, k, rfl⟩)
 | map => cases e; have k' := k; simp only [VD] at k'; obtain ⟨c, _, rfl⟩ := k'; simp only [VDl, V.cells]; exact ⟨_, _, rfl, k, rfl⟩
 | func => cases e; have k' := k; simp only [VD] at k'; obtain ⟨_, _, rfl, _⟩ := k'; simp only [VDl, V.cells]; exact ⟨_, _, rfl, k, rfl⟩
 | iface => cases e; have k' := k; simp only [VD] at k'; obtain ⟨_, rfl, _⟩ := k'; simp only [VDl, V.cells]; exact ⟨_, _, rfl, k, rfl⟩
theorem over_eq : ∀ (l vs : List V), vs.length ≤ l.length → over l vs = vs ++ l.drop vs.length
 | l, [], _ => by cases l <;> simp [over]
 | [], v :: vs, hl => by simp at hl
 | x :: l, v :: vs, hl => by simp only [over, List.cons_append, List.length_cons, List.drop_succ_cons]; rw [over_eq l vs (by simpa using hl)]
theorem spliceD_ok : ∀ {l : List D} {vs : List V} {o : Nat} {m : List D} {us : List V}, VDl h ψ S l vs → VDl h ψ S m us → o + m.length ≤ l.length → VDl h ψ S (spliceD l o m) (splice vs o us)
 | l, vs, 0, m, us, k, k2, hl => by
  have h1 := k.length;have h2 := k2.length;rw [show splice vs 0 us = over vs us from by cases vs <;> rfl, over_eq _ _ (by omega)];rw [show spliceD l 0 m = m ++ l.drop m.length from by cases l <;> rfl, h2];exact VDl.append k2 (VDl.drop _ k)
 | d :: l, vs, o + 1, m, us, k, k2, hl => by
  simp only [VDl] at k;obtain ⟨v, r, rfl, h1, k⟩ := k;simp only [spliceD, splice, VDl];exact ⟨_, _, rfl, h1, spliceD_ok k k2 (by simp at hl; omega)⟩
 | [], vs, o + 1, m, us, k, k2, hl => by simp at hl
theorem spliceD_length : ∀ {l : List D} {o : Nat} {m : List D}, o + m.length ≤ l.length → (spliceD l o m).length = l.length
 | l, 0, m, hl => by
  rw [show spliceD l 0 m = m ++ l.drop m.length from by cases l <;> rfl];simp; omega
 | d :: l, o + 1, m, hl => by
  simp only [spliceD, List.length_cons];rw [spliceD_length (by simp at hl; omega)]
 | [], o + 1, m, hl => by simp at hl
theorem fillD_ok {fr : FrD} {frv : Fr} (k : FrR h ψ S fr frv) : ∀ (l : List (Nat × Nat × Opd)) {c : List D} {vs : List V} {r : List D}, VDl h ψ S c vs → fillD c (evPartsD fr l) = some r → ∃ us, fillV vs (evParts frv l) = some us ∧ VDl h ψ S r us
 | [], c, vs, r, k1, e => by simp only [evPartsD, fillD] at e; cases e; exact ⟨vs, rfl, k1⟩
 | (o, n, x) :: l, c, vs, r, k1, e => by
  simp only [evPartsD, fillD] at e;split at e
  ·rename_i cs hcs;have hk := cellsD_ok hcs (evD_ok k x);rw [cond_eq_ite, cond_eq_ite] at e;split at e
   ·rename_i h1;split at e
    ·rename_i h2;rw [nbeq] at h1;rw [nble] at h2;obtain ⟨us, e1, k2⟩ := fillD_ok k l (spliceD_ok k1 hk (by omega)) e;refine ⟨us, ?_, k2⟩;simp only [evParts, fillV];rw [show Nat.beq (ev frv x).cells.length n = true from nbeq.2 (by rw [hk.length, h1]), show Nat.ble (o + n) vs.length = true from nble.2 (by rw [k1.length]; exact h2)];exact e1
    ·cases e
   ·cases e
  ·cases e
theorem bnd_ok {fr : FrD} {frv : Fr} (k : FrR h ψ S fr frv) : ∀ (x : Option Opd) {b : Option V}, bndD (evoD fr x) = some b → evo frv x = b
 | none, b, e => by simp only [evoD, bndD] at e; cases e; rfl
 | some x, b, e => by
  simp only [evoD] at e;have hk := evD_ok k x;simp only [evo]
  cases hx : evD fr x <;> rw [hx] at e hk <;> simp only [bndD] at e <;> first | cases e | skip
  simp only [VD] at hk;rw [hk.1]
theorem natD_ok {d : D} {v : V} {n : Nat} (e : natD d = some n) (k : VD h ψ S d v) : natOf v = some n := by
 cases d <;> simp only [natD] at e <;> first | cases e | skip
 simp only [VD] at k;rw [k.1]; exact e
end
end Go.Dv
end
