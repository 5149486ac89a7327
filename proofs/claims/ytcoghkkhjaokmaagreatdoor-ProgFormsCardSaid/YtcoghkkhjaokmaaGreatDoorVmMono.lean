/-
  Vm, part 32: more fuel does the same; runs without a number of steps ('WP', 'WPc', 'WPo'), and the rules by which they are walked.
-/
import Derived.Test.YtcoghkkhjaokmaaGreatDoorVmConst
namespace Go.Vm

abbrev CallF := Nat → List V → Hp → Option (V × Hp)

def CallLe (C D : CallF) : Prop := ∀ f args h r, C f args h = some r → D f args h = some r

theorem eV_mono {C D : CallF} (hcd : CallLe C D) {fr : Fr} {h : Hp} {o : EOp} {r : V × Hp} (e : eV C fr h o = some r) : eV D fr h o = some r := by
  cases o
  case call f args => exact hcd _ _ _ _ e
  case extern f args => exact hcd _ _ _ _ e
  case callv x args =>
    simp only [eV] at e ⊢
    split at e
    · exact hcd _ _ _ _ e
    · cases e
  all_goals exact e

theorem opV_mono {C D : CallF} (hcd : CallLe C D) {env : Env} {fr : Fr} {h : Hp} {o : MOp} {r : V × Hp} (e : opV env C fr h o = some r) : opV env D fr h o = some r := by
  cases o
  case e o => exact eV_mono hcd e
  all_goals exact e

theorem runOps_mono {C D : CallF} (hcd : CallLe C D) {env : Env} : ∀ {l : List MO} {fr : Fr} {h : Hp} {r : Fr × Hp}, runOps env C l fr h = some r → runOps env D l fr h = some r
  | [], _, _, _, e => e
  | o :: l, fr, h, r, e => by
    simp only [runOps] at e ⊢
    split at e
    · exact runOps_mono hcd e
    · cases e
    · split at e
      · rename_i v h' hv
        rw [opV_mono hcd hv]
        exact runOps_mono hcd e
      · cases e

theorem runD_mono {C D : CallF} (hcd : CallLe C D) {env : Env} : ∀ {l : List DO} {p : Nat} {fr : Fr} {h : Hp} {st : List (Nat × Hp)} {rds : List Rd} {r : Fr × Hp}, runD env C l p fr h st rds = some r → runD env D l p fr h st rds = some r
  | [], _, _, _, _, _, _, e => e
  | o :: l, p, fr, h, st, rds, r, e => by
    simp only [runD] at e ⊢
    split at e
    · exact runD_mono hcd e
    · cases e
    · split at e
      · rename_i v h' hv
        rw [opV_mono hcd hv]
        exact runD_mono hcd e
      · cases e

variable {p : Prog} {ext : Ext}

def ExLe (x y : MCode → Fr → Hp → Res) : Prop := ∀ c fr h, x c fr h ≠ .fail → y c fr h = x c fr h

theorem callV_mono {x y : MCode → Fr → Hp → Res} (hxy : ExLe x y) : CallLe (callV p ext x) (callV p ext y) := by
  intro f args h r e
  unfold callV at e ⊢
  cases hq : ext f args h with
  | some q => rw [hq] at e; exact e
  | none =>
    rw [hq] at e
    simp only at e ⊢
    cases hfn : p.funs.get f with
    | none => rw [hfn] at e; exact e
    | some fn =>
      rw [hfn] at e
      simp only at e ⊢
      rw [cond_eq_ite] at e; split at e
      case isFalse => cases e
      rename_i hb
      rw [cond_eq_ite, if_pos hb]
      have hne : x fn.body (argsFr args 0 .leaf) h ≠ .fail := fun hf => by rw [hf] at e; cases e
      rw [hxy _ _ _ hne]
      exact e

theorem exec_region (n : Nat) (ops : List MO) (fr : Fr) (h : Hp) : exec p ext (n + 1) (.region ops) fr h = match runOps p.env (callV p ext (exec p ext n)) ops fr h with
  | some (fr', h') => .ok fr' h'
  | none => .fail := rfl
theorem exec_dregion (n : Nat) (ops : List DO) (fr : Fr) (h : Hp) : exec p ext (n + 1) (.dregion ops) fr h = match runD p.env (callV p ext (exec p ext n)) ops 0 fr h [(0, h)] [] with
  | some (fr', h') => .ok fr' h'
  | none => .fail := rfl
theorem exec_seq (n : Nat) (a b : MCode) (fr : Fr) (h : Hp) : exec p ext (n + 1) (.seq a b) fr h = match exec p ext n a fr h with
  | .ok fr' h' => exec p ext n b fr' h'
  | r => r := rfl
theorem exec_cond (n : Nat) (c : Opd) (a b : MCode) (fr : Fr) (h : Hp) : exec p ext (n + 1) (.cond c a b) fr h = match ev fr c with
  | .bool true => exec p ext n a fr h
  | .bool false => exec p ext n b fr h
  | _ => .fail := rfl
theorem exec_block (n : Nat) (id : Nat) (c : MCode) (fr : Fr) (h : Hp) : exec p ext (n + 1) (.block id c) fr h = match exec p ext n c fr h with
  | .exit id' fr' h' => cond (Nat.beq id' id) (.ok fr' h') (.exit id' fr' h')
  | r => r := rfl
theorem exec_loop (n : Nat) (c : MCode) (fr : Fr) (h : Hp) : exec p ext (n + 1) (.loop c) fr h = match exec p ext n c fr h with
  | .ok fr' h' => exec p ext n (.loop c) fr' h'
  | r => r := rfl

theorem exec_le (n : Nat) : ExLe (exec p ext n) (exec p ext (n + 1)) := by
  induction n with
  | zero => intro c fr h hne; exact absurd rfl hne
  | succ n ih =>
    have hc : CallLe (callV p ext (exec p ext n)) (callV p ext (exec p ext (n + 1))) := callV_mono ih
    intro c fr h hne
    cases c with
    | skip => rfl
    | exit id => rfl
    | ret => rfl
    | region ops =>
      rw [exec_region] at hne; rw [exec_region, exec_region]
      cases e : runOps p.env (callV p ext (exec p ext n)) ops fr h with
      | none => rw [e] at hne; exact absurd rfl hne
      | some r => rw [runOps_mono hc e]
    | dregion ops =>
      rw [exec_dregion] at hne; rw [exec_dregion, exec_dregion]
      cases e : runD p.env (callV p ext (exec p ext n)) ops 0 fr h [(0, h)] [] with
      | none => rw [e] at hne; exact absurd rfl hne
      | some r => rw [runD_mono hc e]
    | seq a b =>
      rw [exec_seq] at hne; rw [exec_seq, exec_seq]
      have ha : exec p ext n a fr h ≠ .fail := fun hf => by rw [hf] at hne; exact hne rfl
      rw [show exec p ext (n + 1) a fr h = exec p ext n a fr h from ih a fr h ha]
      cases e : exec p ext n a fr h with
      | ok fr' h' => rw [e] at hne; exact ih b fr' h' hne
      | _ => rfl
    | cond c a b =>
      rw [exec_cond] at hne; rw [exec_cond, exec_cond]
      split
      · rename_i hg; rw [hg] at hne; exact ih a fr h hne
      · rename_i hg; rw [hg] at hne; exact ih b fr h hne
      · rfl
    | block id c =>
      rw [exec_block] at hne; rw [exec_block, exec_block]
      have ha : exec p ext n c fr h ≠ .fail := fun hf => by rw [hf] at hne; exact hne rfl
      rw [show exec p ext (n + 1) c fr h = exec p ext n c fr h from ih c fr h ha]
    | loop c =>
      rw [exec_loop] at hne; rw [exec_loop, exec_loop]
      have ha : exec p ext n c fr h ≠ .fail := fun hf => by rw [hf] at hne; exact hne rfl
      rw [show exec p ext (n + 1) c fr h = exec p ext n c fr h from ih c fr h ha]
      cases e : exec p ext n c fr h with
      | ok fr' h' => rw [e] at hne; exact ih (.loop c) fr' h' hne
      | _ => rfl

theorem exec_mono {n m : Nat} (hnm : n ≤ m) : ExLe (exec p ext n) (exec p ext m) := by
  induction hnm with
  | refl => intro c fr h _; rfl
  | step _ ih => intro c fr h hne; rw [show exec p ext _ c fr h = exec p ext _ c fr h from exec_le _ c fr h (by rw [ih c fr h hne]; exact hne)]; exact ih c fr h hne

theorem call_mono {n m : Nat} (hnm : n ≤ m) : CallLe (call p ext n) (call p ext m) := callV_mono (exec_mono hnm)

/-! ### Runs without a number -/

/-- Code comes to an end of which Q. -/
def WP (p : Prog) (ext : Ext) (c : MCode) (fr : Fr) (h : Hp) (Q : Res → Prop) : Prop := ∃ n, exec p ext n c fr h ≠ .fail ∧ Q (exec p ext n c fr h)

/-- A call comes to a value and a heap of which Q. -/
def WPc (p : Prog) (ext : Ext) (f : Nat) (args : List V) (h : Hp) (Q : V → Hp → Prop) : Prop := ∃ n v h', call p ext n f args h = some (v, h') ∧ Q v h'

/-- Operations come to a frame and a heap of which Q. -/
def WPo (p : Prog) (ext : Ext) (l : List MO) (fr : Fr) (h : Hp) (Q : Fr → Hp → Prop) : Prop := ∃ n fr' h', runOps p.env (call p ext n) l fr h = some (fr', h') ∧ Q fr' h'

/-- .. whose order is open. -/
def WPd (p : Prog) (ext : Ext) (l : List DO) (i : Nat) (fr : Fr) (h : Hp) (st : List (Nat × Hp)) (rds : List Rd) (Q : Fr → Hp → Prop) : Prop := ∃ n fr' h', runD p.env (call p ext n) l i fr h st rds = some (fr', h') ∧ Q fr' h'

theorem WP.mono {c : MCode} {fr : Fr} {h : Hp} {Q R : Res → Prop} (hw : WP p ext c fr h Q) (hqr : ∀ r, Q r → R r) : WP p ext c fr h R :=
  let ⟨n, a, b⟩ := hw; ⟨n, a, hqr _ b⟩

theorem WPc.mono {f : Nat} {args : List V} {h : Hp} {Q R : V → Hp → Prop} (hw : WPc p ext f args h Q) (hqr : ∀ v h', Q v h' → R v h') : WPc p ext f args h R :=
  let ⟨n, v, h', a, b⟩ := hw; ⟨n, v, h', a, hqr _ _ b⟩

theorem wp_skip' {fr : Fr} {h : Hp} {Q : Res → Prop} (hq : Q (.ok fr h)) : WP p ext .skip fr h Q := ⟨1, by simp [exec], by simpa [exec] using hq⟩
theorem wp_exit' {id : Nat} {fr : Fr} {h : Hp} {Q : Res → Prop} (hq : Q (.exit id fr h)) : WP p ext (.exit id) fr h Q := ⟨1, by simp [exec], by simpa [exec] using hq⟩
theorem wp_ret' {fr : Fr} {h : Hp} {Q : Res → Prop} (hq : Q (.ret fr h)) : WP p ext .ret fr h Q := ⟨1, by simp [exec], by simpa [exec] using hq⟩

theorem wp_region' {l : List MO} {fr : Fr} {h : Hp} {Q : Res → Prop} (hw : WPo p ext l fr h fun fr' h' => Q (.ok fr' h')) : WP p ext (.region l) fr h Q := by
  obtain ⟨n, fr', h', e, q⟩ := hw
  have e' : runOps p.env (callV p ext (exec p ext n)) l fr h = some (fr', h') := e
  exact ⟨n + 1, by simp [exec, e'], by simpa [exec, e'] using q⟩

theorem wp_dregion' {l : List DO} {fr : Fr} {h : Hp} {Q : Res → Prop} (hw : WPd p ext l 0 fr h [(0, h)] [] fun fr' h' => Q (.ok fr' h')) : WP p ext (.dregion l) fr h Q := by
  obtain ⟨n, fr', h', e, q⟩ := hw
  have e' : runD p.env (callV p ext (exec p ext n)) l 0 fr h [(0, h)] [] = some (fr', h') := e
  exact ⟨n + 1, by simp [exec, e'], by simpa [exec, e'] using q⟩

/-- What comes behind a first part. -/
def thenR (Q : Res → Prop) (next : Fr → Hp → Prop) : Res → Prop
  | .fail => False
  | .ok fr h => next fr h
  | .exit id fr h => Q (.exit id fr h)
  | .ret fr h => Q (.ret fr h)

@[simp] theorem thenR_ok {Q : Res → Prop} {next : Fr → Hp → Prop} {fr : Fr} {h : Hp} : thenR Q next (.ok fr h) = next fr h := rfl
@[simp] theorem thenR_exit {Q : Res → Prop} {next : Fr → Hp → Prop} {id : Nat} {fr : Fr} {h : Hp} : thenR Q next (.exit id fr h) = Q (.exit id fr h) := rfl
@[simp] theorem thenR_ret {Q : Res → Prop} {next : Fr → Hp → Prop} {fr : Fr} {h : Hp} : thenR Q next (.ret fr h) = Q (.ret fr h) := rfl

theorem wp_seq' {a b : MCode} {fr : Fr} {h : Hp} {Q : Res → Prop} (hw : WP p ext a fr h (thenR Q fun fr' h' => WP p ext b fr' h' Q)) : WP p ext (.seq a b) fr h Q := by
  obtain ⟨n, hn, q⟩ := hw
  cases e : exec p ext n a fr h with
  | fail => exact absurd e hn
  | ok fr' h' =>
    rw [e] at q
    obtain ⟨m, hm, q⟩ := q
    have e1 : exec p ext (max n m) a fr h = .ok fr' h' := (exec_mono (Nat.le_max_left n m) a fr h hn).trans e
    have e2 : exec p ext (max n m) b fr' h' = exec p ext m b fr' h' := exec_mono (Nat.le_max_right n m) b fr' h' hm
    exact ⟨max n m + 1, by simp only [exec, e1, e2]; exact hm, by simp only [exec, e1, e2]; exact q⟩
  | exit id fr' h' => rw [e] at q; exact ⟨n + 1, by simp [exec, e], by simpa [exec, e] using q⟩
  | ret fr' h' => rw [e] at q; exact ⟨n + 1, by simp [exec, e], by simpa [exec, e] using q⟩

theorem wp_cond' {c : Opd} {a b : MCode} {fr : Fr} {h : Hp} {Q : Res → Prop} (t : Bool) (ht : ev fr c = .bool t) (ha : t = true → WP p ext a fr h Q) (hb : t = false → WP p ext b fr h Q) : WP p ext (.cond c a b) fr h Q := by
  cases t with
  | true => obtain ⟨n, hn, q⟩ := ha rfl; exact ⟨n + 1, by simpa [exec, ht] using hn, by simpa [exec, ht] using q⟩
  | false => obtain ⟨n, hn, q⟩ := hb rfl; exact ⟨n + 1, by simpa [exec, ht] using hn, by simpa [exec, ht] using q⟩

/-- What comes behind a block. -/
def blockR (id : Nat) (Q : Res → Prop) : Res → Prop
  | .fail => False
  | .ok fr h => Q (.ok fr h)
  | .exit id' fr h => cond (Nat.beq id' id) (Q (.ok fr h)) (Q (.exit id' fr h))
  | .ret fr h => Q (.ret fr h)

@[simp] theorem blockR_ok {Q : Res → Prop} {id : Nat} {fr : Fr} {h : Hp} : blockR id Q (.ok fr h) = Q (.ok fr h) := rfl
@[simp] theorem blockR_exit {Q : Res → Prop} {id id' : Nat} {fr : Fr} {h : Hp} : blockR id Q (.exit id' fr h) = cond (Nat.beq id' id) (Q (.ok fr h)) (Q (.exit id' fr h)) := rfl
@[simp] theorem blockR_ret {Q : Res → Prop} {id : Nat} {fr : Fr} {h : Hp} : blockR id Q (.ret fr h) = Q (.ret fr h) := rfl

theorem wp_block' {id : Nat} {c : MCode} {fr : Fr} {h : Hp} {Q : Res → Prop} (hw : WP p ext c fr h (blockR id Q)) : WP p ext (.block id c) fr h Q := by
  obtain ⟨n, hn, q⟩ := hw
  cases e : exec p ext n c fr h with
  | fail => exact absurd e hn
  | ok fr' h' => rw [e] at q; exact ⟨n + 1, by simp [exec, e], by simpa [exec, e] using q⟩
  | ret fr' h' => rw [e] at q; exact ⟨n + 1, by simp [exec, e], by simpa [exec, e] using q⟩
  | exit id' fr' h' =>
    rw [e] at q
    simp only [blockR_exit] at q
    cases hb : Nat.beq id' id with
    | true => rw [hb] at q; exact ⟨n + 1, by simp [exec, e, hb], by simpa [exec, e, hb] using q⟩
    | false => rw [hb] at q; exact ⟨n + 1, by simp [exec, e, hb], by simpa [exec, e, hb] using q⟩

/-- A loop: what stands between its rounds, and how many there may still be. -/
theorem wp_loop' {c : MCode} {Q : Res → Prop} (I : Nat → Fr → Hp → Prop) (hI : ∀ k fr h, I k fr h → WP p ext c fr h (thenR Q fun fr' h' => ∃ k', k' < k ∧ I k' fr' h')) :
    ∀ {k : Nat} {fr : Fr} {h : Hp}, I k fr h → WP p ext (.loop c) fr h Q := by
  intro k
  induction k using Nat.strongRecOn with
  | _ k ih =>
  intro fr h hi
  obtain ⟨n, hn, q⟩ := hI k fr h hi
  cases e : exec p ext n c fr h with
  | fail => exact absurd e hn
  | ok fr' h' =>
    rw [e] at q
    obtain ⟨k', hk, hi'⟩ := q
    obtain ⟨m, hm, q⟩ := ih k' hk hi'
    have e1 : exec p ext (max n m) c fr h = .ok fr' h' := (exec_mono (Nat.le_max_left n m) c fr h hn).trans e
    have e2 : exec p ext (max n m) (.loop c) fr' h' = exec p ext m (.loop c) fr' h' := exec_mono (Nat.le_max_right n m) (.loop c) fr' h' hm
    exact ⟨max n m + 1, by simp only [exec, e1, e2]; exact hm, by simp only [exec, e1, e2]; exact q⟩
  | exit id fr' h' => rw [e] at q; exact ⟨n + 1, by simp [exec, e], by simpa [exec, e] using q⟩
  | ret fr' h' => rw [e] at q; exact ⟨n + 1, by simp [exec, e], by simpa [exec, e] using q⟩

/-! ### Operations -/

theorem wpo_nil {fr : Fr} {h : Hp} {Q : Fr → Hp → Prop} (hq : Q fr h) : WPo p ext [] fr h Q := ⟨0, fr, h, rfl, hq⟩

theorem wpo_p {d : Option Nat} {o : POp} {l : List MO} {fr : Fr} {h : Hp} {Q : Fr → Hp → Prop} {v : V} (hv : pV p.env fr o = some v) (hw : WPo p ext l (putO fr d v) h Q) : WPo p ext (⟨d, .p o, none⟩ :: l) fr h Q := by
  obtain ⟨n, fr', h', e, q⟩ := hw
  exact ⟨n, fr', h', by simpa [runOps, gate, opV, hv] using e, q⟩

theorem wpo_a {d : Option Nat} {o : AOp} {l : List MO} {fr : Fr} {h : Hp} {Q : Fr → Hp → Prop} {b : Blk} {mk : Nat → V} (hv : aV fr o = some (b, mk)) (hw : WPo p ext l (putO fr d (mk h.next)) (h.new b) Q) : WPo p ext (⟨d, .a o, none⟩ :: l) fr h Q := by
  obtain ⟨n, fr', h', e, q⟩ := hw
  exact ⟨n, fr', h', by simpa [runOps, gate, opV, hv] using e, q⟩

theorem wpo_load1 {d : Option Nat} {x : Opd} {l : List MO} {fr : Fr} {h : Hp} {Q : Fr → Hp → Prop} {b o : Nat} {v : V} (hx : ev fr x = .ptr b o) (hv : h.read b o 1 = some [v]) (hw : WPo p ext l (putO fr d v) h Q) : WPo p ext (⟨d, .load1 x, none⟩ :: l) fr h Q := by
  obtain ⟨n, fr', h', e, q⟩ := hw
  exact ⟨n, fr', h', by simpa [runOps, gate, opV, hx, hv] using e, q⟩

theorem wpo_loadn {d : Option Nat} {x : Opd} {m : Nat} {l : List MO} {fr : Fr} {h : Hp} {Q : Fr → Hp → Prop} {b o : Nat} {v : List V} (hx : ev fr x = .ptr b o) (hv : h.read b o m = some v) (hw : WPo p ext l (putO fr d (.agg v)) h Q) : WPo p ext (⟨d, .loadn m x, none⟩ :: l) fr h Q := by
  obtain ⟨n, fr', h', e, q⟩ := hw
  exact ⟨n, fr', h', by simpa [runOps, gate, opV, hx, hv] using e, q⟩

/-- One that may write, and calls nothing. -/
theorem wpo_e {d : Option Nat} {o : EOp} {l : List MO} {fr : Fr} {h h1 : Hp} {Q : Fr → Hp → Prop} {v : V} (hv : ∀ C, eV C fr h o = some (v, h1)) (hw : WPo p ext l (putO fr d v) h1 Q) : WPo p ext (⟨d, .e o, none⟩ :: l) fr h Q := by
  obtain ⟨n, fr', h', e, q⟩ := hw
  exact ⟨n, fr', h', by simpa [runOps, gate, opV, hv] using e, q⟩

theorem wpo_call {d : Option Nat} {f : Nat} {args : List Opd} {l : List MO} {fr : Fr} {h : Hp} {Q : Fr → Hp → Prop} (hw : WPc p ext f (evs fr args) h fun v h1 => WPo p ext l (putO fr d v) h1 Q) : WPo p ext (⟨d, .e (.call f args), none⟩ :: l) fr h Q := by
  obtain ⟨n, v, h1, e, m, fr', h', e2, q⟩ := hw
  refine ⟨max n m, fr', h', ?_, q⟩
  have e1 := call_mono (p := p) (ext := ext) (Nat.le_max_left n m) _ _ _ _ e
  have e3 := runOps_mono (call_mono (p := p) (ext := ext) (Nat.le_max_right n m)) e2
  simpa [runOps, gate, opV, eV, e1] using e3

theorem wpo_extern {d : Option Nat} {f : Nat} {args : List Opd} {l : List MO} {fr : Fr} {h : Hp} {Q : Fr → Hp → Prop} (hw : WPc p ext f (evs fr args) h fun v h1 => WPo p ext l (putO fr d v) h1 Q) : WPo p ext (⟨d, .e (.extern f args), none⟩ :: l) fr h Q := by
  obtain ⟨n, v, h1, e, m, fr', h', e2, q⟩ := hw
  refine ⟨max n m, fr', h', ?_, q⟩
  have e1 := call_mono (p := p) (ext := ext) (Nat.le_max_left n m) _ _ _ _ e
  have e3 := runOps_mono (call_mono (p := p) (ext := ext) (Nat.le_max_right n m)) e2
  simpa [runOps, gate, opV, eV, e1] using e3

theorem wpo_callv {d : Option Nat} {x : Opd} {f : Nat} {first captured : List V} {args : List Opd} {l : List MO} {fr : Fr} {h : Hp} {Q : Fr → Hp → Prop} (hx : ev fr x = .func f first captured)
    (hw : WPc p ext f (first ++ evs fr args ++ captured) h fun v h1 => WPo p ext l (putO fr d v) h1 Q) : WPo p ext (⟨d, .e (.callv x args), none⟩ :: l) fr h Q := by
  obtain ⟨n, v, h1, e, m, fr', h', e2, q⟩ := hw
  refine ⟨max n m, fr', h', ?_, q⟩
  have e1 := call_mono (p := p) (ext := ext) (Nat.le_max_left n m) _ _ _ _ e
  have e3 := runOps_mono (call_mono (p := p) (ext := ext) (Nat.le_max_right n m)) e2
  rw [List.append_assoc] at e1
  simpa [runOps, gate, opV, eV, hx, e1] using e3

/-- One that is asked of a slot. -/
theorem wpo_guard {d : Option Nat} {o : MOp} {t : Nat} {want : Bool} {l : List MO} {fr : Fr} {h : Hp} {Q : Fr → Hp → Prop} (b : Bool) (hb : ev fr (.tmp t) = .bool b)
    (hy : b = want → WPo p ext (⟨d, o, none⟩ :: l) fr h Q) (hn : b ≠ want → WPo p ext l (putO fr d (.tup [])) h Q) : WPo p ext (⟨d, o, some (t, want)⟩ :: l) fr h Q := by
  by_cases hbw : b = want
  · obtain ⟨n, fr', h', e, q⟩ := hy hbw
    refine ⟨n, fr', h', ?_, q⟩
    have : beqB b want = true := by subst hbw; cases b <;> rfl
    simp only [runOps, gate, hb, this, cond_true] at e ⊢
    exact e
  · obtain ⟨n, fr', h', e, q⟩ := hn hbw
    refine ⟨n, fr', h', ?_, q⟩
    have : beqB b want = false := by cases b <;> cases want <;> first | rfl | exact absurd rfl hbw
    simp only [runOps, gate, hb, this, cond_false] at e ⊢
    exact e

theorem wpo_guard_no {d : Option Nat} {o : MOp} {t : Nat} {want : Bool} {l : List MO} {fr : Fr} {h : Hp} {Q : Fr → Hp → Prop} {x : List V} (hb : ev fr (.tmp t) = .tup x) (hn : WPo p ext l (putO fr d (.tup [])) h Q) : WPo p ext (⟨d, o, some (t, want)⟩ :: l) fr h Q := by
  obtain ⟨n, fr', h', e, q⟩ := hn
  refine ⟨n, fr', h', ?_, q⟩
  simp only [runOps, gate, hb]
  exact e

/-! ### Calls -/

theorem wpc_ext {f : Nat} {args : List V} {h h' : Hp} {v : V} {Q : V → Hp → Prop} (he : ext f args h = some (v, h')) (hq : Q v h') : WPc p ext f args h Q :=
  ⟨0, v, h', by simp [call, callV, he], hq⟩

/-- A function's end. -/
def endR (rs : List RV) (Q : V → Hp → Prop) : Res → Prop
  | .ok fr h => ∃ v, resP fr h rs = some (v, h) ∧ Q v h
  | .ret fr h => ∃ v, resP fr h rs = some (v, h) ∧ Q v h
  | _ => False

theorem endR_ok {rs : List RV} {Q : V → Hp → Prop} {fr : Fr} {h : Hp} : endR rs Q (.ok fr h) = ∃ v, resP fr h rs = some (v, h) ∧ Q v h := rfl
theorem endR_ret {rs : List RV} {Q : V → Hp → Prop} {fr : Fr} {h : Hp} : endR rs Q (.ret fr h) = ∃ v, resP fr h rs = some (v, h) ∧ Q v h := rfl

theorem wpc_fun {f : Nat} {args : List V} {h : Hp} {Q : V → Hp → Prop} {m : Fun} (he : ext f args h = none) (hf : p.funs.get f = some m) (hn : args.length = m.nargs) (hw : WP p ext m.body (argsFr args 0 .leaf) h (endR m.results Q)) : WPc p ext f args h Q := by
  obtain ⟨n, hn', q⟩ := hw
  have hb : Nat.beq args.length m.nargs = true := by rw [nbeq]; exact hn
  cases e : exec p ext n m.body (argsFr args 0 .leaf) h with
  | fail => exact absurd e hn'
  | ok fr' h' =>
    rw [e] at q
    obtain ⟨v, e1, q⟩ := q
    exact ⟨n, v, h', by simp [call, callV, he, hf, hb, e, e1], q⟩
  | ret fr' h' =>
    rw [e] at q
    obtain ⟨v, e1, q⟩ := q
    exact ⟨n, v, h', by simp [call, callV, he, hf, hb, e, e1], q⟩
  | exit id fr' h' => rw [e] at q; exact q.elim

end Go.Vm
