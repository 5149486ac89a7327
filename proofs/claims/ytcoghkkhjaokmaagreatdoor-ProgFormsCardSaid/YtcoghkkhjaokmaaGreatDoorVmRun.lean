/-
  Vm, part 21: runs: the numbers of blocks rise.
-/
import Derived.Test.YtcoghkkhjaokmaaGreatDoorVmEff4
import Derived.LoopN
namespace Go.Vm

def Rises (call : Nat → List V → Hp → Option (V × Hp)) : Prop := ∀ f args h v h', call f args h = some (v, h') → h.next ≤ h'.next

theorem write_next {h h' : Hp} {b o : Nat} {vs : List V} (e : h.write b o vs = some h') : h'.next = h.next := by
  unfold Hp.write at e
  split at e
  · rw [cond_eq_ite] at e; split at e
    · rw [cond_eq_ite] at e; split at e
      · cases e; rfl
      · cases e
    · cases e
  · cases e

theorem appendC_next {sz bytes : Nat} {h h' : Hp} {s v : V} {n : Nat} {new : List V} (e : appendC sz bytes h s n new = some (v, h')) : h.next ≤ h'.next := by
  unfold appendC at e
  repeat' (first | (cases e; done) | (rw [cond_eq_ite] at e; split at e) | split at e)
  all_goals first
    | (rename_i hw; cases e; rw [write_next hw]; exact Nat.le_refl _)
    | (cases e; exact Nat.le_succ _)

theorem eV_next {call : Nat → List V → Hp → Option (V × Hp)} (hc : Rises call) {fr : Fr} {h h' : Hp} {p : EOp} {v : V} (e : eV call fr h p = some (v, h')) : h.next ≤ h'.next := by
  cases p <;> simp only [eV] at e
  case call f args => exact hc _ _ _ _ _ e
  case extern f args => exact hc _ _ _ _ _ e
  case callv x args => split at e <;> first | (cases e; done) | exact hc _ _ _ _ _ e
  case append sz bytes s x =>
    unfold appendV at e
    repeat' (first | (cases e; done) | (rw [cond_eq_ite] at e; split at e) | split at e)
    all_goals first
      | exact appendC_next e
      | (cases e; exact Nat.le_refl _)
  case appendz z sz bytes s x =>
    unfold appendZ at e
    repeat' (first | (cases e; done) | (rw [cond_eq_ite] at e; split at e) | split at e)
    all_goals first
      | exact appendC_next e
      | (cases e; exact Nat.le_refl _)
  all_goals
    repeat' (first | (cases e; done) | (rw [cond_eq_ite] at e; split at e) | split at e)
    all_goals first
      | (rename_i hw; cases e; rw [write_next hw]; exact Nat.le_refl _)
      | (cases e; exact Nat.le_refl _)

theorem opV_next {env : Env} {call : Nat → List V → Hp → Option (V × Hp)} (hc : Rises call) {fr : Fr} {h h' : Hp} {m : MOp} {v : V} (e : opV env call fr h m = some (v, h')) : h.next ≤ h'.next := by
  cases m <;> simp only [opV] at e
  case e p => exact eV_next hc e
  all_goals
    repeat' (first | (cases e; done) | split at e)
    all_goals (cases e; first | exact Nat.le_refl _ | exact Nat.le_succ _)

theorem runOps_next {env : Env} {call : Nat → List V → Hp → Option (V × Hp)} (hc : Rises call) : ∀ {l : List MO} {fr fr' : Fr} {h h' : Hp}, runOps env call l fr h = some (fr', h') → h.next ≤ h'.next
  | [], fr, fr', h, h', e => by simp [runOps] at e; rw [e.2]; exact Nat.le_refl _
  | o :: l, fr, fr', h, h', e => by
    simp only [runOps] at e
    split at e
    · exact runOps_next hc e
    · cases e
    · split at e
      · rename_i v h1 hv
        exact Nat.le_trans (opV_next hc hv) (runOps_next hc e)
      · cases e

theorem runD_next {env : Env} {call : Nat → List V → Hp → Option (V × Hp)} (hc : Rises call) : ∀ {l : List DO} {p : Nat} {fr fr' : Fr} {h h' : Hp} {st : List (Nat × Hp)} {rd : List Rd}, runD env call l p fr h st rd = some (fr', h') → h.next ≤ h'.next
  | [], p, fr, fr', h, h', st, rd, e => by
    simp only [runD] at e
    rw [cond_eq_ite] at e; split at e
    · cases e; exact Nat.le_refl _
    · cases e
  | o :: l, p, fr, fr', h, h', st, rd, e => by
    simp only [runD] at e
    split at e
    · exact runD_next hc e
    · cases e
    · split at e
      · rename_i v h1 hv
        exact Nat.le_trans (opV_next hc hv) (runD_next hc e)
      · cases e

def Res.rises (n : Nat) : Res → Prop
  | .fail => True
  | .ok _ h | .exit _ _ h | .ret _ h => n ≤ h.next

theorem callV_next {p : Prog} {ext : Ext} (hx : Rises ext) {ex : MCode → Fr → Hp → Res} (he : ∀ c fr h, (ex c fr h).rises h.next) : Rises (callV p ext ex) := by
  intro f args h v h' e
  unfold callV at e
  split at e
  · rename_i r hr
    cases e
    exact hx _ _ _ _ _ hr
  split at e
  · cases e
  · rename_i fn hf
    rw [cond_eq_ite] at e; split at e
    case isFalse => cases e
    have := he fn.body (argsFr args 0 .leaf) h
    have hres : ∀ fr h1, resP fr h1 fn.results = some (v, h') → h1 = h' := by
      intro fr h1 hr
      unfold resP at hr
      split at hr <;> cases hr
      rfl
    split at e
    · rename_i fr h1 h2
      rw [h2] at this
      exact hres _ _ e ▸ this
    · rename_i fr h1 h2
      rw [h2] at this
      exact hres _ _ e ▸ this
    · cases e

theorem exec_next {p : Prog} {ext : Ext} (hx : Rises ext) : ∀ (n : Nat) (c : MCode) (fr : Fr) (h : Hp), (exec p ext n c fr h).rises h.next
  | 0, c, fr, h => trivial
  | n + 1, c, fr, h => by
    have ih := exec_next (p := p) hx n
    have hc : Rises (callV p ext (exec p ext n)) := callV_next hx ih
    cases c <;> simp only [exec]
    case skip => exact Nat.le_refl _
    case region ops =>
      split
      · rename_i e; exact runOps_next hc e
      · trivial
    case dregion ops =>
      split
      · rename_i e; exact runD_next hc e
      · trivial
    case seq a b =>
      have h1 := ih a fr h
      split
      · rename_i fr' h' e
        rw [e] at h1
        have h2 := ih b fr' h'
        cases hb : exec p ext n b fr' h' <;> rw [hb] at h2 <;> first | trivial | exact Nat.le_trans h1 h2
      · exact h1
    case cond c a b => split <;> first | exact ih _ _ _ | trivial
    case block id c =>
      have h1 := ih c fr h
      split
      · rename_i id' fr' h' e
        rw [e] at h1
        rw [cond_eq_ite]; split <;> exact h1
      · exact h1
    case loop c =>
      have h1 := ih c fr h
      split
      · rename_i fr' h' e
        rw [e] at h1
        have h2 := ih (.loop c) fr' h'
        cases hb : exec p ext n (.loop c) fr' h' <;> rw [hb] at h2 <;> first | trivial | exact Nat.le_trans h1 h2
      · exact h1
    case exit id => exact Nat.le_refl _
    case ret => exact Nat.le_refl _

end Go.Vm
