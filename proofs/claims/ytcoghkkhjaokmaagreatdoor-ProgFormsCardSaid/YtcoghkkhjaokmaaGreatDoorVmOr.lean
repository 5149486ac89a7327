/-
  Vm, part 30b: what lies below stays; externs joined.
-/
import Derived.Test.YtcoghkkhjaokmaaGreatDoorVmExt
namespace Go.Vm

open Go.RowKit
variable {P : Program}

theorem St.below {φ : Emb} {h : Hp} {w w' : World} (hr : HR φ h w) (hb : Below w.heap.size w w') : St φ h w φ h w' where
  le := .refl φ
  new _ _ := rfl
  nx := Nat.le_refl _
  os := hb.os
  tape := hb.tape
  output := hb.output
  size := hb.size
  kept k hk _ := hb.block k hk
  host b pl h1 h2 := .inl ⟨b, pl, h1, h2, rfl⟩
  roof b pl h1 h2 := .inl ⟨b, pl, h1, h2, rfl⟩
  hr := ⟨fun b hl => let ⟨pl, h1, h2⟩ := hr.lies b hl; ⟨pl, h1, h2.mono (.refl φ) (hb.block _ (h2.lt hl))⟩, hr.apart, hr.fresh⟩

theorem St.belowNew {φ : Emb} {h : Hp} {w w' : World} (hr : HR φ h w) (hb : Below w.heap.size w w') {x : Blk} {pl : Place} (hfr : φ.at_ h.next = none) (hg : w.heap.size ≤ pl.blk)
    (hx : ∀ ψ, φ.Le ψ → BlkAt ψ w' pl x) : St φ h w ⟨fun b => if b = h.next then some pl else φ.at_ b, φ.sym⟩ (h.new x) w' := by
  have hle : φ.Le ⟨fun b => if b = h.next then some pl else φ.at_ b, φ.sym⟩ := ⟨fun b q e => by
    show (if b = h.next then some pl else φ.at_ b) = some q
    split
    · rename_i e'; rw [e', hfr] at e; cases e
    · exact e, rfl⟩
  have key : ∀ {b : Nat} {q : Place}, (if b = h.next then some pl else φ.at_ b) = some q → (b = h.next ∧ q = pl) ∨ (b ≠ h.next ∧ φ.at_ b = some q) := by
    intro b q e
    by_cases eb : b = h.next
    · rw [if_pos eb] at e; cases e; exact .inl ⟨eb, rfl⟩
    · rw [if_neg eb] at e; exact .inr ⟨eb, e⟩
  refine ⟨hle, fun b hb' => ?_, Nat.le_succ _, hb.os, hb.tape, hb.output, hb.size, fun k hk _ => hb.block k hk, fun b q ho hq => ?_, fun b q ho hq => ?_, ⟨fun b hl => ?_, fun b b' q q' hl hl' ho hq hq' hne => ?_, fun b hb' => ?_⟩⟩
  · show (if b = h.next then some pl else φ.at_ b) = _
    have : b ≠ h.next := by
      rcases hb' with hb' | hb'
      · omega
      · have : h.next + 1 ≤ b := hb'
        omega
    rw [if_neg this]
  · rcases key hq with ⟨_, rfl⟩ | ⟨e, hq⟩
    · exact .inr hg
    · rw [blk_new, if_neg e] at ho; exact .inl ⟨b, q, ho, hq, rfl⟩
  · rcases key hq with ⟨_, rfl⟩ | ⟨e, hq⟩
    · exact .inr hg
    · rw [blk_new, if_neg e] at ho; exact .inl ⟨b, q, ho, hq, rfl⟩
  · rw [blk_new] at hl ⊢
    by_cases e : b = h.next
    · rw [if_pos e]
      exact ⟨pl, by show (if b = h.next then some pl else φ.at_ b) = _; rw [if_pos e], hx _ hle⟩
    · rw [if_neg e] at hl ⊢
      obtain ⟨q, h1, h2⟩ := hr.lies b hl
      exact ⟨q, by show (if b = h.next then some pl else φ.at_ b) = _; rw [if_neg e]; exact h1, h2.mono hle (hb.block _ (h2.lt hl))⟩
  · rw [blk_new] at hl hl'
    rcases key hq with ⟨e, rfl⟩ | ⟨e, hqq⟩
    · rcases key hq' with ⟨e', _⟩ | ⟨e', hq'⟩
      · exact absurd (e.trans e'.symm) hne
      · rw [if_neg e'] at hl'
        obtain ⟨r, h1, h2⟩ := hr.lies b' hl'
        rw [h1] at hq'; cases hq'
        have := h2.lt hl'; omega
    · rw [if_neg e] at hl
      rcases key hq' with ⟨e', eq'⟩ | ⟨e', hq'⟩
      · obtain ⟨r, h1, h2⟩ := hr.lies b hl
        have hqr : q = r := Option.some.inj (hqq.symm.trans h1)
        subst hqr
        rw [eq']
        have := h2.lt hl; omega
      · rw [if_neg e'] at hl'
        rw [blk_new, if_neg e, blk_new, if_neg e'] at ho
        exact hr.apart b b' q q' hl hl' ho hqq hq' hne
  · rw [blk_new]
    have : h.next + 1 ≤ b := hb'
    rw [if_neg (by omega)]
    exact hr.fresh b (by omega)

/-! ### The contract that is asked, and what it gives -/

/-- One, or the other. -/
def orX (a b : Ext) : Ext := fun f args h => match a f args h with
  | some r => some r
  | none => b f args h

theorem orX_rises {a b : Ext} (ha : Rises a) (hb : Rises b) : Rises (orX a b) := by
  intro f args h v h' e
  unfold orX at e
  split at e
  · rename_i r hr; cases e; exact ha _ _ _ _ _ hr
  · exact hb _ _ _ _ _ e

theorem orX_ok {env : Env} {a b : Ext} (ha : CallOk P env a) (hb : CallOk P env b) : CallOk P env (orX a b) := by
  intro φ f args h v h' w us hv ok hr hfr hargs
  unfold orX at hv
  split at hv
  · rename_i r hr'; cases hv; exact ha φ f args h v h' w us hr' ok hr hfr hargs
  · exact hb φ f args h v h' w us hv ok hr hfr hargs

/-- The keys, each within its kind. -/
def keysI : List (V × V) → Option (List Int)
  | [] => some []
  | (.int .i64 n, _) :: l => cond (ieq (wr .i64 n) n) (match keysI l with
    | some r => some (n :: r)
    | none => none) none
  | _ => none

def rowI : List Int → List V
  | [] => []
  | n :: l => .int .i64 n :: rowI l
theorem rowI_length : ∀ l : List Int, (rowI l).length = l.length
  | [] => rfl
  | _ :: l => congrArg (· + 1) (rowI_length l)
end Go.Vm
