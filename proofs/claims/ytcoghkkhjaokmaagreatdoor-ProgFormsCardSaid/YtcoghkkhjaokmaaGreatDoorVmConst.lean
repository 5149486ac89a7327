/-
  Vm, part 31: functions without arguments that come to true from no heap: they come to true from any, and leave it alone.
-/
import Derived.Test.YtcoghkkhjaokmaaGreatDoorVmOr
namespace Go.Vm

open Go.RowKit
variable {P : Program}

def hasF (f : Nat) : List Nat → Bool
  | [] => false
  | g :: l => cond (Nat.beq g f) true (hasF f l)

def constX (l : List Nat) : Ext := fun f args h => cond (hasF f l) (match args with
  | [] => some (.bool true, h)
  | _ => none) none

theorem hasF_mem {f : Nat} : ∀ {l : List Nat}, hasF f l = true → f ∈ l
  | [], h => by cases h
  | g :: l, h => by
    simp only [hasF] at h
    rw [cond_eq_ite] at h; split at h
    · rename_i e; rw [nbeq] at e; subst e; exact List.mem_cons_self
    · exact List.mem_cons_of_mem _ (hasF_mem h)

/-- As 'top': with what stays. -/
theorem top_below (hm : P.follows .mixedOrders = true) {p : Prog} (hp : Valid P p) {ext : Ext} (hrx : Rises ext) (hx : CallOk P p.env ext) (σ : Nat → Value) (hσ : ∀ i, ∃ k n, σ i = .int k n) (htab : TabOk P σ p.env.tab) (hints : IntsOk P p.env.ints)
    {f n : Nat} {args : List V} {us : List Value} (hen : entered P f = true) (hv : runs p ext n f args P.globals.size = true) (hargs : VRs (emb0 P σ) args us) (w : World) :
    Calls P f us.toArray w fun e w' => e = .returned (.bool true) ∧ Below w.heap.size w w' := by
  unfold runs at hv
  split at hv
  case h_2 => cases hv
  rename_i h' hc
  have hr : HR (emb0 P σ) (h00 P.globals.size) w := ⟨fun b hb => (by rw [blk_h00] at hb; cases hb), fun b b' pl pl' hb => (by rw [blk_h00] at hb; cases hb), fun b _ => blk_h00 _ b⟩
  have hok : EnvOk P (emb0 P σ) p.env := ⟨hσ, fun g hg => ⟨0, by show (if g < P.globals.size then _ else _) = _; rw [if_pos hg]⟩, htab, hints⟩
  have hfr : Fresh (emb0 P σ) (h00 P.globals.size).next h'.next := fun b h1 h2 => by
    show (if b < P.globals.size then some (⟨b, 0, 0⟩ : Place) else none) = _
    have h1 : P.globals.size ≤ b := h1
    rw [if_neg (by omega)]
  have := call_ok hm hp hrx hx n (emb0 P σ) f args (h00 P.globals.size) (.bool true) h' w us hc hok hr hfr hargs
  rcases this with ⟨_, h2⟩ | ⟨u, ψ, w', h1, _⟩
  · refine h2.mono ?_
    rintro e w' ⟨u, ψ, rfl, r1, r2⟩
    cases r1
    exact ⟨rfl, r2.os, r2.tape, r2.output, r2.size, fun k hk => r2.kept k hk fun b pl hb => by rw [blk_h00] at hb; cases hb⟩
  · rw [callFunc_entered hen] at h1
    cases h1

theorem constX_rises (l : List Nat) : Rises (constX l) := by
  intro f args h v h' e
  unfold constX at e
  rw [cond_eq_ite] at e; split at e
  case isFalse => cases e
  split at e
  · cases e; exact Nat.le_refl _
  · cases e

theorem constX_ok (hm : P.follows .mixedOrders = true) {p : Prog} (hp : Valid P p) {ext : Ext} (hrx : Rises ext) (hx : CallOk P p.env ext) (htab : p.env.tab = []) (hints : IntsOk P p.env.ints) {n : Nat} {l : List Nat} {env : Env}
    (hl : ∀ f, f ∈ l → entered P f = true ∧ runs p ext n f [] P.globals.size = true) : CallOk P env (constX l) := by
  intro φ f args h v h' w us hv ok hr hfr hargs
  unfold constX at hv
  rw [cond_eq_ite] at hv; split at hv
  case isFalse => cases hv
  rename_i hf
  obtain ⟨h1, h2⟩ := hl f (hasF_mem hf)
  split at hv
  case h_2 => cases hv
  cases hv
  cases hargs
  refine .inl ⟨h1, (top_below hm hp hrx hx (fun _ => .int .i64 0) (fun _ => ⟨_, _, rfl⟩) (by rw [htab]; exact fun _ _ _ _ _ _ h => by cases h) hints h1 h2 .nil w).mono ?_⟩
  rintro e w' ⟨rfl, hb⟩
  exact ⟨_, φ, rfl, .bool true, .below hr hb⟩

end Go.Vm
