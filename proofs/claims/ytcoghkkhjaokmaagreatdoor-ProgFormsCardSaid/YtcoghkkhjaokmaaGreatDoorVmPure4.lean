/-
  Vm, part 10: every operation on values alone does what the model's does: the joint.
-/
import Derived.Test.YtcoghkkhjaokmaaGreatDoorVmPure3
namespace Go.Vm

variable {P : Program} {φ : Emb}

/-- The types that are said to be comparable numbers are. -/
def IntsOk (P : Program) (ints : List Nat) : Prop := ∀ t, eqiV.hasN t ints = true → ∃ i k, P.info? t = some i ∧ i.comparable = true ∧ P.underlying t = some (.int k)

theorem equal_succ (t : TypeId) (x y : Value) : Op.equal t x y = Op.equalIn (9999 + 1) t x y := rfl

theorem eqi_ok {ints : List Nat} (hi : IntsOk P ints) {lit neg : Bool} {x y : V} {u1 u2 : Value} {r : Bool} (h : eqiV ints lit x y = some r) (hx : VR φ x u1) (hy : VR φ y u2)
    {t : TypeId} {ms : Array (String × TypeId)} (ht : P.underlying t = some (.interface ms)) {X Y : Operand} (hl : lit = true → (∃ v, X = .const v) ∨ (∃ v, Y = .const v)) (w : World) :
    (do eqGuard (bif neg then .neq else .eql) t X Y u1 u2; binOp (bif neg then .neq else .eql) t u1 u2 : Sem Value).run P w = .ok (.bool (bif neg then !r else r)) w := by
  have run : ∀ b : Bool, (∀ w, (eqGuard (bif neg then .neq else .eql) t X Y u1 u2).run P w = .ok () w) → (∀ w, (Op.equal t u1 u2).run P w = .ok b w) →
      (∃ a b, u1 = .iface a b) ∨ u1 = .nilIface → (∃ a b, u2 = .iface a b) ∨ u2 = .nilIface →
      (do eqGuard (bif neg then .neq else .eql) t X Y u1 u2; binOp (bif neg then .neq else .eql) t u1 u2 : Sem Value).run P w = .ok (.bool (bif neg then !b else b)) w := by
    intro b h1 h2 h3 h4
    simp only [Sem.run_bind, h1, Result.andThen_ok]
    rcases h3 with ⟨a1, b1, rfl⟩ | rfl <;> rcases h4 with ⟨a2, b2, rfl⟩ | rfl <;> cases neg <;> simp [binOp, h2]
  unfold eqiV at h
  split at h
  · cases hlit : lit with
    | false => rw [hlit] at h; cases h
    | true =>
      rw [hlit] at h; cases h
      cases hx; cases hy
      refine run true (fun w => ?_) (fun w => by rw [equal_succ]; unfold Op.equalIn; simp [run_underlying ht]) (.inr rfl) (.inr rfl)
      rcases hl hlit with ⟨v, rfl⟩ | ⟨v, rfl⟩ <;> cases neg <;> simp [eqGuard]
  · cases h
    cases hx; cases hy
    exact run false (fun w => by cases neg <;> simp [eqGuard]) (fun w => by rw [equal_succ]; unfold Op.equalIn; simp [run_underlying ht]) (.inr rfl) (.inl ⟨_, _, rfl⟩)
  · cases h
    cases hx; cases hy
    exact run false (fun w => by cases neg <;> simp [eqGuard]) (fun w => by rw [equal_succ]; unfold Op.equalIn; simp [run_underlying ht]) (.inl ⟨_, _, rfl⟩) (.inr rfl)
  · rename_i t1 v1 t2 v2
    cases hx with | iface _ _ w1 h1 => cases hy with | iface _ _ w2 h2 =>
    simp only [nbeq_d, Bool.cond_decide] at h
    split at h
    · rename_i e
      subst e
      cases hn : eqiV.hasN t1 ints with
      | false => rw [hn] at h; cases h
      | true =>
        rw [hn] at h
        simp only [cond_true] at h
        split at h
        case h_2 => cases h
        rename_i k a j b
        cases hk : keq k j with
        | false => rw [hk] at h; cases h
        | true =>
          rw [hk] at h; cases h
          have := keq_iff.1 hk
          subst this
          cases h1; cases h2
          obtain ⟨i, k', g1, g2, g3⟩ := hi _ hn
          refine run _ (fun w => by cases neg <;> simp [eqGuard]) (fun w => ?_) (.inl ⟨_, _, rfl⟩) (.inl ⟨_, _, rfl⟩)
          rw [equal_succ]
          have e2 : ∀ w, (Op.equalIn 9999 t1 (.int k a) (.int k b)).run P w = .ok (a == b) w := fun w => run_equalIn_int w 9998 t1 k k' a b g3
          unfold Op.equalIn
          simp [run_underlying ht, typeInfo, g1, g2, ieq_d, e2]
    · rename_i e
      cases h
      refine run false (fun w => by cases neg <;> simp [eqGuard]) (fun w => ?_) (.inl ⟨_, _, rfl⟩) (.inl ⟨_, _, rfl⟩)
      rw [equal_succ]
      unfold Op.equalIn
      simp [run_underlying ht, e]
  · cases h

theorem eq_ok {t : TypeId} {e : ETy} (he : etyP P 3 t = some e) (hgt : P.eqGuardType P.depth t = false) (hni : ∀ k, P.underlying t ≠ some (.int k)) (hns : P.underlying t ≠ some .string)
    {x y : V} {u1 u2 : Value} {r : Bool} (h : eqV e x y = some r) (hx : VR φ x u1) (hy : VR φ y u2) (neg : Bool) (X Y : Operand) (w : World) :
    (do eqGuard (bif neg then .neq else .eql) t X Y u1 u2; binOp (bif neg then .neq else .eql) t u1 u2 : Sem Value).run P w = .ok (.bool (bif neg then !r else r)) w := by
  have heq : ∀ w, (Op.equal t u1 u2).run P w = .ok r w := fun w => eqV_ok (φ := φ) 3 he h hx hy 9997 w
  have hne : e ≠ .int ∧ e ≠ .str ∧ e ≠ .iface := by
    unfold etyP at he
    cases hu : P.underlying t with
    | none => simp [hu] at he
    | some d =>
      rw [hu] at he
      cases d <;> simp only [Option.some.injEq, reduceCtorEq] at he
      case int k => exact absurd hu (hni k)
      case string => exact absurd hu hns
      case pointer el =>
        split at he
        · cases he; simp
        · cases he
      case struct fs =>
        cases hst : P.stoodInHeld t with
        | true => simp [hst] at he
        | false =>
          simp only [hst, cond_false] at he
          split at he
          · cases he; simp
          · cases he
      all_goals (subst he; simp)
  have run : (∀ w, (eqGuard (bif neg then .neq else .eql) t X Y u1 u2).run P w = .ok () w) → binOp .eql t u1 u2 = (do pure (.bool (← Op.equal t u1 u2))) → binOp .neq t u1 u2 = (do pure (.bool (!(← Op.equal t u1 u2)))) →
      (do eqGuard (bif neg then .neq else .eql) t X Y u1 u2; binOp (bif neg then .neq else .eql) t u1 u2 : Sem Value).run P w = .ok (.bool (bif neg then !r else r)) w := by
    intro h1 h2 h3
    simp only [Sem.run_bind, h1, Result.andThen_ok]
    cases neg
    · simp only [cond_false, h2]; simp [heq]
    · simp only [cond_true, h3]; simp [heq]
  unfold eqV at h
  split at h
  case h_1 => cases hx; cases hy; exact run (fun w => by cases neg <;> simp [eqGuard]) (by simp only [binOp]) (by simp only [binOp])
  case h_2 => exact absurd rfl hne.1
  case h_3 => exact absurd rfl hne.2.1
  all_goals first
    | (cases h; done)
    | (cases hx; cases hy; exact run (fun w => by cases neg <;> simp [eqGuard, hgt]) (by simp only [binOp]) (by simp only [binOp]))

end Go.Vm
