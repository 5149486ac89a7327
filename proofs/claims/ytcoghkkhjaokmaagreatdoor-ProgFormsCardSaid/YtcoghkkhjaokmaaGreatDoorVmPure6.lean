/-
  Vm, part 12: operations on values alone: the joint.
-/
import Derived.Test.YtcoghkkhjaokmaaGreatDoorVmPure5
namespace Go.Vm

variable {P : Program} {φ : Emb}

structure EnvOk (P : Program) (φ : Emb) (env : Env) : Prop where
  sym : φ.symOk
  gl : φ.glOk P
  tab : TabOk P φ.sym env.tab
  ints : IntsOk P env.ints

theorem EnvOk.mono {ψ : Emb} {env : Env} (ok : EnvOk P φ env) (h : φ.Le ψ) : EnvOk P ψ env :=
  ⟨fun i => by rw [h.sym]; exact ok.sym i, fun g hg => let ⟨e, he⟩ := ok.gl g hg; ⟨e, h.at_ _ _ he⟩, by rw [h.sym]; exact ok.tab, ok.ints⟩

/-- What an operation comes to. -/
def Does (P : Program) (φ : Emb) (a : Act) (o : Oper) (v : V) : Prop := ∃ u, VR φ v u ∧ ∀ w, (execOp a.eval o).run P w = .ok (.value u) w

theorem Does.of {a : Act} {o : Oper} {v : V} {s : Sem Value} (he : execOp a.eval o = (do pure (Next.value (← s)))) (h : ∃ u, VR φ v u ∧ ∀ w, s.run P w = .ok u w) : Does P φ a o v := by
  obtain ⟨u, h1, h2⟩ := h
  exact ⟨u, h1, fun w => by rw [he]; exact lift_ok (h2 w)⟩

theorem bin_does {env : Env} (ok : EnvOk P φ env) {fr : Fr} {a : Act} (hf : FR φ fr a) {o : Oper} {op : BinOp} {t yt : TypeId} {X Y : Operand} (hop : o.op = .binOp op t X Y yt) {x y : Opd}
    (hx : cOpd P X = some x) (hy : cOpd P Y = some y) {p : POp} (hc : cBin P op t x y (isConstOpd X || isConstOpd Y) = some p) {v : V} (hv : pV env fr p = some v) : Does P φ a o v := by
  have rx := opd_rel ok.gl hf hx
  have ry := opd_rel ok.gl hf hy
  have he : execOp a.eval o = (do pure (Next.value (← (do eqGuard op t X Y (a.eval X) (a.eval Y); binOp op t (a.eval X) (a.eval Y) : Sem Value)))) := by simp only [execOp, hop]
  have hbin : ∀ v, binV env.tab op (ev fr x) (ev fr y) = some v → Does P φ a o v := fun v hv => by
    obtain ⟨u, h1, h2⟩ := bin_ok ok.tab rx ry hv
    exact .of he ⟨u, h1, h2 t X Y⟩
  unfold cBin at hc
  split at hc
  · rename_i ms ht
    cases hq : isEqOp op with
    | false => simp [hq] at hc
    | true =>
      simp only [hq, cond_true, Option.some.injEq] at hc
      subst hc
      simp only [pV] at hv
      cases hr : eqiV env.ints (isConstOpd X || isConstOpd Y) (ev fr x) (ev fr y) with
      | none => simp [hr] at hv
      | some r =>
        simp only [hr, Option.some.injEq] at hv
        subst hv
        have hl : (isConstOpd X || isConstOpd Y) = true → (∃ v, X = .const v) ∨ (∃ v, Y = .const v) := by
          intro h
          rw [Bool.or_eq_true] at h
          rcases h with h | h
          · left; cases X <;> simp [isConstOpd] at h; exact ⟨_, rfl⟩
          · right; cases Y <;> simp [isConstOpd] at h; exact ⟨_, rfl⟩
        cases op <;> simp [isEqOp] at hq
        · exact .of he ⟨_, .bool _, fun w => eqi_ok ok.ints (neg := false) hr rx ry ht hl w⟩
        · exact .of he ⟨_, .bool _, fun w => eqi_ok ok.ints (neg := true) hr rx ry ht hl w⟩
  · cases hc; exact hbin v hv
  · cases hc; exact hbin v hv
  · rename_i h1 h2 h3
    cases hq : isEqOp op with
    | false => simp [hq] at hc
    | true =>
      cases hgt : P.eqGuardType P.depth t with
      | true => simp [hq, hgt] at hc
      | false =>
        simp only [hq, hgt, cond_true, cond_false] at hc
        cases hty : etyP P 3 t with
        | none => simp [hty] at hc
        | some e =>
          simp only [hty, Option.some.injEq] at hc
          subst hc
          simp only [pV] at hv
          split at hv
          case h_2 => cases hv
          rename_i r hr
          simp only [Option.some.injEq] at hv
          subst hv
          have hni : ∀ k, P.underlying t ≠ some (.int k) := fun k hk => h2 k hk
          have hns : P.underlying t ≠ some .string := fun hk => h3 hk
          cases op <;> simp [isEqOp] at hq
          · exact .of he ⟨_, .bool _, fun w => eq_ok hty hgt hni hns hr rx ry false X Y w⟩
          · exact .of he ⟨_, .bool _, fun w => eq_ok hty hgt hni hns hr rx ry true X Y w⟩

theorem valid_ascii (n : Nat) (h : n < 128) : Utf8.valid (n : Int) = true := by
  unfold Utf8.valid
  rw [Bool.or_eq_true]
  left
  rw [Bool.and_eq_true, decide_eq_true_iff, decide_eq_true_iff]
  refine ⟨Int.natCast_nonneg n, ?_⟩
  have h1 : (n : Int) < 128 := by omega
  exact Int.lt_trans h1 (by decide)

theorem enc_ascii (n : Nat) (h : n < 128) : (Utf8.encode (Int.ofNat n)).data.toList.map UInt8.toNat = [n] := by
  have hc : (if Utf8.valid (Int.ofNat n) = true then (Int.ofNat n).toNat else Utf8.runeError) = n := by
    exact if_pos (valid_ascii n h)
  have : Utf8.encode (Int.ofNat n) = ⟨#[UInt8.ofNat n]⟩ := by
    unfold Utf8.encode
    dsimp only
    rw [hc, if_pos (show n < 0x80 from h)]
  rw [this]
  simp
  omega

theorem conv_does {env : Env} (ok : EnvOk P φ env) {fr : Fr} {a : Act} (hf : FR φ fr a) {o : Oper} {s d : TypeId} {X : Operand} (hop : o.op = .convert s d X) {x : Opd}
    (hx : cOpd P X = some x) {p : POp} (hc : cConv P s d x = some (.p p)) {v : V} (hv : pV env fr p = some v) : Does P φ a o v := by
  have rx := opd_rel ok.gl hf hx
  refine .of (s := convert s d (a.eval X)) (by simp only [execOp, hop]) ?_
  generalize a.eval X = zu at rx ⊢
  unfold cConv at hc
  split at hc
  · rename_i k1 k2 h1 h2
    cases hc
    simp only [pV] at hv
    generalize ev fr x = z at hv rx
    unfold convV at hv
    split at hv
    all_goals first | (cases hv; done) | skip
    · rename_i k0 k3 n h3
      cases h3
      cases hv
      cases rx
      exact ⟨_, .int _ _, fun w => by simp [convert, run_underlying h1, run_underlying h2, Conv.intToInt, wr_eq]⟩
    all_goals (rename_i h3; cases h3)
  · rename_i h1 h2
    cases hc
    simp only [pV] at hv
    generalize ev fr x = z at hv rx
    unfold convV at hv
    split at hv
    all_goals first | (cases hv; done) | skip
    all_goals (try (rename_i h3; cases h3; done))
    cases hv
    cases rx with | str s =>
    exact ⟨_, .str s, fun w => by simp [convert, run_underlying h1, run_underlying h2]⟩
  · rename_i k1 h1 h2
    cases hc
    simp only [pV] at hv
    generalize ev fr x = z at hv rx
    unfold convV at hv
    split at hv
    all_goals first | (cases hv; done) | skip
    all_goals (try (rename_i h3; cases h3; done))
    rename_i k0 n h3
    simp only [nblt_d, Bool.cond_decide] at hv
    split at hv
    case isFalse => cases hv
    rename_i hn
    cases hv
    cases rx
    have e : (Utf8.encode (Int.ofNat n)).data.toList.map UInt8.toNat = [n] := by
      exact enc_ascii n hn
    exact ⟨.string (Utf8.encode (Int.ofNat n)), e ▸ .str _, fun w => by simp [convert, run_underlying h1, run_underlying h2, Conv.intToString]⟩
  · split at hc <;> cases hc
  · split at hc <;> cases hc
  · rename_i h1 h2
    cases hb : Nat.beq s d <;> simp [hb] at hc
    split at hc <;> cases hc
  · cases hc

end Go.Vm
