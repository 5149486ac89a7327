/-
  Vm, part 11: operations on values alone: all of them.
-/
import Derived.Test.YtcoghkkhjaokmaaGreatDoorVmPure4
namespace Go.Vm

variable {P : Program} {φ : Emb}

theorem map_some {α β : Type} {f : α → β} {x : Option α} {b : β} (h : x.map f = some b) : ∃ y, x = some y ∧ f y = b := by
  cases x with
  | none => cases h
  | some y => exact ⟨y, rfl, by simpa using h⟩

/-- A slice of a slice. -/
theorem slc_ok {t e : TypeId} (ht : P.underlying t = some (.slice e)) {sz : Nat} (hsz : szP P e = some sz) {x v : V} {u : Value} (hx : VR φ x u) {lo hi mx : Option V} {lo' hi' mx' : Option Value}
    (hl : OR φ lo lo') (hh : OR φ hi hi') (hm : OR φ mx mx') (h : slcV sz x lo hi mx = some v) : ∃ u', VR φ v u' ∧ ∀ w, (Instr.sliceAt t u lo' hi' mx').run P w = .ok u' w := by
  have hsl : ∀ w, (Instr.sliceAt t u lo' hi' mx').run P w = (Instr.slice t u lo' hi' mx').run P w := fun w => by simp [Instr.sliceAt, run_underlying ht]
  unfold slcV at h
  split at h
  · cases hx
    cases hn : needH hi mx with
    | false => rw [hn] at h; cases h
    | true =>
      rw [hn] at h
      simp only [cond_true] at h
      cases h2 : boundM mx 0 true with
      | none => rw [h2] at h; cases h
      | some q =>
        obtain ⟨m, e1⟩ := q
        rw [h2] at h
        simp only at h
        cases h3 : boundH hi 0 m with
        | none => rw [h3] at h; cases h
        | some hh' =>
          rw [h3] at h
          simp only at h
          cases h4 : boundL lo hh' with
          | none => rw [h4] at h; cases h
          | some l =>
            rw [h4] at h
            simp only [Option.some.injEq] at h
            subst h
            obtain ⟨m', k1, k2, k3, k4, k5, k6⟩ := bounds_ok (P := P) (isS := true) hl hh hm (Nat.le_refl 0) hn h2 h3 h4 (Nat.le_refl 0)
            have hm0 : m = 0 := by
              cases mx with
              | none => exact (k5 rfl).2.1
              | some mv =>
                simp only [boundM] at h2
                cases hmn : natOf mv with
                | none => simp [hmn] at h2
                | some mn =>
                  simp only [hmn, nble_d, Bool.cond_decide] at h2
                  split at h2
                  · simp at h2; omega
                  · cases h2
            have hm'0 : m' = 0 := by
              cases mx with
              | none => exact (k5 rfl).1
              | some mv => rw [(k6 (by simp)).1, hm0]
            refine ⟨_, .nilslice, fun w => ?_⟩
            rw [hsl]
            simp only [Instr.slice, Sem.run_bind, run_underlying ht, Result.andThen_ok, k1, run_sizeOf_of hsz, Sem.run_pure]
            subst hm0; subst hm'0
            have : hh' = 0 := by omega
            subst this
            have : l = 0 := by omega
            subst this
            simp
  · rename_i b o sz' len c ex
    simp only [nbeq_d, Bool.cond_decide] at h
    split at h
    case isFalse => cases h
    rename_i esz
    subst esz
    cases hn : needH hi mx with
    | false => rw [hn] at h; cases h
    | true =>
      rw [hn] at h
      simp only [cond_true] at h
      cases h2 : boundM mx c ex with
      | none => rw [h2] at h; cases h
      | some q =>
        obtain ⟨m, e1⟩ := q
        rw [h2] at h
        simp only at h
        cases h3 : boundH hi len m with
        | none => rw [h3] at h; cases h
        | some hh' =>
          rw [h3] at h
          simp only at h
          cases h4 : boundL lo hh' with
          | none => rw [h4] at h; cases h
          | some l =>
            rw [h4] at h
            simp only [Option.some.injEq] at h
            subst h
            cases hx with | slice _ _ _ _ _ _ ad cc hp hlen hcc hex =>
            obtain ⟨m', k1, k2, k3, k4, k5, k6⟩ := bounds_ok (P := P) (isS := true) hl hh hm hcc hn h2 h3 h4 hlen
            refine ⟨.slice (some (if m' = l then ad else ad.add (l * sz))) (hh' - l) (m' - l), ?_, fun w => ?_⟩
            rotate_left
            · rw [hsl]
              simp only [Instr.slice, Sem.run_bind, run_underlying ht, Result.andThen_ok, k1, run_sizeOf_of hsz, Sem.run_pure]
              split <;> rfl
            · have hm'c : m' ≤ cc := by
                cases mx with
                | none => rw [(k5 rfl).1]; exact Nat.le_refl _
                | some mv =>
                  rw [(k6 (by simp)).1]
                  simp only [boundM] at h2
                  cases hmn : natOf mv with
                  | none => simp [hmn] at h2
                  | some mn =>
                    simp only [hmn, nble_d, Bool.cond_decide] at h2
                    split at h2
                    · simp at h2; omega
                    · cases h2
              refine .slice _ _ _ _ _ _ _ _ (fun hpos => ?_) (by omega) (by omega) (fun ee => ?_)
              · obtain ⟨pl, p1, p2, p3⟩ := hp (by omega)
                refine ⟨pl, p1, ?_, fun ee => ?_⟩
                · rw [if_neg (by omega), p2, Addr.add_mid]
                  congr 1; omega
                · cases mx with
                  | none =>
                    obtain ⟨q1, q2, q3⟩ := k5 rfl
                    subst q1
                    rw [← q3] at p3
                    have := p3 ee
                    rw [Nat.sub_mul]
                    have : l * sz ≤ m' * sz := Nat.mul_le_mul_right _ (by omega)
                    omega
                  | some mv => rw [(k6 (by simp)).2] at ee; cases ee
              · cases mx with
                | none =>
                  obtain ⟨q1, q2, q3⟩ := k5 rfl
                  rw [q3] at ee
                  rw [q1, q2, hex ee]
                | some mv => rw [(k6 (by simp)).1]
  · cases h

/-- A slice of an array in memory. -/
theorem sla_ok {t e : TypeId} {n : Nat} (ht : P.underlying t = some (.array n e)) {sz : Nat} (hsz : szP P e = some sz) {x v : V} {u : Value} (hx : VR φ x u) {lo hi mx : Option V} {lo' hi' mx' : Option Value}
    (hl : OR φ lo lo') (hh : OR φ hi hi') (hm : OR φ mx mx') (h : slaV n sz x lo hi mx = some v) : ∃ u', VR φ v u' ∧ ∀ w, (Instr.sliceAt t u lo' hi' mx').run P w = .ok u' w := by
  unfold slaV at h
  split at h
  case h_2 => cases h
  rename_i b o
  cases hn : needH hi mx with
  | false => rw [hn] at h; cases h
  | true =>
    rw [hn] at h
    simp only [cond_true] at h
    cases h2 : boundM mx n true with
    | none => rw [h2] at h; cases h
    | some q =>
      obtain ⟨m, e1⟩ := q
      rw [h2] at h
      simp only at h
      cases h3 : boundH hi n m with
      | none => rw [h3] at h; cases h
      | some hh' =>
        rw [h3] at h
        simp only at h
        cases h4 : boundL lo hh' with
        | none => rw [h4] at h; cases h
        | some l =>
          rw [h4] at h
          simp only [Option.some.injEq] at h
          subst h
          cases hx with | ptr _ _ pl hp =>
          obtain ⟨m', k1, k2, k3, k4, k5, k6⟩ := bounds_ok (P := P) (isS := false) hl hh hm (Nat.le_refl n) hn h2 h3 h4 (Nat.le_refl n)
          have hmm : m' = m := by
            cases mx with
            | none => obtain ⟨q1, q2, _⟩ := k5 rfl; rw [q1, q2]
            | some mv => exact (k6 (by simp)).1
          subst hmm
          refine ⟨.slice (some (if m' = l then ⟨pl.blk, pl.base + o, none⟩ else (⟨pl.blk, pl.base + o, none⟩ : Addr).add (l * sz))) (hh' - l) (m' - l), ?_, fun w => ?_⟩
          rotate_left
          · simp only [Instr.sliceAt, Instr.sureAddr, Sem.run_bind, run_underlying ht, Result.andThen_ok, k1, run_sizeOf_of hsz, Sem.run_pure]
          · refine .slice _ _ _ _ _ _ _ _ (fun hpos => ?_) (by omega) (Nat.le_refl _) (fun _ => rfl)
            refine ⟨pl, hp, ?_, fun ee => by cases ee⟩
            rw [if_neg (by omega), Addr.add_mid]
            congr 1; omega

theorem ba_extract (s : ByteArray) (l h : Nat) : (s.extract l h).data.toList = (s.data.toList.take h).drop l := by
  rw [ByteArray.data_extract, Array.toList_extract]
  simp only [List.extract]
  rw [List.take_drop, List.drop_take]
  by_cases c : l ≤ h
  · rw [show l + (h - l) = h by omega, ← List.drop_take]
  · rw [show h - l = 0 by omega]
    simp
    omega

theorem sls_ok {t : TypeId} (ht : P.underlying t = some .string) {x v : V} {u : Value} (hx : VR φ x u) {lo hi : Option V} {lo' hi' : Option Value}
    (hl : OR φ lo lo') (hh : OR φ hi hi') (h : slsV x lo hi = some v) : ∃ u', VR φ v u' ∧ ∀ w, (Instr.sliceAt t u lo' hi' none).run P w = .ok u' w := by
  have hsl : ∀ w, (Instr.sliceAt t u lo' hi' none).run P w = (Instr.slice t u lo' hi' none).run P w := fun w => by simp [Instr.sliceAt, run_underlying ht]
  unfold slsV at h
  split at h
  case h_2 => cases h
  cases hx with | str s =>
  have hlen : (s.data.toList.map UInt8.toNat).length = s.size := by simp
  rw [hlen] at h
  cases h3 : boundH hi s.size s.size with
  | none => rw [h3] at h; cases h
  | some hh' =>
    rw [h3] at h
    simp only at h
    cases h4 : boundL lo hh' with
    | none => rw [h4] at h; cases h
    | some l =>
      rw [h4] at h
      simp only [Option.some.injEq] at h
      subst h
      obtain ⟨m', k1, k2, k3, k4, k5, k6⟩ := bounds_ok (P := P) (isS := false) (mx := none) (mx' := none) (ex := true) hl hh trivial (Nat.le_refl s.size) rfl rfl h3 h4 (Nat.le_refl s.size)
      refine ⟨.string (s.extract l hh'), ?_, fun w => ?_⟩
      · have e : (s.extract l hh').data.toList.map UInt8.toNat = ((s.data.toList.map UInt8.toNat).take hh').drop l := by
          rw [ba_extract, List.map_drop, List.map_take]
        exact e ▸ .str (s.extract l hh')
      · rw [hsl]
        simp only [Instr.slice, Sem.run_bind, run_underlying ht, Result.andThen_ok, Option.isSome_none, Bool.false_eq_true, if_false]
        simp [k1]

end Go.Vm
