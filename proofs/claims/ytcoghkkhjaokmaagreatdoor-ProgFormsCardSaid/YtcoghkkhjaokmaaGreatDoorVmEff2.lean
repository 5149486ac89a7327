/-
  Vm, part 18: loads; operations that may write: the joint.
-/
import Derived.Test.YtcoghkkhjaokmaaGreatDoorVmEff
namespace Go.Vm

variable {P : Program} {φ : Emb}

theorem range_add {w : World} {k o : Nat} {us : List Value} (h : w.rangeAt k o us) : ∀ j v, us[j]? = some v → w.cell? ((⟨k, o, none⟩ : Addr).add j) = some v := fun j v hj => by rw [Addr.add_mid]; exact h j v hj

/-- A load, of one cell or of many. -/
theorem load_cells {w : World} {t : TypeId} {b : Bool} {n : Nat} (ha : aggP P t = some b) (hn : szP P t = some n) {k o : Nat} {us : List Value} (hr : w.rangeAt k o us) :
    (b = true → us.length = n → (loadVar t ⟨k, o, none⟩).run P w = .ok (.agg us.toArray) w) ∧ (b = false → ∀ u, us[0]? = some u → (loadVar t ⟨k, o, none⟩).run P w = .ok u w) := by
  refine ⟨fun hb hl => ?_, fun hb u hu => ?_⟩
  · subst hb
    have := run_loadCells_list (P := P) w ⟨k, o, none⟩ us (range_add hr)
    rw [hl] at this
    simp [loadVar, run_isAgg_of ha, run_sizeOf_of hn, this]
  · subst hb
    have hc := hr 0 u hu
    rw [Nat.add_zero] at hc
    simp [loadVar, run_isAgg_of ha, run_load, hc]

/-- Which operations are loads. -/
theorem only_load {o : Oper} {m : MOp} (hc : cOp P o.op = some m) (hm : (∃ x, m = .load1 x) ∨ (∃ n x, m = .loadn n x)) : ∃ t X, o.op = .load t X := by
  have no : ∀ {f : Opd → MOp} {x : Option Opd}, (∀ y, (¬ ∃ z, f y = .load1 z) ∧ ¬ ∃ n z, f y = .loadn n z) → x.map f = some m → False := by
    intro f x hf h
    obtain ⟨y, _, e⟩ := map_some h
    subst e
    rcases hm with hm | hm
    · exact (hf y).1 hm
    · exact (hf y).2 hm
  have nop : ∀ {x : Option POp}, x.map MOp.p = some m → False := by
    intro x h
    obtain ⟨y, _, e⟩ := map_some h
    subst e
    rcases hm with ⟨_, hm⟩ | ⟨_, _, hm⟩ <;> cases hm
  have p : ∀ {x : POp}, MOp.p x = m → False := by rintro x rfl; rcases hm with ⟨_, hm⟩ | ⟨_, _, hm⟩ <;> cases hm
  have q : ∀ {x : AOp}, MOp.a x = m → False := by rintro x rfl; rcases hm with ⟨_, hm⟩ | ⟨_, _, hm⟩ <;> cases hm
  have r : ∀ {x : EOp}, MOp.e x = m → False := by rintro x rfl; rcases hm with ⟨_, hm⟩ | ⟨_, _, hm⟩ <;> cases hm
  cases hop : o.op <;> rw [hop] at hc <;> simp only [cOp, reduceCtorEq] at hc
  case load t X => exact ⟨t, X, rfl⟩
  all_goals exfalso
  case convert s d X =>
    split at hc
    · unfold cConv at hc
      repeat' (first | (cases hc; done) | (exact p (Option.some.inj hc)) | (exact q (Option.some.inj hc)) | (exact r (Option.some.inj hc)) | (rw [cond_eq_ite] at hc; split at hc) | split at hc)
    · cases hc
  case call c =>
    unfold cCall at hc
    repeat' (first | (cases hc; done) | (exact p (Option.some.inj hc)) | (exact q (Option.some.inj hc)) | (exact r (Option.some.inj hc)) | (unfold cBuiltin at hc) | (rw [cond_eq_ite] at hc; split at hc) | split at hc)
  case build t parts =>
    repeat' (first | (cases hc; done) | (obtain ⟨y, _, e⟩ := map_some hc; exact p e) | split at hc)
  case buildSlice t n parts =>
    repeat' (first | (cases hc; done) | (obtain ⟨y, _, e⟩ := map_some hc; exact q e) | (rw [cond_eq_ite] at hc; split at hc) | split at hc)
  case makeFunc fn x y =>
    cases fn <;> simp only [reduceCtorEq] at hc
    repeat' (first | (cases hc; done) | (exact p (Option.some.inj hc)) | split at hc)
  case makeMap t r' =>
    cases r' <;> simp only [reduceCtorEq] at hc
    repeat' (first | (cases hc; done) | (exact q (Option.some.inj hc)) | split at hc)
  case binOp => split at hc <;> first | (cases hc; done) | exact nop hc
  case slice => split at hc <;> first | (cases hc; done) | exact nop hc
  all_goals (repeat' (first | (cases hc; done) | (obtain ⟨y, _, e⟩ := map_some hc; first | exact p e | exact q e | exact r e) | (exact p (Option.some.inj hc)) | (exact q (Option.some.inj hc)) | (exact r (Option.some.inj hc)) | split at hc))

theorem load1_sim {env : Env} (ok : EnvOk P φ env) {fr : Fr} {a : Act} (hf : FR φ fr a) {o : Oper} {x : Opd} (hc : cOp P o.op = some (.load1 x)) {b q : Nat} (hx : ev fr x = .ptr b q) {pl : Place} (hp : φ.at_ b = some pl) {w : World}
    {us : List Value} (hr : w.rangeAt pl.blk (pl.base + q) us) {u : Value} (hu : us[0]? = some u) : (execOp a.eval o).run P w = .ok (.value u) w := by
  obtain ⟨t, X, hop⟩ := only_load hc (.inl ⟨x, rfl⟩)
  rw [hop] at hc
  simp only [cOp] at hc
  split at hc
  case h_1 => cases hc
  case h_3 => cases hc
  rename_i n x' h1 h2 h3
  cases hc
  have rx := opd_rel ok.gl hf h3
  rw [hx] at rx
  have he : execOp a.eval o = (do pure (Next.value (← Instr.loadAt t (a.eval X)))) := by simp only [execOp, hop]
  rw [he]
  generalize a.eval X = xu at rx
  cases rx with | ptr _ _ pl' hp' =>
  rw [hp] at hp'; cases hp'
  refine lift_ok ?_
  simp only [Instr.loadAt, Instr.sureAddr, pure_bind, (load_cells h1 h2 hr).2 rfl u hu]

theorem loadn_sim {env : Env} (ok : EnvOk P φ env) {fr : Fr} {a : Act} (hf : FR φ fr a) {o : Oper} {n : Nat} {x : Opd} (hc : cOp P o.op = some (.loadn n x)) {b q : Nat} (hx : ev fr x = .ptr b q) {pl : Place} (hp : φ.at_ b = some pl) {w : World}
    {us : List Value} (hr : w.rangeAt pl.blk (pl.base + q) us) (hl : us.length = n) : (execOp a.eval o).run P w = .ok (.value (.agg us.toArray)) w := by
  obtain ⟨t, X, hop⟩ := only_load hc (.inr ⟨n, x, rfl⟩)
  rw [hop] at hc
  simp only [cOp] at hc
  split at hc
  case h_2 => cases hc
  case h_3 => cases hc
  rename_i n' x' h1 h2 h3
  cases hc
  have rx := opd_rel ok.gl hf h3
  rw [hx] at rx
  have he : execOp a.eval o = (do pure (Next.value (← Instr.loadAt t (a.eval X)))) := by simp only [execOp, hop]
  rw [he]
  generalize a.eval X = xu at rx
  cases rx with | ptr _ _ pl' hp' =>
  rw [hp] at hp'; cases hp'
  refine lift_ok ?_
  simp only [Instr.loadAt, Instr.sureAddr, pure_bind, (load_cells h1 h2 hr).1 rfl hl]

/-! ### The other writing ones -/

theorem lenV_ok {x : V} {u : Value} (h : VR φ x u) {n : Nat} (hn : lenV x = some n) (w : World) : (Builtin.lenOf u).run P w = .ok n w := by
  cases x <;> simp only [lenV, reduceCtorEq, Option.some.injEq] at hn
  · subst hn
    cases h with | str s =>
    simp [Builtin.lenOf]
  · subst hn; cases h; simp [Builtin.lenOf]
  · subst hn; cases h; simp [Builtin.lenOf]

theorem src_ok {h : Hp} {w : World} (hr : HR φ h w) {x : V} {u : Value} (hx : VR φ x u) {sz n : Nat} {l : List V} (hs : srcCells h sz n x = some l) :
    ∃ us : List Value, VRs φ l us ∧ l.length = n * sz ∧ ∀ w', w'.heap = w.heap → (Builtin.firstCells sz n u).run P w' = .ok us.toArray w' := by
  cases x <;> simp only [srcCells, reduceCtorEq] at hs
  case nilslice =>
    rw [cond_eq_ite] at hs
    split at hs
    case isFalse => cases hs
    rename_i h0
    rw [nbeq] at h0
    subst h0
    cases hs
    cases hx
    exact ⟨[], .nil, by simp, fun w' _ => by simp [Builtin.firstCells]⟩
  case slice b o sz' len c ex =>
    rw [cond_eq_ite] at hs
    split at hs
    case isFalse => cases hs
    rename_i h0
    rw [nbeq] at h0
    subst h0
    rw [cond_eq_ite] at hs
    split at hs
    case isFalse => cases hs
    rename_i hle
    rw [nble] at hle
    cases hx with | slice _ _ _ _ _ _ ad cc hp h1 h2 h3 =>
    obtain ⟨pl, us, r1, r2, r3, r4⟩ := hr.read hs
    refine ⟨us, r3, r2, fun w' hw => ?_⟩
    rcases Nat.eq_zero_or_pos n with e0 | e0
    · subst e0
      rw [run_first0]
      have : us = [] := List.length_eq_zero_iff.1 (by have := r3.length; omega)
      rw [this]
    · obtain ⟨pl', q1, q2, _⟩ := hp (by omega)
      rw [r1] at q1; cases q1
      subst q2
      exact run_first r4 _ _ _ _ (by rw [← r3.length, r2]) _ hw
  case str l' =>
    rw [cond_eq_ite] at hs
    split at hs
    case isFalse => cases hs
    rename_i h0
    rw [nbeq] at h0
    subst h0
    rw [cond_eq_ite] at hs
    split at hs
    case isFalse => cases hs
    rename_i hle
    rw [nble] at hle
    cases hs
    cases hx with | str s =>
    simp only [List.length_map, Array.length_toList] at hle
    refine ⟨(s.data.toList.take n).map fun b => .int .u8 b.toNat, ?_, by simp; exact Nat.min_eq_left hle, fun w' _ => ?_⟩
    · rw [← List.map_take, List.map_map]
      generalize s.data.toList.take n = q
      induction q with
      | nil => exact .nil
      | cons c q ih => exact .cons _ _ _ _ (.int _ _) ih
    · simp only [Builtin.firstCells, Sem.run_pure]
      congr 1
      apply Array.ext'
      simp only [Array.toList_map]
      rw [show (s.extract 0 n).data.toList = s.data.toList.take n by rw [ba_extract]; simp]

end Go.Vm
