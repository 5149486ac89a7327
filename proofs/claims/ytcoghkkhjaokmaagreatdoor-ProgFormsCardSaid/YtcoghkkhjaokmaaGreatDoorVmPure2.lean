/-
  Vm, part 8: operations on values alone, continued: equality, slices, parts.
-/
import Derived.Test.YtcoghkkhjaokmaaGreatDoorVmPure
namespace Go.Vm

variable {P : Program} {φ : Emb}

theorem run_isAgg_of {t : TypeId} {b : Bool} (h : aggP P t = some b) (w : World) : (isAgg t).run P w = .ok b w := by
  unfold aggP at h
  cases hu : P.underlying t with
  | none => simp [hu] at h
  | some d => rw [hu] at h; cases d <;> simp at h <;> subst h <;> simp [isAgg, run_underlying hu]

theorem run_sizeOf_of {t : TypeId} {n : Nat} (h : szP P t = some n) (w : World) : (sizeOf t).run P w = .ok n w := by
  unfold szP at h
  cases hi : P.info? t with
  | none => simp [hi] at h
  | some i => simp [hi] at h; simp [sizeOf, typeInfo, hi, h]

theorem part_ok1 {t : TypeId} (h : aggP P t = some false) {l : List V} {cs : Array Value} (hr : VRs φ l cs.toList) {o : Nat} {v : V} (hv : l[o]? = some v) :
    ∃ u, VR φ v u ∧ ∀ w, (part t cs o).run P w = .ok u w := by
  obtain ⟨u, h1, h2⟩ := hr.get hv
  refine ⟨u, h2, fun w => ?_⟩
  have h1' : cs[o]? = some u := by simpa using h1
  simp [part, run_isAgg_of h, h1']

theorem part_okn {t : TypeId} {n : Nat} (h : aggP P t = some true) (hn : szP P t = some n) {l r : List V} {cs : Array Value} (hr : VRs φ l cs.toList) {o : Nat} (hv : takeX n (l.drop o) = some r) :
    ∃ u, VR φ (.agg r) u ∧ ∀ w, (part t cs o).run P w = .ok u w := by
  obtain ⟨rfl, hl⟩ := takeX_eq hv
  refine ⟨.agg (cs.extract o (o + n)), .agg _ _ ?_, fun w => by simp [part, run_isAgg_of h, run_sizeOf_of hn]⟩
  have := (hr.drop o).take n
  have e : (cs.extract o (o + n)).toList = (cs.toList.drop o).take n := by
    rw [Array.toList_extract]
    simp [List.extract]
  rwa [e]

theorem field_get {l : List V} {o : Nat} {v : V} (h : fieldOf none (l.drop o) = some v) : l[o]? = some v := by
  cases hd : l.drop o with
  | nil => simp [hd, fieldOf] at h
  | cons x r =>
    simp [hd, fieldOf] at h
    subst h
    have : (l.drop o)[0]? = some x := by rw [hd]; rfl
    simpa using this

theorem part_field {t : TypeId} {b : Bool} {n : Nat} (h : aggP P t = some b) (hn : szP P t = some n) {l : List V} {cs : Array Value} (hr : VRs φ l cs.toList) {o : Nat} {v : V}
    (hv : fieldOf (bif b then some n else none) (l.drop o) = some v) : ∃ u, VR φ v u ∧ ∀ w, (part t cs o).run P w = .ok u w := by
  cases b with
  | false => exact part_ok1 h hr (field_get hv)
  | true =>
    simp only [cond_true, fieldOf] at hv
    cases h1 : takeX n (l.drop o) with
    | none => simp [h1] at hv
    | some r => simp [h1] at hv; subst hv; exact part_okn h hn hr h1

theorem eqFields_ok (d : Nat) (rec : ∀ {t : TypeId} {e : ETy} {x y : V} {u1 u2 : Value} {r : Bool}, etyP P d t = some e → eqV e x y = some r → VR φ x u1 → VR φ y u2 →
      ∀ n w, (Op.equalIn (n + d) t u1 u2).run P w = .ok r w) {a b : List V} {xs ys : Array Value} (h1 : VRs φ a xs.toList) (h2 : VRs φ b ys.toList) :
    ∀ (fl : List Field) {l : List (Nat × Option Nat × ETy)} {r : Bool}, mapO (fun f => cond (decide (f.name = "_")) none (match etyP P d f.type, aggP P f.type, szP P f.type with
          | some e, some false, some _ => some (f.offset, none, e)
          | some e, some true, some n => some (f.offset, some n, e)
          | _, _, _ => none)) fl = some l → eqVs l a b = some r → ∀ n w, (Op.eqFields (n + d) xs ys fl).run P w = .ok r w
  | [], l, r, hl, hr, n, w => by
    simp [mapO] at hl; subst hl
    simp [eqVs] at hr; subst hr
    simp [Op.eqFields]
  | f :: fl, l, r, hl, hr, n, w => by
    obtain ⟨q, l', h3, h4, rfl⟩ := mapO_cons hl
    cases hn : decide (f.name = "_") with
    | true => simp [hn] at h3
    | false =>
      simp only [hn, cond_false] at h3
      have hn' : f.name ≠ "_" := by simpa using hn
      have hq : ∃ et bb nn, etyP P d f.type = some et ∧ aggP P f.type = some bb ∧ szP P f.type = some nn ∧ q = (f.offset, (bif bb then some nn else none), et) := by
        split at h3
        · rename_i e1 e2 e3; exact ⟨_, _, _, e1, e2, e3, by simpa using h3.symm⟩
        · rename_i e1 e2 e3; exact ⟨_, _, _, e1, e2, e3, by simpa using h3.symm⟩
        · cases h3
      obtain ⟨et, bb, nn, e1, e2, e3, rfl⟩ := hq
      simp only [eqVs] at hr
      split at hr
      case h_2 => cases hr
      rename_i vx vy g1 g2
      obtain ⟨ux, rx, px⟩ := part_field (P := P) e2 e3 h1 g1
      obtain ⟨uy, ry, py⟩ := part_field (P := P) e2 e3 h2 g2
      simp only [Op.eqFields, if_pos hn', Sem.run_bind, px, py, Result.andThen_ok]
      split at hr
      · rename_i g3
        simp only [rec e1 g3 rx ry n w, Result.andThen_ok, Bool.not_true, Bool.false_eq_true, if_false]
        exact eqFields_ok d rec h1 h2 fl h4 hr n w
      · rename_i g3
        cases hr
        simp only [rec e1 g3 rx ry n w, Result.andThen_ok, Bool.not_false, if_true, Sem.run_pure]
      · cases hr

set_option maxHeartbeats 1600000 in
theorem eqV_ok : ∀ (d : Nat) {t : TypeId} {e : ETy} {x y : V} {u1 u2 : Value} {r : Bool}, etyP P d t = some e → eqV e x y = some r → VR φ x u1 → VR φ y u2 →
    ∀ n w, (Op.equalIn (n + d) t u1 u2).run P w = .ok r w
  | 0, t, e, x, y, u1, u2, r, he, _, _, _ => by simp [etyP] at he
  | d + 1, t, e, x, y, u1, u2, r, he, hr, hx, hy => by
    intro n w
    show (Op.equalIn ((n + d) + 1) t u1 u2).run P w = .ok r w
    unfold etyP at he
    cases hu : P.underlying t with
    | none => simp [hu] at he
    | some td =>
      rw [hu] at he
      cases td <;> simp only [Option.some.injEq, reduceCtorEq] at he
      case bool =>
        subst he
        cases x <;> cases y <;> simp only [eqV, Option.some.injEq, reduceCtorEq] at hr
        subst hr
        cases hx; cases hy
        simp [Op.equalIn, run_underlying hu, beqB_d]
      case int k =>
        subst he
        cases x <;> cases y <;> simp only [eqV, reduceCtorEq] at hr
        rename_i k a j b
        cases hk : keq k j with
        | false => rw [hk] at hr; cases hr
        | true =>
          rw [hk] at hr; cases hr
          have := keq_iff.1 hk
          subst this
          cases hx; cases hy
          simp [Op.equalIn, run_underlying hu, ieq_d]
      case string =>
        subst he
        cases x <;> cases y <;> simp only [eqV, Option.some.injEq, reduceCtorEq] at hr
        cases hx; cases hy
        subst hr
        simp [Op.equalIn, run_underlying hu, neqs_map, beq_toListBytes, str_eq]
      case pointer el =>
        cases hsz : szP P el with
        | none => simp [hsz] at he
        | some sz =>
          cases sz with
          | zero => simp [hsz] at he
          | succ sz =>
            simp only [hsz, Option.some.injEq] at he
            subst he
            cases x <;> cases y <;> simp only [eqV, Option.some.injEq, reduceCtorEq] at hr
            case nilptr.nilptr => subst hr; cases hx; cases hy; simp [Op.equalIn, run_underlying hu]
            case nilptr.ptr => subst hr; cases hx; cases hy; simp [Op.equalIn, run_underlying hu]
            case ptr.nilptr => subst hr; cases hx; cases hy; simp [Op.equalIn, run_underlying hu]
            case ptr.ptr b o c p =>
              simp only [nbeq_d, Bool.cond_decide] at hr
              split at hr
              case isFalse => cases hr
              rename_i e
              subst e
              cases hr
              cases hx with | ptr _ _ pl h1 => cases hy with | ptr _ _ pl' h2 =>
              rw [h1] at h2; cases h2
              simp [Op.equalIn, run_underlying hu, run_sizeOf_of hsz, sameAddr]
              congr 1
              rw [Bool.eq_iff_iff]; simp
      case slice el =>
        subst he
        cases x <;> cases y <;> simp only [eqV, Option.some.injEq, reduceCtorEq] at hr
        all_goals (subst hr; cases hx; cases hy; simp [Op.equalIn, run_underlying hu])
      case map el _ =>
        subst he
        cases x <;> cases y <;> simp only [eqV, Option.some.injEq, reduceCtorEq] at hr
        all_goals (subst hr; cases hx; cases hy; simp [Op.equalIn, run_underlying hu])
      case func a b c =>
        subst he
        cases x <;> cases y <;> simp only [eqV, Option.some.injEq, reduceCtorEq] at hr
        all_goals (subst hr; cases hx; cases hy; simp [Op.equalIn, run_underlying hu])
      case struct fs =>
        cases hst : P.stoodInHeld t with
        | true => simp [hst] at he
        | false =>
          simp only [hst, cond_false] at he
          split at he
          case h_2 => cases he
          rename_i l hl
          cases he
          cases x <;> cases y <;> simp only [eqV, reduceCtorEq] at hr
          rename_i a b
          cases hx with | agg _ xs h1 => cases hy with | agg _ ys h2 =>
          have ht : P.underlying t = some (.struct (P.fieldsOf t)) := by simp [Program.fieldsOf, hu]
          rw [run_equalIn_struct w (n + d) t xs ys ht hst]
          have hfs : (P.fieldsOf t).toList = fs.toList := by simp [Program.fieldsOf, hu]
          rw [hfs]
          exact eqFields_ok d (fun h1 h2 h3 h4 => eqV_ok d h1 h2 h3 h4) h1 h2 _ hl hr n w

/-! ### Bounds -/

theorem nat_rel {v : V} {n : Nat} {u : Value} (h : natOf v = some n) (hr : VR φ v u) : ∃ k, u = .int k (n : Int) := by
  cases v <;> simp only [natOf, reduceCtorEq] at h
  rename_i k m
  cases m <;> simp at h
  subst h
  cases hr
  exact ⟨k, rfl⟩

theorem bound_ok {v : V} {u : Value} {n y : Nat} (h : natOf v = some n) (hr : VR φ v u) (hy : n ≤ y) (code : BoundsCode) (w : World) : (Instr.sliceBound u y code).run P w = .ok n w := by
  obtain ⟨k, rfl⟩ := nat_rel h hr
  rw [run_sliceBound w k (n : Int) y code (by omega) (by omega)]
  simp

theorem bounds_ok {isS : Bool} {lo hi mx : Option V} {lo' hi' mx' : Option Value} (hl : OR φ lo lo') (hh : OR φ hi hi') (hm : OR φ mx mx') {len c cc m h l : Nat} {ex e : Bool}
    (hc : c ≤ cc) (h1 : needH hi mx = true) (h2 : boundM mx c ex = some (m, e)) (h3 : boundH hi len m = some h) (h4 : boundL lo h = some l) (hlen : len ≤ c) :
    ∃ m', (∀ w, (Instr.sliceBounds isS len cc lo' hi' mx').run P w = .ok (l, h, m') w) ∧ l ≤ h ∧ h ≤ m ∧ m ≤ m' ∧ (mx = none → m' = cc ∧ m = c ∧ e = ex) ∧ (mx ≠ none → m' = m ∧ e = true) := by
  have hlh : l ≤ h ∧ ∀ (code : BoundsCode) w, (match lo' with
      | some v => Instr.sliceBound v h code
      | none => pure 0 : Sem Nat).run P w = .ok l w := by
    cases lo with
    | none => cases lo' with
      | none => simp [boundL] at h4; subst h4; exact ⟨by omega, fun _ _ => by simp⟩
      | some _ => exact hl.elim
    | some v => cases lo' with
      | none => exact hl.elim
      | some u =>
        simp only [boundL] at h4
        cases hn : natOf v with
        | none => simp [hn] at h4
        | some n =>
          simp only [hn, nble_d, Bool.cond_decide] at h4
          split at h4
          · rename_i hle; cases h4; exact ⟨hle, fun code w => bound_ok hn hl hle code w⟩
          · cases h4
  cases mx with
  | none => cases mx' with
    | some _ => exact hm.elim
    | none =>
      simp [boundM] at h2
      obtain ⟨rfl, rfl⟩ := h2
      refine ⟨cc, fun w => ?_, hlh.1, ?_, hc, fun _ => ⟨rfl, rfl, rfl⟩, fun hne => absurd rfl hne⟩
      · cases hi with
        | none => cases hi' with
          | some _ => exact hh.elim
          | none =>
            simp [boundH] at h3; subst h3
            simp only [Instr.sliceBounds, Sem.run_bind, Sem.run_pure, Result.andThen_ok]
            have := hlh.2 .sliceB w
            cases lo' <;> simp_all
        | some v => cases hi' with
          | none => exact hh.elim
          | some u =>
            simp only [boundH] at h3
            cases hn : natOf v with
            | none => simp [hn] at h3
            | some n =>
              simp only [hn, nble_d, Bool.cond_decide] at h3
              split at h3
              case isFalse => cases h3
              rename_i hle
              cases h3
              simp only [Instr.sliceBounds, Sem.run_bind, Sem.run_pure, Result.andThen_ok]
              rw [bound_ok hn hh (by omega)]
              have := hlh.2 .sliceB w
              cases lo' <;> simp_all
      · cases hi with
        | none => simp [boundH] at h3; omega
        | some v =>
          simp only [boundH] at h3
          cases hn : natOf v with
          | none => simp [hn] at h3
          | some n =>
            simp only [hn, nble_d, Bool.cond_decide] at h3
            split at h3
            · rename_i hle; cases h3; exact hle
            · cases h3
  | some mv => cases mx' with
    | none => exact hm.elim
    | some mu =>
      simp only [boundM] at h2
      cases hmn : natOf mv with
      | none => simp [hmn] at h2
      | some mn =>
        simp only [hmn, nble_d, Bool.cond_decide] at h2
        split at h2
        case isFalse => cases h2
        rename_i hmc
        simp at h2
        obtain ⟨rfl, rfl⟩ := h2
        cases hi with
        | none => simp [needH] at h1
        | some v => cases hi' with
          | none => exact hh.elim
          | some u =>
            simp only [boundH] at h3
            cases hn : natOf v with
            | none => simp [hn] at h3
            | some n =>
              simp only [hn, nble_d, Bool.cond_decide] at h3
              split at h3
              case isFalse => cases h3
              rename_i hle
              cases h3
              refine ⟨mn, fun w => ?_, hlh.1, hle, Nat.le_refl _, ?_, ?_⟩
              rotate_left
              · intro hne; cases hne
              · intro _; exact ⟨rfl, rfl⟩
              simp only [Instr.sliceBounds, Sem.run_bind]
              rw [bound_ok hmn hm (by omega)]
              simp only [Result.andThen_ok]
              rw [bound_ok hn hh hle]
              have := hlh.2 .slice3C w
              cases lo' <;> simp_all

end Go.Vm
