/-
  Vm, part 22: one operation, and a region whose order is fixed.
-/
import Derived.Test.YtcoghkkhjaokmaaGreatDoorVmRun
namespace Go.Vm

variable {P : Program} {φ : Emb}

/-- What a call does. -/
def CallSim (P : Program) (φ : Emb) (f : Nat) (us : List Value) (h : Hp) (w : World) (v : V) (h' : Hp) : Prop :=
  (entered P f = true ∧ Calls P f us.toArray w fun e w' => ∃ u ψ, e = .returned u ∧ VR ψ v u ∧ St φ h w ψ h' w') ∨
  (∃ u ψ w', (callFunc f us.toArray).run P w = .ok (.value u) w' ∧ VR ψ v u ∧ St φ h w ψ h' w')

def Fresh (φ : Emb) (lo hi : Nat) : Prop := ∀ b, lo ≤ b → b < hi → φ.at_ b = none

theorem Fresh.step {ψ : Emb} {h h1 : Hp} {w w1 : World} {hi : Nat} (hf : Fresh φ h.next hi) (s : St φ h w ψ h1 w1) : Fresh ψ h1.next hi := fun b h2 h3 => by
  rw [s.new b (.inr h2)]
  exact hf b (Nat.le_trans s.nx h2) h3

theorem Fresh.sub {lo hi hi' : Nat} (h : Fresh φ lo hi) (hh : hi' ≤ hi) : Fresh φ lo hi' := fun b h1 h2 => h b h1 (Nat.lt_of_lt_of_le h2 hh)

def CallOk (P : Program) (env : Env) (call : Nat → List V → Hp → Option (V × Hp)) : Prop :=
  ∀ (φ : Emb) f args h v h' w us, call f args h = some (v, h') → EnvOk P φ env → HR φ h w → Fresh φ h.next h'.next → VRs φ args us → CallSim P φ f us h w v h'

theorem callFunc_entered {f : Nat} (h : entered P f = true) (args : Array Value) (w : World) : (callFunc f args).run P w = .ok (.enter f args) w := by
  unfold entered at h
  split at h
  · rename_i fn hf
    rw [cond_eq_ite] at h
    split at h
    · cases h
    rename_i hn
    have hn' : fn.name ≠ "runtime.NumGoroutine" := by simpa using hn
    cases hb : fn.body with
    | none => rw [hb] at h; cases h
    | some c => simp [callFunc, hf, hn', hb]
  · cases h

/-- A call's operation. -/
theorem call_wp {f : Nat} {us : List Value} {h h' : Hp} {w : World} {v : V} (hs : CallSim P φ f us h w v h') {o : Oper} {a : Act} {w0 : World} (he : (execOp a.eval o).run P w = (callFunc f us.toArray).run P w0) (hw : w0 = w)
    {next : Act → World → Prop} {Q : Exit → Act → World → Prop} (hk : ∀ u ψ w', VR ψ v u → St φ h w ψ h' w' → next (a.put o.dst u) w') : o.wp P a w next Q := by
  subst hw
  unfold Oper.wp
  rw [he]
  rcases hs with ⟨h1, h2⟩ | ⟨u, ψ, w', h1, h2, h3⟩
  · rw [callFunc_entered h1, Oper.upon_enter]
    refine h2.mono ?_
    rintro e w' ⟨u, ψ, rfl, r1, r2⟩
    exact hk u ψ w' r1 r2
  · rw [h1, Oper.upon_value]
    exact hk u ψ w' h2 h3

theorem run_value {o : Oper} {a : Act} {w w' : World} {u : Value} (he : (execOp a.eval o).run P w = .ok (.value u) w') {next : Act → World → Prop} {Q : Exit → Act → World → Prop} (hk : next (a.put o.dst u) w') : o.wp P a w next Q := by
  unfold Oper.wp
  rw [he, Oper.upon_value]
  exact hk

theorem Acts.wp {a : Act} {o : Oper} {h h' : Hp} {w : World} {v : V} (hs : Acts P φ a o h w v h') {next : Act → World → Prop} {Q : Exit → Act → World → Prop}
    (hk : ∀ u ψ w', VR ψ v u → St φ h w ψ h' w' → next (a.put o.dst u) w') : o.wp P a w next Q := by
  obtain ⟨nx, u, ψ, w', h1, h2, h3, h4⟩ := hs
  unfold Oper.wp
  rw [h1]
  rcases h2 with rfl | ⟨rfl, rfl⟩
  · rw [Oper.upon_value]; exact hk u ψ w' h3 h4
  · rw [Oper.upon_skip]; exact hk undef ψ w' h3 h4

theorem args_arr {args : Array Operand} {a : Act} : (args.map a.eval) = (args.toList.map a.eval).toArray := by
  apply Array.ext'
  simp

/-- Which operations are calls. -/
theorem only_call {o : Oper} {p : EOp} (hc : cOp P o.op = some (.e p)) (hp : p.isCall = true) : ∃ c, o.op = .call c ∧ cCall P c = some (.e p) := by
  cases hop : o.op <;> rw [hop] at hc <;> simp only [cOp, reduceCtorEq] at hc
  case call c => exact ⟨c, rfl, hc⟩
  case panic x => cases hc; cases hp
  case makeFunc fn x y =>
    cases fn <;> simp only [reduceCtorEq] at hc
    split at hc <;> cases hc
  case makeMap t r' =>
    cases r' <;> simp only [reduceCtorEq] at hc
    repeat' (first | (cases hc; done) | split at hc)
  case convert s d X =>
    split at hc
    · unfold cConv at hc
      repeat' (first | (cases hc; done) | (cases hc; cases hp; done) | (rw [cond_eq_ite] at hc; split at hc) | split at hc)
    · cases hc
  all_goals (repeat' (first | (cases hc; done) | (cases hc; cases hp; done) | (obtain ⟨y, _, e⟩ := map_some hc; cases e; done) | (rw [cond_eq_ite] at hc; split at hc) | split at hc))

theorem op_sim {env : Env} (ok : EnvOk P φ env) {call : Nat → List V → Hp → Option (V × Hp)} (hcall : CallOk P env call) {fr : Fr} {a : Act} (hf : FR φ fr a) {o : Oper} {m : MOp} (hc : cOp P o.op = some m)
    {h h' : Hp} {w : World} (hr : HR φ h w) (hfr : Fresh φ h.next h'.next) {v : V} (hv : opV env call fr h m = some (v, h')) {next : Act → World → Prop} {Q : Exit → Act → World → Prop}
    (hk : ∀ u ψ w', VR ψ v u → St φ h w ψ h' w' → next (a.put o.dst u) w') : o.wp P a w next Q := by
  cases m with
  | p p =>
    simp only [opV] at hv
    split at hv
    case h_2 => cases hv
    rename_i v' hv'
    cases hv
    obtain ⟨u, h1, h2⟩ := p_sim ok hf hc hv'
    exact run_value (h2 w) (hk u φ w h1 (.refl hr))
  | a p =>
    simp only [opV] at hv
    split at hv
    case h_2 => cases hv
    rename_i blk mk hv'
    cases hv
    obtain ⟨u, obj, pl, w1, h1, h2, h3, h4, h5⟩ := a_sim ok hf hc hv' w
    have hfn : φ.at_ h.next = none := hfr h.next (Nat.le_refl _) (Nat.lt_succ_self _)
    have hw1 : w1.heap = w.heap := by rcases h1 with rfl | rfl <;> rfl
    have hsz : w1.heap.size = w.heap.size := by rw [hw1]
    have hr1 : HR φ h w1 := by rcases h1 with rfl | rfl <;> first | exact hr | exact hr.drew
    have hst := hr1.new blk obj pl (by rw [hsz]; exact h3) hfn (fun ψ w' hle hh => h5 ψ w' hle (by rw [← hsz]; exact hh))
    have hst0 : St φ h w φ h w1 := by rcases h1 with rfl | rfl <;> first | exact .refl hr | exact .drew hr
    refine run_value h2 (hk u _ _ (h4 _ h.next hst.le ?_) (hst0.trans hst))
    show (if h.next = h.next then some pl else _) = _
    rw [if_pos rfl]
  | load1 x =>
    simp only [opV] at hv
    split at hv
    case h_2 => cases hv
    rename_i b q hx
    split at hv
    case h_2 => cases hv
    rename_i v0 l hl
    cases hv
    obtain ⟨pl, us, r1, r2, r3, r4⟩ := hr.read hl
    cases r3 with | cons _ u _ us' k1 k2 =>
    exact run_value (load1_sim ok hf hc hx r1 r4 rfl) (hk u φ w k1 (.refl hr))
  | loadn n x =>
    simp only [opV] at hv
    split at hv
    case h_2 => cases hv
    rename_i b q hx
    split at hv
    case h_2 => cases hv
    rename_i l hl
    cases hv
    obtain ⟨pl, us, r1, r2, r3, r4⟩ := hr.read hl
    exact run_value (loadn_sim ok hf hc hx r1 r4 (by rw [← r3.length, r2])) (hk _ φ w (.agg _ _ (by simpa using r3)) (.refl hr))
  | e p =>
    simp only [opV] at hv
    cases hnc : p.isCall with
    | false => exact (e_sim ok hf hc hnc hr (fun hlt => hfr h.next (Nat.le_refl _) hlt) hv).wp hk
    | true =>
      obtain ⟨c, hop, hcc⟩ := only_call hc hnc
      unfold cCall at hcc
      split at hcc
      · cases hcc
      rename_i args ha
      have rargs := opds_rel ok.gl hf ha
      split at hcc
      · rename_i b hb
        unfold cBuiltin at hcc
        repeat' (first | (cases hcc; done) | (cases hcc; cases hnc; done) | (rw [cond_eq_ite] at hcc; split at hcc) | split at hcc)
      · rename_i f hcl
        have he : ∀ w, (execOp a.eval o).run P w = (callFunc f (c.args.toList.map a.eval).toArray).run P w := by
          intro w
          simp only [execOp, hop, resolve, hcl, Act.eval, Deferred.ofValue, pure_bind, invoke]
          rw [args_arr]
          simp
        have hgo : call f (evs fr args) h = some (v, h') → o.wp P a w next Q := fun hv =>
          call_wp (hcall φ f _ h v h' w _ hv ok hr hfr rargs) (he w) rfl hk
        rw [cond_eq_ite] at hcc
        split at hcc
        · cases hcc; exact hgo hv
        · cases hcc; exact hgo hv
      · rename_i x hne hcl
        split at hcc
        case h_2 => cases hcc
        rename_i y hy
        cases hcc
        simp only [eV] at hv
        split at hv
        case h_2 => cases hv
        rename_i f first captured ex
        have rx := opd_rel ok.gl hf hy
        rw [ex] at rx
        generalize hxu : a.eval x = xu at rx
        cases rx with | func _ _ _ fst cap r1 r2 =>
        have he : ∀ w, (execOp a.eval o).run P w = (callFunc f (fst.toList ++ c.args.toList.map a.eval ++ cap.toList).toArray).run P w := by
          intro w
          simp only [execOp, hop, resolve, hcl, hxu, Deferred.ofValue, pure_bind, invoke]
          congr 2
          apply Array.ext'
          simp
        exact call_wp (hcall φ f _ h v h' w _ hv ok hr hfr ((r1.append rargs).append r2)) (he w) rfl hk
      · cases hcc

/-! ### Slots -/

theorem FR.put {ψ : Emb} {fr : Fr} {a : Act} (hf : FR φ fr a) (hle : φ.Le ψ) {dst : Option Nat} {v : V} {u : Value} (hv : VR ψ v u) (hd : ∀ d, dst = some d → d < a.tmps.size) : FR ψ (putO fr dst v) (a.put dst u) := by
  intro t
  cases dst with
  | none => exact (hf t).mono hle
  | some d =>
    simp only [putO, Act.put, ev, T.get_set]
    by_cases e : t = d
    · subst e
      rw [if_pos rfl]
      have := hd t rfl
      simp only [Array.getD_eq_getD_getElem?, Array.getElem?_setIfInBounds, if_true, this]
      simpa using hv
    · rw [if_neg e]
      have := (hf t).mono hle
      simp only [ev] at this
      simp only [Array.getD_eq_getD_getElem?, Array.getElem?_setIfInBounds]
      rw [if_neg (by omega)]
      simpa [Array.getD_eq_getD_getElem?] using this

theorem put_size (a : Act) (dst : Option Nat) (u : Value) : (a.put dst u).tmps.size = a.tmps.size := by cases dst <;> simp [Act.put]
theorem put_defers (a : Act) (dst : Option Nat) (u : Value) : (a.put dst u).defers = a.defers := by cases dst <;> rfl

theorem FR.mono {ψ : Emb} {fr : Fr} {a : Act} (hf : FR φ fr a) (hle : φ.Le ψ) : FR ψ fr a := fun t => (hf t).mono hle

def boolOf : Option Value → Option Bool
  | some (.bool b) => some b
  | _ => none

/-- A gate. -/
theorem gate_ok {ops : Array Oper} {o : Oper} {g : Option (Nat × Bool)} (hg : cGuard ops o.guard = some g) {fr : Fr} {a : Act} (hf : FR φ fr a) :
    (gate fr g = .yes → Region.wanted o (yielded ops a.tmps) = true) ∧ (gate fr g = .no → Region.wanted o (yielded ops a.tmps) = false) := by
  cases hgd : o.guard with
  | none =>
    rw [hgd] at hg
    simp [cGuard] at hg
    subst hg
    exact ⟨fun _ => by simp [Region.wanted, hgd], fun h => by cases h⟩
  | some jw =>
    obtain ⟨j, w⟩ := jw
    rw [hgd] at hg
    simp only [cGuard] at hg
    split at hg
    case h_2 => cases hg
    rename_i d hd
    cases hg
    have rt := hf d
    have hy : yielded ops a.tmps j = boolOf a.tmps[d]? := by
      simp only [yielded, hd, Option.bind_some]
      cases a.tmps[d]? with
      | none => rfl
      | some q => cases q <;> rfl
    simp only [gate]
    constructor
    · intro h
      split at h
      · rename_i b hb
        rw [hb] at rt
        rw [cond_eq_ite] at h
        split at h
        case isFalse => cases h
        rename_i hbw
        rw [beqB_iff] at hbw
        subst hbw
        generalize hu : a.tmps.getD d undef = u at rt
        cases rt
        have : a.tmps[d]? = some (.bool b) := by
          rw [Array.getD_eq_getD_getElem?] at hu
          cases hq : a.tmps[d]? with
          | none => rw [hq] at hu; cases hu
          | some q => rw [hq] at hu; simp at hu; rw [hu]
        simp [Region.wanted, hgd, hy, this, boolOf]
      · cases h
      · cases h
    · intro h
      split at h
      · rename_i b hb
        rw [hb] at rt
        rw [cond_eq_ite] at h
        split at h
        · cases h
        rename_i hbw
        generalize hu : a.tmps.getD d undef = u at rt
        cases rt
        have : a.tmps[d]? = some (.bool b) := by
          rw [Array.getD_eq_getD_getElem?] at hu
          cases hq : a.tmps[d]? with
          | none => rw [hq] at hu; cases hu
          | some q => rw [hq] at hu; simp at hu; rw [hu]
        have hne : b ≠ w := fun e => hbw (beqB_iff.2 e)
        simp [Region.wanted, hgd, hy, this, hne, boolOf]
      · rename_i l hb
        rw [hb] at rt
        generalize hu : a.tmps.getD d undef = u at rt
        cases rt with | tup _ cs hcs =>
        have : boolOf a.tmps[d]? = none := by
          rw [Array.getD_eq_getD_getElem?] at hu
          cases hq : a.tmps[d]? with
          | none => rfl
          | some q => rw [hq] at hu; simp at hu; rw [hu]; rfl
        simp [Region.wanted, hgd, hy, this]
      · cases h

theorem cOper_some {n : Nat} {ops : Array Oper} {o : Oper} {mo : MO} (h : cOper P n ops o = some mo) : cOp P o.op = some mo.op ∧ cGuard ops o.guard = some mo.guard ∧ mo.dst = o.dst ∧ ∀ d, o.dst = some d → d < n := by
  unfold cOper at h
  split at h
  case h_2 => cases h
  rename_i m g h1 h2
  rw [cond_eq_ite] at h
  split at h
  case isFalse => cases h
  rename_i hd
  cases h
  refine ⟨h1, h2, rfl, fun d e => ?_⟩
  rw [e] at hd
  exact nblt.1 hd

theorem runOps_sim {env : Env} {call : Nat → List V → Hp → Option (V × Hp)} (hrise : Rises call) (hcall : CallOk P env call) {n : Nat} {ops : Array Oper} :
    ∀ (l : List Oper) {mos : List MO} {φ : Emb} {fr fr' : Fr} {h h' : Hp} {a : Act} {w : World}, mapO (cOper P n ops) l = some mos → runOps env call mos fr h = some (fr', h') → EnvOk P φ env → FR φ fr a → HR φ h w → Fresh φ h.next h'.next → n ≤ a.tmps.size →
      ∀ {Q : Exit → Act → World → Prop}, (∀ ψ a' w', FR ψ fr' a' → St φ h w ψ h' w' → a'.defers = a.defers → a'.tmps.size = a.tmps.size → Q .normal a' w') → wpList P ops Q l a w
  | [], mos, φ, fr, fr', h, h', a, w, hc, hv, ok, hf, hr, hfr, hn, Q, hk => by
    simp [mapO] at hc; subst hc
    simp only [runOps, Option.some.injEq, Prod.mk.injEq] at hv
    obtain ⟨rfl, rfl⟩ := hv
    exact wpList_nil (hk φ a w hf (.refl hr) rfl rfl)
  | o :: l, mos, φ, fr, fr', h, h', a, w, hc, hv, ok, hf, hr, hfr, hn, Q, hk => by
    obtain ⟨mo, mos', h1, h2, rfl⟩ := mapO_cons hc
    obtain ⟨c1, c2, c3, c4⟩ := cOper_some h1
    obtain ⟨g1, g2⟩ := gate_ok c2 hf
    have hdst : ∀ d, mo.dst = some d → d < a.tmps.size := fun d e => Nat.lt_of_lt_of_le (c4 d (c3 ▸ e)) hn
    simp only [runOps] at hv
    refine wpList_step fun K hK => ?_
    split at hv
    · rename_i hg
      rw [if_neg (by rw [g2 hg]; simp)]
      refine hK _ _ ?_
      refine runOps_sim hrise hcall l h2 hv ok (c3 ▸ hf.put (.refl φ) undef_rel hdst) hr hfr (by rw [put_size]; exact hn) fun ψ a' w' k1 k2 k3 k4 => ?_
      exact hk ψ a' w' k1 k2 (by rw [k3, put_defers]) (by rw [k4, put_size])
    · cases hv
    · rename_i hg
      rw [if_pos (g1 hg)]
      split at hv
      case h_2 => cases hv
      rename_i v h1' hv1
      have hrs := runOps_next hrise hv
      refine op_sim ok hcall hf c1 hr (hfr.sub hrs) hv1 fun u ψ w' k1 k2 => hK _ _ ?_
      refine runOps_sim hrise hcall l h2 hv (ok.mono k2.le) (c3 ▸ hf.put k2.le k1 hdst) k2.hr (hfr.step k2) (by rw [put_size]; exact hn) fun χ a' w'' m1 m2 m3 m4 => ?_
      exact hk χ a' w'' m1 (k2.trans m2) (by rw [m3, put_defers]) (by rw [m4, put_size])

end Go.Vm
