/-
  Vm, part 27: what the small machine runs, the model runs.
-/
import Derived.Test.YtcoghkkhjaokmaaGreatDoorVmDraw4
namespace Go.Vm

variable {P : Program}

/-! ### Results -/

def resS (t : Array Value) : ResultVar → Sem Value
  | .tmp x => pure (t.getD x undef)
  | .cell a ty => do loadVar ty (← asAddr (t.getD a undef))

theorem res1_sim {φ : Emb} {fr : Fr} {a : Act} (hf : FR φ fr a) {h : Hp} {w : World} (hr : HR φ h w) {r : ResultVar} {rv : RV} (hc : cRes P r = some rv) {v : V} (hv : res1 fr h rv = some v) :
    ∃ u, (resS a.tmps r).run P w = .ok u w ∧ VR φ v u := by
  cases r with
  | tmp t =>
    simp only [cRes, Option.some.injEq] at hc
    subst hc
    simp only [res1, Option.some.injEq] at hv
    subst hv
    exact ⟨_, rfl, hf t⟩
  | cell t ty =>
    have rt := hf t
    simp only [cRes] at hc
    split at hc
    · rename_i n h1 h2
      cases hc
      simp only [res1] at hv
      split at hv
      case h_2 => cases hv
      rename_i b o hb
      rw [hb] at rt
      split at hv
      case h_2 => cases hv
      rename_i l hl
      cases hv
      generalize ht : a.tmps.getD t undef = tu at rt
      cases rt with | ptr _ _ pl hp =>
      obtain ⟨pl', us, r1, r2, r3, r4⟩ := hr.read hl
      rw [hp] at r1; cases r1
      refine ⟨.agg us.toArray, ?_, .agg _ _ (by simpa using r3)⟩
      have := (load_cells (P := P) h1 h2 r4).1 rfl (by rw [← r3.length, r2])
      simp only [resS, ht, asAddr, pure_bind]
      exact this
    · rename_i n h1 h2
      cases hc
      simp only [res1] at hv
      split at hv
      case h_2 => cases hv
      rename_i b o hb
      rw [hb] at rt
      split at hv
      case h_2 => cases hv
      rename_i z l hl
      cases hv
      generalize ht : a.tmps.getD t undef = tu at rt
      cases rt with | ptr _ _ pl hp =>
      obtain ⟨pl', us, r1, r2, r3, r4⟩ := hr.read hl
      rw [hp] at r1; cases r1
      cases r3 with | cons _ u _ us' k1 k2 =>
      refine ⟨u, ?_, k1⟩
      have := (load_cells (P := P) h1 h2 r4).2 rfl u rfl
      simp only [resS, ht, asAddr, pure_bind]
      exact this
    · cases hc

theorem resL_sim {φ : Emb} {fr : Fr} {a : Act} (hf : FR φ fr a) {h : Hp} {w : World} (hr : HR φ h w) : ∀ {l : List ResultVar} {rvs : List RV} {r : List V}, mapO (cRes P) l = some rvs → resV fr h rvs = some r →
    ∃ us, (l.mapM (resS a.tmps)).run P w = .ok us w ∧ VRs φ r us
  | [], rvs, r, hc, hv => by
    simp [mapO] at hc; subst hc
    simp [resV] at hv; subst hv
    exact ⟨[], by simp, .nil⟩
  | x :: l, rvs, r, hc, hv => by
    obtain ⟨y, q, h1, h2, rfl⟩ := mapO_cons hc
    simp only [resV] at hv
    split at hv
    case h_2 => cases hv
    rename_i v hv1
    split at hv
    case h_2 => cases hv
    rename_i r' hv2
    cases hv
    obtain ⟨u, k1, k2⟩ := res1_sim hf hr h1 hv1
    obtain ⟨us, k3, k4⟩ := resL_sim hf hr h2 hv2
    exact ⟨u :: us, by simp [List.mapM_cons, k1, k3], .cons _ _ _ _ k2 k4⟩

theorem results_sim {φ : Emb} {fr : Fr} {a : Act} (hf : FR φ fr a) {h h' : Hp} {w : World} (hr : HR φ h w) {fn : Func} {rvs : List RV} {v : V} (hc : mapO (cRes P) fn.results.toList = some rvs) (hv : resP fr h rvs = some (v, h')) :
    h' = h ∧ ∃ u, (results fn a.tmps).run P w = .ok u w ∧ VR φ v u := by
  unfold resP at hv
  split at hv
  case h_2 => cases hv
  rename_i r hr'
  cases hv
  refine ⟨rfl, ?_⟩
  obtain ⟨us, h1, h2⟩ := resL_sim hf hr hc hr'
  have he : results fn a.tmps = (do let vs ← fn.results.mapM (resS a.tmps); pure (if h : vs.size = 1 then vs[0] else .tuple vs)) := by
    unfold results
    congr 1
  rw [he]
  have hm : (fn.results.mapM (resS a.tmps)).run P w = .ok us.toArray w := by
    rw [Array.mapM_eq_mapM_toList]
    simp [h1]
  simp only [Sem.run_bind, hm, Result.andThen_ok, Sem.run_pure]
  refine ⟨_, rfl, ?_⟩
  cases h2 with
  | nil => simp only [tupOf]; exact .tup _ _ .nil
  | cons v u l rr k1 k2 =>
    cases k2 with
    | nil => simpa [tupOf] using k1
    | cons v2 u2 l2 r2 k3 k4 => simp only [tupOf]; exact .tup _ _ (.cons _ _ _ _ k1 (.cons _ _ _ _ k3 k4))

/-! ### A frame's start -/

theorem ev_argsFr : ∀ (l : List V) (n : Nat) (fr : Fr) (t : Nat), ev (argsFr l n fr) (.tmp t) = if n ≤ t ∧ t < n + l.length then l.getD (t - n) (.tup []) else ev fr (.tmp t)
  | [], n, fr, t => by rw [if_neg (by simp)]; rfl
  | v :: l, n, fr, t => by
    simp only [argsFr]
    rw [ev_argsFr l (n + 1) (fr.set n v) t]
    simp only [List.length_cons]
    by_cases e : t = n
    · subst e
      rw [if_neg (by omega), if_pos (by omega)]
      simp [ev, T.get_set]
    · by_cases k : n + 1 ≤ t ∧ t < n + 1 + l.length
      · rw [if_pos k, if_pos (by omega), show t - n = (t - (n + 1)) + 1 by omega]
        simp
      · rw [if_neg k, if_neg (by omega)]
        simp [ev, T.get_set, e]

theorem VRs.getD {φ : Emb} : ∀ {l : List V} {r : List Value}, VRs φ l r → ∀ (i : Nat), VR φ (l.getD i (.tup [])) (r.getD i undef)
  | _, _, .nil, i => by simpa using undef_rel
  | _, _, .cons v u l r h h', 0 => by simpa using h
  | _, _, .cons v u l r h h', i + 1 => by simpa using VRs.getD h' i

theorem FR.start {φ : Emb} {args : List V} {us : List Value} (hr : VRs φ args us) (n : Nat) : FR φ (argsFr args 0 .leaf) { tmps := us.toArray ++ Array.replicate (n - us.toArray.size) undef, defers := [] } := by
  intro t
  rw [ev_argsFr]
  simp only [Nat.zero_le, true_and, Nat.zero_add, Nat.sub_zero]
  have hl := hr.length
  by_cases k : t < args.length
  · rw [if_pos k]
    have := hr.getD t
    have e : (us.toArray ++ Array.replicate (n - us.toArray.size) undef).getD t undef = us.getD t undef := by
      rw [Array.getD_eq_getD_getElem?, Array.getElem?_append_left (by simp; omega)]
      simp
    rw [e]; exact this
  · rw [if_neg k]
    have e : (us.toArray ++ Array.replicate (n - us.toArray.size) undef).getD t undef = undef := by
      rw [Array.getD_eq_getD_getElem?, Array.getElem?_append_right (by simp; omega), Array.getElem?_replicate]
      split <;> rfl
    rw [e]
    simpa [ev] using undef_rel

/-! ### Code -/

def exitOf : Res → Option (Exit × Fr × Hp)
  | .fail => none
  | .ok fr h => some (.normal, fr, h)
  | .exit id fr h => some (.exit id, fr, h)
  | .ret fr h => some (.ret, fr, h)

def Valid (P : Program) (p : Prog) : Prop := ∀ f m, p.funs.get f = some m → ∃ fn, P.funcs[f]? = some fn ∧ cFun P fn = some m ∧ entered P f = true

/-- Code that comes to r. -/
def CodeOk (P : Program) (env : Env) (ex : MCode → Fr → Hp → Res) : Prop :=
  ∀ (c : Code) (m : MCode) (nt : Nat) (φ : Emb) (fr fr' : Fr) (h h' : Hp) (e : Exit) (a : Act) (w : World) (Q : Exit → Act → World → Prop), cCode P nt c = some m → exitOf (ex m fr h) = some (e, fr', h') →
    EnvOk P φ env → FR φ fr a → HR φ h w → Fresh φ h.next h'.next → nt ≤ a.tmps.size →
    (∀ ψ a' w', FR ψ fr' a' → St φ h w ψ h' w' → a'.defers = a.defers → a'.tmps.size = a.tmps.size → Q e a' w') → c.wp P Q a w

theorem callV_ok {p : Prog} (hp : Valid P p) {ext : Ext} (hx : CallOk P p.env ext) {ex : MCode → Fr → Hp → Res} (hc : CodeOk P p.env ex) : CallOk P p.env (callV p ext ex) := by
  intro φ f args h v h' w us hv ok hr hfr hargs
  unfold callV at hv
  split at hv
  · rename_i r hr'
    cases hv
    exact hx φ f args h v h' w us hr' ok hr hfr hargs
  split at hv
  · cases hv
  rename_i m hm
  rw [cond_eq_ite] at hv; split at hv
  case isFalse => cases hv
  rename_i hn
  rw [nbeq] at hn
  obtain ⟨fn, hfn, hcf, hen⟩ := hp f m hm
  unfold cFun at hcf
  split at hcf
  · cases hcf
  rename_i c hb
  split at hcf
  case h_2 => cases hcf
  rename_i mc rvs hmc hrv
  rw [cond_eq_ite] at hcf; split at hcf
  case isFalse => cases hcf
  rename_i hle
  rw [nble] at hle
  cases hcf
  have hl := hargs.length
  refine .inl ⟨hen, calls_of_wp hfn hb ?_⟩
  have go : ∀ e fr1 h1, exitOf (ex mc (argsFr args 0 .leaf) h) = some (e, fr1, h1) → (e = .normal ∨ e = .ret) → resP fr1 h1 rvs = some (v, h') →
      c.wp P (bodyPost P fn fun e w' => ∃ u ψ, e = .returned u ∧ VR ψ v u ∧ St φ h w ψ h' w') { tmps := us.toArray ++ Array.replicate (fn.ntmps - us.toArray.size) undef, defers := [] } w := by
    intro e fr1 h1 he hee hres
    have h1e : h' = h1 := by
      unfold resP at hres
      split at hres <;> cases hres
      rfl
    subst h1e
    refine hc c mc fn.ntmps φ _ fr1 h h' e _ w _ hmc he ok (FR.start hargs fn.ntmps) hr hfr (by simp; omega) fun ψ a' w' k1 k2 k3 k4 => ?_
    obtain ⟨_, u, k5, k6⟩ := results_sim k1 k2.hr hrv hres
    rcases hee with rfl | rfl
    · exact ⟨k3, u, k5, u, ψ, rfl, k6, k2⟩
    · exact ⟨k3, u, k5, u, ψ, rfl, k6, k2⟩
  split at hv
  · rename_i fr1 h1 he
    exact go .normal fr1 h1 (by rw [he]; rfl) (.inl rfl) hv
  · rename_i fr1 h1 he
    exact go .ret fr1 h1 (by rw [he]; rfl) (.inr rfl) hv
  · cases hv

theorem exitOf_next {ex : MCode → Fr → Hp → Res} {m : MCode} {fr fr' : Fr} {h h' : Hp} {e : Exit} (hr : (ex m fr h).rises h.next) (he : exitOf (ex m fr h) = some (e, fr', h')) : h.next ≤ h'.next := by
  cases hx : ex m fr h <;> rw [hx] at hr he <;> cases he <;> exact hr

theorem loop_ok {p : Prog} {ext : Ext} (hrx : Rises ext) {x : Code} {mx : MCode} {nt : Nat} (h1 : cCode P nt x = some mx) : ∀ (n : Nat), (∀ k, k < n → CodeOk P p.env (exec p ext k)) →
    ∀ (φ : Emb) (fr fr' : Fr) (h h' : Hp) (e : Exit) (a : Act) (w : World) (Q : Exit → Act → World → Prop), exitOf (exec p ext n (.loop mx) fr h) = some (e, fr', h') →
    EnvOk P φ p.env → FR φ fr a → HR φ h w → Fresh φ h.next h'.next → nt ≤ a.tmps.size →
    (∀ ψ a' w', FR ψ fr' a' → St φ h w ψ h' w' → a'.defers = a.defers → a'.tmps.size = a.tmps.size → Q e a' w') → Code.rounds P x Q n a w
  | 0, _, φ, fr, fr', h, h', e, a, w, Q, he, _, _, _, _, _, _ => by simp [exec, exitOf] at he
  | n + 1, hall, φ, fr, fr', h, h', e, a, w, Q, he, ok, hf, hr, hfr, hnt, hk => by
    have ih := hall n (Nat.lt_succ_self n)
    have hnx := exec_next (p := p) hrx n
    have ha := hnx mx fr h
    rw [rounds_succ]
    simp only [exec] at he
    split at he
    · rename_i fr1 h1' hx1
      rw [hx1] at ha
      have hb := exitOf_next (hnx (.loop mx) fr1 h1') he
      refine ih x mx nt φ fr fr1 h h1' .normal a w _ h1 (by rw [hx1]; rfl) ok hf hr (hfr.sub hb) hnt fun ψ a' w' k1 k2 k3 k4 => ?_
      refine loop_ok hrx h1 n (fun k hk => hall k (Nat.lt_succ_of_lt hk)) ψ fr1 fr' h1' h' e a' w' Q he (ok.mono k2.le) k1 k2.hr (hfr.step k2) (by omega) fun χ a'' w'' m1 m2 m3 m4 => ?_
      exact hk χ a'' w'' m1 (k2.trans m2) (m3.trans k3) (m4.trans k4)
    · rename_i hno
      refine ih x mx nt φ fr fr' h h' e a w _ h1 he ok hf hr hfr hnt fun ψ a' w' k1 k2 k3 k4 => ?_
      have := hk ψ a' w' k1 k2 k3 k4
      cases e with
      | normal =>
        exfalso
        cases hq : exec p ext n mx fr h <;> rw [hq] at he <;> simp [exitOf] at he
        exact hno _ _ hq
      | _ => exact this

theorem exec_ok (hm : P.follows .mixedOrders = true) {p : Prog} (hp : Valid P p) {ext : Ext} (hrx : Rises ext) (hx : CallOk P p.env ext) (n : Nat) : CodeOk P p.env (exec p ext n) := by
  induction n using Nat.strongRecOn with
  | _ n hall =>
  cases n with
  | zero => exact fun c m nt φ fr fr' h h' e a w Q _ he => by simp [exec, exitOf] at he
  | succ n =>
    have ih := hall n (Nat.lt_succ_self n)
    have hcall := callV_ok hp hx ih
    have hnx := exec_next (p := p) hrx n
    have hrise : Rises (callV p ext (exec p ext n)) := callV_next hrx hnx
    intro c m nt φ fr fr' h h' e a w Q hc he ok hf hr hfr hnt hk
    cases c <;> first | (simp only [cCode, reduceCtorEq] at hc; done) | skip
    all_goals (try simp only [cCode] at hc)
    case skip =>
      cases hc
      simp only [exec, exitOf, Option.some.injEq, Prod.mk.injEq] at he
      obtain ⟨rfl, rfl, rfl⟩ := he
      exact wp_skip (hk φ a w hf (.refl hr) rfl rfl)
    case exit id =>
      cases hc
      simp only [exec, exitOf, Option.some.injEq, Prod.mk.injEq] at he
      obtain ⟨rfl, rfl, rfl⟩ := he
      exact wp_exit (hk φ a w hf (.refl hr) rfl rfl)
    case ret =>
      cases hc
      simp only [exec, exitOf, Option.some.injEq, Prod.mk.injEq] at he
      obtain ⟨rfl, rfl, rfl⟩ := he
      exact wp_ret (hk φ a w hf (.refl hr) rfl rfl)
    case region id ops d =>
      cases d with
      | false =>
        simp only [cCode] at hc
        obtain ⟨mos, h1, h2⟩ := map_some hc
        subst h2
        simp only [exec] at he
        split at he
        case h_2 => cases he
        rename_i fr1 h1' hv
        simp only [exitOf, Option.some.injEq, Prod.mk.injEq] at he
        obtain ⟨rfl, rfl, rfl⟩ := he
        exact wp_region_list (runOps_sim hrise hcall ops.toList h1 hv ok hf hr hfr hnt hk)
      | true =>
        simp only [cCode] at hc
        obtain ⟨mos, h1, h2⟩ := map_some hc
        subst h2
        simp only [exec] at he
        split at he
        case h_2 => cases he
        rename_i fr1 h1' hv
        simp only [exitOf, Option.some.injEq, Prod.mk.injEq] at he
        obtain ⟨rfl, rfl, rfl⟩ := he
        exact dregion_wp hm hrise hcall h1 hv ok hf hr hfr hnt hk
    case seq x y =>
      split at hc
      case h_2 => cases hc
      rename_i mx my h1 h2
      cases hc
      simp only [exec] at he
      have ha := hnx mx fr h
      refine wp_seq_k fun K hK => ?_
      split at he
      · rename_i fr1 h1' hx1
        rw [hx1] at ha
        have hb := exitOf_next (hnx my fr1 h1') he
        refine ih x mx nt φ fr fr1 h h1' .normal a w _ h1 (by rw [hx1]; rfl) ok hf hr (hfr.sub hb) hnt fun ψ a' w' k1 k2 k3 k4 => ?_
        refine hK _ _ (ih y my nt ψ fr1 fr' h1' h' e a' w' Q h2 he (ok.mono k2.le) k1 k2.hr (hfr.step k2) (by omega) fun χ a'' w'' m1 m2 m3 m4 => ?_)
        exact hk χ a'' w'' m1 (k2.trans m2) (m3.trans k3) (m4.trans k4)
      · rename_i hno
        refine ih x mx nt φ fr fr' h h' e a w _ h1 he ok hf hr hfr hnt fun ψ a' w' k1 k2 k3 k4 => ?_
        have := hk ψ a' w' k1 k2 k3 k4
        cases e with
        | normal =>
          exfalso
          cases hq : exec p ext n mx fr h <;> rw [hq] at he <;> simp [exitOf] at he
          exact hno _ _ hq
        | _ => exact this
    case cond g x y =>
      split at hc
      case h_2 => cases hc
      rename_i cg mx my h0 h1 h2
      cases hc
      simp only [exec] at he
      have rg := opd_rel ok.gl hf h0
      split at he
      · rename_i hg
        rw [hg] at rg
        generalize hu : a.eval g = u at rg
        cases rg
        exact wp_cond_true hu (ih x mx nt φ fr fr' h h' e a w Q h1 he ok hf hr hfr hnt hk)
      · rename_i hg
        rw [hg] at rg
        generalize hu : a.eval g = u at rg
        cases rg
        exact wp_cond_false hu (ih y my nt φ fr fr' h h' e a w Q h2 he ok hf hr hfr hnt hk)
      · cases he
    case block id x =>
      obtain ⟨mx, h1, h2⟩ := map_some hc
      subst h2
      simp only [exec] at he
      refine wp_block ?_
      split at he
      · rename_i id' fr1 h1' hx1
        rw [cond_eq_ite] at he
        split at he
        · rename_i hid
          rw [nbeq] at hid
          simp only [exitOf, Option.some.injEq, Prod.mk.injEq] at he
          obtain ⟨rfl, rfl, rfl⟩ := he
          refine ih x mx nt φ fr fr1 h h1' (.exit id') a w _ h1 (by rw [hx1]; rfl) ok hf hr hfr hnt fun ψ a' w' k1 k2 k3 k4 => ?_
          simp only [Exit.inBlock, hid, if_true]
          exact hk ψ a' w' k1 k2 k3 k4
        · rename_i hid
          rw [nbeq] at hid
          simp only [exitOf, Option.some.injEq, Prod.mk.injEq] at he
          obtain ⟨rfl, rfl, rfl⟩ := he
          refine ih x mx nt φ fr fr1 h h1' (.exit id') a w _ h1 (by rw [hx1]; rfl) ok hf hr hfr hnt fun ψ a' w' k1 k2 k3 k4 => ?_
          simp only [Exit.inBlock, hid, if_false]
          exact hk ψ a' w' k1 k2 k3 k4
      · rename_i hno
        refine ih x mx nt φ fr fr' h h' e a w _ h1 he ok hf hr hfr hnt fun ψ a' w' k1 k2 k3 k4 => ?_
        have := hk ψ a' w' k1 k2 k3 k4
        cases e with
        | exit id' =>
          exfalso
          cases hq : exec p ext n mx fr h <;> rw [hq] at he <;> simp [exitOf] at he
          exact hno _ _ _ hq
        | _ => exact this
    case loop x =>
      obtain ⟨mx, h1, h2⟩ := map_some hc
      subst h2
      exact wp_loop_rounds (n + 1) (loop_ok hrx h1 (n + 1) hall φ fr fr' h h' e a w Q he ok hf hr hfr hnt hk)

/-- The small machine's call, once and for all. -/
theorem call_ok (hm : P.follows .mixedOrders = true) {p : Prog} (hp : Valid P p) {ext : Ext} (hrx : Rises ext) (hx : CallOk P p.env ext) (n : Nat) : CallOk P p.env (call p ext n) :=
  callV_ok hp hx (exec_ok hm hp hrx hx n)

end Go.Vm
