/-
  Texts that the claim's last one rests on, joined.
-/
import Derived.Test.YtnbmmnjihipahaaBapa
import Derived.Orders
import Derived.RowKit3
import Derived.ChangeSame
import Derived.Laws.Externs
import Derived.WideKeyArgs
import Derived.ChangeSlices

section
namespace Go.Vm
variable {P : Program} {φ : Emb}
def CallSim (P : Program) (φ : Emb) (f : Nat) (us : List Value) (h : Hp) (w : World) (v : V) (h' : Hp) : Prop :=
  (entered P f = true ∧ Calls P f us.toArray w fun e w' => ∃ u ψ, e = .returned u ∧ VR ψ v u ∧ St φ h w ψ h' w') ∨
  (∃ u ψ w', (callFunc f us.toArray).run P w = .ok (.value u) w' ∧ VR ψ v u ∧ St φ h w ψ h' w')
def Fresh (φ : Emb) (lo hi : Nat) : Prop := ∀ b, lo ≤ b → b < hi → φ.at_ b = none
theorem Fresh.step {ψ : Emb} {h h1 : Hp} {w w1 : World} {hi : Nat} (hf : Fresh φ h.next hi) (s : St φ h w ψ h1 w1) : Fresh ψ h1.next hi := fun b h2 h3 => by
  rw [s.new b (.inr h2)]
  exact hf b (Nat.le_trans s.nx h2) h3
theorem Fresh.sub {lo hi hi' : Nat} (h : Fresh φ lo hi) (hh : hi' ≤ hi) : Fresh φ lo hi' := fun b h1 h2 => h b h1 (Nat.lt_of_lt_of_le h2 hh)
def CallOk (P : Program) (env : Env) (call : Nat → List V → Hp → Option (V × Hp)) : Prop :=
  ∀ (φ : Emb) f args h v h' w us, call f args h = some (v, h') → EnvOk P φ env → HR φ h w → Fresh φ h.next h'.next → VRs φ args us → CallSim P φ f us h w v h'
theorem callFunc_entered {f : Nat} (h : entered P f = true) (args : Array Value) (w : World) : (callFunc f args).run P w = .ok (.enter f args) w := by
  unfold entered at h
  split at h
  · rename_i fn hf
    rw [cond_eq_ite] at h
    split at h
    · cases h
    rename_i hn
    have hn' : fn.name ≠ "runtime.NumGoroutine" := by simpa using hn
    cases hb : fn.body with
    | none => rw [hb] at h; cases h
    | some c => simp [callFunc, hf, hn', hb]
  · cases h
theorem call_wp {f : Nat} {us : List Value} {h h' : Hp} {w : World} {v : V} (hs : CallSim P φ f us h w v h') {o : Oper} {a : Act} {w0 : World} (he : (execOp a.eval o).run P w = (callFunc f us.toArray).run P w0) (hw : w0 = w)
    {next : Act → World → Prop} {Q : Exit → Act → World → Prop} (hk : ∀ u ψ w', VR ψ v u → St φ h w ψ h' w' → next (a.put o.dst u) w') : o.wp P a w next Q := by
  subst hw
  unfold Oper.wp
  rw [he]
  rcases hs with ⟨h1, h2⟩ | ⟨u, ψ, w', h1, h2, h3⟩
  · rw [callFunc_entered h1, Oper.upon_enter]
    refine h2.mono ?_
    rintro e w' ⟨u, ψ, rfl, r1, r2⟩
    exact hk u ψ w' r1 r2
  · rw [h1, Oper.upon_value]
    exact hk u ψ w' h2 h3
theorem run_value {o : Oper} {a : Act} {w w' : World} {u : Value} (he : (execOp a.eval o).run P w = .ok (.value u) w') {next : Act → World → Prop} {Q : Exit → Act → World → Prop} (hk : next (a.put o.dst u) w') : o.wp P a w next Q := by
  unfold Oper.wp
  rw [he, Oper.upon_value]
  exact hk
theorem Acts.wp {a : Act} {o : Oper} {h h' : Hp} {w : World} {v : V} (hs : Acts P φ a o h w v h') {next : Act → World → Prop} {Q : Exit → Act → World → Prop}
    (hk : ∀ u ψ w', VR ψ v u → St φ h w ψ h' w' → next (a.put o.dst u) w') : o.wp P a w next Q := by
  obtain ⟨nx, u, ψ, w', h1, h2, h3, h4⟩ := hs
  unfold Oper.wp
  rw [h1]
  rcases h2 with rfl | ⟨rfl, rfl⟩
  · rw [Oper.upon_value]; exact hk u ψ w' h3 h4
  · rw [Oper.upon_skip]; exact hk undef ψ w' h3 h4
theorem args_arr {args : Array Operand} {a : Act} : (args.map a.eval) = (args.toList.map a.eval).toArray := by
  apply Array.ext'
  simp
theorem only_call {o : Oper} {p : EOp} (hc : cOp P o.op = some (.e p)) (hp : p.isCall = true) : ∃ c, o.op = .call c ∧ cCall P c = some (.e p) := by
  cases hop : o.op <;> rw [hop] at hc <;> simp only [cOp, reduceCtorEq] at hc
  case call c => exact ⟨c, rfl, hc⟩
  case panic x => cases hc; cases hp
  case makeFunc fn x y =>
    cases fn <;> simp only [reduceCtorEq] at hc
    split at hc <;> cases hc
  case makeMap t r' =>
    cases r' <;> simp only [reduceCtorEq] at hc
    repeat' (first | (cases hc; done) | split at hc)
  case convert s d X =>
    split at hc
    · unfold cConv at hc
      repeat' (first | (cases hc; done) | (cases hc; cases hp; done) | (rw [cond_eq_ite] at hc; split at hc) | split at hc)
    · cases hc
  all_goals (repeat' (first | (cases hc; done) | (cases hc; cases hp; done) | (obtain ⟨y, _, e⟩ := map_some hc; cases e; done) | (rw [cond_eq_ite] at hc; split at hc) | split at hc))
theorem op_sim {env : Env} (ok : EnvOk P φ env) {call : Nat → List V → Hp → Option (V × Hp)} (hcall : CallOk P env call) {fr : Fr} {a : Act} (hf : FR φ fr a) {o : Oper} {m : MOp} (hc : cOp P o.op = some m)
    {h h' : Hp} {w : World} (hr : HR φ h w) (hfr : Fresh φ h.next h'.next) {v : V} (hv : opV env call fr h m = some (v, h')) {next : Act → World → Prop} {Q : Exit → Act → World → Prop}
    (hk : ∀ u ψ w', VR ψ v u → St φ h w ψ h' w' → next (a.put o.dst u) w') : o.wp P a w next Q := by
  cases m with
  | p p =>
    simp only [opV] at hv
    split at hv
    case h_2 => cases hv
    rename_i v' hv'
    cases hv
    obtain ⟨u, h1, h2⟩ := p_sim ok hf hc hv'
    exact run_value (h2 w) (hk u φ w h1 (.refl hr))
  | a p =>
    simp only [opV] at hv
    split at hv
    case h_2 => cases hv
    rename_i blk mk hv'
    cases hv
    obtain ⟨u, obj, pl, w1, h1, h2, h3, h4, h5⟩ := a_sim ok hf hc hv' w
    have hfn : φ.at_ h.next = none := hfr h.next (Nat.le_refl _) (Nat.lt_succ_self _)
    have hw1 : w1.heap = w.heap := by rcases h1 with rfl | rfl <;> rfl
    have hsz : w1.heap.size = w.heap.size := by rw [hw1]
    have hr1 : HR φ h w1 := by rcases h1 with rfl | rfl <;> first | exact hr | exact hr.drew
    have hst := hr1.new blk obj pl (by rw [hsz]; exact h3) hfn (fun ψ w' hle hh => h5 ψ w' hle (by rw [← hsz]; exact hh))
    have hst0 : St φ h w φ h w1 := by rcases h1 with rfl | rfl <;> first | exact .refl hr | exact .drew hr
    refine run_value h2 (hk u _ _ (h4 _ h.next hst.le ?_) (hst0.trans hst))
    show (if h.next = h.next then some pl else _) = _
    rw [if_pos rfl]
  | load1 x =>
    simp only [opV] at hv
    split at hv
    case h_2 => cases hv
    rename_i b q hx
    split at hv
    case h_2 => cases hv
    rename_i v0 l hl
    cases hv
    obtain ⟨pl, us, r1, r2, r3, r4⟩ := hr.read hl
    cases r3 with | cons _ u _ us' k1 k2 =>
    exact run_value (load1_sim ok hf hc hx r1 r4 rfl) (hk u φ w k1 (.refl hr))
  | loadn n x =>
    simp only [opV] at hv
    split at hv
    case h_2 => cases hv
    rename_i b q hx
    split at hv
    case h_2 => cases hv
    rename_i l hl
    cases hv
    obtain ⟨pl, us, r1, r2, r3, r4⟩ := hr.read hl
    exact run_value (loadn_sim ok hf hc hx r1 r4 (by rw [← r3.length, r2])) (hk _ φ w (.agg _ _ (by simpa using r3)) (.refl hr))
  | e p =>
    simp only [opV] at hv
    cases hnc : p.isCall with
    | false => exact (e_sim ok hf hc hnc hr (fun hlt => hfr h.next (Nat.le_refl _) hlt) hv).wp hk
    | true =>
      obtain ⟨c, hop, hcc⟩ := only_call hc hnc
      unfold cCall at hcc
      split at hcc
      · cases hcc
      rename_i args ha
      have rargs := opds_rel ok.gl hf ha
      split at hcc
      · rename_i b hb
        unfold cBuiltin at hcc
        repeat' (first | (cases hcc; done) | (cases hcc; cases hnc; done) | (rw [cond_eq_ite] at hcc; split at hcc) | split at hcc)
      · rename_i f hcl
        have he : ∀ w, (execOp a.eval o).run P w = (callFunc f (c.args.toList.map a.eval).toArray).run P w := by
          intro w
          simp only [execOp, hop, resolve, hcl, Act.eval, Deferred.ofValue, pure_bind, invoke]
          rw [args_arr]
          simp
        have hgo : call f (evs fr args) h = some (v, h') → o.wp P a w next Q := fun hv =>
          call_wp (hcall φ f _ h v h' w _ hv ok hr hfr rargs) (he w) rfl hk
        rw [cond_eq_ite] at hcc
        split at hcc
        · cases hcc; exact hgo hv
        · cases hcc; exact hgo hv
      · rename_i x hne hcl
        split at hcc
        case h_2 => cases hcc
        rename_i y hy
        cases hcc
        simp only [eV] at hv
        split at hv
        case h_2 => cases hv
        rename_i f first captured ex
        have rx := opd_rel ok.gl hf hy
        rw [ex] at rx
        generalize hxu : a.eval x = xu at rx
        cases rx with | func _ _ _ fst cap r1 r2 =>
        have he : ∀ w, (execOp a.eval o).run P w = (callFunc f (fst.toList ++ c.args.toList.map a.eval ++ cap.toList).toArray).run P w := by
          intro w
          simp only [execOp, hop, resolve, hcl, hxu, Deferred.ofValue, pure_bind, invoke]
          congr 2
          apply Array.ext'
          simp
        exact call_wp (hcall φ f _ h v h' w _ hv ok hr hfr ((r1.append rargs).append r2)) (he w) rfl hk
      · cases hcc
theorem FR.put {ψ : Emb} {fr : Fr} {a : Act} (hf : FR φ fr a) (hle : φ.Le ψ) {dst : Option Nat} {v : V} {u : Value} (hv : VR ψ v u) (hd : ∀ d, dst = some d → d < a.tmps.size) : FR ψ (putO fr dst v) (a.put dst u) := by
  intro t
  cases dst with
  | none => exact (hf t).mono hle
  | some d =>
    simp only [putO, Act.put, ev, T.get_set]
    by_cases e : t = d
    · subst e
      rw [if_pos rfl]
      have := hd t rfl
      simp only [Array.getD_eq_getD_getElem?, Array.getElem?_setIfInBounds, if_true, this]
      simpa using hv
    · rw [if_neg e]
      have := (hf t).mono hle
      simp only [ev] at this
      simp only [Array.getD_eq_getD_getElem?, Array.getElem?_setIfInBounds]
      rw [if_neg (by omega)]
      simpa [Array.getD_eq_getD_getElem?] using this
theorem put_size (a : Act) (dst : Option Nat) (u : Value) : (a.put dst u).tmps.size = a.tmps.size := by cases dst <;> simp [Act.put]
theorem put_defers (a : Act) (dst : Option Nat) (u : Value) : (a.put dst u).defers = a.defers := by cases dst <;> rfl
theorem FR.mono {ψ : Emb} {fr : Fr} {a : Act} (hf : FR φ fr a) (hle : φ.Le ψ) : FR ψ fr a := fun t => (hf t).mono hle
def boolOf : Option Value → Option Bool
  | some (.bool b) => some b
  | _ => none
theorem gate_ok {ops : Array Oper} {o : Oper} {g : Option (Nat × Bool)} (hg : cGuard ops o.guard = some g) {fr : Fr} {a : Act} (hf : FR φ fr a) :
    (gate fr g = .yes → Region.wanted o (yielded ops a.tmps) = true) ∧ (gate fr g = .no → Region.wanted o (yielded ops a.tmps) = false) := by
  cases hgd : o.guard with
  | none =>
    rw [hgd] at hg
    simp [cGuard] at hg
    subst hg
    exact ⟨fun _ => by simp [Region.wanted, hgd], fun h => by cases h⟩
  | some jw =>
    obtain ⟨j, w⟩ := jw
    rw [hgd] at hg
    simp only [cGuard] at hg
    split at hg
    case h_2 => cases hg
    rename_i d hd
    cases hg
    have rt := hf d
    have hy : yielded ops a.tmps j = boolOf a.tmps[d]? := by
      simp only [yielded, hd, Option.bind_some]
      cases a.tmps[d]? with
      | none => rfl
      | some q => cases q <;> rfl
    simp only [gate]
    constructor
    · intro h
      split at h
      · rename_i b hb
        rw [hb] at rt
        rw [cond_eq_ite] at h
        split at h
        case isFalse => cases h
        rename_i hbw
        rw [beqB_iff] at hbw
        subst hbw
        generalize hu : a.tmps.getD d undef = u at rt
        cases rt
        have : a.tmps[d]? = some (.bool b) := by
          rw [Array.getD_eq_getD_getElem?] at hu
          cases hq : a.tmps[d]? with
          | none => rw [hq] at hu; cases hu
          | some q => rw [hq] at hu; simp at hu; rw [hu]
        simp [Region.wanted, hgd, hy, this, boolOf]
      · cases h
      · cases h
    · intro h
      split at h
      · rename_i b hb
        rw [hb] at rt
        rw [cond_eq_ite] at h
        split at h
        · cases h
        rename_i hbw
        generalize hu : a.tmps.getD d undef = u at rt
        cases rt
        have : a.tmps[d]? = some (.bool b) := by
          rw [Array.getD_eq_getD_getElem?] at hu
          cases hq : a.tmps[d]? with
          | none => rw [hq] at hu; cases hu
          | some q => rw [hq] at hu; simp at hu; rw [hu]
        have hne : b ≠ w := fun e => hbw (beqB_iff.2 e)
        simp [Region.wanted, hgd, hy, this, hne, boolOf]
      · rename_i l hb
        rw [hb] at rt
        generalize hu : a.tmps.getD d undef = u at rt
        cases rt with | tup _ cs hcs =>
        have : boolOf a.tmps[d]? = none := by
          rw [Array.getD_eq_getD_getElem?] at hu
          cases hq : a.tmps[d]? with
          | none => rfl
          | some q => rw [hq] at hu; simp at hu; rw [hu]; rfl
        simp [Region.wanted, hgd, hy, this]
      · cases h
theorem cOper_some {n : Nat} {ops : Array Oper} {o : Oper} {mo : MO} (h : cOper P n ops o = some mo) : cOp P o.op = some mo.op ∧ cGuard ops o.guard = some mo.guard ∧ mo.dst = o.dst ∧ ∀ d, o.dst = some d → d < n := by
  unfold cOper at h
  split at h
  case h_2 => cases h
  rename_i m g h1 h2
  rw [cond_eq_ite] at h
  split at h
  case isFalse => cases h
  rename_i hd
  cases h
  refine ⟨h1, h2, rfl, fun d e => ?_⟩
  rw [e] at hd
  exact nblt.1 hd
theorem runOps_sim {env : Env} {call : Nat → List V → Hp → Option (V × Hp)} (hrise : Rises call) (hcall : CallOk P env call) {n : Nat} {ops : Array Oper} :
    ∀ (l : List Oper) {mos : List MO} {φ : Emb} {fr fr' : Fr} {h h' : Hp} {a : Act} {w : World}, mapO (cOper P n ops) l = some mos → runOps env call mos fr h = some (fr', h') → EnvOk P φ env → FR φ fr a → HR φ h w → Fresh φ h.next h'.next → n ≤ a.tmps.size →
      ∀ {Q : Exit → Act → World → Prop}, (∀ ψ a' w', FR ψ fr' a' → St φ h w ψ h' w' → a'.defers = a.defers → a'.tmps.size = a.tmps.size → Q .normal a' w') → wpList P ops Q l a w
  | [], mos, φ, fr, fr', h, h', a, w, hc, hv, ok, hf, hr, hfr, hn, Q, hk => by
    simp [mapO] at hc; subst hc
    simp only [runOps, Option.some.injEq, Prod.mk.injEq] at hv
    obtain ⟨rfl, rfl⟩ := hv
    exact wpList_nil (hk φ a w hf (.refl hr) rfl rfl)
  | o :: l, mos, φ, fr, fr', h, h', a, w, hc, hv, ok, hf, hr, hfr, hn, Q, hk => by
    obtain ⟨mo, mos', h1, h2, rfl⟩ := mapO_cons hc
    obtain ⟨c1, c2, c3, c4⟩ := cOper_some h1
    obtain ⟨g1, g2⟩ := gate_ok c2 hf
    have hdst : ∀ d, mo.dst = some d → d < a.tmps.size := fun d e => Nat.lt_of_lt_of_le (c4 d (c3 ▸ e)) hn
    simp only [runOps] at hv
    refine wpList_step fun K hK => ?_
    split at hv
    · rename_i hg
      rw [if_neg (by rw [g2 hg]; simp)]
      refine hK _ _ ?_
      refine runOps_sim hrise hcall l h2 hv ok (c3 ▸ hf.put (.refl φ) undef_rel hdst) hr hfr (by rw [put_size]; exact hn) fun ψ a' w' k1 k2 k3 k4 => ?_
      exact hk ψ a' w' k1 k2 (by rw [k3, put_defers]) (by rw [k4, put_size])
    · cases hv
    · rename_i hg
      rw [if_pos (g1 hg)]
      split at hv
      case h_2 => cases hv
      rename_i v h1' hv1
      have hrs := runOps_next hrise hv
      refine op_sim ok hcall hf c1 hr (hfr.sub hrs) hv1 fun u ψ w' k1 k2 => hK _ _ ?_
      refine runOps_sim hrise hcall l h2 hv (ok.mono k2.le) (c3 ▸ hf.put k2.le k1 hdst) k2.hr (hfr.step k2) (by rw [put_size]; exact hn) fun χ a' w'' m1 m2 m3 m4 => ?_
      exact hk χ a' w'' m1 (k2.trans m2) (by rw [m3, put_defers]) (by rw [m4, put_size])
end Go.Vm
end

section
namespace Go.Vm
variable {P : Program}
theorem allR_all {α : Type} {r : α → Bool} : ∀ {l : List α}, allR r l = true → ∀ x, x ∈ l → r x = true
  | [], _, x, hx => by cases hx
  | y :: l, h, x, hx => by
    simp only [allR] at h
    rw [cond_eq_ite] at h; split at h
    · rename_i hy
      rcases List.mem_cons.1 hx with rfl | hx
      · exact hy
      · exact allR_all h x hx
    · cases h
theorem allPairs_get {α : Type} {r : α → α → Bool} : ∀ {l : List α}, allPairs r l = true → ∀ {p q : Nat} {x y : α}, p < q → l[p]? = some x → l[q]? = some y → r x y = true
  | [], _, p, q, x, y, _, h1, _ => by simp at h1
  | z :: l, h, p, q, x, y, hpq, h1, h2 => by
    simp only [allPairs] at h
    rw [cond_eq_ite] at h; split at h
    case isFalse => cases h
    rename_i hz
    cases q with
    | zero => omega
    | succ q =>
      simp only [List.getElem?_cons_succ] at h2
      cases p with
      | zero =>
        simp at h1
        subst h1
        exact allR_all hz y (List.mem_of_getElem? h2)
      | succ p =>
        simp only [List.getElem?_cons_succ] at h1
        exact allPairs_get h (by omega) h1 h2
theorem memN_mem {n : Nat} : ∀ {l : List Nat}, memN n l = true → n ∈ l
  | [], h => by cases h
  | x :: l, h => by
    simp only [memN] at h
    rw [cond_eq_ite] at h; split at h
    · rename_i e; rw [nbeq] at e; exact List.mem_cons.2 (.inl e.symm)
    · exact List.mem_cons.2 (.inr (memN_mem h))
theorem mem_memN {n : Nat} : ∀ {l : List Nat}, n ∈ l → memN n l = true
  | [], h => by cases h
  | x :: l, h => by
    simp only [memN]
    rw [cond_eq_ite]; split
    · rfl
    · rename_i e
      rcases List.mem_cons.1 h with h | h
      · exact absurd (nbeq.2 h.symm) e
      · exact mem_memN h
theorem ancL_spec {anc : Nat → Nat} {i : Nat} : ∀ {l : List Edge}, Nat.testBit (ancL anc l) i = true → ∃ e, e ∈ l ∧ Region.binds .any e = true ∧ (e.on = i ∨ Nat.testBit (anc e.on) i = true)
  | [], h => by simp [ancL] at h
  | e :: l, h => by
    simp only [ancL] at h
    rw [cond_eq_ite] at h; split at h
    · rename_i hb
      have h' : Nat.testBit ((2 ^ e.on ||| anc e.on) ||| ancL anc l) i = true := h
      rw [Nat.testBit_or, Nat.testBit_or, Bool.or_eq_true, Bool.or_eq_true] at h'
      rcases h' with (h' | h') | h'
      · rw [Nat.testBit_two_pow] at h'
        exact ⟨e, List.mem_cons_self, hb, .inl (by simpa using h')⟩
      · exact ⟨e, List.mem_cons_self, hb, .inr h'⟩
      · obtain ⟨e', h1, h2⟩ := ancL_spec h'
        exact ⟨e', List.mem_cons_of_mem _ h1, h2⟩
    · obtain ⟨e', h1, h2⟩ := ancL_spec h
      exact ⟨e', List.mem_cons_of_mem _ h1, h2⟩
theorem ancL_has {anc : Nat → Nat} : ∀ {l : List Edge} {e : Edge}, e ∈ l → Region.binds .any e = true → Nat.testBit (ancL anc l) e.on = true
  | [], e, h, _ => by cases h
  | x :: l, e, h, hb => by
    simp only [ancL]
    rw [cond_eq_ite]
    split
    · show Nat.testBit ((2 ^ x.on ||| anc x.on) ||| ancL anc l) e.on = true
      rw [Nat.testBit_or, Nat.testBit_or, Bool.or_eq_true, Bool.or_eq_true]
      rcases List.mem_cons.1 h with h | h
      · subst h; exact .inl (.inl (by rw [Nat.testBit_two_pow]; simp))
      · exact .inr (ancL_has h hb)
    · rename_i hx
      rcases List.mem_cons.1 h with h | h
      · subst h; exact absurd hb hx
      · exact ancL_has h hb
structure Stat (P : Program) (nt : Nat) (ops : Array Oper) (L : List (Nat × DO)) (D : Nat → Nat → Prop) : Prop where
  comp : ∀ (p : Nat) (x : Nat × DO), L[p]? = some x → ∃ o, ops[x.1]? = some o ∧ cOper P nt ops o = some x.2.o
  cover : ∀ i, i < ops.size → ∃ (p : Nat) (x : Nat × DO), L[p]? = some x ∧ x.1 = i
  step : ∀ (j : Nat) (o : Oper) (i : Nat), ops[j]? = some o → D i j → ∃ e, e ∈ o.after ∧ Region.binds .any e = true ∧ (e.on = i ∨ D i e.on)
  irr : ∀ j, j < ops.size → ¬ D j j
  dep : ∀ (j : Nat) (o : Oper) (e : Edge), ops[j]? = some o → e ∈ o.after → Region.binds .any e = true → D e.on j ∧ e.on < ops.size
  neq : ∀ (p q : Nat) (x y : Nat × DO), p < q → L[p]? = some x → L[q]? = some y → x.1 ≠ y.1
  topo : ∀ (p q : Nat) (x y : Nat × DO), p < q → L[p]? = some x → L[q]? = some y → ¬ D y.1 x.1
  dsts : ∀ (p q : Nat) (x y : Nat × DO), p < q → L[p]? = some x → L[q]? = some y → ∀ t, x.2.o.dst = some t → y.2.o.dst ≠ some t
  eff : ∀ (p q : Nat) (x y : Nat × DO), p < q → L[p]? = some x → L[q]? = some y → isE y.2.o.op = true → D x.1 y.1
  wr : ∀ (p q : Nat) (x y : Nat × DO), p < q → L[p]? = some x → L[q]? = some y → ∀ t, x.2.o.dst = some t → t ∈ y.2.o.looks → D x.1 y.1
  rw : ∀ (p q : Nat) (x y : Nat × DO), p < q → L[p]? = some x → L[q]? = some y → ∀ t, y.2.o.dst = some t → t ∈ x.2.o.looks → D x.1 y.1
  lo : ∀ (q : Nat) (x : Nat × DO), L[q]? = some x → isL x.2.o.op = true → ∀ c, x.2.lo = c + 1 → ∃ y : Nat × DO, L[c]? = some y ∧ isE y.2.o.op = true ∧ D y.1 x.1
  hi : ∀ (q : Nat) (x : Nat × DO), L[q]? = some x → isL x.2.o.op = true → ∀ y : Nat × DO, L[x.2.hi]? = some y → D x.1 y.1
theorem mapO_get {α β : Type} {f : α → Option β} : ∀ {l : List α} {r : List β}, mapO f l = some r → ∀ {p : Nat} {y : β}, r[p]? = some y → ∃ x, l[p]? = some x ∧ f x = some y
  | [], r, h, p, y, hy => by simp [mapO] at h; subst h; simp at hy
  | x :: l, r, h, p, y, hy => by
    obtain ⟨z, q, h1, h2, rfl⟩ := mapO_cons h
    cases p with
    | zero => simp at hy; subst hy; exact ⟨x, rfl, h1⟩
    | succ p => simp only [List.getElem?_cons_succ] at hy ⊢; exact mapO_get h2 hy
theorem pairOk_spec {anc : Nat → Nat} {x y : Nat × DO} (h : pairOk anc x y = true) :
    x.1 ≠ y.1 ∧ Nat.testBit (anc x.1) y.1 = false ∧ (∀ t, x.2.o.dst = some t → y.2.o.dst ≠ some t) ∧
    (Nat.testBit (anc y.1) x.1 = true ∨ (isE y.2.o.op = false ∧ (∀ t, x.2.o.dst = some t → t ∉ y.2.o.looks) ∧ (∀ t, y.2.o.dst = some t → t ∉ x.2.o.looks))) := by
  unfold pairOk at h
  rw [cond_eq_ite] at h; split at h
  · cases h
  rename_i h1
  rw [cond_eq_ite] at h; split at h
  · cases h
  rename_i h2
  rw [cond_eq_ite] at h; split at h
  · cases h
  rename_i h3
  refine ⟨fun e => h1 (nbeq.2 e), by simpa using h2, fun t e1 e2 => h3 (by rw [e1, e2]; exact nbeq.2 rfl), ?_⟩
  rw [cond_eq_ite] at h; split at h
  · rename_i h4; exact .inl h4
  rw [cond_eq_ite] at h; split at h
  · cases h
  rename_i h5
  rw [cond_eq_ite] at h; split at h
  · cases h
  rename_i h6
  refine .inr ⟨by simpa using h5, fun t e1 e2 => h6 ?_, fun t e1 e2 => ?_⟩
  · rw [e1]; exact mem_memN e2
  · rw [e1] at h
    have : memN t x.2.o.looks = true := mem_memN e2
    simp [hitsD, this] at h
theorem stat_of {nt : Nat} {ops : Array Oper} {l : List DO} (h : cDraw P nt ops = some l) : ∃ L D, Stat P nt ops L D ∧ l = L.map (·.2) := by
  unfold cDraw at h
  split at h
  · cases h
  rename_i ms hms
  simp only at h
  split at h
  · cases h
  rename_i L hL
  rw [cond_eq_ite] at h; split at h
  case isFalse => cases h
  rename_i hok
  cases h
  generalize hanc : (fun i => (Region.before ops).getD i 0) = anc at hok
  refine ⟨L, fun i j => Nat.testBit (anc j) i = true, ?_, rfl⟩
  unfold drawOk at hok
  rw [cond_eq_ite] at hok; split at hok
  case isFalse => cases hok
  rename_i k1
  rw [cond_eq_ite] at hok; split at hok
  case isFalse => cases hok
  rename_i k2
  rw [cond_eq_ite] at hok; split at hok
  case isFalse => cases hok
  rename_i k3
  have pair : ∀ p q x y, p < q → L[p]? = some x → L[q]? = some y → pairOk anc x y = true := fun p q x y hpq hx hy => allPairs_get k3 hpq hx hy
  have hanc : ∀ j o, ops[j]? = some o → anc j = ancL anc o.after.toList ∧ Nat.testBit (anc j) j = false ∧ ∀ e, e ∈ o.after.toList → Region.binds .any e = true → e.on < ops.size := by
    intro j o ho
    have hlt := (Array.getElem?_eq_some_iff.1 ho).1
    have hj := allR_all k1 j (List.mem_range.2 hlt)
    unfold ancOk at hj
    rw [ho] at hj
    simp only at hj
    rw [cond_eq_ite] at hj; split at hj
    case isFalse => cases hj
    rename_i j1
    rw [cond_eq_ite] at hj; split at hj
    · cases hj
    rename_i j2
    refine ⟨nbeq.1 j1, by simpa using j2, fun e he hb => ?_⟩
    have := allR_all hj e he
    rw [hb] at this
    exact nblt.1 this
  have wind : ∀ (q : Nat) (x : Nat × DO), L[q]? = some x → isL x.2.o.op = true → loOk anc L x.1 x.2.lo = true ∧ hiOk anc L x.1 x.2.hi = true := by
    intro q x hx hl
    have := allR_all hok x (List.mem_of_getElem? hx)
    unfold windOk at this
    rw [hl] at this
    simp only [cond_true] at this
    rw [cond_eq_ite] at this; split at this
    · rename_i hh; exact ⟨hh, this⟩
    · cases this
  constructor
  case comp =>
    intro p x hx
    obtain ⟨i, hi, hf⟩ := mapO_get hL hx
    split at hf
    case h_2 => cases hf
    rename_i m hm
    cases hf
    obtain ⟨o, ho, hc⟩ := mapO_get hms hm
    exact ⟨o, by simpa using ho, hc⟩
  case cover =>
    intro i hi
    have := memN_mem (allR_all k2 i (List.mem_range.2 hi))
    obtain ⟨x, hx, e⟩ := List.mem_map.1 this
    obtain ⟨p, hp, e2⟩ := List.mem_iff_getElem.1 hx
    exact ⟨p, x, by rw [List.getElem?_eq_getElem hp, e2], e⟩
  case step =>
    intro j o i ho hd
    rw [(hanc j o ho).1] at hd
    obtain ⟨e, h1, h2, h3⟩ := ancL_spec hd
    exact ⟨e, by simpa using h1, h2, h3⟩
  case irr =>
    intro j hj hd
    have := (hanc j _ (Array.getElem?_eq_getElem hj)).2.1
    rw [this] at hd
    cases hd
  case dep =>
    intro j o e ho he hb
    obtain ⟨h1, h2, h3⟩ := hanc j o ho
    refine ⟨?_, h3 e (by simpa using he) hb⟩
    rw [h1]
    exact ancL_has (by simpa using he) hb
  case neq => exact fun p q x y hpq hx hy => (pairOk_spec (pair p q x y hpq hx hy)).1
  case topo => exact fun p q x y hpq hx hy hd => by rw [(pairOk_spec (pair p q x y hpq hx hy)).2.1] at hd; cases hd
  case dsts => exact fun p q x y hpq hx hy => (pairOk_spec (pair p q x y hpq hx hy)).2.2.1
  case eff =>
    intro p q x y hpq hx hy he
    rcases (pairOk_spec (pair p q x y hpq hx hy)).2.2.2 with h | ⟨h, _⟩
    · exact h
    · rw [he] at h; cases h
  case wr =>
    intro p q x y hpq hx hy t h1 h2
    rcases (pairOk_spec (pair p q x y hpq hx hy)).2.2.2 with h | ⟨_, h, _⟩
    · exact h
    · exact absurd h2 (h t h1)
  case rw =>
    intro p q x y hpq hx hy t h1 h2
    rcases (pairOk_spec (pair p q x y hpq hx hy)).2.2.2 with h | ⟨_, _, h⟩
    · exact h
    · exact absurd h2 (h t h1)
  case lo =>
    intro q x hx hl c hc
    have := (wind q x hx hl).1
    rw [hc] at this
    simp only [loOk, getX_eq] at this
    split at this
    · rename_i i d hy
      rw [cond_eq_ite] at this; split at this
      · rename_i he; exact ⟨(i, d), hy, he, this⟩
      · cases this
    · cases this
  case hi =>
    intro q x hx hl y hy
    have := (wind q x hx hl).2
    simp only [hiOk, getX_eq, hy] at this
    exact this
structure Can (env : Env) (call : Nat → List V → Hp → Option (V × Hp)) (L : List (Nat × DO)) (fr : Nat → Fr) (h : Nat → Hp) (v : Nat → V) (yes : Nat → Bool) : Prop where
  put : ∀ (p : Nat) (x : Nat × DO), L[p]? = some x → fr (p + 1) = putO (fr p) x.2.o.dst (v p)
  step : ∀ (p : Nat) (x : Nat × DO), L[p]? = some x → (yes p = true ∧ gate (fr p) x.2.o.guard = .yes ∧ opV env call (fr p) (h p) x.2.o.op = some (v p, h (p + 1))) ∨
      (yes p = false ∧ gate (fr p) x.2.o.guard = .no ∧ v p = .tup [] ∧ h (p + 1) = h p)
  still : ∀ (q : Nat) (x : Nat × DO), L[q]? = some x → yes q = true → isL x.2.o.op = true → ∀ c, (c = 0 ∨ ∃ (p : Nat) (y : Nat × DO), c = p + 1 ∧ L[p]? = some y ∧ isE y.2.o.op = true) → x.2.lo ≤ c → c ≤ x.2.hi →
    opV env call (fr q) (h c) x.2.o.op = some (v q, h c)
theorem stillAll_spec {r : Rd} : ∀ {st : List (Nat × Hp)}, stillAll r st = true → ∀ c hh, (c, hh) ∈ st → r.lo ≤ c → c ≤ r.hi → stillAt r hh = true
  | [], _, c, hh, hm, _, _ => by cases hm
  | (c', h') :: st, h, c, hh, hm, h1, h2 => by
    simp only [stillAll] at h
    rcases List.mem_cons.1 hm with e | hm
    · cases e
      rw [nble.2 h1, nble.2 h2] at h
      simp only [cond_true] at h
      rw [cond_eq_ite] at h; split at h
      · rename_i hh; exact hh
      · cases h
    · have : stillAll r st = true := by
        rw [cond_eq_ite] at h; split at h
        · rw [cond_eq_ite] at h; split at h
          · rw [cond_eq_ite] at h; split at h
            · exact h
            · cases h
          · exact h
        · exact h
      exact stillAll_spec this c hh hm h1 h2
theorem allStill_spec {st : List (Nat × Hp)} : ∀ {rds : List Rd}, allStill st rds = true → ∀ r, r ∈ rds → stillAll r st = true
  | [], _, r, hr => by cases hr
  | x :: l, h, r, hr => by
    simp only [allStill] at h
    rw [cond_eq_ite] at h; split at h
    · rename_i hx
      rcases List.mem_cons.1 hr with rfl | hr
      · exact hx
      · exact allStill_spec h r hr
    · cases h
def RunOf (env : Env) (call : Nat → List V → Hp → Option (V × Hp)) (L : List (Nat × DO)) (p0 : Nat) (fr0 : Fr) (h0 : Hp) (st : List (Nat × Hp)) (rds : List Rd) (fr' : Fr) (h' : Hp) : Prop :=
    ∃ (fr : Nat → Fr) (h : Nat → Hp) (v : Nat → V) (yes : Nat → Bool) (stF : List (Nat × Hp)) (rdF : List Rd), fr 0 = fr0 ∧ h 0 = h0 ∧ fr L.length = fr' ∧ h L.length = h' ∧
      (∀ (p : Nat) (x : Nat × DO), L[p]? = some x → fr (p + 1) = putO (fr p) x.2.o.dst (v p)) ∧
      (∀ (p : Nat) (x : Nat × DO), L[p]? = some x → (yes p = true ∧ gate (fr p) x.2.o.guard = .yes ∧ opV env call (fr p) (h p) x.2.o.op = some (v p, h (p + 1))) ∨
        (yes p = false ∧ gate (fr p) x.2.o.guard = .no ∧ v p = .tup [] ∧ h (p + 1) = h p)) ∧
      allStill stF rdF = true ∧ (∀ s, s ∈ st → s ∈ stF) ∧ (∀ r, r ∈ rds → r ∈ rdF) ∧ (∀ (p : Nat) (x : Nat × DO), L[p]? = some x → isE x.2.o.op = true → (p0 + p + 1, h (p + 1)) ∈ stF) ∧
      (∀ (p : Nat) (x : Nat × DO), L[p]? = some x → yes p = true → ∀ r, r ∈ rdOf (fr p) (h p) x.2 → r ∈ rdF)
theorem can_of_run {env : Env} {call : Nat → List V → Hp → Option (V × Hp)} : ∀ (L : List (Nat × DO)) (p0 : Nat) (fr0 : Fr) (h0 : Hp) (st : List (Nat × Hp)) (rds : List Rd) (fr' : Fr) (h' : Hp),
    runD env call (L.map (·.2)) p0 fr0 h0 st rds = some (fr', h') → RunOf env call L p0 fr0 h0 st rds fr' h'
  | [], p0, fr0, h0, st, rds, fr', h', e => by
    simp only [List.map_nil, runD] at e
    rw [cond_eq_ite] at e; split at e
    case isFalse => cases e
    rename_i hs
    cases e
    exact ⟨fun _ => fr0, fun _ => h0, fun _ => .tup [], fun _ => false, st, rds, rfl, rfl, rfl, rfl, by simp, by simp, hs, fun _ h => h, fun _ h => h, by simp, by simp⟩
  | x :: L, p0, fr0, h0, st, rds, fr', h', e => by
    simp only [List.map_cons, runD] at e
    have go : ∀ (b : Bool) (v0 : V) (h1 : Hp) (rds1 : List Rd), (∀ r, r ∈ rds → r ∈ rds1) → (b = true → ∀ r, r ∈ rdOf fr0 h0 x.2 → r ∈ rds1) →
        ((b = true ∧ gate fr0 x.2.o.guard = .yes ∧ opV env call fr0 h0 x.2.o.op = some (v0, h1)) ∨ (b = false ∧ gate fr0 x.2.o.guard = .no ∧ v0 = .tup [] ∧ h1 = h0)) →
        runD env call (L.map (·.2)) (p0 + 1) (putO fr0 x.2.o.dst v0) h1 (cond (isE x.2.o.op) ((p0 + 1, h1) :: st) st) rds1 = some (fr', h') → RunOf env call (x :: L) p0 fr0 h0 st rds fr' h' := by
      intro b v0 h1 rds1 hr1 hr2 hb e1
      obtain ⟨fr, h, v, yes, stF, rdF, f1, f2, f3, f4, f5, f6, f7, f8, f9, f10, f11⟩ := can_of_run L (p0 + 1) _ h1 _ rds1 fr' h' e1
      refine ⟨fun | 0 => fr0 | p + 1 => fr p, fun | 0 => h0 | p + 1 => h p, fun | 0 => v0 | p + 1 => v p, fun | 0 => b | p + 1 => yes p, stF, rdF, rfl, rfl, f3, f4, ?_, ?_, f7, fun s hs => f8 s ?_, fun r hr => f9 r (hr1 r hr), ?_, ?_⟩
      · intro p y hy
        cases p with
        | zero => simp at hy; subst hy; exact f1
        | succ p => exact f5 p y (by simpa using hy)
      · intro p y hy
        cases p with
        | zero => simp at hy; subst hy; dsimp only; rw [f2]; exact hb
        | succ p => exact f6 p y (by simpa using hy)
      · rw [cond_eq_ite]; split
        · exact List.mem_cons_of_mem _ hs
        · exact hs
      · intro p y hy he
        cases p with
        | zero =>
          simp at hy; subst hy
          refine f8 _ ?_
          rw [he]
          dsimp only
          rw [f2]
          exact List.mem_cons_self
        | succ p =>
          have := f10 p y (by simpa using hy) he
          rw [show p0 + (p + 1) + 1 = p0 + 1 + p + 1 by omega]
          exact this
      · intro p y hy hyes r hr
        cases p with
        | zero => simp at hy; subst hy; exact f9 r (hr2 hyes r hr)
        | succ p => exact f11 p y (by simpa using hy) hyes r hr
    split at e
    · rename_i hg
      exact go false (.tup []) h0 rds (fun _ h => h) (fun h => by cases h) (.inr ⟨rfl, hg, rfl, rfl⟩) e
    · cases e
    · rename_i hg
      split at e
      case h_2 => cases e
      rename_i v0 h1 hv
      exact go true v0 h1 _ (fun r hr => List.mem_append_right _ hr) (fun _ r hr => List.mem_append_left _ hr) (.inl ⟨rfl, hg, hv⟩) e
theorem read_length {h : Hp} {b o n : Nat} {l : List V} (e : h.read b o n = some l) : l.length = n := by
  unfold Hp.read at e
  split at e
  · obtain ⟨h1, h2⟩ := takeX_eq e
    rw [h1, List.length_take]; omega
  · cases e
theorem can_of {env : Env} {call : Nat → List V → Hp → Option (V × Hp)} {L : List (Nat × DO)} {fr0 fr' : Fr} {h0 h' : Hp} (e : runD env call (L.map (·.2)) 0 fr0 h0 [(0, h0)] [] = some (fr', h')) :
    ∃ fr h v yes, Can env call L fr h v yes ∧ fr 0 = fr0 ∧ h 0 = h0 ∧ fr L.length = fr' ∧ h L.length = h' := by
  obtain ⟨fr, h, v, yes, stF, rdF, f1, f2, f3, f4, f5, f6, f7, f8, f9, f10, f11⟩ := can_of_run L 0 fr0 h0 _ _ fr' h' e
  refine ⟨fr, h, v, yes, ⟨f5, f6, ?_⟩, f1, f2, f3, f4⟩
  intro q x hx hy hl c hc h1 h2
  have hst : (c, h c) ∈ stF := by
    rcases hc with rfl | ⟨p, y, rfl, hp, he⟩
    · rw [f2]; exact f8 _ (List.mem_singleton.2 rfl)
    · have := f10 p y hp he
      rwa [Nat.zero_add] at this
  have hrd := f11 q x hx hy
  have hop : opV env call (fr q) (h q) x.2.o.op = some (v q, h (q + 1)) := by
    rcases f6 q x hx with ⟨_, _, k⟩ | ⟨k, _⟩
    · exact k
    · rw [hy] at k; cases k
  have key : ∀ b o l, ⟨x.2.lo, x.2.hi, b, o, l⟩ ∈ rdF → (h c).read b o l.length = some l := by
    intro b o l hm
    have := stillAll_spec (allStill_spec f7 _ hm) c (h c) hst h1 h2
    unfold stillAt at this
    simp only at this
    split at this
    · rename_i l' hl'
      rw [hl', sames_eq this]
    · cases this
  cases hm : x.2.o.op <;> rw [hm] at hl hop <;> simp only [isL, reduceCtorEq] at hl
  case load1 a =>
    simp only [opV] at hop ⊢
    unfold rdOf at hrd
    rw [hm] at hrd
    simp only at hrd
    split at hop
    case h_2 => cases hop
    rename_i b o ha
    rw [ha] at hrd
    simp only at hrd
    cases hr : (h q).read b o 1 with
    | none => rw [hr] at hop; cases hop
    | some l =>
      rw [hr] at hop hrd
      have hlen : l.length = 1 := read_length hr
      have := key b o l (hrd _ (List.mem_singleton.2 rfl))
      rw [hlen] at this
      rw [this]
      cases l with
      | nil => cases hlen
      | cons z r =>
        simp only [Option.some.injEq, Prod.mk.injEq] at hop ⊢
        exact ⟨hop.1, trivial⟩
  case loadn n a =>
    simp only [opV] at hop ⊢
    unfold rdOf at hrd
    rw [hm] at hrd
    simp only at hrd
    split at hop
    case h_2 => cases hop
    rename_i b o ha
    rw [ha] at hrd
    simp only at hrd
    cases hr : (h q).read b o n with
    | none => rw [hr] at hop; cases hop
    | some l =>
      rw [hr] at hop hrd
      have hlen : l.length = n := read_length hr
      have := key b o l (hrd _ (List.mem_singleton.2 rfl))
      rw [hlen] at this
      rw [this]
      simp only [Option.some.injEq, Prod.mk.injEq] at hop ⊢
      exact ⟨hop.1, trivial⟩
end Go.Vm
end

section
namespace Go.Vm
variable {P : Program}
structure Sx (φ0 : Emb) (h0 : Hp) (w0 : World) (ψ : Emb) (At : Nat → Blk → Prop) (w : World) (hi : Nat) : Prop where
  le : φ0.Le ψ
  new : ∀ b, (b < h0.next ∨ hi ≤ b) → ψ.at_ b = φ0.at_ b
  os : w.os = w0.os
  tape : w.tape = w0.tape
  output : w.output = w0.output
  size : w0.heap.size ≤ w.heap.size
  kept : ∀ k, k < w0.heap.size → (∀ b pl, (h0.blk b).open_ = true → φ0.at_ b = some pl → pl.blk ≠ k) → w.heap[k]? = w0.heap[k]?
  host : ∀ b x pl, At b x → x.open_ = true → ψ.at_ b = some pl → (∃ b' pl', (h0.blk b').open_ = true ∧ φ0.at_ b' = some pl' ∧ pl'.blk = pl.blk) ∨ w0.heap.size ≤ pl.blk
  roof : ∀ b x pl, At b x → x.live = true → ψ.at_ b = some pl → (∃ b' pl', (h0.blk b').live = true ∧ φ0.at_ b' = some pl' ∧ pl'.blk = pl.blk) ∨ w0.heap.size ≤ pl.blk
  lies : ∀ b x, At b x → x.live = true → ∃ pl, ψ.at_ b = some pl ∧ BlkAt ψ w pl x
  apart : ∀ b b' x x' pl pl', At b x → At b' x' → x.live = true → x'.live = true → (x.open_ = true ∨ x'.open_ = true) → ψ.at_ b = some pl → ψ.at_ b' = some pl' → b ≠ b' → pl.blk ≠ pl'.blk
variable {φ0 ψ : Emb} {h0 : Hp} {w0 w : World} {At : Nat → Blk → Prop} {hi : Nat}
theorem Sx.hr (s : Sx φ0 h0 w0 ψ At w hi) {g : Hp} (hg : ∀ b, (g.blk b).live = true → At b (g.blk b)) (hf : ∀ b, g.next ≤ b → g.blk b = .gone) : HR ψ g w :=
  ⟨fun b hb => s.lies b _ (hg b hb) hb, fun b b' pl pl' h1 h2 => s.apart b b' _ _ pl pl' (hg b h1) (hg b' h2) h1 h2, hf⟩
theorem HR.lt {φ : Emb} {g : Hp} (hr : HR φ g w) {b : Nat} (h : (g.blk b).live = true) : b < g.next := by
  rcases Nat.lt_or_ge b g.next with k | k
  · exact k
  · rw [hr.fresh b k] at h; cases h
theorem Sx.eff (s : Sx φ0 h0 w0 ψ At w hi) {g g' : Hp} {w' : World} {χ : Emb} (hr : HR ψ g w) (st : St ψ g w χ g' w') (hg : ∀ b, (g.blk b).live = true → At b (g.blk b)) (hn : h0.next ≤ g.next) (hi' : g'.next ≤ hi)
    {At' : Nat → Blk → Prop} (ha : ∀ b x, At' b x → x.live = true → g'.blk b = x ∨ (g'.next ≤ b ∧ At b x)) : Sx φ0 h0 w0 χ At' w' hi where
  le := s.le.trans st.le
  new b hb := (st.new b (by have := st.nx; omega)).trans (s.new b hb)
  os := st.os.trans s.os
  tape := st.tape.trans s.tape
  output := st.output.trans s.output
  size := Nat.le_trans s.size st.size
  kept k hk hn' := by
    rw [st.kept k (Nat.lt_of_lt_of_le hk s.size) fun b pl ho hp e => ?_, s.kept k hk hn']
    rcases s.host b _ pl (hg b (Blk.live_of_open ho)) ho hp with ⟨b', pl', o', p', e'⟩ | hge
    · exact hn' b' pl' o' p' (e'.trans e)
    · omega
  host b x pl h1 h2 h3 := by
    rcases ha b x h1 (Blk.live_of_open h2) with e | ⟨hb, hat⟩
    · subst e
      rcases st.host b pl h2 h3 with ⟨b', pl', o', p', e'⟩ | hge
      · rcases s.host b' _ pl' (hg b' (Blk.live_of_open o')) o' p' with ⟨y, q, k1, k2, k3⟩ | h
        · exact .inl ⟨y, q, k1, k2, k3.trans e'⟩
        · right; omega
      · right; have := s.size; omega
    · rw [st.new b (.inr hb)] at h3
      exact s.host b x pl hat h2 h3
  roof b x pl h1 h2 h3 := by
    rcases ha b x h1 h2 with e | ⟨hb, hat⟩
    · subst e
      rcases st.roof b pl h2 h3 with ⟨b', pl', o', p', e'⟩ | hge
      · rcases s.roof b' _ pl' (hg b' o') o' p' with ⟨y, q, k1, k2, k3⟩ | h
        · exact .inl ⟨y, q, k1, k2, k3.trans e'⟩
        · right; omega
      · right; have := s.size; omega
    · rw [st.new b (.inr hb)] at h3
      exact s.roof b x pl hat h2 h3
  lies b x h1 h2 := by
    rcases ha b x h1 h2 with e | ⟨hb, hat⟩
    · subst e; exact st.hr.lies b h2
    · obtain ⟨pl, k1, k2⟩ := s.lies b x hat h2
      refine ⟨pl, (st.new b (.inr hb)).trans k1, k2.mono st.le (st.kept _ (k2.lt h2) fun b' pl' o' p' e => ?_)⟩
      have hl' := Blk.live_of_open o'
      have := hr.lt hl'
      exact s.apart b' b _ x pl' pl (hg b' hl') hat hl' h2 (.inl o') p' k1 (by have := st.nx; omega) e
  apart b b' x x' pl pl' h1 h2 l1 l2 ho p1 p2 hne := by
    have key : ∀ {b b' x x' pl pl'}, g'.blk b = x → x.live = true → (x.open_ = true ∨ x'.open_ = true) → χ.at_ b = some pl → (g'.next ≤ b' ∧ At b' x') → x'.live = true → χ.at_ b' = some pl' → pl.blk ≠ pl'.blk := by
      rintro b b' x x' pl pl' rfl l1 ho p1 ⟨hb', hat⟩ l2 p2 heq
      rw [st.new b' (.inr hb')] at p2
      obtain ⟨q, k1, k2⟩ := s.lies b' x' hat l2
      rw [p2] at k1; cases k1
      rcases ho with ho | ho
      · rcases st.host b pl ho p1 with ⟨y, q', o', p', e'⟩ | hge
        · have hly := Blk.live_of_open o'
          have := hr.lt hly
          exact s.apart y b' _ x' q' pl' (hg y hly) hat hly l2 (.inl o') p' p2 (by have := st.nx; omega) (e'.trans heq)
        · have := k2.lt l2; omega
      · rcases st.roof b pl l1 p1 with ⟨y, q', o', p', e'⟩ | hge
        · have := hr.lt o'
          exact s.apart y b' _ x' q' pl' (hg y o') hat o' l2 (.inr ho) p' p2 (by have := st.nx; omega) (e'.trans heq)
        · have := k2.lt l2; omega
    rcases ha b x h1 l1 with e | e
    · rcases ha b' x' h2 l2 with e' | e'
      · subst e; subst e'; exact st.hr.apart b b' pl pl' l1 l2 ho p1 p2 hne
      · exact key e l1 ho p1 e' l2 p2
    · rcases ha b' x' h2 l2 with e' | e'
      · exact (key e' l2 ho.symm p2 e l1 p1).symm
      · rw [st.new b (.inr e.1)] at p1
        rw [st.new b' (.inr e'.1)] at p2
        exact s.apart b b' x x' pl pl' e.2 e'.2 l1 l2 ho p1 p2 hne
theorem Sx.mono (s : Sx φ0 h0 w0 ψ At w hi) {At' : Nat → Blk → Prop} (ha : ∀ b x, At' b x → x.live = true → At b x) : Sx φ0 h0 w0 ψ At' w hi where
  le := s.le
  new := s.new
  os := s.os
  tape := s.tape
  output := s.output
  size := s.size
  kept := s.kept
  host b x pl h1 h2 h3 := s.host b x pl (ha b x h1 (Blk.live_of_open h2)) h2 h3
  roof b x pl h1 h2 h3 := s.roof b x pl (ha b x h1 h2) h2 h3
  lies b x h1 h2 := s.lies b x (ha b x h1 h2) h2
  apart b b' x x' pl pl' h1 h2 l1 l2 := s.apart b b' x x' pl pl' (ha b x h1 l1) (ha b' x' h2 l2) l1 l2
theorem Sx.drew (s : Sx φ0 h0 w0 ψ At w hi) : Sx φ0 h0 w0 ψ At w.drew hi where
  le := s.le
  new := s.new
  os := s.os
  tape := s.tape
  output := s.output
  size := s.size
  kept := s.kept
  host := s.host
  roof := s.roof
  lies b x h1 h2 := let ⟨pl, k1, k2⟩ := s.lies b x h1 h2; ⟨pl, k1, k2.mono (.refl ψ) rfl⟩
  apart := s.apart
theorem Sx.alloc (s : Sx φ0 h0 w0 ψ At w hi) {b : Nat} {x : Blk} {o : Obj} {pl : Place} (hb : h0.next ≤ b) (hbi : b < hi) (hfree : ψ.at_ b = none) (hpl : pl.blk = w.heap.size)
    (hx : ∀ χ w', ψ.Le χ → w'.heap[w.heap.size]? = some o → BlkAt χ w' pl x)
    {At' : Nat → Blk → Prop} (ha : ∀ b' x', At' b' x' → x'.live = true → (b' = b ∧ x' = x) ∨ (b' ≠ b ∧ At b' x')) :
    Sx φ0 h0 w0 ⟨fun y => if y = b then some pl else ψ.at_ y, ψ.sym⟩ At' (w.alloc o) hi := by
  have hle : ψ.Le ⟨fun y => if y = b then some pl else ψ.at_ y, ψ.sym⟩ := ⟨fun y q e => by
    show (if y = b then some pl else ψ.at_ y) = some q
    split
    · rename_i e'; rw [e', hfree] at e; cases e
    · exact e, rfl⟩
  have hnew : (w.alloc o).heap[w.heap.size]? = some o := heap_alloc_new w o
  have at1 : ∀ {q : Place}, (if b = b then some pl else ψ.at_ b) = some q → q = pl := fun e => by rw [if_pos rfl] at e; cases e; rfl
  have at2 : ∀ {y : Nat} {q : Place}, y ≠ b → (if y = b then some pl else ψ.at_ y) = some q → ψ.at_ y = some q := fun hy e => by rwa [if_neg hy] at e
  refine ⟨s.le.trans hle, fun y hy => ?_, s.os, s.tape, s.output, ?_, fun k hk hn => ?_, fun y z q h1 h2 h3 => ?_, fun y z q h1 h2 h3 => ?_, fun y z h1 h2 => ?_, fun y y' z z' q q' h1 h2 l1 l2 ho p1 p2 hne => ?_⟩
  · show (if y = b then some pl else ψ.at_ y) = _
    rw [if_neg (by omega)]
    exact s.new y hy
  · have := s.size
    simp
    omega
  · rw [heap_alloc_old w o k (Nat.lt_of_lt_of_le hk s.size)]
    exact s.kept k hk hn
  · rcases ha y z h1 (Blk.live_of_open h2) with ⟨rfl, rfl⟩ | ⟨hy, hat⟩
    · have := at1 h3; subst this; right; have := s.size; omega
    · exact s.host y z q hat h2 (at2 hy h3)
  · rcases ha y z h1 h2 with ⟨rfl, rfl⟩ | ⟨hy, hat⟩
    · have := at1 h3; subst this; right; have := s.size; omega
    · exact s.roof y z q hat h2 (at2 hy h3)
  · rcases ha y z h1 h2 with ⟨rfl, rfl⟩ | ⟨hy, hat⟩
    · exact ⟨pl, by show (if y = y then some pl else ψ.at_ y) = _; rw [if_pos rfl], hx _ _ hle hnew⟩
    · obtain ⟨q, k1, k2⟩ := s.lies y z hat h2
      exact ⟨q, by show (if y = b then some pl else ψ.at_ y) = _; rw [if_neg hy]; exact k1, k2.mono hle (heap_alloc_old w o _ (k2.lt h2))⟩
  · rcases ha y z h1 l1 with ⟨rfl, rfl⟩ | ⟨hy, hat⟩
    · rcases ha y' z' h2 l2 with ⟨rfl, rfl⟩ | ⟨hy', hat'⟩
      · exact absurd rfl hne
      · have := at1 p1; subst this
        have := at2 hy' p2
        obtain ⟨r, k1, k2⟩ := s.lies y' z' hat' l2
        rw [this] at k1; cases k1
        have := k2.lt l2; omega
    · rcases ha y' z' h2 l2 with ⟨rfl, rfl⟩ | ⟨hy', hat'⟩
      · have := at1 p2; subst this
        have := at2 hy p1
        obtain ⟨r, k1, k2⟩ := s.lies y z hat l1
        rw [this] at k1; cases k1
        have := k2.lt l1; omega
      · exact s.apart y y' z z' q q' hat hat' l1 l2 ho (at2 hy p1) (at2 hy' p2) hne
theorem Sx.start {φ : Emb} {h : Hp} (hr : HR φ h w) : Sx φ h w φ (fun b x => h.blk b = x) w hi where
  le := .refl φ
  new _ _ := rfl
  os := rfl
  tape := rfl
  output := rfl
  size := Nat.le_refl _
  kept _ _ _ := rfl
  host b x pl h1 h2 h3 := .inl ⟨b, pl, h1 ▸ h2, h3, rfl⟩
  roof b x pl h1 h2 h3 := .inl ⟨b, pl, h1 ▸ h2, h3, rfl⟩
  lies b x h1 h2 := by subst h1; exact hr.lies b h2
  apart b b' x x' pl pl' h1 h2 l1 l2 := by subst h1; subst h2; exact hr.apart b b' pl pl' l1 l2
theorem Sx.done {g : Hp} (s : Sx φ0 h0 w0 ψ At w g.next) (hg : ∀ b, (g.blk b).live = true → At b (g.blk b)) (hf : ∀ b, g.next ≤ b → g.blk b = .gone) (nx : h0.next ≤ g.next) : St φ0 h0 w0 ψ g w where
  le := s.le
  new := s.new
  nx := nx
  os := s.os
  tape := s.tape
  output := s.output
  size := s.size
  kept := s.kept
  host b pl h1 h2 := s.host b _ pl (hg b (Blk.live_of_open h1)) h1 h2
  roof b pl h1 h2 := s.roof b _ pl (hg b h1) h1 h2
  hr := s.hr hg hf
section
variable {env : Env} {call : Nat → List V → Hp → Option (V × Hp)} {L : List (Nat × DO)} {fr : Nat → Fr} {h : Nat → Hp} {v : Nat → V} {yes : Nat → Bool}
theorem Can.nx (can : Can env call L fr h v yes) (hrise : Rises call) {p : Nat} {x : Nat × DO} (hx : L[p]? = some x) : (h p).next ≤ (h (p + 1)).next := by
  rcases can.step p x hx with ⟨_, _, k⟩ | ⟨_, _, _, k⟩
  · exact opV_next hrise k
  · rw [k]; exact Nat.le_refl _
theorem Can.mono (can : Can env call L fr h v yes) (hrise : Rises call) {p : Nat} : ∀ {q : Nat}, p ≤ q → q ≤ L.length → (h p).next ≤ (h q).next
  | 0, h1, _ => by rw [show p = 0 by omega]; exact Nat.le_refl _
  | q + 1, h1, h2 => by
    rcases Nat.lt_or_ge p (q + 1) with hlt | hge
    · exact Nat.le_trans (can.mono hrise (q := q) (by omega) (by omega)) (can.nx hrise (List.getElem?_eq_getElem (by omega)))
    · rw [show p = q + 1 by omega]; exact Nat.le_refl _
theorem Can.quiet (can : Can env call L fr h v yes) {p : Nat} {x : Nat × DO} (hx : L[p]? = some x) (hq : isE x.2.o.op = false) : h (p + 1) = h p ∨ ∃ k, h (p + 1) = (h p).new k := by
  rcases can.step p x hx with ⟨_, _, k⟩ | ⟨_, _, _, k⟩
  · cases hm : x.2.o.op <;> rw [hm] at k hq
    case e => cases hq
    all_goals
      simp only [opV] at k
      repeat' (first | (cases k; done) | split at k)
      all_goals (simp only [Option.some.injEq, Prod.mk.injEq] at k; first | exact .inl k.2.symm | exact .inr ⟨_, k.2.symm⟩)
  · exact .inl k
theorem Can.range (can : Can env call L fr h v yes) {c : Nat} (hf : ∀ b, (h c).next ≤ b → (h c).blk b = .gone) : ∀ {q : Nat}, c ≤ q → q ≤ L.length → (∀ p x, c ≤ p → p < q → L[p]? = some x → isE x.2.o.op = false) →
    (∀ b, (h q).next ≤ b → (h q).blk b = .gone) ∧ ∀ b, b < (h q).next → (b < (h c).next ∧ (h q).blk b = (h c).blk b) ∨ ∃ p, c ≤ p ∧ p < q ∧ b = (h p).next ∧ h (p + 1) = (h p).new ((h q).blk b)
  | 0, h1, _, _ => by
    rw [show c = 0 by omega] at hf ⊢
    exact ⟨hf, fun b hb => .inl ⟨hb, rfl⟩⟩
  | q + 1, h1, h2, hq => by
    rcases Nat.lt_or_ge c (q + 1) with hlt | hge
    case inr =>
      rw [show c = q + 1 by omega] at hf ⊢
      exact ⟨hf, fun b hb => .inl ⟨hb, rfl⟩⟩
    obtain ⟨r1, r2⟩ := can.range hf (q := q) (by omega) (by omega) fun p x a b => hq p x a (by omega)
    have hx : L[q]? = some L[q] := List.getElem?_eq_getElem (by omega)
    rcases can.quiet hx (hq q _ (by omega) (by omega) hx) with e | ⟨k, e⟩
    · rw [e]
      refine ⟨r1, fun b hb => ?_⟩
      rcases r2 b hb with r | ⟨p, a, b', c', d⟩
      · exact .inl r
      · exact .inr ⟨p, a, by omega, c', d⟩
    · refine ⟨fun b hb => ?_, fun b hb => ?_⟩
      · rw [e] at hb ⊢
        have hb : (h q).next + 1 ≤ b := hb
        rw [blk_new, if_neg (by omega)]
        exact r1 b (by omega)
      · have hb' : b < (h q).next + 1 := by rw [e] at hb; exact hb
        by_cases eb : b = (h q).next
        · right
          refine ⟨q, by omega, by omega, eb, ?_⟩
          rw [e, blk_new, if_pos eb]
        · rw [e, blk_new, if_neg eb]
          rcases r2 b (by omega) with r | ⟨p, a, b', c', d⟩
          · exact .inl r
          · exact .inr ⟨p, a, by omega, c', d⟩
theorem ev_putO {f : Fr} {dst : Option Nat} {x : V} {t : Nat} : ev (putO f dst x) (.tmp t) = if dst = some t then x else ev f (.tmp t) := by
  cases dst with
  | none => simp [putO]
  | some d =>
    simp only [putO, ev, T.get_set]
    by_cases e : t = d
    · subst e; simp
    · rw [if_neg e, if_neg (by simp; omega)]
theorem Can.ev_at (can : Can env call L fr h v yes) (t : Nat) : ∀ {q : Nat}, q ≤ L.length →
    (∃ p x, p < q ∧ L[p]? = some x ∧ x.2.o.dst = some t ∧ ev (fr q) (.tmp t) = v p) ∨ ((∀ p x, p < q → L[p]? = some x → x.2.o.dst ≠ some t) ∧ ev (fr q) (.tmp t) = ev (fr 0) (.tmp t))
  | 0, _ => .inr ⟨fun p x hp => by omega, rfl⟩
  | q + 1, hq => by
    have hx : L[q]? = some L[q] := List.getElem?_eq_getElem (by omega)
    rw [can.put q _ hx, ev_putO]
    by_cases e : L[q].2.o.dst = some t
    · rw [if_pos e]
      exact .inl ⟨q, _, by omega, hx, e, rfl⟩
    · rw [if_neg e]
      rcases can.ev_at t (q := q) (by omega) with ⟨p, x, a, b, c, d⟩ | ⟨a, b⟩
      · exact .inl ⟨p, x, by omega, b, c, d⟩
      · refine .inr ⟨fun p x hp hpx => ?_, b⟩
        rcases Nat.lt_or_ge p q with hlt | hge
        · exact a p x hlt hpx
        · rw [show p = q by omega, hx] at hpx
          cases hpx; exact e
end
end Go.Vm
end

section
namespace Go.Vm
variable {P : Program}
def AtS (L : List (Nat × DO)) (h : Nat → Hp) (S : Nat → Prop) (c : Nat) (b : Nat) (x : Blk) : Prop :=
  (b < (h c).next ∧ (h c).blk b = x) ∨ ∃ (p : Nat) (y : Nat × DO), c ≤ p ∧ L[p]? = some y ∧ S y.1 ∧ b = (h p).next ∧ h (p + 1) = (h p).new x
structure Inv (L : List (Nat × DO)) (fr : Nat → Fr) (h : Nat → Hp) (v : Nat → V) (φ0 : Emb) (w0 : World) (a0 : Act) (S : Nat → Prop) (c : Nat) (φ : Emb) (f : Fr) (a : Act) (w : World) : Prop where
  cN : c ≤ L.length
  cut : c = 0 ∨ ∃ (p : Nat) (y : Nat × DO), c = p + 1 ∧ L[p]? = some y ∧ isE y.2.o.op = true
  low : ∀ (p : Nat) (x : Nat × DO), p < c → L[p]? = some x → S x.1
  high : ∀ (p : Nat) (x : Nat × DO), c ≤ p → L[p]? = some x → S x.1 → isE x.2.o.op = false
  put : ∀ (p : Nat) (x : Nat × DO) (t : Nat), L[p]? = some x → S x.1 → x.2.o.dst = some t → ev f (.tmp t) = v p
  un : ∀ t, (∀ (p : Nat) (x : Nat × DO), L[p]? = some x → S x.1 → x.2.o.dst ≠ some t) → ev f (.tmp t) = ev (fr 0) (.tmp t)
  fr : FR φ f a
  sx : Sx φ0 (h 0) w0 φ (AtS L h S c) w (h L.length).next
  fresh : ∀ b, (h c).next ≤ b → (h c).blk b = .gone
  free : ∀ b, (h c).next ≤ b → b < (h L.length).next → (∀ (p : Nat) (y : Nat × DO) (x : Blk), c ≤ p → L[p]? = some y → S y.1 → h (p + 1) = (h p).new x → b ≠ (h p).next) → φ.at_ b = none
  defs : a.defers = a0.defers
  size : a.tmps.size = a0.tmps.size
section
variable {env : Env} {call : Nat → List V → Hp → Option (V × Hp)} {nt : Nat} {ops : Array Oper} {L : List (Nat × DO)} {D : Nat → Nat → Prop} {fr : Nat → Fr} {h : Nat → Hp} {v : Nat → V} {yes : Nat → Bool}
  {φ0 φ : Emb} {w0 w : World} {a0 a : Act} {S S' : Nat → Prop} {c : Nat} {f : Fr} {q : Nat} {x : Nat × DO}
theorem Stat.inj (st : Stat P nt ops L D) {p q : Nat} {x y : Nat × DO} (hx : L[p]? = some x) (hy : L[q]? = some y) (e : x.1 = y.1) : p = q := by
  rcases Nat.lt_trichotomy p q with h | h | h
  · exact absurd e (st.neq p q x y h hx hy)
  · exact h
  · exact absurd e.symm (st.neq q p y x h hy hx)
theorem len_of {p : Nat} {x : Nat × DO} (hx : L[p]? = some x) : p < L.length := (List.getElem?_eq_some_iff.1 hx).1
theorem Inv.slots (st : Stat P nt ops L D) (I : Inv L fr h v φ0 w0 a0 S c φ f a w) (hx : L[q]? = some x) (hS' : ∀ i, S' i ↔ (S i ∨ i = x.1)) :
    (∀ (p : Nat) (y : Nat × DO) (t : Nat), L[p]? = some y → S' y.1 → y.2.o.dst = some t → ev (putO f x.2.o.dst (v q)) (.tmp t) = v p) ∧
    (∀ t, (∀ (p : Nat) (y : Nat × DO), L[p]? = some y → S' y.1 → y.2.o.dst ≠ some t) → ev (putO f x.2.o.dst (v q)) (.tmp t) = ev (fr 0) (.tmp t)) := by
  constructor
  · intro p y t hy hs hd
    rw [ev_putO]
    by_cases e : x.2.o.dst = some t
    · rw [if_pos e]
      have : p = q := by
        rcases Nat.lt_trichotomy p q with hh | hh | hh
        · exact absurd e (st.dsts p q y x hh hy hx t hd)
        · exact hh
        · exact absurd hd (st.dsts q p x y hh hx hy t e)
      rw [this]
    · rw [if_neg e]
      rcases (hS' y.1).1 hs with k | k
      · exact I.put p y t hy k hd
      · have := st.inj hy hx k
        subst this
        rw [hx] at hy; cases hy
        exact absurd hd e
  · intro t ht
    rw [ev_putO, if_neg (ht q x hx ((hS' x.1).2 (.inr rfl)))]
    exact I.un t fun p y hy hs => ht p y hy ((hS' y.1).2 (.inl hs))
theorem Inv.quietStep (st : Stat P nt ops L D) (I : Inv L fr h v φ0 w0 a0 S c φ f a w) (hx : L[q]? = some x) (hS' : ∀ i, S' i ↔ (S i ∨ i = x.1)) (hE : isE x.2.o.op = false)
    {φ' : Emb} {u : Value} {w' : World} (hle : φ.Le φ') (hu : VR φ' (v q) u) (hdst : ∀ d, x.2.o.dst = some d → d < a.tmps.size) (sx' : Sx φ0 (h 0) w0 φ' (AtS L h S' c) w' (h L.length).next)
    (free' : ∀ b, (h c).next ≤ b → b < (h L.length).next → (∀ (p : Nat) (y : Nat × DO) (x : Blk), c ≤ p → L[p]? = some y → S' y.1 → h (p + 1) = (h p).new x → b ≠ (h p).next) → φ'.at_ b = none) :
    Inv L fr h v φ0 w0 a0 S' c φ' (putO f x.2.o.dst (v q)) (a.put x.2.o.dst u) w' where
  cN := I.cN
  cut := I.cut
  low p y hp hy := (hS' y.1).2 (.inl (I.low p y hp hy))
  high p y hp hy hs := by
    rcases (hS' y.1).1 hs with k | k
    · exact I.high p y hp hy k
    · have := st.inj hy hx k
      subst this
      rw [hx] at hy; cases hy
      exact hE
  put := (I.slots st hx hS').1
  un := (I.slots st hx hS').2
  fr := I.fr.put hle hu hdst
  sx := sx'
  fresh := I.fresh
  free := free'
  defs := by rw [put_defers, I.defs]
  size := by rw [put_size, I.size]
theorem Inv.still (st : Stat P nt ops L D) (I : Inv L fr h v φ0 w0 a0 S c φ f a w) (hx : L[q]? = some x) (hS' : ∀ i, S' i ↔ (S i ∨ i = x.1)) (hE : isE x.2.o.op = false) (hh : h (q + 1) = h q)
    {u : Value} (hu : VR φ (v q) u) (hdst : ∀ d, x.2.o.dst = some d → d < a.tmps.size) : Inv L fr h v φ0 w0 a0 S' c φ (putO f x.2.o.dst (v q)) (a.put x.2.o.dst u) w :=
  I.quietStep st hx hS' hE (.refl φ) hu hdst
    (I.sx.mono fun b z hz _ => by
      rcases hz with k | ⟨p, y, k1, k2, k3, k4, k5⟩
      · exact .inl k
      · rcases (hS' y.1).1 k3 with k | k
        · exact .inr ⟨p, y, k1, k2, k, k4, k5⟩
        · have := st.inj k2 hx k
          subst this
          rw [hh] at k5
          have := congrArg Hp.next k5
          have : (h p).next = (h p).next + 1 := this
          omega)
    (fun b h1 h2 h3 => I.free b h1 h2 fun p y z k1 k2 k3 k4 => h3 p y z k1 k2 ((hS' y.1).2 (.inl k3)) k4)
theorem Inv.hrAt (can : Can env call L fr h v yes) (I : Inv L fr h v φ0 w0 a0 S c φ f a w) (hcq : c ≤ q) (hq : q ≤ L.length) (hprev : ∀ (p : Nat) (y : Nat × DO), p < q → L[p]? = some y → S y.1) :
    (∀ b, (h q).next ≤ b → (h q).blk b = .gone) ∧ (∀ b, ((h q).blk b).live = true → AtS L h S c b ((h q).blk b)) := by
  obtain ⟨r1, r2⟩ := can.range I.fresh hcq hq fun p x a b hx => I.high p x a hx (hprev p x b hx)
  refine ⟨r1, fun b hb => ?_⟩
  have hlt : b < (h q).next := by
    rcases Nat.lt_or_ge b (h q).next with k | k
    · exact k
    · rw [r1 b k] at hb; cases hb
  rcases r2 b hlt with ⟨k1, k2⟩ | ⟨p, k1, k2, k3, k4⟩
  · exact .inl ⟨k1, k2.symm⟩
  · have hp : L[p]? = some L[p] := List.getElem?_eq_getElem (by omega)
    exact .inr ⟨p, _, k1, hp, hprev p _ k2 hp, k3, k4⟩
theorem Inv.effStep (st : Stat P nt ops L D) (can : Can env call L fr h v yes) (hrise : Rises call) (I : Inv L fr h v φ0 w0 a0 S c φ f a w) (hx : L[q]? = some x) (hS : ¬ S x.1) (hS' : ∀ i, S' i ↔ (S i ∨ i = x.1))
    (hcq : c ≤ q) (hE : isE x.2.o.op = true) (hprev : ∀ (p : Nat) (y : Nat × DO), p < q → L[p]? = some y → S y.1) {χ : Emb} {w' : World} {u : Value} (hr : HR φ (h q) w) (stp : St φ (h q) w χ (h (q + 1)) w')
    (hu : VR χ (v q) u) (hdst : ∀ d, x.2.o.dst = some d → d < a.tmps.size) : Inv L fr h v φ0 w0 a0 S' (q + 1) χ (putO f x.2.o.dst (v q)) (a.put x.2.o.dst u) w' := by
  have hqN := len_of hx
  have hne : ∀ (p : Nat) (y : Nat × DO), q + 1 ≤ p → L[p]? = some y → S' y.1 → S y.1 := fun p y hp hy hs => by
    rcases (hS' y.1).1 hs with k | k
    · exact k
    · have := st.inj hy hx k; omega
  have hm := fun {p q : Nat} (h1 : p ≤ q) (h2 : q ≤ L.length) => can.mono hrise h1 h2
  obtain ⟨g1, g2⟩ := I.hrAt can hcq (by omega) hprev
  refine ⟨by omega, .inr ⟨q, x, rfl, hx, hE⟩, fun p y hp hy => ?_, fun p y hp hy hs => I.high p y (by omega) hy (hne p y hp hy hs), (I.slots st hx hS').1, (I.slots st hx hS').2, I.fr.put stp.le hu hdst, ?_,
    stp.hr.fresh, fun b h1 h2 h3 => ?_, by rw [put_defers, I.defs], by rw [put_size, I.size]⟩
  · rcases Nat.lt_or_ge p q with k | k
    · exact (hS' y.1).2 (.inl (hprev p y k hy))
    · have : p = q := by omega
      subst this
      rw [hx] at hy; cases hy
      exact (hS' x.1).2 (.inr rfl)
  · refine I.sx.eff hr stp g2 (hm (Nat.zero_le _) (by omega)) (hm (by omega) (Nat.le_refl _)) fun b z hz _ => ?_
    rcases hz with ⟨_, k⟩ | ⟨p, y, k1, k2, k3, k4, k5⟩
    · exact .inl k
    · have := len_of k2
      refine .inr ⟨by rw [k4]; exact hm k1 (by omega), .inr ⟨p, y, by omega, k2, hne p y k1 k2 k3, k4, k5⟩⟩
  · rw [stp.new b (.inr h1)]
    refine I.free b (Nat.le_trans (hm (by omega) (by omega)) h1) h2 fun p y z k1 k2 k3 k4 => ?_
    rcases Nat.lt_trichotomy p q with k | k | k
    · intro e
      have e1 : (h (p + 1)).next = (h p).next + 1 := by rw [k4]; rfl
      have := hm (p := p + 1) (q := q + 1) (by omega) (by omega)
      omega
    · subst k
      rw [hx] at k2; cases k2
      exact absurd k3 hS
    · exact h3 p y z k k2 ((hS' y.1).2 (.inl k3)) k4
theorem Inv.agree (st : Stat P nt ops L D) (can : Can env call L fr h v yes) (I : Inv L fr h v φ0 w0 a0 S c φ f a w) (hx : L[q]? = some x) (hS : ¬ S x.1) (hD : ∀ i, D i x.1 → S i)
    (hU : ∀ (p : Nat) (y : Nat × DO), L[p]? = some y → S y.1 → ¬ D x.1 y.1) : Agree x.2.o.looks (fr q) f := by
  intro t ht
  rcases can.ev_at t (q := q) (by have := len_of hx; omega) with ⟨p, y, hp, hy, hd, he⟩ | ⟨hn, he⟩
  · rw [he]
    exact (I.put p y t hy (hD _ (st.wr p q y x hp hy hx t hd ht)) hd).symm
  · rw [he]
    refine (I.un t fun p y hy hs hd => ?_).symm
    rcases Nat.lt_trichotomy p q with k | k | k
    · exact hn p y k hy hd
    · subst k
      rw [hx] at hy; cases hy
      exact hS hs
    · exact hU p y hy hs (st.rw q p x y k hx hy t hd ht)
theorem Inv.step (st : Stat P nt ops L D) (can : Can env call L fr h v yes) (hrise : Rises call) (hcall : CallOk P env call) (ok0 : EnvOk P φ0 env) (hnt : nt ≤ a0.tmps.size) (I : Inv L fr h v φ0 w0 a0 S c φ f a w)
    (hx : L[q]? = some x) (hS : ¬ S x.1) (hS' : ∀ i, S' i ↔ (S i ∨ i = x.1)) (hD : ∀ i, D i x.1 → S i) (hU : ∀ (p : Nat) (y : Nat × DO), L[p]? = some y → S y.1 → ¬ D x.1 y.1) {K : Act → World → Prop} {Q : Exit → Act → World → Prop}
    (hk : ∀ c' φ' f' a' w', Inv L fr h v φ0 w0 a0 S' c' φ' f' a' w' → K a' w') : wpOp P ops Q x.1 K a w := by
  obtain ⟨o, ho, hc⟩ := st.comp q x hx
  obtain ⟨c1, c2, c3, c4⟩ := cOper_some hc
  have hqN := len_of hx
  have ok : EnvOk P φ env := ok0.mono I.sx.le
  have hcq : c ≤ q := by
    rcases Nat.lt_or_ge q c with k | k
    · exact absurd (I.low q x k hx) hS
    · exact k
  have hag := I.agree st can hx hS hD hU
  have hag1 : Agree (gtmps x.2.o.guard) (fr q) f := hag.left
  have hag2 : Agree x.2.o.op.tmps (fr q) f := hag.right
  have hgate := gate_agree hag1
  obtain ⟨g1, g2⟩ := gate_ok c2 I.fr
  have hdst : ∀ d, x.2.o.dst = some d → d < a.tmps.size := fun d e => by
    rw [I.size]
    exact Nat.lt_of_lt_of_le (c4 d (c3 ▸ e)) hnt
  have hprev : isE x.2.o.op = true → ∀ (p : Nat) (y : Nat × DO), p < q → L[p]? = some y → S y.1 := fun he p y hp hy => hD _ (st.eff p q y x hp hy hx he)
  have hmono := fun {p q : Nat} (h1 : p ≤ q) (h2 : q ≤ L.length) => can.mono hrise h1 h2
  unfold wpOp
  rw [ho]
  simp only
  have hput : ∀ u, a.put o.dst u = a.put x.2.o.dst u := fun u => by rw [c3]
  rcases can.step q x hx with ⟨hy, hg, hv⟩ | ⟨hy, hg, hv, hh⟩
  case inr =>
    rw [hgate] at hg
    rw [if_neg (by rw [g2 hg]; simp)]
    cases hE : isE x.2.o.op with
    | false => rw [hput]; exact hk _ _ _ _ _ (I.still st hx hS' hE hh (by rw [hv]; exact undef_rel) hdst)
    | true =>
      obtain ⟨r1, r2⟩ := I.hrAt can hcq (by omega) (hprev hE)
      have hr := I.sx.hr r2 r1
      rw [hput]
      exact hk _ _ _ _ _ (I.effStep st can hrise hx hS hS' hcq hE (hprev hE) hr (by rw [hh]; exact .refl hr) (by rw [hv]; exact undef_rel) hdst)
  rw [hgate] at hg
  rw [if_pos (g1 hg)]
  left
  have hcl : isL x.2.o.op = true → opV env call f (h c) x.2.o.op = some (v q, h c) := by
    intro hl
    rw [← opV_agree hag2]
    refine can.still q x hx hy hl c I.cut ?_ ?_
    · cases hlo : x.2.lo with
      | zero => exact Nat.zero_le _
      | succ k =>
        obtain ⟨y, k1, k2, k3⟩ := st.lo q x hx hl k hlo
        rcases Nat.lt_or_ge k c with kk | kk
        · exact kk
        · have := I.high k y kk k1 (hD _ k3)
          rw [k2] at this; cases this
    · rcases Nat.lt_or_ge x.2.hi c with kk | kk
      · have hlt : x.2.hi < L.length := Nat.lt_of_lt_of_le kk I.cN
        have hy' : L[x.2.hi]? = some L[x.2.hi] := List.getElem?_eq_getElem hlt
        exact absurd (st.hi q x hx hl _ hy') (hU _ _ hy' (I.low _ _ kk hy'))
      · exact kk
  have hltc : ∀ b, ((h c).blk b).live = true → b < (h c).next := fun b hb => by
    rcases Nat.lt_or_ge b (h c).next with k | k
    · exact k
    · rw [I.fresh b k] at hb; cases hb
  have hrc : HR φ (h c) w := I.sx.hr (fun b hb => .inl ⟨hltc b hb, rfl⟩) I.fresh
  rw [opV_agree hag2] at hv
  generalize hop : x.2.o.op = m at *
  cases m with
  | p p =>
    simp only [opV] at hv
    split at hv
    case h_2 => cases hv
    rename_i v' hv'
    simp only [Option.some.injEq, Prod.mk.injEq] at hv
    obtain ⟨u, h1, h2⟩ := p_sim ok I.fr c1 hv'
    rw [hv.1] at h1
    exact run_value (h2 w) (by rw [hput]; exact hk _ _ _ _ _ (I.still st hx hS' (by rw [hop]; rfl) hv.2.symm h1 hdst))
  | load1 y =>
    have hcl := hcl rfl
    have hqq : h (q + 1) = h q := by
      simp only [opV] at hv
      repeat' (first | (cases hv; done) | split at hv)
      simp only [Option.some.injEq, Prod.mk.injEq] at hv
      exact hv.2.symm
    simp only [opV] at hcl
    split at hcl
    case h_2 => cases hcl
    rename_i b k ha
    split at hcl
    case h_2 => cases hcl
    rename_i z l hl
    simp only [Option.some.injEq, Prod.mk.injEq] at hcl
    obtain ⟨pl, us, r1, r2, r3, r4⟩ := hrc.read hl
    cases r3 with | cons _ u _ us' k1 k2 =>
    rw [hcl.1] at k1
    exact run_value (load1_sim ok I.fr c1 ha r1 r4 rfl) (by rw [hput]; exact hk _ _ _ _ _ (I.still st hx hS' (by rw [hop]; rfl) hqq k1 hdst))
  | loadn n y =>
    have hcl := hcl rfl
    have hqq : h (q + 1) = h q := by
      simp only [opV] at hv
      repeat' (first | (cases hv; done) | split at hv)
      simp only [Option.some.injEq, Prod.mk.injEq] at hv
      exact hv.2.symm
    simp only [opV] at hcl
    split at hcl
    case h_2 => cases hcl
    rename_i b k ha
    split at hcl
    case h_2 => cases hcl
    rename_i l hl
    simp only [Option.some.injEq, Prod.mk.injEq] at hcl
    obtain ⟨pl, us, r1, r2, r3, r4⟩ := hrc.read hl
    have hu : VR φ (v q) (.agg us.toArray) := by rw [← hcl.1]; exact .agg _ _ (by simpa using r3)
    exact run_value (loadn_sim ok I.fr c1 ha r1 r4 (by rw [← r3.length, r2])) (by rw [hput]; exact hk _ _ _ _ _ (I.still st hx hS' (by rw [hop]; rfl) hqq hu hdst))
  | a p =>
    simp only [opV] at hv
    split at hv
    case h_2 => cases hv
    rename_i blk mk hv'
    simp only [Option.some.injEq, Prod.mk.injEq] at hv
    obtain ⟨hv1, hv2⟩ := hv
    obtain ⟨u, obj, pl, w1, h1, h2, h3, h4, h5⟩ := a_sim ok I.fr c1 hv' w
    have hnq : (h (q + 1)).next = (h q).next + 1 := by rw [← hv2]; rfl
    have hb1 : (h c).next ≤ (h q).next := hmono hcq (by omega)
    have hb2 : (h q).next < (h L.length).next := by have := hmono (p := q + 1) (q := L.length) (by omega) (Nat.le_refl _); omega
    have hfree : φ.at_ (h q).next = none := I.free _ hb1 hb2 fun p y z k1 k2 k3 k4 e => by
      have e1 : (h (p + 1)).next = (h p).next + 1 := by rw [k4]; rfl
      have := len_of k2
      rcases Nat.lt_trichotomy p q with k | k | k
      · have := hmono (p := p + 1) (q := q) (by omega) (by omega); omega
      · subst k
        rw [hx] at k2; cases k2
        exact hS k3
      · have := hmono (p := q + 1) (q := p) (by omega) (by omega); omega
    have hsx1 : Sx φ0 (h 0) w0 φ (AtS L h S c) w1 (h L.length).next := by
      rcases h1 with rfl | rfl
      · exact I.sx
      · exact I.sx.drew
    have hsz : w1.heap.size = w.heap.size := by rcases h1 with rfl | rfl <;> rfl
    have hat : ∀ b' x', AtS L h S' c b' x' → x'.live = true → (b' = (h q).next ∧ x' = blk) ∨ (b' ≠ (h q).next ∧ AtS L h S c b' x') := by
      intro b' x' hz hl
      rcases hz with ⟨k1, k2⟩ | ⟨p, y, k1, k2, k3, k4, k5⟩
      · exact .inr ⟨by omega, .inl ⟨k1, k2⟩⟩
      · have := len_of k2
        have e1 : (h (p + 1)).next = (h p).next + 1 := by rw [k5]; rfl
        rcases Nat.lt_trichotomy p q with k | k | k
        · refine .inr ⟨by have := hmono (p := p + 1) (q := q) (by omega) (by omega); omega, .inr ⟨p, y, k1, k2, ?_, k4, k5⟩⟩
          rcases (hS' y.1).1 k3 with s | s
          · exact s
          · have := st.inj k2 hx s; omega
        · subst k
          refine .inl ⟨k4, ?_⟩
          rw [← hv2] at k5
          have := congrArg (fun g => g.blk (h p).next) k5
          simp only [blk_new, if_true] at this
          exact this.symm
        · refine .inr ⟨by have := hmono (p := q + 1) (q := p) (by omega) (by omega); omega, .inr ⟨p, y, k1, k2, ?_, k4, k5⟩⟩
          rcases (hS' y.1).1 k3 with s | s
          · exact s
          · have := st.inj k2 hx s; omega
    have hsx2 := hsx1.alloc (b := (h q).next) (x := blk) (o := obj) (pl := pl) (hmono (Nat.zero_le _) (by omega)) hb2 hfree (by rw [hsz]; exact h3) (fun χ w' hle hh => h5 χ w' hle (by rw [← hsz]; exact hh)) hat
    have hle : φ.Le ⟨fun y => if y = (h q).next then some pl else φ.at_ y, φ.sym⟩ := ⟨fun y z e => by
      show (if y = (h q).next then some pl else φ.at_ y) = some z
      split
      · rename_i e'; rw [e', hfree] at e; cases e
      · exact e, rfl⟩
    have hu := h4 ⟨fun y => if y = (h q).next then some pl else φ.at_ y, φ.sym⟩ (h q).next hle (by show (if (h q).next = (h q).next then some pl else _) = _; rw [if_pos rfl])
    rw [hv1] at hu
    refine run_value h2 ?_
    rw [hput]
    refine hk _ _ _ _ _ (I.quietStep st hx hS' (by rw [hop]; rfl) hle hu hdst hsx2 fun b k1 k2 k3 => ?_)
    show (if b = (h q).next then some pl else φ.at_ b) = none
    rw [if_neg (k3 q x blk hcq hx ((hS' x.1).2 (.inr rfl)) hv2.symm)]
    exact I.free b k1 k2 fun p y z m1 m2 m3 m4 => k3 p y z m1 m2 ((hS' y.1).2 (.inl m3)) m4
  | e p =>
    obtain ⟨r1, r2⟩ := I.hrAt can hcq (by omega) (hprev rfl)
    have hr := I.sx.hr r2 r1
    have hfr : Fresh φ (h q).next (h (q + 1)).next := fun b k1 k2 => I.free b (Nat.le_trans (hmono hcq (by omega)) k1) (Nat.lt_of_lt_of_le k2 (hmono (by omega) (Nat.le_refl _))) fun p y z m1 m2 m3 m4 e => by
      have e1 : (h (p + 1)).next = (h p).next + 1 := by rw [m4]; rfl
      have := len_of m2
      rcases Nat.lt_trichotomy p q with k | k | k
      · have := hmono (p := p + 1) (q := q) (by omega) (by omega); omega
      · subst k
        rw [hx] at m2; cases m2
        exact hS m3
      · have := hmono (p := q + 1) (q := p) (by omega) (by omega); omega
    exact op_sim ok hcall I.fr c1 hr hfr hv fun u ψ w' k1 k2 => by rw [hput]; exact hk _ _ _ _ _ (I.effStep st can hrise hx hS hS' hcq (by rw [hop]; rfl) (hprev rfl) hr k2 k1 hdst)
end
end Go.Vm
end

section
namespace Go.Vm
variable {P : Program}
section
variable {env : Env} {call : Nat → List V → Hp → Option (V × Hp)} {nt : Nat} {ops : Array Oper} {L : List (Nat × DO)} {D : Nat → Nat → Prop} {fr : Nat → Fr} {h : Nat → Hp} {v : Nat → V} {yes : Nat → Bool}
  {φ0 φ : Emb} {w0 w : World} {a0 a : Act} {c : Nat} {f : Fr}
def Lst (listed : Array Bool) (i : Nat) : Prop := listed.getD i true = true
theorem Lst.of_false {listed : Array Bool} {i : Nat} (h : listed.getD i false = true) : Lst listed i := by
  unfold Lst
  rcases Nat.lt_or_ge i listed.size with k | k
  · simp [k] at h ⊢; exact h
  · simp [Array.getElem?_eq_none k] at h
theorem Lst.to_false {listed : Array Bool} {i : Nat} (h : Lst listed i) (hi : i < listed.size) : listed.getD i false = true := by
  unfold Lst at h
  simp [hi] at h ⊢
  exact h
theorem lst_set {listed : Array Bool} {j : Nat} (hj : j < listed.size) (i : Nat) : Lst (listed.setIfInBounds j true) i ↔ (Lst listed i ∨ i = j) := by
  unfold Lst
  by_cases e : j = i
  · subst e; simp [hj]
  · rw [getD_set_ne true e]
    constructor
    · exact .inl
    · rintro (k | k)
      · exact k
      · exact absurd k.symm e
theorem Stat.ready (st : Stat P nt ops L D) {listed : Array Bool} (hs : listed.size = ops.size) {p : Nat} {x : Nat × DO} (hx : L[p]? = some x) (hn : ¬ Lst listed x.1) (hprev : ∀ (q : Nat) (y : Nat × DO), q < p → L[q]? = some y → Lst listed y.1) :
    x.1 ∈ Region.ready .any ops listed := by
  obtain ⟨o, ho, _⟩ := st.comp p x hx
  have hxn := (Array.getElem?_eq_some_iff.1 ho).1
  refine mem_ready.2 ⟨by simpa [Lst] using hn, o, ho, fun e he hb => ?_⟩
  obtain ⟨d1, d2⟩ := st.dep x.1 o e ho he hb
  obtain ⟨q, y, hy, ey⟩ := st.cover e.on d2
  rw [← ey] at d1 d2 ⊢
  refine Lst.to_false (hprev q y ?_ hy) (by omega)
  rcases Nat.lt_trichotomy q p with k | k | k
  · exact k
  · subst k
    rw [hx] at hy; cases hy
    exact absurd d1 (st.irr _ hxn)
  · exact absurd d1 (st.topo p q x y k hx hy)
theorem Stat.all_of (st : Stat P nt ops L D) {listed : Array Bool} (hs : listed.size = ops.size) (hr : Region.ready .any ops listed = []) : ∀ (p : Nat) (x : Nat × DO), L[p]? = some x → Lst listed x.1 := by
  intro p
  induction p using Nat.strongRecOn with
  | _ p ih =>
    intro x hx
    by_cases hn : Lst listed x.1
    · exact hn
    · have := st.ready hs hx hn fun q y hq hy => ih q hq y hy
      rw [hr] at this
      cases this
theorem Inv.done (can : Can env call L fr h v yes) (hrise : Rises call) {S : Nat → Prop} (I : Inv L fr h v φ0 w0 a0 S c φ f a w) (hall : ∀ (p : Nat) (x : Nat × DO), L[p]? = some x → S x.1) :
    FR φ (fr L.length) a ∧ St φ0 (h 0) w0 φ (h L.length) w := by
  constructor
  · intro t
    have ht := I.fr t
    have : ev f (.tmp t) = ev (fr L.length) (.tmp t) := by
      rcases can.ev_at t (q := L.length) (Nat.le_refl _) with ⟨p, y, hp, hy, hd, he⟩ | ⟨hn, he⟩
      · rw [he]; exact I.put p y t hy (hall p y hy) hd
      · rw [he]; exact I.un t fun p y hy _ hd => hn p y (len_of hy) hy hd
    rw [← this]; exact ht
  · obtain ⟨r1, r2⟩ := I.hrAt can I.cN (Nat.le_refl _) fun p y _ hy => hall p y hy
    exact I.sx.done r2 r1 (can.mono hrise (Nat.zero_le _) (Nat.le_refl _))
theorem any_order (st : Stat P nt ops L D) (can : Can env call L fr h v yes) (hrise : Rises call) (hcall : CallOk P env call) (ok0 : EnvOk P φ0 env) (hnt : nt ≤ a0.tmps.size) {Q : Exit → Act → World → Prop}
    (hk : ∀ ψ a' w', FR ψ (fr L.length) a' → St φ0 (h 0) w0 ψ (h L.length) w' → a'.defers = a0.defers → a'.tmps.size = a0.tmps.size → Q .normal a' w') :
    ∀ (fuel : Nat) (U : List Nat) (listed : Array Bool) (c : Nat) (φ : Emb) (f : Fr) (a : Act) (w : World), U.length ≤ fuel → (∀ i, i < ops.size → ¬ Lst listed i → i ∈ U) → listed.size = ops.size →
      (∀ j, j < ops.size → Lst listed j → ∀ i, D i j → Lst listed i) → Inv L fr h v φ0 w0 a0 (Lst listed) c φ f a w → wpAny P .any ops Q fuel listed a w := by
  intro fuel
  have fin : ∀ (listed : Array Bool) (c : Nat) (φ : Emb) (f : Fr) (a : Act) (w : World), listed.size = ops.size → Inv L fr h v φ0 w0 a0 (Lst listed) c φ f a w → Region.ready .any ops listed = [] → Q .normal a w := by
    intro listed c φ f a w hs I hr
    obtain ⟨k1, k2⟩ := I.done can hrise (st.all_of hs hr)
    exact hk φ a w k1 k2 I.defs I.size
  induction fuel with
  | zero =>
    intro U listed c φ f a w hU hin hs hdown I
    have hr : Region.ready .any ops listed = [] := by
      rw [List.eq_nil_iff_forall_not_mem]
      intro j hj
      obtain ⟨h1, o, ho, _⟩ := mem_ready.1 hj
      have := hin j (Array.getElem?_eq_some_iff.1 ho).1 (by unfold Lst; rw [h1]; simp)
      have hU0 : U = [] := List.length_eq_zero_iff.1 (by omega)
      rw [hU0] at this
      cases this
    exact ⟨hr, fin listed c φ f a w hs I hr⟩
  | succ fuel ih =>
    intro U listed c φ f a w hU hin hs hdown I
    refine ⟨fin listed c φ f a w hs I, fun j hj => ?_⟩
    obtain ⟨h1, o, ho, hdep⟩ := mem_ready.1 hj
    have hjn := (Array.getElem?_eq_some_iff.1 ho).1
    have hnl : ¬ Lst listed j := by unfold Lst; rw [h1]; simp
    obtain ⟨q, x, hx, ex⟩ := st.cover j hjn
    subst ex
    have hD : ∀ i, D i x.1 → Lst listed i := by
      intro i hi
      obtain ⟨e, he, hb, hor⟩ := st.step x.1 o i ho hi
      have hl := Lst.of_false (hdep e he hb)
      rcases hor with rfl | hd
      · exact hl
      · exact hdown e.on (st.dep x.1 o e ho he hb).2 hl i hd
    refine I.step st can hrise hcall ok0 hnt hx hnl (lst_set (by omega)) hD (fun p y hy hs' hd => ?_) fun c' φ' f' a' w' I' => ?_
    · obtain ⟨o', ho', _⟩ := st.comp p y hy
      exact hnl (hdown y.1 (Array.getElem?_eq_some_iff.1 ho').1 hs' x.1 hd)
    · refine ih (U.erase x.1) (listed.setIfInBounds x.1 true) c' φ' f' a' w' ?_ ?_ (by simpa using hs) ?_ I'
      · have := List.length_erase_of_mem (hin x.1 hjn hnl)
        omega
      · intro i hi hni
        have h2 : ¬ Lst listed i := fun hl => hni ((lst_set (by omega) i).2 (.inl hl))
        have h3 : i ≠ x.1 := fun e => hni ((lst_set (by omega) i).2 (.inr e))
        exact (List.mem_erase_of_ne h3).2 (hin i hi h2)
      · intro j' hj' hl i hi
        rcases (lst_set (by omega) j').1 hl with k | k
        · exact (lst_set (by omega) i).2 (.inl (hdown j' hj' k i hi))
        · subst k; exact (lst_set (by omega) i).2 (.inl (hD i hi))
end
theorem dregion_wp (hm : P.follows .mixedOrders = true) {env : Env} {call : Nat → List V → Hp → Option (V × Hp)} (hrise : Rises call) (hcall : CallOk P env call) {nt : Nat} {ops : Array Oper} {l : List DO} (hc : cDraw P nt ops = some l)
    {fr0 fr' : Fr} {h0 h' : Hp} (hv : runD env call l 0 fr0 h0 [(0, h0)] [] = some (fr', h')) {φ : Emb} {a : Act} {w : World} (ok : EnvOk P φ env) (hf : FR φ fr0 a) (hr : HR φ h0 w) (hfr : Fresh φ h0.next h'.next) (hn : nt ≤ a.tmps.size)
    {id : Nat} {Q : Exit → Act → World → Prop} (hk : ∀ ψ a' w', FR ψ fr' a' → St φ h0 w ψ h' w' → a'.defers = a.defers → a'.tmps.size = a.tmps.size → Q .normal a' w') : (Code.region id ops true).wp P Q a w := by
  obtain ⟨L, D, st, rfl⟩ := stat_of hc
  obtain ⟨fr, h, v, yes, can, rfl, rfl, rfl, rfl⟩ := can_of hv
  refine wp_region_any hm ?_
  have hlst : ∀ i, i < ops.size → ¬ Lst (Array.replicate ops.size false) i := fun i hi hl => by
    unfold Lst at hl
    simp [hi] at hl
  have hno : ∀ (p : Nat) (y : Nat × DO), L[p]? = some y → ¬ Lst (Array.replicate ops.size false) y.1 := fun p y hy => by
    obtain ⟨o, ho, _⟩ := st.comp p y hy
    exact hlst _ (Array.getElem?_eq_some_iff.1 ho).1
  refine any_order st can hrise hcall ok hn (w0 := w.drew) (fun ψ a' w' k1 k2 k3 k4 => hk ψ a' w' k1 ((St.drew hr).trans k2) k3 k4) ops.size (List.range ops.size) _ 0 φ (fr 0) a w.drew (by simp) (fun i hi _ => List.mem_range.2 hi) (by simp)
    (fun j hj hl => absurd hl (hlst j hj)) ⟨Nat.zero_le _, .inl rfl, fun p x hp => absurd hp (Nat.not_lt_zero _), fun p x _ hx hs => absurd hs (hno p x hx), fun p x t hx hs => absurd hs (hno p x hx), fun _ _ => rfl, hf, ?_, hr.fresh, ?_, rfl, rfl⟩
  · refine (Sx.start hr.drew).mono fun b x hz _ => ?_
    rcases hz with ⟨_, k⟩ | ⟨p, y, _, k2, k3, _⟩
    · exact k
    · exact absurd k3 (hno p y k2)
  · intro b k1 k2 _
    exact hfr b k1 k2
end Go.Vm
end

section
namespace Go.Vm
variable {P : Program}
def resS (t : Array Value) : ResultVar → Sem Value
  | .tmp x => pure (t.getD x undef)
  | .cell a ty => do loadVar ty (← asAddr (t.getD a undef))
theorem res1_sim {φ : Emb} {fr : Fr} {a : Act} (hf : FR φ fr a) {h : Hp} {w : World} (hr : HR φ h w) {r : ResultVar} {rv : RV} (hc : cRes P r = some rv) {v : V} (hv : res1 fr h rv = some v) :
    ∃ u, (resS a.tmps r).run P w = .ok u w ∧ VR φ v u := by
  cases r with
  | tmp t =>
    simp only [cRes, Option.some.injEq] at hc
    subst hc
    simp only [res1, Option.some.injEq] at hv
    subst hv
    exact ⟨_, rfl, hf t⟩
  | cell t ty =>
    have rt := hf t
    simp only [cRes] at hc
    split at hc
    · rename_i n h1 h2
      cases hc
      simp only [res1] at hv
      split at hv
      case h_2 => cases hv
      rename_i b o hb
      rw [hb] at rt
      split at hv
      case h_2 => cases hv
      rename_i l hl
      cases hv
      generalize ht : a.tmps.getD t undef = tu at rt
      cases rt with | ptr _ _ pl hp =>
      obtain ⟨pl', us, r1, r2, r3, r4⟩ := hr.read hl
      rw [hp] at r1; cases r1
      refine ⟨.agg us.toArray, ?_, .agg _ _ (by simpa using r3)⟩
      have := (load_cells (P := P) h1 h2 r4).1 rfl (by rw [← r3.length, r2])
      simp only [resS, ht, asAddr, pure_bind]
      exact this
    · rename_i n h1 h2
      cases hc
      simp only [res1] at hv
      split at hv
      case h_2 => cases hv
      rename_i b o hb
      rw [hb] at rt
      split at hv
      case h_2 => cases hv
      rename_i z l hl
      cases hv
      generalize ht : a.tmps.getD t undef = tu at rt
      cases rt with | ptr _ _ pl hp =>
      obtain ⟨pl', us, r1, r2, r3, r4⟩ := hr.read hl
      rw [hp] at r1; cases r1
      cases r3 with | cons _ u _ us' k1 k2 =>
      refine ⟨u, ?_, k1⟩
      have := (load_cells (P := P) h1 h2 r4).2 rfl u rfl
      simp only [resS, ht, asAddr, pure_bind]
      exact this
    · cases hc
theorem resL_sim {φ : Emb} {fr : Fr} {a : Act} (hf : FR φ fr a) {h : Hp} {w : World} (hr : HR φ h w) : ∀ {l : List ResultVar} {rvs : List RV} {r : List V}, mapO (cRes P) l = some rvs → resV fr h rvs = some r →
    ∃ us, (l.mapM (resS a.tmps)).run P w = .ok us w ∧ VRs φ r us
  | [], rvs, r, hc, hv => by
    simp [mapO] at hc; subst hc
    simp [resV] at hv; subst hv
    exact ⟨[], by simp, .nil⟩
  | x :: l, rvs, r, hc, hv => by
    obtain ⟨y, q, h1, h2, rfl⟩ := mapO_cons hc
    simp only [resV] at hv
    split at hv
    case h_2 => cases hv
    rename_i v hv1
    split at hv
    case h_2 => cases hv
    rename_i r' hv2
    cases hv
    obtain ⟨u, k1, k2⟩ := res1_sim hf hr h1 hv1
    obtain ⟨us, k3, k4⟩ := resL_sim hf hr h2 hv2
    exact ⟨u :: us, by simp [List.mapM_cons, k1, k3], .cons _ _ _ _ k2 k4⟩
theorem results_sim {φ : Emb} {fr : Fr} {a : Act} (hf : FR φ fr a) {h h' : Hp} {w : World} (hr : HR φ h w) {fn : Func} {rvs : List RV} {v : V} (hc : mapO (cRes P) fn.results.toList = some rvs) (hv : resP fr h rvs = some (v, h')) :
    h' = h ∧ ∃ u, (results fn a.tmps).run P w = .ok u w ∧ VR φ v u := by
  unfold resP at hv
  split at hv
  case h_2 => cases hv
  rename_i r hr'
  cases hv
  refine ⟨rfl, ?_⟩
  obtain ⟨us, h1, h2⟩ := resL_sim hf hr hc hr'
  have he : results fn a.tmps = (do let vs ← fn.results.mapM (resS a.tmps); pure (if h : vs.size = 1 then vs[0] else .tuple vs)) := by
    unfold results
    congr 1
  rw [he]
  have hm : (fn.results.mapM (resS a.tmps)).run P w = .ok us.toArray w := by
    rw [Array.mapM_eq_mapM_toList]
    simp [h1]
  simp only [Sem.run_bind, hm, Result.andThen_ok, Sem.run_pure]
  refine ⟨_, rfl, ?_⟩
  cases h2 with
  | nil => simp only [tupOf]; exact .tup _ _ .nil
  | cons v u l rr k1 k2 =>
    cases k2 with
    | nil => simpa [tupOf] using k1
    | cons v2 u2 l2 r2 k3 k4 => simp only [tupOf]; exact .tup _ _ (.cons _ _ _ _ k1 (.cons _ _ _ _ k3 k4))
theorem ev_argsFr : ∀ (l : List V) (n : Nat) (fr : Fr) (t : Nat), ev (argsFr l n fr) (.tmp t) = if n ≤ t ∧ t < n + l.length then l.getD (t - n) (.tup []) else ev fr (.tmp t)
  | [], n, fr, t => by rw [if_neg (by simp)]; rfl
  | v :: l, n, fr, t => by
    simp only [argsFr]
    rw [ev_argsFr l (n + 1) (fr.set n v) t]
    simp only [List.length_cons]
    by_cases e : t = n
    · subst e
      rw [if_neg (by omega), if_pos (by omega)]
      simp [ev, T.get_set]
    · by_cases k : n + 1 ≤ t ∧ t < n + 1 + l.length
      · rw [if_pos k, if_pos (by omega), show t - n = (t - (n + 1)) + 1 by omega]
        simp
      · rw [if_neg k, if_neg (by omega)]
        simp [ev, T.get_set, e]
theorem VRs.getD {φ : Emb} : ∀ {l : List V} {r : List Value}, VRs φ l r → ∀ (i : Nat), VR φ (l.getD i (.tup [])) (r.getD i undef)
  | _, _, .nil, i => by simpa using undef_rel
  | _, _, .cons v u l r h h', 0 => by simpa using h
  | _, _, .cons v u l r h h', i + 1 => by simpa using VRs.getD h' i
theorem FR.start {φ : Emb} {args : List V} {us : List Value} (hr : VRs φ args us) (n : Nat) : FR φ (argsFr args 0 .leaf) { tmps := us.toArray ++ Array.replicate (n - us.toArray.size) undef, defers := [] } := by
  intro t
  rw [ev_argsFr]
  simp only [Nat.zero_le, true_and, Nat.zero_add, Nat.sub_zero]
  have hl := hr.length
  by_cases k : t < args.length
  · rw [if_pos k]
    have := hr.getD t
    have e : (us.toArray ++ Array.replicate (n - us.toArray.size) undef).getD t undef = us.getD t undef := by
      rw [Array.getD_eq_getD_getElem?, Array.getElem?_append_left (by simp; omega)]
      simp
    rw [e]; exact this
  · rw [if_neg k]
    have e : (us.toArray ++ Array.replicate (n - us.toArray.size) undef).getD t undef = undef := by
      rw [Array.getD_eq_getD_getElem?, Array.getElem?_append_right (by simp; omega), Array.getElem?_replicate]
      split <;> rfl
    rw [e]
    simpa [ev] using undef_rel
def exitOf : Res → Option (Exit × Fr × Hp)
  | .fail => none
  | .ok fr h => some (.normal, fr, h)
  | .exit id fr h => some (.exit id, fr, h)
  | .ret fr h => some (.ret, fr, h)
def Valid (P : Program) (p : Prog) : Prop := ∀ f m, p.funs.get f = some m → ∃ fn, P.funcs[f]? = some fn ∧ cFun P fn = some m ∧ entered P f = true
def CodeOk (P : Program) (env : Env) (ex : MCode → Fr → Hp → Res) : Prop :=
  ∀ (c : Code) (m : MCode) (nt : Nat) (φ : Emb) (fr fr' : Fr) (h h' : Hp) (e : Exit) (a : Act) (w : World) (Q : Exit → Act → World → Prop), cCode P nt c = some m → exitOf (ex m fr h) = some (e, fr', h') →
    EnvOk P φ env → FR φ fr a → HR φ h w → Fresh φ h.next h'.next → nt ≤ a.tmps.size →
    (∀ ψ a' w', FR ψ fr' a' → St φ h w ψ h' w' → a'.defers = a.defers → a'.tmps.size = a.tmps.size → Q e a' w') → c.wp P Q a w
theorem callV_ok {p : Prog} (hp : Valid P p) {ext : Ext} (hx : CallOk P p.env ext) {ex : MCode → Fr → Hp → Res} (hc : CodeOk P p.env ex) : CallOk P p.env (callV p ext ex) := by
  intro φ f args h v h' w us hv ok hr hfr hargs
  unfold callV at hv
  split at hv
  · rename_i r hr'
    cases hv
    exact hx φ f args h v h' w us hr' ok hr hfr hargs
  split at hv
  · cases hv
  rename_i m hm
  rw [cond_eq_ite] at hv; split at hv
  case isFalse => cases hv
  rename_i hn
  rw [nbeq] at hn
  obtain ⟨fn, hfn, hcf, hen⟩ := hp f m hm
  unfold cFun at hcf
  split at hcf
  · cases hcf
  rename_i c hb
  split at hcf
  case h_2 => cases hcf
  rename_i mc rvs hmc hrv
  rw [cond_eq_ite] at hcf; split at hcf
  case isFalse => cases hcf
  rename_i hle
  rw [nble] at hle
  cases hcf
  have hl := hargs.length
  refine .inl ⟨hen, calls_of_wp hfn hb ?_⟩
  have go : ∀ e fr1 h1, exitOf (ex mc (argsFr args 0 .leaf) h) = some (e, fr1, h1) → (e = .normal ∨ e = .ret) → resP fr1 h1 rvs = some (v, h') →
      c.wp P (bodyPost P fn fun e w' => ∃ u ψ, e = .returned u ∧ VR ψ v u ∧ St φ h w ψ h' w') { tmps := us.toArray ++ Array.replicate (fn.ntmps - us.toArray.size) undef, defers := [] } w := by
    intro e fr1 h1 he hee hres
    have h1e : h' = h1 := by
      unfold resP at hres
      split at hres <;> cases hres
      rfl
    subst h1e
    refine hc c mc fn.ntmps φ _ fr1 h h' e _ w _ hmc he ok (FR.start hargs fn.ntmps) hr hfr (by simp; omega) fun ψ a' w' k1 k2 k3 k4 => ?_
    obtain ⟨_, u, k5, k6⟩ := results_sim k1 k2.hr hrv hres
    rcases hee with rfl | rfl
    · exact ⟨k3, u, k5, u, ψ, rfl, k6, k2⟩
    · exact ⟨k3, u, k5, u, ψ, rfl, k6, k2⟩
  split at hv
  · rename_i fr1 h1 he
    exact go .normal fr1 h1 (by rw [he]; rfl) (.inl rfl) hv
  · rename_i fr1 h1 he
    exact go .ret fr1 h1 (by rw [he]; rfl) (.inr rfl) hv
  · cases hv
theorem exitOf_next {ex : MCode → Fr → Hp → Res} {m : MCode} {fr fr' : Fr} {h h' : Hp} {e : Exit} (hr : (ex m fr h).rises h.next) (he : exitOf (ex m fr h) = some (e, fr', h')) : h.next ≤ h'.next := by
  cases hx : ex m fr h <;> rw [hx] at hr he <;> cases he <;> exact hr
theorem loop_ok {p : Prog} {ext : Ext} (hrx : Rises ext) {x : Code} {mx : MCode} {nt : Nat} (h1 : cCode P nt x = some mx) : ∀ (n : Nat), (∀ k, k < n → CodeOk P p.env (exec p ext k)) →
    ∀ (φ : Emb) (fr fr' : Fr) (h h' : Hp) (e : Exit) (a : Act) (w : World) (Q : Exit → Act → World → Prop), exitOf (exec p ext n (.loop mx) fr h) = some (e, fr', h') →
    EnvOk P φ p.env → FR φ fr a → HR φ h w → Fresh φ h.next h'.next → nt ≤ a.tmps.size →
    (∀ ψ a' w', FR ψ fr' a' → St φ h w ψ h' w' → a'.defers = a.defers → a'.tmps.size = a.tmps.size → Q e a' w') → Code.rounds P x Q n a w
  | 0, _, φ, fr, fr', h, h', e, a, w, Q, he, _, _, _, _, _, _ => by simp [exec, exitOf] at he
  | n + 1, hall, φ, fr, fr', h, h', e, a, w, Q, he, ok, hf, hr, hfr, hnt, hk => by
    have ih := hall n (Nat.lt_succ_self n)
    have hnx := exec_next (p := p) hrx n
    have ha := hnx mx fr h
    rw [rounds_succ]
    simp only [exec] at he
    split at he
    · rename_i fr1 h1' hx1
      rw [hx1] at ha
      have hb := exitOf_next (hnx (.loop mx) fr1 h1') he
      refine ih x mx nt φ fr fr1 h h1' .normal a w _ h1 (by rw [hx1]; rfl) ok hf hr (hfr.sub hb) hnt fun ψ a' w' k1 k2 k3 k4 => ?_
      refine loop_ok hrx h1 n (fun k hk => hall k (Nat.lt_succ_of_lt hk)) ψ fr1 fr' h1' h' e a' w' Q he (ok.mono k2.le) k1 k2.hr (hfr.step k2) (by omega) fun χ a'' w'' m1 m2 m3 m4 => ?_
      exact hk χ a'' w'' m1 (k2.trans m2) (m3.trans k3) (m4.trans k4)
    · rename_i hno
      refine ih x mx nt φ fr fr' h h' e a w _ h1 he ok hf hr hfr hnt fun ψ a' w' k1 k2 k3 k4 => ?_
      have := hk ψ a' w' k1 k2 k3 k4
      cases e with
      | normal =>
        exfalso
        cases hq : exec p ext n mx fr h <;> rw [hq] at he <;> simp [exitOf] at he
        exact hno _ _ hq
      | _ => exact this
theorem exec_ok (hm : P.follows .mixedOrders = true) {p : Prog} (hp : Valid P p) {ext : Ext} (hrx : Rises ext) (hx : CallOk P p.env ext) (n : Nat) : CodeOk P p.env (exec p ext n) := by
  induction n using Nat.strongRecOn with
  | _ n hall =>
  cases n with
  | zero => exact fun c m nt φ fr fr' h h' e a w Q _ he => by simp [exec, exitOf] at he
  | succ n =>
    have ih := hall n (Nat.lt_succ_self n)
    have hcall := callV_ok hp hx ih
    have hnx := exec_next (p := p) hrx n
    have hrise : Rises (callV p ext (exec p ext n)) := callV_next hrx hnx
    intro c m nt φ fr fr' h h' e a w Q hc he ok hf hr hfr hnt hk
    cases c <;> first | (simp only [cCode, reduceCtorEq] at hc; done) | skip
    all_goals (try simp only [cCode] at hc)
    case skip =>
      cases hc
      simp only [exec, exitOf, Option.some.injEq, Prod.mk.injEq] at he
      obtain ⟨rfl, rfl, rfl⟩ := he
      exact wp_skip (hk φ a w hf (.refl hr) rfl rfl)
    case exit id =>
      cases hc
      simp only [exec, exitOf, Option.some.injEq, Prod.mk.injEq] at he
      obtain ⟨rfl, rfl, rfl⟩ := he
      exact wp_exit (hk φ a w hf (.refl hr) rfl rfl)
    case ret =>
      cases hc
      simp only [exec, exitOf, Option.some.injEq, Prod.mk.injEq] at he
      obtain ⟨rfl, rfl, rfl⟩ := he
      exact wp_ret (hk φ a w hf (.refl hr) rfl rfl)
    case region id ops d =>
      cases d with
      | false =>
        simp only [cCode] at hc
        obtain ⟨mos, h1, h2⟩ := map_some hc
        subst h2
        simp only [exec] at he
        split at he
        case h_2 => cases he
        rename_i fr1 h1' hv
        simp only [exitOf, Option.some.injEq, Prod.mk.injEq] at he
        obtain ⟨rfl, rfl, rfl⟩ := he
        exact wp_region_list (runOps_sim hrise hcall ops.toList h1 hv ok hf hr hfr hnt hk)
      | true =>
        simp only [cCode] at hc
        obtain ⟨mos, h1, h2⟩ := map_some hc
        subst h2
        simp only [exec] at he
        split at he
        case h_2 => cases he
        rename_i fr1 h1' hv
        simp only [exitOf, Option.some.injEq, Prod.mk.injEq] at he
        obtain ⟨rfl, rfl, rfl⟩ := he
        exact dregion_wp hm hrise hcall h1 hv ok hf hr hfr hnt hk
    case seq x y =>
      split at hc
      case h_2 => cases hc
      rename_i mx my h1 h2
      cases hc
      simp only [exec] at he
      have ha := hnx mx fr h
      refine wp_seq_k fun K hK => ?_
      split at he
      · rename_i fr1 h1' hx1
        rw [hx1] at ha
        have hb := exitOf_next (hnx my fr1 h1') he
        refine ih x mx nt φ fr fr1 h h1' .normal a w _ h1 (by rw [hx1]; rfl) ok hf hr (hfr.sub hb) hnt fun ψ a' w' k1 k2 k3 k4 => ?_
        refine hK _ _ (ih y my nt ψ fr1 fr' h1' h' e a' w' Q h2 he (ok.mono k2.le) k1 k2.hr (hfr.step k2) (by omega) fun χ a'' w'' m1 m2 m3 m4 => ?_)
        exact hk χ a'' w'' m1 (k2.trans m2) (m3.trans k3) (m4.trans k4)
      · rename_i hno
        refine ih x mx nt φ fr fr' h h' e a w _ h1 he ok hf hr hfr hnt fun ψ a' w' k1 k2 k3 k4 => ?_
        have := hk ψ a' w' k1 k2 k3 k4
        cases e with
        | normal =>
          exfalso
          cases hq : exec p ext n mx fr h <;> rw [hq] at he <;> simp [exitOf] at he
          exact hno _ _ hq
        | _ => exact this
    case cond g x y =>
      split at hc
      case h_2 => cases hc
      rename_i cg mx my h0 h1 h2
      cases hc
      simp only [exec] at he
      have rg := opd_rel ok.gl hf h0
      split at he
      · rename_i hg
        rw [hg] at rg
        generalize hu : a.eval g = u at rg
        cases rg
        exact wp_cond_true hu (ih x mx nt φ fr fr' h h' e a w Q h1 he ok hf hr hfr hnt hk)
      · rename_i hg
        rw [hg] at rg
        generalize hu : a.eval g = u at rg
        cases rg
        exact wp_cond_false hu (ih y my nt φ fr fr' h h' e a w Q h2 he ok hf hr hfr hnt hk)
      · cases he
    case block id x =>
      obtain ⟨mx, h1, h2⟩ := map_some hc
      subst h2
      simp only [exec] at he
      refine wp_block ?_
      split at he
      · rename_i id' fr1 h1' hx1
        rw [cond_eq_ite] at he
        split at he
        · rename_i hid
          rw [nbeq] at hid
          simp only [exitOf, Option.some.injEq, Prod.mk.injEq] at he
          obtain ⟨rfl, rfl, rfl⟩ := he
          refine ih x mx nt φ fr fr1 h h1' (.exit id') a w _ h1 (by rw [hx1]; rfl) ok hf hr hfr hnt fun ψ a' w' k1 k2 k3 k4 => ?_
          simp only [Exit.inBlock, hid, if_true]
          exact hk ψ a' w' k1 k2 k3 k4
        · rename_i hid
          rw [nbeq] at hid
          simp only [exitOf, Option.some.injEq, Prod.mk.injEq] at he
          obtain ⟨rfl, rfl, rfl⟩ := he
          refine ih x mx nt φ fr fr1 h h1' (.exit id') a w _ h1 (by rw [hx1]; rfl) ok hf hr hfr hnt fun ψ a' w' k1 k2 k3 k4 => ?_
          simp only [Exit.inBlock, hid, if_false]
          exact hk ψ a' w' k1 k2 k3 k4
      · rename_i hno
        refine ih x mx nt φ fr fr' h h' e a w _ h1 he ok hf hr hfr hnt fun ψ a' w' k1 k2 k3 k4 => ?_
        have := hk ψ a' w' k1 k2 k3 k4
        cases e with
        | exit id' =>
          exfalso
          cases hq : exec p ext n mx fr h <;> rw [hq] at he <;> simp [exitOf] at he
          exact hno _ _ _ hq
        | _ => exact this
    case loop x =>
      obtain ⟨mx, h1, h2⟩ := map_some hc
      subst h2
      exact wp_loop_rounds (n + 1) (loop_ok hrx h1 (n + 1) hall φ fr fr' h h' e a w Q he ok hf hr hfr hnt hk)
theorem call_ok (hm : P.follows .mixedOrders = true) {p : Prog} (hp : Valid P p) {ext : Ext} (hrx : Rises ext) (hx : CallOk P p.env ext) (n : Nat) : CallOk P p.env (call p ext n) :=
  callV_ok hp hx (exec_ok hm hp hrx hx n)
end Go.Vm
end

section
namespace Go.Vm
variable {P : Program}
def AllT {α : Type} (Q : Nat → α → Prop) : Nat → Nat → T α → Prop
  | _, _, .leaf => True
  | a, b, .node l v r => (match v with
    | some x => Q b x
    | none => True) ∧ AllT Q (2 * a) (a + b) l ∧ AllT Q (2 * a) (2 * a + b) r
theorem AllT.get {α : Type} {Q : Nat → α → Prop} : ∀ {t : T α} {a b : Nat}, AllT Q a b t → ∀ {n : Nat} {x : α}, t.get n = some x → Q (a * n + b) x
  | .leaf, _, _, _, n, x, hx => by simp at hx
  | .node l v r, a, b, h, n, x, hx => by
    obtain ⟨h1, h2, h3⟩ := h
    have ev : ∀ a, Nat.div a 2 = a / 2 := fun _ => rfl
    have em : ∀ a, Nat.mod a 2 = a % 2 := fun _ => rfl
    cases n with
    | zero =>
      simp only [T.get] at hx
      subst hx
      simpa using h1
    | succ m =>
      rcases Nat.mod_two_eq_zero_or_one m with m0 | m1
      · simp only [T.get, em, m0, ev] at hx
        have := AllT.get h2 hx
        rwa [show 2 * a * (m / 2) + (a + b) = a * (m + 1) + b by
          have : m = 2 * (m / 2) := by omega
          rw [this, Nat.mul_add]
          simp
          rw [Nat.mul_assoc, Nat.mul_left_comm, Nat.add_assoc]] at this
      · simp only [T.get, em, m1, ev] at hx
        have := AllT.get h3 hx
        rwa [show 2 * a * (m / 2) + (2 * a + b) = a * (m + 1) + b by
          have : m = 2 * (m / 2) + 1 := by omega
          rw [this]
          rw [show (2 * (m / 2) + 1) / 2 = m / 2 by omega]
          rw [show 2 * (m / 2) + 1 + 1 = 2 * (m / 2 + 1) by omega]
          rw [Nat.mul_left_comm, Nat.mul_add, Nat.mul_add]
          simp [Nat.mul_assoc, Nat.add_assoc]] at this
def IsFun (P : Program) (i : Nat) (m : Fun) : Prop := ∃ fn, P.funcs[i]? = some fn ∧ cFun P fn = some m ∧ entered P i = true
theorem valid_of {p : Prog} (h : AllT (IsFun P) 1 0 p.funs) : Valid P p := fun f m hm => by
  have := h.get hm
  rw [Nat.one_mul, Nat.add_zero] at this
  exact this
def intsB (P : Program) (l : List Nat) : Bool :=
  allR (fun t => match P.info? t, P.underlying t with
    | some i, some (.int _) => i.comparable
    | _, _ => false) l
theorem ints_of {l : List Nat} (h : intsB P l = true) : IntsOk P l := by
  intro t ht
  have hm : t ∈ l := by
    clear h
    induction l with
    | nil => cases ht
    | cons x l ih =>
      simp only [eqiV.hasN] at ht
      rw [cond_eq_ite] at ht; split at ht
      · rename_i e; rw [nbeq] at e; exact List.mem_cons.2 (.inl e.symm)
      · exact List.mem_cons.2 (.inr (ih ht))
  have := allR_all h t hm
  split at this
  · rename_i i k h1 h2; exact ⟨i, k, h1, this, h2⟩
  · cases this
def h00 (g : Nat) : Hp := { next := g, t := .leaf }
def runs (p : Prog) (ext : Ext) (n f : Nat) (args : List V) (g : Nat) : Bool :=
  match call p ext n f args (h00 g) with
  | some (.bool true, _) => true
  | _ => false
theorem blk_h00 (g b : Nat) : (h00 g).blk b = .gone := by
  simp [h00, Hp.blk]
def emb0 (P : Program) (σ : Nat → Value) : Emb := ⟨fun b => if b < P.globals.size then some ⟨b, 0, 0⟩ else none, σ⟩
theorem keptBut_of {w w' : World} (h1 : w'.os = w.os) (h2 : w'.output = w.output) (h3 : ∀ k, k < w.heap.size → w'.heap[k]? = w.heap[k]?) : w.keptBut w' (fun _ => False) := by
  refine ⟨h1, h2, fun i hi => ?_⟩
  rw [h3 i hi]
  cases h : w.heap[i]? with
  | none => simp
  | some o => cases o <;> simp
end Go.Vm
end

section
namespace Go.Vm
variable {P : Program}
inductive Ek where
  | add64
  | cmp
def cmpL : List Nat → List Nat → Int
  | [], [] => .ofNat 0
  | [], _ :: _ => .negSucc 0
  | _ :: _, [] => .ofNat 1
  | a :: x, b :: y => cond (Nat.blt a b) (.negSucc 0) (cond (Nat.blt b a) (.ofNat 1) (cmpL x y))
def bytesV (h : Hp) : V → Option (List Nat)
  | .nilslice => some []
  | .slice b o sz len _ _ => cond (Nat.beq sz 1) (match h.read b o len with
    | some l => eV.bytesOf l
    | none => none) none
  | _ => none
def extV (k : Ek) (args : List V) (h : Hp) : Option (V × Hp) :=
  match k with
  | .add64 => match args with
    | [.int .u64 (.ofNat x), .int .u64 (.ofNat y), .int .u64 (.ofNat c)] => cond (Nat.ble c 1)
        (some (.tup [.int .u64 (.ofNat (Nat.mod (Nat.add (Nat.add x y) c) 18446744073709551616)), .int .u64 (.ofNat (Nat.div (Nat.add (Nat.add x y) c) 18446744073709551616))], h)) none
    | _ => none
  | .cmp => match args with
    | [a, b] => match bytesV h a, bytesV h b with
      | some x, some y => some (.int .i64 (cmpL x y), h)
      | _, _ => none
    | _ => none
def extBy : List (Nat × Ek) → Ext
  | [], _, _, _ => none
  | (g, k) :: l, f, args, h => cond (Nat.beq g f) (extV k args h) (extBy l f args h)
def add64S (args : Array Value) : Sem Value := do
  let (x, y, c) ← Extern.MathBitsCarry.three "Add64" args
  pure (Extern.MathBitsCarry.pair ((x + y + c) % Extern.MathBitsCarry.m64) ((x + y + c) / Extern.MathBitsCarry.m64))
def extS : Ek → Array Value → Sem Value
  | .add64 => add64S
  | .cmp => Extern.BytealgCompare.compare
def IsExt (P : Program) (x : Nat × Ek) : Prop := ∃ fn, P.funcs[x.1]? = some fn ∧ (fn.name == "runtime.NumGoroutine") = false ∧ fn.body.isNone = true ∧ Extern.findNext fn = none ∧ Extern.find fn = some (extS x.2)
theorem loadBytes_ok {w : World} {k : Nat} : ∀ (s : List Nat) (o : Nat) (us : List Value) (acc : ByteArray), us = s.map (fun n => Value.int .u8 (.ofNat n)) → w.rangeAt k o us →
    (Extern.Bytes.loadBytes ⟨k, o, none⟩ s.length acc).run P w = .ok ⟨acc.data ++ (s.map Nat.toUInt8).toArray⟩ w
  | [], o, us, acc, _, _ => by simp [Extern.Bytes.loadBytes]
  | n :: s, o, us, acc, hu, hr => by
    subst hu
    have h0 := hr 0 (.int .u8 (.ofNat n)) rfl
    rw [Nat.add_zero] at h0
    have hadd : (⟨k, o, none⟩ : Addr).add 1 = ⟨k, o + 1, none⟩ := rfl
    have ih := loadBytes_ok s (o + 1) _ (acc.push n.toUInt8) rfl (fun j v hv => by
      have := hr (j + 1) v hv
      rwa [show o + (j + 1) = o + 1 + j by omega] at this)
    simp only [List.length_cons, Extern.Bytes.loadBytes, Sem.run_bind, run_load, h0, Result.andThen_ok, hadd]
    have e : (Int.ofNat n).toNat.toUInt8 = n.toUInt8 := rfl
    rw [e, ih]
    congr 2
    simp [ByteArray.push]
theorem bytesOf_spec {φ : Emb} : ∀ {l : List V} {s : List Nat} {us : List Value}, eV.bytesOf l = some s → VRs φ l us → us = s.map (fun n => Value.int .u8 (.ofNat n)) ∧ ∀ n, n ∈ s → n < 256
  | [], s, us, h, hr => by
    simp only [eV.bytesOf, Option.some.injEq] at h
    subst h
    cases hr
    exact ⟨rfl, fun _ h => by cases h⟩
  | v :: l, s, us, h, hr => by
    unfold eV.bytesOf at h
    split at h
    · rename_i e; cases e
    · rename_i n l' e
      cases e
      rw [cond_eq_ite] at h; split at h
      case isFalse => cases h
      rename_i hn
      split at h
      case h_2 => cases h
      rename_i r hr'
      cases h
      cases hr with | cons _ u _ us' k1 k2 =>
      cases k1
      obtain ⟨e1, e2⟩ := bytesOf_spec hr' k2
      refine ⟨by rw [e1]; rfl, fun m hm => ?_⟩
      rcases List.mem_cons.1 hm with rfl | hm
      · exact nblt.1 hn
      · exact e2 m hm
    · cases h
theorem bytesV_ok {φ : Emb} {h : Hp} {w : World} (hr : HR φ h w) {v : V} {u : Value} (hv : VR φ v u) {s : List Nat} (hs : bytesV h v = some s) :
    (Extern.Bytes.bytesOf u).run P w = .ok ⟨(s.map Nat.toUInt8).toArray⟩ w ∧ ∀ n, n ∈ s → n < 256 := by
  cases v <;> simp only [bytesV, reduceCtorEq] at hs
  case nilslice =>
    cases hv
    cases hs
    exact ⟨rfl, fun _ h => by cases h⟩
  case slice b o sz len c ex =>
    cases hv with | slice _ _ _ _ _ _ ad cc h0 h1 h2 h3 =>
    rw [cond_eq_ite] at hs; split at hs
    case isFalse => cases hs
    split at hs
    case h_2 => cases hs
    rename_i l hl
    obtain ⟨pl, us, r1, r2, r3, r4⟩ := hr.read hl
    obtain ⟨e1, e2⟩ := bytesOf_spec hs r3
    refine ⟨?_, e2⟩
    simp only [Extern.Bytes.bytesOf]
    have hlen : s.length = len := by
      have := r3.length
      rw [e1, List.length_map] at this
      omega
    rcases Nat.eq_zero_or_pos cc with z | z
    · have : len = 0 := by omega
      rw [this] at hlen
      have : s = [] := List.length_eq_zero_iff.1 hlen
      subst this
      rw [show len = 0 by omega]
      rfl
    · obtain ⟨pl', k1, k2, _⟩ := h0 z
      rw [r1] at k1; cases k1
      rw [k2, ← hlen]
      have := loadBytes_ok (P := P) s (pl.base + o) us .empty e1 r4
      rw [this]
      rw [show ByteArray.empty.data = #[] from rfl]
      simp
theorem get_bytes (s : List Nat) {i : Nat} (h : i < s.length) : (ByteArray.mk (s.map Nat.toUInt8).toArray)[i]! = (s[i]).toUInt8 := by
  have : i < (ByteArray.mk (s.map Nat.toUInt8).toArray).size := by
    show i < (s.map Nat.toUInt8).toArray.size
    simpa using h
  rw [getElem!_pos (ByteArray.mk (s.map Nat.toUInt8).toArray) i this]
  show (s.map Nat.toUInt8).toArray[i] = _
  simp
theorem u8_inj {a b : Nat} (ha : a < 256) (hb : b < 256) : (a.toUInt8 = b.toUInt8) ↔ a = b := by
  constructor
  · intro h
    have := congrArg UInt8.toNat h
    simp at this
    omega
  · rintro rfl; rfl
theorem u8_lt {a b : Nat} (ha : a < 256) (hb : b < 256) : (a.toUInt8 < b.toUInt8) ↔ a < b := by
  rw [UInt8.lt_iff_toNat_lt]
  simp
  omega
theorem cmpL_same : ∀ {x y : List Nat}, (∀ j, j < min x.length y.length → x[j]? = y[j]?) → cmpL x y = if x.length < y.length then .negSucc 0 else if x.length > y.length then .ofNat 1 else .ofNat 0
  | [], [], _ => rfl
  | [], b :: y, _ => by simp [cmpL]
  | a :: x, [], _ => by simp [cmpL]
  | a :: x, b :: y, h => by
    have h0 := h 0 (by simp)
    simp at h0
    subst h0
    simp only [cmpL]
    have : Nat.blt a a = false := by
      cases e : Nat.blt a a with
      | false => rfl
      | true => rw [nblt] at e; omega
    rw [this]
    simp only [cond_false]
    rw [cmpL_same (x := x) (y := y) fun j hj => by
      have := h (j + 1) (by simp; omega)
      simpa using this]
    simp
theorem cmpL_diff : ∀ {i : Nat} {x y : List Nat}, i < x.length → i < y.length → (∀ j, j < i → x[j]? = y[j]?) → x[i]? ≠ y[i]? → cmpL x y = if x.getD i 0 < y.getD i 0 then .negSucc 0 else .ofNat 1
  | _, [], _, h, _, _, _ => by simp at h
  | _, _ :: _, [], _, h, _, _ => by simp at h
  | 0, a :: x, b :: y, _, _, _, h => by
    simp at h
    simp only [cmpL, List.getD_cons_zero]
    by_cases k : a < b
    · rw [nblt.2 k]; simp [k]
    · have e1 : Nat.blt a b = false := by
        cases e : Nat.blt a b with
        | false => rfl
        | true => rw [nblt] at e; omega
      have e2 : Nat.blt b a = true := nblt.2 (by omega)
      rw [e1, e2]
      simp [k]
  | i + 1, a :: x, b :: y, h1, h2, h3, h4 => by
    have h0 := h3 0 (by omega)
    simp at h0
    subst h0
    simp only [cmpL, List.getD_cons_succ]
    have : Nat.blt a a = false := by
      cases e : Nat.blt a a with
      | false => rfl
      | true => rw [nblt] at e; omega
    rw [this]
    simp only [cond_false]
    exact cmpL_diff (by simpa using h1) (by simpa using h2) (fun j hj => by have := h3 (j + 1) (by omega); simpa using this) (by simpa using h4)
theorem cmp_ok {x y : List Nat} (hx : ∀ n, n ∈ x → n < 256) (hy : ∀ n, n ∈ y → n < 256) : Extern.BytealgCompare.cmp ⟨(x.map Nat.toUInt8).toArray⟩ ⟨(y.map Nat.toUInt8).toArray⟩ = cmpL x y := by
  have sx : (ByteArray.mk (x.map Nat.toUInt8).toArray).size = x.length := by show (x.map Nat.toUInt8).toArray.size = _; simp
  have sy : (ByteArray.mk (y.map Nat.toUInt8).toArray).size = y.length := by show (y.map Nat.toUInt8).toArray.size = _; simp
  have key : ∀ i (h1 : i < x.length) (h2 : i < y.length), ((ByteArray.mk (x.map Nat.toUInt8).toArray)[i]! != (ByteArray.mk (y.map Nat.toUInt8).toArray)[i]!) = true ↔ x[i]? ≠ y[i]? := by
    intro i h1 h2
    rw [get_bytes x h1, get_bytes y h2, bne_iff_ne, ne_eq, u8_inj (hx _ (List.getElem_mem h1)) (hy _ (List.getElem_mem h2))]
    simp [h1, h2]
  unfold Extern.BytealgCompare.cmp
  rw [sx, sy]
  split
  · rename_i i hi
    rw [List.find?_range_eq_some] at hi
    obtain ⟨k1, k2, k3⟩ := hi
    have hlt : i < min x.length y.length := by simpa using k2
    have h1 : i < x.length := by omega
    have h2 : i < y.length := by omega
    rw [cmpL_diff h1 h2 (fun j hj => by
      have := k3 j hj
      have h3 := key j (by omega) (by omega)
      by_cases e : x[j]? = y[j]?
      · exact e
      · rw [h3.2 e] at this; cases this) ((key i h1 h2).1 k1)]
    rw [get_bytes x h1, get_bytes y h2]
    have := u8_lt (hx _ (List.getElem_mem h1)) (hy _ (List.getElem_mem h2))
    simp only [this, List.getD, List.getElem?_eq_getElem h1, List.getElem?_eq_getElem h2, Option.getD_some]
    rfl
  · rename_i hi
    rw [List.find?_range_eq_none] at hi
    rw [cmpL_same fun j hj => by
      have := hi j hj
      have h3 := key j (by omega) (by omega)
      by_cases e : x[j]? = y[j]?
      · exact e
      · rw [h3.2 e] at this; cases this]
    rfl
theorem ext_one {x : Nat × Ek} (hx : IsExt P x) {φ : Emb} {args : List V} {h h' : Hp} {v : V} {w : World} {us : List Value} (hv : extV x.2 args h = some (v, h')) (hr : HR φ h w) (hargs : VRs φ args us) :
    CallSim P φ x.1 us h w v h' := by
  obtain ⟨fn, hf, hn, hb, hnx, hfd⟩ := hx
  right
  have hrun := run_callFunc_extern hf hn hb hnx hfd us.toArray w
  obtain ⟨f, k⟩ := x
  cases k with
  | add64 =>
    simp only [extV] at hv
    split at hv
    case h_2 => cases hv
    rename_i a b c
    rw [cond_eq_ite] at hv; split at hv
    case isFalse => cases hv
    rename_i hc
    rw [nble] at hc
    cases hv
    cases hargs with | cons _ u1 _ _ r1 hargs =>
    cases hargs with | cons _ u2 _ _ r2 hargs =>
    cases hargs with | cons _ u3 _ _ r3 hargs =>
    cases hargs
    cases r1
    cases r2
    cases r3
    refine ⟨_, φ, w, ?_, .tup _ _ (.cons _ _ _ _ (.int _ _) (.cons _ _ _ _ (.int _ _) .nil)), .refl hr⟩
    rw [hrun]
    have hc' : ¬ (Int.ofNat c).toNat > 1 := by simp; omega
    have he : extS .add64 #[.int .u64 (.ofNat a), .int .u64 (.ofNat b), .int .u64 (.ofNat c)] = (do
        let p ← (do
          if (Int.ofNat c).toNat > 1 then (unsupported (.noEntry ("extern/math/bits." ++ "Add64" ++ ": a carry that is neither 0 nor 1")) : Sem Unit)
          pure ((Int.ofNat a).toNat, (Int.ofNat b).toNat, (Int.ofNat c).toNat) : Sem (Nat × Nat × Nat))
        pure (Extern.MathBitsCarry.pair ((p.1 + p.2.1 + p.2.2) % Extern.MathBitsCarry.m64) ((p.1 + p.2.1 + p.2.2) / Extern.MathBitsCarry.m64))) := rfl
    show ((extS .add64 #[.int .u64 (.ofNat a), .int .u64 (.ofNat b), .int .u64 (.ofNat c)]).run P w).andThen _ = _
    rw [he, if_neg hc']
    rfl
  | cmp =>
    simp only [extV] at hv
    split at hv
    case h_2 => cases hv
    rename_i a b
    split at hv
    case h_2 => cases hv
    rename_i x y h1 h2
    cases hv
    cases hargs with | cons _ u1 _ _ r1 hargs =>
    cases hargs with | cons _ u2 _ _ r2 hargs =>
    cases hargs
    obtain ⟨b1, c1⟩ := bytesV_ok (P := P) hr r1 h1
    obtain ⟨b2, c2⟩ := bytesV_ok (P := P) hr r2 h2
    refine ⟨_, φ, w, ?_, .int _ _, .refl hr⟩
    rw [hrun]
    have he : extS .cmp #[u1, u2] = (do
        let p ← Extern.Bytes.bytesOf u1
        let q ← Extern.Bytes.bytesOf u2
        pure (goInt (Extern.BytealgCompare.cmp p q))) := rfl
    show ((extS .cmp #[u1, u2]).run P w).andThen _ = _
    rw [he]
    simp only [Sem.run_bind, b1, b2, Result.andThen_ok, Sem.run_pure, cmp_ok c1 c2, goInt]
theorem extBy_rises (l : List (Nat × Ek)) : Rises (extBy l) := by
  intro f args h v h' e
  induction l with
  | nil => cases e
  | cons x l ih =>
    obtain ⟨g, k⟩ := x
    simp only [extBy] at e
    rw [cond_eq_ite] at e; split at e
    · cases k <;> simp only [extV] at e
      all_goals
        repeat' (first | (cases e; done) | (rw [cond_eq_ite] at e; split at e) | split at e)
        all_goals (cases e; exact Nat.le_refl _)
    · exact ih e
theorem extBy_ok {env : Env} {l : List (Nat × Ek)} (hl : ∀ x, x ∈ l → IsExt P x) : CallOk P env (extBy l) := by
  intro φ f args h v h' w us hv _ hr _ hargs
  induction l with
  | nil => cases hv
  | cons x l ih =>
    obtain ⟨g, k⟩ := x
    simp only [extBy] at hv
    rw [cond_eq_ite] at hv; split at hv
    · rename_i e
      rw [nbeq] at e
      subst e
      exact ext_one (hl _ List.mem_cons_self) hv hr hargs
    · exact ih (fun x hx => hl x (List.mem_cons_of_mem _ hx)) hv
end Go.Vm
end

section
namespace Go.Vm
open Go.RowKit
variable {P : Program}
theorem St.below {φ : Emb} {h : Hp} {w w' : World} (hr : HR φ h w) (hb : Below w.heap.size w w') : St φ h w φ h w' where
  le := .refl φ
  new _ _ := rfl
  nx := Nat.le_refl _
  os := hb.os
  tape := hb.tape
  output := hb.output
  size := hb.size
  kept k hk _ := hb.block k hk
  host b pl h1 h2 := .inl ⟨b, pl, h1, h2, rfl⟩
  roof b pl h1 h2 := .inl ⟨b, pl, h1, h2, rfl⟩
  hr := ⟨fun b hl => let ⟨pl, h1, h2⟩ := hr.lies b hl; ⟨pl, h1, h2.mono (.refl φ) (hb.block _ (h2.lt hl))⟩, hr.apart, hr.fresh⟩
def orX (a b : Ext) : Ext := fun f args h => match a f args h with
  | some r => some r
  | none => b f args h
theorem orX_rises {a b : Ext} (ha : Rises a) (hb : Rises b) : Rises (orX a b) := by
  intro f args h v h' e
  unfold orX at e
  split at e
  · rename_i r hr; cases e; exact ha _ _ _ _ _ hr
  · exact hb _ _ _ _ _ e
theorem orX_ok {env : Env} {a b : Ext} (ha : CallOk P env a) (hb : CallOk P env b) : CallOk P env (orX a b) := by
  intro φ f args h v h' w us hv ok hr hfr hargs
  unfold orX at hv
  split at hv
  · rename_i r hr'; cases hv; exact ha φ f args h v h' w us hr' ok hr hfr hargs
  · exact hb φ f args h v h' w us hv ok hr hfr hargs
end Go.Vm
end

section
namespace Go.Vm
open Go.RowKit
variable {P : Program}
def hasF (f : Nat) : List Nat → Bool
  | [] => false
  | g :: l => cond (Nat.beq g f) true (hasF f l)
def constX (l : List Nat) : Ext := fun f args h => cond (hasF f l) (match args with
  | [] => some (.bool true, h)
  | _ => none) none
theorem hasF_mem {f : Nat} : ∀ {l : List Nat}, hasF f l = true → f ∈ l
  | [], h => by cases h
  | g :: l, h => by
    simp only [hasF] at h
    rw [cond_eq_ite] at h; split at h
    · rename_i e; rw [nbeq] at e; subst e; exact List.mem_cons_self
    · exact List.mem_cons_of_mem _ (hasF_mem h)
theorem top_below (hm : P.follows .mixedOrders = true) {p : Prog} (hp : Valid P p) {ext : Ext} (hrx : Rises ext) (hx : CallOk P p.env ext) (σ : Nat → Value) (hσ : ∀ i, ∃ k n, σ i = .int k n) (htab : TabOk P σ p.env.tab) (hints : IntsOk P p.env.ints)
    {f n : Nat} {args : List V} {us : List Value} (hen : entered P f = true) (hv : runs p ext n f args P.globals.size = true) (hargs : VRs (emb0 P σ) args us) (w : World) :
    Calls P f us.toArray w fun e w' => e = .returned (.bool true) ∧ Below w.heap.size w w' := by
  unfold runs at hv
  split at hv
  case h_2 => cases hv
  rename_i h' hc
  have hr : HR (emb0 P σ) (h00 P.globals.size) w := ⟨fun b hb => (by rw [blk_h00] at hb; cases hb), fun b b' pl pl' hb => (by rw [blk_h00] at hb; cases hb), fun b _ => blk_h00 _ b⟩
  have hok : EnvOk P (emb0 P σ) p.env := ⟨hσ, fun g hg => ⟨0, by show (if g < P.globals.size then _ else _) = _; rw [if_pos hg]⟩, htab, hints⟩
  have hfr : Fresh (emb0 P σ) (h00 P.globals.size).next h'.next := fun b h1 h2 => by
    show (if b < P.globals.size then some (⟨b, 0, 0⟩ : Place) else none) = _
    have h1 : P.globals.size ≤ b := h1
    rw [if_neg (by omega)]
  have := call_ok hm hp hrx hx n (emb0 P σ) f args (h00 P.globals.size) (.bool true) h' w us hc hok hr hfr hargs
  rcases this with ⟨_, h2⟩ | ⟨u, ψ, w', h1, _⟩
  · refine h2.mono ?_
    rintro e w' ⟨u, ψ, rfl, r1, r2⟩
    cases r1
    exact ⟨rfl, r2.os, r2.tape, r2.output, r2.size, fun k hk => r2.kept k hk fun b pl hb => by rw [blk_h00] at hb; cases hb⟩
  · rw [callFunc_entered hen] at h1
    cases h1
theorem constX_rises (l : List Nat) : Rises (constX l) := by
  intro f args h v h' e
  unfold constX at e
  rw [cond_eq_ite] at e; split at e
  case isFalse => cases e
  split at e
  · cases e; exact Nat.le_refl _
  · cases e
theorem constX_ok (hm : P.follows .mixedOrders = true) {p : Prog} (hp : Valid P p) {ext : Ext} (hrx : Rises ext) (hx : CallOk P p.env ext) (htab : p.env.tab = []) (hints : IntsOk P p.env.ints) {n : Nat} {l : List Nat} {env : Env}
    (hl : ∀ f, f ∈ l → entered P f = true ∧ runs p ext n f [] P.globals.size = true) : CallOk P env (constX l) := by
  intro φ f args h v h' w us hv ok hr hfr hargs
  unfold constX at hv
  rw [cond_eq_ite] at hv; split at hv
  case isFalse => cases hv
  rename_i hf
  obtain ⟨h1, h2⟩ := hl f (hasF_mem hf)
  split at hv
  case h_2 => cases hv
  cases hv
  cases hargs
  refine .inl ⟨h1, (top_below hm hp hrx hx (fun _ => .int .i64 0) (fun _ => ⟨_, _, rfl⟩) (by rw [htab]; exact fun _ _ _ _ _ _ h => by cases h) hints h1 h2 .nil w).mono ?_⟩
  rintro e w' ⟨rfl, hb⟩
  exact ⟨_, φ, rfl, .bool true, .below hr hb⟩
end Go.Vm
end

section
namespace Go.Vm
abbrev CallF := Nat → List V → Hp → Option (V × Hp)
def CallLe (C D : CallF) : Prop := ∀ f args h r, C f args h = some r → D f args h = some r
theorem eV_mono {C D : CallF} (hcd : CallLe C D) {fr : Fr} {h : Hp} {o : EOp} {r : V × Hp} (e : eV C fr h o = some r) : eV D fr h o = some r := by
  cases o
  case call f args => exact hcd _ _ _ _ e
  case extern f args => exact hcd _ _ _ _ e
  case callv x args =>
    simp only [eV] at e ⊢
    split at e
    · exact hcd _ _ _ _ e
    · cases e
  all_goals exact e
theorem opV_mono {C D : CallF} (hcd : CallLe C D) {env : Env} {fr : Fr} {h : Hp} {o : MOp} {r : V × Hp} (e : opV env C fr h o = some r) : opV env D fr h o = some r := by
  cases o
  case e o => exact eV_mono hcd e
  all_goals exact e
theorem runOps_mono {C D : CallF} (hcd : CallLe C D) {env : Env} : ∀ {l : List MO} {fr : Fr} {h : Hp} {r : Fr × Hp}, runOps env C l fr h = some r → runOps env D l fr h = some r
  | [], _, _, _, e => e
  | o :: l, fr, h, r, e => by
    simp only [runOps] at e ⊢
    split at e
    · exact runOps_mono hcd e
    · cases e
    · split at e
      · rename_i v h' hv
        rw [opV_mono hcd hv]
        exact runOps_mono hcd e
      · cases e
theorem runD_mono {C D : CallF} (hcd : CallLe C D) {env : Env} : ∀ {l : List DO} {p : Nat} {fr : Fr} {h : Hp} {st : List (Nat × Hp)} {rds : List Rd} {r : Fr × Hp}, runD env C l p fr h st rds = some r → runD env D l p fr h st rds = some r
  | [], _, _, _, _, _, _, e => e
  | o :: l, p, fr, h, st, rds, r, e => by
    simp only [runD] at e ⊢
    split at e
    · exact runD_mono hcd e
    · cases e
    · split at e
      · rename_i v h' hv
        rw [opV_mono hcd hv]
        exact runD_mono hcd e
      · cases e
variable {p : Prog} {ext : Ext}
def ExLe (x y : MCode → Fr → Hp → Res) : Prop := ∀ c fr h, x c fr h ≠ .fail → y c fr h = x c fr h
theorem callV_mono {x y : MCode → Fr → Hp → Res} (hxy : ExLe x y) : CallLe (callV p ext x) (callV p ext y) := by
  intro f args h r e
  unfold callV at e ⊢
  cases hq : ext f args h with
  | some q => rw [hq] at e; exact e
  | none =>
    rw [hq] at e
    simp only at e ⊢
    cases hfn : p.funs.get f with
    | none => rw [hfn] at e; exact e
    | some fn =>
      rw [hfn] at e
      simp only at e ⊢
      rw [cond_eq_ite] at e; split at e
      case isFalse => cases e
      rename_i hb
      rw [cond_eq_ite, if_pos hb]
      have hne : x fn.body (argsFr args 0 .leaf) h ≠ .fail := fun hf => by rw [hf] at e; cases e
      rw [hxy _ _ _ hne]
      exact e
theorem exec_region (n : Nat) (ops : List MO) (fr : Fr) (h : Hp) : exec p ext (n + 1) (.region ops) fr h = match runOps p.env (callV p ext (exec p ext n)) ops fr h with
  | some (fr', h') => .ok fr' h'
  | none => .fail := rfl
theorem exec_dregion (n : Nat) (ops : List DO) (fr : Fr) (h : Hp) : exec p ext (n + 1) (.dregion ops) fr h = match runD p.env (callV p ext (exec p ext n)) ops 0 fr h [(0, h)] [] with
  | some (fr', h') => .ok fr' h'
  | none => .fail := rfl
theorem exec_seq (n : Nat) (a b : MCode) (fr : Fr) (h : Hp) : exec p ext (n + 1) (.seq a b) fr h = match exec p ext n a fr h with
  | .ok fr' h' => exec p ext n b fr' h'
  | r => r := rfl
theorem exec_cond (n : Nat) (c : Opd) (a b : MCode) (fr : Fr) (h : Hp) : exec p ext (n + 1) (.cond c a b) fr h = match ev fr c with
  | .bool true => exec p ext n a fr h
  | .bool false => exec p ext n b fr h
  | _ => .fail := rfl
theorem exec_block (n : Nat) (id : Nat) (c : MCode) (fr : Fr) (h : Hp) : exec p ext (n + 1) (.block id c) fr h = match exec p ext n c fr h with
  | .exit id' fr' h' => cond (Nat.beq id' id) (.ok fr' h') (.exit id' fr' h')
  | r => r := rfl
theorem exec_loop (n : Nat) (c : MCode) (fr : Fr) (h : Hp) : exec p ext (n + 1) (.loop c) fr h = match exec p ext n c fr h with
  | .ok fr' h' => exec p ext n (.loop c) fr' h'
  | r => r := rfl
theorem exec_le (n : Nat) : ExLe (exec p ext n) (exec p ext (n + 1)) := by
  induction n with
  | zero => intro c fr h hne; exact absurd rfl hne
  | succ n ih =>
    have hc : CallLe (callV p ext (exec p ext n)) (callV p ext (exec p ext (n + 1))) := callV_mono ih
    intro c fr h hne
    cases c with
    | skip => rfl
    | exit id => rfl
    | ret => rfl
    | region ops =>
      rw [exec_region] at hne; rw [exec_region, exec_region]
      cases e : runOps p.env (callV p ext (exec p ext n)) ops fr h with
      | none => rw [e] at hne; exact absurd rfl hne
      | some r => rw [runOps_mono hc e]
    | dregion ops =>
      rw [exec_dregion] at hne; rw [exec_dregion, exec_dregion]
      cases e : runD p.env (callV p ext (exec p ext n)) ops 0 fr h [(0, h)] [] with
      | none => rw [e] at hne; exact absurd rfl hne
      | some r => rw [runD_mono hc e]
    | seq a b =>
      rw [exec_seq] at hne; rw [exec_seq, exec_seq]
      have ha : exec p ext n a fr h ≠ .fail := fun hf => by rw [hf] at hne; exact hne rfl
      rw [show exec p ext (n + 1) a fr h = exec p ext n a fr h from ih a fr h ha]
      cases e : exec p ext n a fr h with
      | ok fr' h' => rw [e] at hne; exact ih b fr' h' hne
      | _ => rfl
    | cond c a b =>
      rw [exec_cond] at hne; rw [exec_cond, exec_cond]
      split
      · rename_i hg; rw [hg] at hne; exact ih a fr h hne
      · rename_i hg; rw [hg] at hne; exact ih b fr h hne
      · rfl
    | block id c =>
      rw [exec_block] at hne; rw [exec_block, exec_block]
      have ha : exec p ext n c fr h ≠ .fail := fun hf => by rw [hf] at hne; exact hne rfl
      rw [show exec p ext (n + 1) c fr h = exec p ext n c fr h from ih c fr h ha]
    | loop c =>
      rw [exec_loop] at hne; rw [exec_loop, exec_loop]
      have ha : exec p ext n c fr h ≠ .fail := fun hf => by rw [hf] at hne; exact hne rfl
      rw [show exec p ext (n + 1) c fr h = exec p ext n c fr h from ih c fr h ha]
      cases e : exec p ext n c fr h with
      | ok fr' h' => rw [e] at hne; exact ih (.loop c) fr' h' hne
      | _ => rfl
theorem exec_mono {n m : Nat} (hnm : n ≤ m) : ExLe (exec p ext n) (exec p ext m) := by
  induction hnm with
  | refl => intro c fr h _; rfl
  | step _ ih => intro c fr h hne; rw [show exec p ext _ c fr h = exec p ext _ c fr h from exec_le _ c fr h (by rw [ih c fr h hne]; exact hne)]; exact ih c fr h hne
theorem call_mono {n m : Nat} (hnm : n ≤ m) : CallLe (call p ext n) (call p ext m) := callV_mono (exec_mono hnm)
def WP (p : Prog) (ext : Ext) (c : MCode) (fr : Fr) (h : Hp) (Q : Res → Prop) : Prop := ∃ n, exec p ext n c fr h ≠ .fail ∧ Q (exec p ext n c fr h)
def WPc (p : Prog) (ext : Ext) (f : Nat) (args : List V) (h : Hp) (Q : V → Hp → Prop) : Prop := ∃ n v h', call p ext n f args h = some (v, h') ∧ Q v h'
def WPo (p : Prog) (ext : Ext) (l : List MO) (fr : Fr) (h : Hp) (Q : Fr → Hp → Prop) : Prop := ∃ n fr' h', runOps p.env (call p ext n) l fr h = some (fr', h') ∧ Q fr' h'
def WPd (p : Prog) (ext : Ext) (l : List DO) (i : Nat) (fr : Fr) (h : Hp) (st : List (Nat × Hp)) (rds : List Rd) (Q : Fr → Hp → Prop) : Prop := ∃ n fr' h', runD p.env (call p ext n) l i fr h st rds = some (fr', h') ∧ Q fr' h'
theorem WP.mono {c : MCode} {fr : Fr} {h : Hp} {Q R : Res → Prop} (hw : WP p ext c fr h Q) (hqr : ∀ r, Q r → R r) : WP p ext c fr h R :=
  let ⟨n, a, b⟩ := hw; ⟨n, a, hqr _ b⟩
theorem WPc.mono {f : Nat} {args : List V} {h : Hp} {Q R : V → Hp → Prop} (hw : WPc p ext f args h Q) (hqr : ∀ v h', Q v h' → R v h') : WPc p ext f args h R :=
  let ⟨n, v, h', a, b⟩ := hw; ⟨n, v, h', a, hqr _ _ b⟩
theorem wp_skip' {fr : Fr} {h : Hp} {Q : Res → Prop} (hq : Q (.ok fr h)) : WP p ext .skip fr h Q := ⟨1, by simp [exec], by simpa [exec] using hq⟩
theorem wp_exit' {id : Nat} {fr : Fr} {h : Hp} {Q : Res → Prop} (hq : Q (.exit id fr h)) : WP p ext (.exit id) fr h Q := ⟨1, by simp [exec], by simpa [exec] using hq⟩
theorem wp_ret' {fr : Fr} {h : Hp} {Q : Res → Prop} (hq : Q (.ret fr h)) : WP p ext .ret fr h Q := ⟨1, by simp [exec], by simpa [exec] using hq⟩
theorem wp_region' {l : List MO} {fr : Fr} {h : Hp} {Q : Res → Prop} (hw : WPo p ext l fr h fun fr' h' => Q (.ok fr' h')) : WP p ext (.region l) fr h Q := by
  obtain ⟨n, fr', h', e, q⟩ := hw
  have e' : runOps p.env (callV p ext (exec p ext n)) l fr h = some (fr', h') := e
  exact ⟨n + 1, by simp [exec, e'], by simpa [exec, e'] using q⟩
theorem wp_dregion' {l : List DO} {fr : Fr} {h : Hp} {Q : Res → Prop} (hw : WPd p ext l 0 fr h [(0, h)] [] fun fr' h' => Q (.ok fr' h')) : WP p ext (.dregion l) fr h Q := by
  obtain ⟨n, fr', h', e, q⟩ := hw
  have e' : runD p.env (callV p ext (exec p ext n)) l 0 fr h [(0, h)] [] = some (fr', h') := e
  exact ⟨n + 1, by simp [exec, e'], by simpa [exec, e'] using q⟩
def thenR (Q : Res → Prop) (next : Fr → Hp → Prop) : Res → Prop
  | .fail => False
  | .ok fr h => next fr h
  | .exit id fr h => Q (.exit id fr h)
  | .ret fr h => Q (.ret fr h)
@[simp] theorem thenR_ok {Q : Res → Prop} {next : Fr → Hp → Prop} {fr : Fr} {h : Hp} : thenR Q next (.ok fr h) = next fr h := rfl
@[simp] theorem thenR_exit {Q : Res → Prop} {next : Fr → Hp → Prop} {id : Nat} {fr : Fr} {h : Hp} : thenR Q next (.exit id fr h) = Q (.exit id fr h) := rfl
@[simp] theorem thenR_ret {Q : Res → Prop} {next : Fr → Hp → Prop} {fr : Fr} {h : Hp} : thenR Q next (.ret fr h) = Q (.ret fr h) := rfl
theorem wp_seq' {a b : MCode} {fr : Fr} {h : Hp} {Q : Res → Prop} (hw : WP p ext a fr h (thenR Q fun fr' h' => WP p ext b fr' h' Q)) : WP p ext (.seq a b) fr h Q := by
  obtain ⟨n, hn, q⟩ := hw
  cases e : exec p ext n a fr h with
  | fail => exact absurd e hn
  | ok fr' h' =>
    rw [e] at q
    obtain ⟨m, hm, q⟩ := q
    have e1 : exec p ext (max n m) a fr h = .ok fr' h' := (exec_mono (Nat.le_max_left n m) a fr h hn).trans e
    have e2 : exec p ext (max n m) b fr' h' = exec p ext m b fr' h' := exec_mono (Nat.le_max_right n m) b fr' h' hm
    exact ⟨max n m + 1, by simp only [exec, e1, e2]; exact hm, by simp only [exec, e1, e2]; exact q⟩
  | exit id fr' h' => rw [e] at q; exact ⟨n + 1, by simp [exec, e], by simpa [exec, e] using q⟩
  | ret fr' h' => rw [e] at q; exact ⟨n + 1, by simp [exec, e], by simpa [exec, e] using q⟩
theorem wp_cond' {c : Opd} {a b : MCode} {fr : Fr} {h : Hp} {Q : Res → Prop} (t : Bool) (ht : ev fr c = .bool t) (ha : t = true → WP p ext a fr h Q) (hb : t = false → WP p ext b fr h Q) : WP p ext (.cond c a b) fr h Q := by
  cases t with
  | true => obtain ⟨n, hn, q⟩ := ha rfl; exact ⟨n + 1, by simpa [exec, ht] using hn, by simpa [exec, ht] using q⟩
  | false => obtain ⟨n, hn, q⟩ := hb rfl; exact ⟨n + 1, by simpa [exec, ht] using hn, by simpa [exec, ht] using q⟩
def blockR (id : Nat) (Q : Res → Prop) : Res → Prop
  | .fail => False
  | .ok fr h => Q (.ok fr h)
  | .exit id' fr h => cond (Nat.beq id' id) (Q (.ok fr h)) (Q (.exit id' fr h))
  | .ret fr h => Q (.ret fr h)
@[simp] theorem blockR_ok {Q : Res → Prop} {id : Nat} {fr : Fr} {h : Hp} : blockR id Q (.ok fr h) = Q (.ok fr h) := rfl
@[simp] theorem blockR_exit {Q : Res → Prop} {id id' : Nat} {fr : Fr} {h : Hp} : blockR id Q (.exit id' fr h) = cond (Nat.beq id' id) (Q (.ok fr h)) (Q (.exit id' fr h)) := rfl
@[simp] theorem blockR_ret {Q : Res → Prop} {id : Nat} {fr : Fr} {h : Hp} : blockR id Q (.ret fr h) = Q (.ret fr h) := rfl
theorem wp_block' {id : Nat} {c : MCode} {fr : Fr} {h : Hp} {Q : Res → Prop} (hw : WP p ext c fr h (blockR id Q)) : WP p ext (.block id c) fr h Q := by
  obtain ⟨n, hn, q⟩ := hw
  cases e : exec p ext n c fr h with
  | fail => exact absurd e hn
  | ok fr' h' => rw [e] at q; exact ⟨n + 1, by simp [exec, e], by simpa [exec, e] using q⟩
  | ret fr' h' => rw [e] at q; exact ⟨n + 1, by simp [exec, e], by simpa [exec, e] using q⟩
  | exit id' fr' h' =>
    rw [e] at q
    simp only [blockR_exit] at q
    cases hb : Nat.beq id' id with
    | true => rw [hb] at q; exact ⟨n + 1, by simp [exec, e, hb], by simpa [exec, e, hb] using q⟩
    | false => rw [hb] at q; exact ⟨n + 1, by simp [exec, e, hb], by simpa [exec, e, hb] using q⟩
theorem wp_loop' {c : MCode} {Q : Res → Prop} (I : Nat → Fr → Hp → Prop) (hI : ∀ k fr h, I k fr h → WP p ext c fr h (thenR Q fun fr' h' => ∃ k', k' < k ∧ I k' fr' h')) :
    ∀ {k : Nat} {fr : Fr} {h : Hp}, I k fr h → WP p ext (.loop c) fr h Q := by
  intro k
  induction k using Nat.strongRecOn with
  | _ k ih =>
  intro fr h hi
  obtain ⟨n, hn, q⟩ := hI k fr h hi
  cases e : exec p ext n c fr h with
  | fail => exact absurd e hn
  | ok fr' h' =>
    rw [e] at q
    obtain ⟨k', hk, hi'⟩ := q
    obtain ⟨m, hm, q⟩ := ih k' hk hi'
    have e1 : exec p ext (max n m) c fr h = .ok fr' h' := (exec_mono (Nat.le_max_left n m) c fr h hn).trans e
    have e2 : exec p ext (max n m) (.loop c) fr' h' = exec p ext m (.loop c) fr' h' := exec_mono (Nat.le_max_right n m) (.loop c) fr' h' hm
    exact ⟨max n m + 1, by simp only [exec, e1, e2]; exact hm, by simp only [exec, e1, e2]; exact q⟩
  | exit id fr' h' => rw [e] at q; exact ⟨n + 1, by simp [exec, e], by simpa [exec, e] using q⟩
  | ret fr' h' => rw [e] at q; exact ⟨n + 1, by simp [exec, e], by simpa [exec, e] using q⟩
theorem wpo_nil {fr : Fr} {h : Hp} {Q : Fr → Hp → Prop} (hq : Q fr h) : WPo p ext [] fr h Q := ⟨0, fr, h, rfl, hq⟩
theorem wpo_p {d : Option Nat} {o : POp} {l : List MO} {fr : Fr} {h : Hp} {Q : Fr → Hp → Prop} {v : V} (hv : pV p.env fr o = some v) (hw : WPo p ext l (putO fr d v) h Q) : WPo p ext (⟨d, .p o, none⟩ :: l) fr h Q := by
  obtain ⟨n, fr', h', e, q⟩ := hw
  exact ⟨n, fr', h', by simpa [runOps, gate, opV, hv] using e, q⟩
theorem wpo_a {d : Option Nat} {o : AOp} {l : List MO} {fr : Fr} {h : Hp} {Q : Fr → Hp → Prop} {b : Blk} {mk : Nat → V} (hv : aV fr o = some (b, mk)) (hw : WPo p ext l (putO fr d (mk h.next)) (h.new b) Q) : WPo p ext (⟨d, .a o, none⟩ :: l) fr h Q := by
  obtain ⟨n, fr', h', e, q⟩ := hw
  exact ⟨n, fr', h', by simpa [runOps, gate, opV, hv] using e, q⟩
theorem wpo_load1 {d : Option Nat} {x : Opd} {l : List MO} {fr : Fr} {h : Hp} {Q : Fr → Hp → Prop} {b o : Nat} {v : V} (hx : ev fr x = .ptr b o) (hv : h.read b o 1 = some [v]) (hw : WPo p ext l (putO fr d v) h Q) : WPo p ext (⟨d, .load1 x, none⟩ :: l) fr h Q := by
  obtain ⟨n, fr', h', e, q⟩ := hw
  exact ⟨n, fr', h', by simpa [runOps, gate, opV, hx, hv] using e, q⟩
theorem wpo_loadn {d : Option Nat} {x : Opd} {m : Nat} {l : List MO} {fr : Fr} {h : Hp} {Q : Fr → Hp → Prop} {b o : Nat} {v : List V} (hx : ev fr x = .ptr b o) (hv : h.read b o m = some v) (hw : WPo p ext l (putO fr d (.agg v)) h Q) : WPo p ext (⟨d, .loadn m x, none⟩ :: l) fr h Q := by
  obtain ⟨n, fr', h', e, q⟩ := hw
  exact ⟨n, fr', h', by simpa [runOps, gate, opV, hx, hv] using e, q⟩
theorem wpo_e {d : Option Nat} {o : EOp} {l : List MO} {fr : Fr} {h h1 : Hp} {Q : Fr → Hp → Prop} {v : V} (hv : ∀ C, eV C fr h o = some (v, h1)) (hw : WPo p ext l (putO fr d v) h1 Q) : WPo p ext (⟨d, .e o, none⟩ :: l) fr h Q := by
  obtain ⟨n, fr', h', e, q⟩ := hw
  exact ⟨n, fr', h', by simpa [runOps, gate, opV, hv] using e, q⟩
theorem wpo_call {d : Option Nat} {f : Nat} {args : List Opd} {l : List MO} {fr : Fr} {h : Hp} {Q : Fr → Hp → Prop} (hw : WPc p ext f (evs fr args) h fun v h1 => WPo p ext l (putO fr d v) h1 Q) : WPo p ext (⟨d, .e (.call f args), none⟩ :: l) fr h Q := by
  obtain ⟨n, v, h1, e, m, fr', h', e2, q⟩ := hw
  refine ⟨max n m, fr', h', ?_, q⟩
  have e1 := call_mono (p := p) (ext := ext) (Nat.le_max_left n m) _ _ _ _ e
  have e3 := runOps_mono (call_mono (p := p) (ext := ext) (Nat.le_max_right n m)) e2
  simpa [runOps, gate, opV, eV, e1] using e3
theorem wpo_extern {d : Option Nat} {f : Nat} {args : List Opd} {l : List MO} {fr : Fr} {h : Hp} {Q : Fr → Hp → Prop} (hw : WPc p ext f (evs fr args) h fun v h1 => WPo p ext l (putO fr d v) h1 Q) : WPo p ext (⟨d, .e (.extern f args), none⟩ :: l) fr h Q := by
  obtain ⟨n, v, h1, e, m, fr', h', e2, q⟩ := hw
  refine ⟨max n m, fr', h', ?_, q⟩
  have e1 := call_mono (p := p) (ext := ext) (Nat.le_max_left n m) _ _ _ _ e
  have e3 := runOps_mono (call_mono (p := p) (ext := ext) (Nat.le_max_right n m)) e2
  simpa [runOps, gate, opV, eV, e1] using e3
theorem wpo_callv {d : Option Nat} {x : Opd} {f : Nat} {first captured : List V} {args : List Opd} {l : List MO} {fr : Fr} {h : Hp} {Q : Fr → Hp → Prop} (hx : ev fr x = .func f first captured)
    (hw : WPc p ext f (first ++ evs fr args ++ captured) h fun v h1 => WPo p ext l (putO fr d v) h1 Q) : WPo p ext (⟨d, .e (.callv x args), none⟩ :: l) fr h Q := by
  obtain ⟨n, v, h1, e, m, fr', h', e2, q⟩ := hw
  refine ⟨max n m, fr', h', ?_, q⟩
  have e1 := call_mono (p := p) (ext := ext) (Nat.le_max_left n m) _ _ _ _ e
  have e3 := runOps_mono (call_mono (p := p) (ext := ext) (Nat.le_max_right n m)) e2
  rw [List.append_assoc] at e1
  simpa [runOps, gate, opV, eV, hx, e1] using e3
theorem wpo_guard {d : Option Nat} {o : MOp} {t : Nat} {want : Bool} {l : List MO} {fr : Fr} {h : Hp} {Q : Fr → Hp → Prop} (b : Bool) (hb : ev fr (.tmp t) = .bool b)
    (hy : b = want → WPo p ext (⟨d, o, none⟩ :: l) fr h Q) (hn : b ≠ want → WPo p ext l (putO fr d (.tup [])) h Q) : WPo p ext (⟨d, o, some (t, want)⟩ :: l) fr h Q := by
  by_cases hbw : b = want
  · obtain ⟨n, fr', h', e, q⟩ := hy hbw
    refine ⟨n, fr', h', ?_, q⟩
    have : beqB b want = true := by subst hbw; cases b <;> rfl
    simp only [runOps, gate, hb, this, cond_true] at e ⊢
    exact e
  · obtain ⟨n, fr', h', e, q⟩ := hn hbw
    refine ⟨n, fr', h', ?_, q⟩
    have : beqB b want = false := by cases b <;> cases want <;> first | rfl | exact absurd rfl hbw
    simp only [runOps, gate, hb, this, cond_false] at e ⊢
    exact e
theorem wpo_guard_no {d : Option Nat} {o : MOp} {t : Nat} {want : Bool} {l : List MO} {fr : Fr} {h : Hp} {Q : Fr → Hp → Prop} {x : List V} (hb : ev fr (.tmp t) = .tup x) (hn : WPo p ext l (putO fr d (.tup [])) h Q) : WPo p ext (⟨d, o, some (t, want)⟩ :: l) fr h Q := by
  obtain ⟨n, fr', h', e, q⟩ := hn
  refine ⟨n, fr', h', ?_, q⟩
  simp only [runOps, gate, hb]
  exact e
theorem wpc_ext {f : Nat} {args : List V} {h h' : Hp} {v : V} {Q : V → Hp → Prop} (he : ext f args h = some (v, h')) (hq : Q v h') : WPc p ext f args h Q :=
  ⟨0, v, h', by simp [call, callV, he], hq⟩
def endR (rs : List RV) (Q : V → Hp → Prop) : Res → Prop
  | .ok fr h => ∃ v, resP fr h rs = some (v, h) ∧ Q v h
  | .ret fr h => ∃ v, resP fr h rs = some (v, h) ∧ Q v h
  | _ => False
theorem wpc_fun {f : Nat} {args : List V} {h : Hp} {Q : V → Hp → Prop} {m : Fun} (he : ext f args h = none) (hf : p.funs.get f = some m) (hn : args.length = m.nargs) (hw : WP p ext m.body (argsFr args 0 .leaf) h (endR m.results Q)) : WPc p ext f args h Q := by
  obtain ⟨n, hn', q⟩ := hw
  have hb : Nat.beq args.length m.nargs = true := by rw [nbeq]; exact hn
  cases e : exec p ext n m.body (argsFr args 0 .leaf) h with
  | fail => exact absurd e hn'
  | ok fr' h' =>
    rw [e] at q
    obtain ⟨v, e1, q⟩ := q
    exact ⟨n, v, h', by simp [call, callV, he, hf, hb, e, e1], q⟩
  | ret fr' h' =>
    rw [e] at q
    obtain ⟨v, e1, q⟩ := q
    exact ⟨n, v, h', by simp [call, callV, he, hf, hb, e, e1], q⟩
  | exit id fr' h' => rw [e] at q; exact q.elim
end Go.Vm
end

section
namespace Go.Vm
variable {p : Prog} {ext : Ext}
def Ret (p : Prog) (ext : Ext) (f : Nat) (args : List V) (h : Hp) (v : V) (h' : Hp) : Prop := ∃ n, call p ext n f args h = some (v, h')
theorem Ret.det {f : Nat} {args : List V} {h h1 h2 : Hp} {v1 v2 : V} (a : Ret p ext f args h v1 h1) (b : Ret p ext f args h v2 h2) : v1 = v2 ∧ h1 = h2 := by
  obtain ⟨n, a⟩ := a
  obtain ⟨m, b⟩ := b
  have e1 := call_mono (p := p) (ext := ext) (Nat.le_max_left n m) _ _ _ _ a
  have e2 := call_mono (p := p) (ext := ext) (Nat.le_max_right n m) _ _ _ _ b
  rw [e1] at e2
  cases e2
  exact ⟨rfl, rfl⟩
theorem Ret.wpc {f : Nat} {args : List V} {h h' : Hp} {v : V} (a : Ret p ext f args h v h') {Q : V → Hp → Prop} : WPc p ext f args h Q ↔ Q v h' := by
  constructor
  · rintro ⟨n, v', h2, e, q⟩
    obtain ⟨rfl, rfl⟩ := a.det ⟨n, e⟩
    exact q
  · intro q
    obtain ⟨n, e⟩ := a
    exact ⟨n, v, h', e, q⟩
theorem WP.skip {fr : Fr} {h : Hp} {Q : Res → Prop} : WP p ext .skip fr h Q ↔ Q (.ok fr h) := by
  refine ⟨?_, wp_skip'⟩
  rintro ⟨n, hn, q⟩
  cases n with
  | zero => exact absurd rfl hn
  | succ n => exact q
theorem WP.exit {id : Nat} {fr : Fr} {h : Hp} {Q : Res → Prop} : WP p ext (.exit id) fr h Q ↔ Q (.exit id fr h) := by
  refine ⟨?_, wp_exit'⟩
  rintro ⟨n, hn, q⟩
  cases n with
  | zero => exact absurd rfl hn
  | succ n => exact q
theorem WP.ret {fr : Fr} {h : Hp} {Q : Res → Prop} : WP p ext .ret fr h Q ↔ Q (.ret fr h) := by
  refine ⟨?_, wp_ret'⟩
  rintro ⟨n, hn, q⟩
  cases n with
  | zero => exact absurd rfl hn
  | succ n => exact q
theorem WP.region {l : List MO} {fr : Fr} {h : Hp} {Q : Res → Prop} : WP p ext (.region l) fr h Q ↔ WPo p ext l fr h fun fr' h' => Q (.ok fr' h') := by
  refine ⟨?_, wp_region'⟩
  rintro ⟨n, hn, q⟩
  cases n with
  | zero => exact absurd rfl hn
  | succ n =>
    rw [exec_region] at hn q
    cases e : runOps p.env (callV p ext (exec p ext n)) l fr h with
    | none => rw [e] at hn; exact absurd rfl hn
    | some r => rw [e] at q; exact ⟨n, r.1, r.2, e, q⟩
theorem WP.dregion {l : List DO} {fr : Fr} {h : Hp} {Q : Res → Prop} : WP p ext (.dregion l) fr h Q ↔ WPd p ext l 0 fr h [(0, h)] [] fun fr' h' => Q (.ok fr' h') := by
  refine ⟨?_, wp_dregion'⟩
  rintro ⟨n, hn, q⟩
  cases n with
  | zero => exact absurd rfl hn
  | succ n =>
    rw [exec_dregion] at hn q
    cases e : runD p.env (callV p ext (exec p ext n)) l 0 fr h [(0, h)] [] with
    | none => rw [e] at hn; exact absurd rfl hn
    | some r => rw [e] at q; exact ⟨n, r.1, r.2, e, q⟩
theorem WP.seq {a b : MCode} {fr : Fr} {h : Hp} {Q : Res → Prop} : WP p ext (.seq a b) fr h Q ↔ WP p ext a fr h (thenR Q fun fr' h' => WP p ext b fr' h' Q) := by
  refine ⟨?_, wp_seq'⟩
  rintro ⟨n, hn, q⟩
  cases n with
  | zero => exact absurd rfl hn
  | succ n =>
    rw [exec_seq] at hn q
    cases e : exec p ext n a fr h with
    | fail => rw [e] at hn; exact absurd rfl hn
    | ok fr' h' => rw [e] at q hn; exact ⟨n, by rw [e]; exact (by simp), by rw [e]; exact ⟨n, hn, q⟩⟩
    | exit id fr' h' => rw [e] at q; exact ⟨n, by rw [e]; simp, by rw [e]; exact q⟩
    | ret fr' h' => rw [e] at q; exact ⟨n, by rw [e]; simp, by rw [e]; exact q⟩
theorem WP.cond {c : Opd} {a b : MCode} {fr : Fr} {h : Hp} {Q : Res → Prop} : WP p ext (.cond c a b) fr h Q ↔ ∃ t, ev fr c = .bool t ∧ (t = true → WP p ext a fr h Q) ∧ (t = false → WP p ext b fr h Q) := by
  refine ⟨?_, fun ⟨t, h1, h2, h3⟩ => wp_cond' t h1 h2 h3⟩
  rintro ⟨n, hn, q⟩
  cases n with
  | zero => exact absurd rfl hn
  | succ n =>
    rw [exec_cond] at hn q
    split at hn
    · rename_i e; rw [e] at q; exact ⟨true, e, fun _ => ⟨n, hn, q⟩, fun h => by cases h⟩
    · rename_i e; rw [e] at q; exact ⟨false, e, fun h => (by cases h), fun _ => ⟨n, hn, q⟩⟩
    · exact absurd rfl hn
theorem WP.block {id : Nat} {c : MCode} {fr : Fr} {h : Hp} {Q : Res → Prop} : WP p ext (.block id c) fr h Q ↔ WP p ext c fr h (blockR id Q) := by
  refine ⟨?_, wp_block'⟩
  rintro ⟨n, hn, q⟩
  cases n with
  | zero => exact absurd rfl hn
  | succ n =>
    rw [exec_block] at hn q
    cases e : exec p ext n c fr h with
    | fail => rw [e] at hn; exact absurd rfl hn
    | ok fr' h' => rw [e] at q; exact ⟨n, by rw [e]; simp, by rw [e]; exact q⟩
    | ret fr' h' => rw [e] at q; exact ⟨n, by rw [e]; simp, by rw [e]; exact q⟩
    | exit id' fr' h' =>
      rw [e] at q
      refine ⟨n, by rw [e]; simp, ?_⟩
      rw [e]
      simp only [blockR_exit] at q ⊢
      cases hb : Nat.beq id' id <;> rw [hb] at q <;> exact q
theorem WPo.nil {fr : Fr} {h : Hp} {Q : Fr → Hp → Prop} : WPo p ext [] fr h Q ↔ Q fr h := by
  refine ⟨?_, wpo_nil⟩
  rintro ⟨n, fr', h', e, q⟩
  cases e
  exact q
theorem runOps_none {C : CallF} {env : Env} {d : Option Nat} {o : MOp} {l : List MO} {fr : Fr} {h : Hp} {r : Fr × Hp} : runOps env C (⟨d, o, none⟩ :: l) fr h = some r ↔ ∃ v h1, opV env C fr h o = some (v, h1) ∧ runOps env C l (putO fr d v) h1 = some r := by
  simp only [runOps, gate]
  cases e : opV env C fr h o with
  | none => simp
  | some q =>
    obtain ⟨v, h1⟩ := q
    simp only [Option.some.injEq, Prod.mk.injEq]
    constructor
    · intro hh; exact ⟨v, h1, ⟨rfl, rfl⟩, hh⟩
    · rintro ⟨_, _, ⟨rfl, rfl⟩, hh⟩; exact hh
theorem WPo.pure {d : Option Nat} {o : POp} {l : List MO} {fr : Fr} {h : Hp} {Q : Fr → Hp → Prop} : WPo p ext (⟨d, .p o, none⟩ :: l) fr h Q ↔ ∃ v, pV p.env fr o = some v ∧ WPo p ext l (putO fr d v) h Q := by
  refine ⟨?_, fun ⟨v, h1, h2⟩ => wpo_p h1 h2⟩
  rintro ⟨n, fr', h', e, q⟩
  obtain ⟨v, h1, e1, e2⟩ := runOps_none.1 e
  simp only [opV] at e1
  split at e1
  · rename_i v' hv; cases e1; exact ⟨_, hv, n, fr', h', e2, q⟩
  · cases e1
theorem WPo.alloc {d : Option Nat} {o : AOp} {l : List MO} {fr : Fr} {h : Hp} {Q : Fr → Hp → Prop} : WPo p ext (⟨d, .a o, none⟩ :: l) fr h Q ↔ ∃ b mk, aV fr o = some (b, mk) ∧ WPo p ext l (putO fr d (mk h.next)) (h.new b) Q := by
  refine ⟨?_, fun ⟨b, mk, h1, h2⟩ => wpo_a h1 h2⟩
  rintro ⟨n, fr', h', e, q⟩
  obtain ⟨v, h1, e1, e2⟩ := runOps_none.1 e
  simp only [opV] at e1
  split at e1
  · rename_i b mk hv; cases e1; exact ⟨_, _, hv, n, fr', h', e2, q⟩
  · cases e1
theorem WPo.load1 {d : Option Nat} {x : Opd} {l : List MO} {fr : Fr} {h : Hp} {Q : Fr → Hp → Prop} : WPo p ext (⟨d, .load1 x, none⟩ :: l) fr h Q ↔ ∃ b o, ev fr x = .ptr b o ∧ ∃ v, h.read b o 1 = some [v] ∧ WPo p ext l (putO fr d v) h Q := by
  refine ⟨?_, fun ⟨b, o, h1, v, h2, h3⟩ => wpo_load1 h1 h2 h3⟩
  rintro ⟨n, fr', h', e, q⟩
  obtain ⟨v, h1, e1, e2⟩ := runOps_none.1 e
  simp only [opV] at e1
  split at e1
  case h_2 => cases e1
  rename_i b o hx
  split at e1
  case h_2 => cases e1
  rename_i v' r hr
  cases e1
  refine ⟨b, o, hx, v, ?_, n, fr', h', e2, q⟩
  have hlen : (v :: r).length = 1 := by
    unfold Hp.read at hr
    split at hr
    · obtain ⟨e3, e4⟩ := takeX_eq hr
      rw [e3, List.length_take]; simp at e4 ⊢; omega
    · cases hr
  have : r = [] := by cases r; rfl; simp at hlen
  rw [hr, this]
theorem WPo.loadn {d : Option Nat} {x : Opd} {m : Nat} {l : List MO} {fr : Fr} {h : Hp} {Q : Fr → Hp → Prop} : WPo p ext (⟨d, .loadn m x, none⟩ :: l) fr h Q ↔ ∃ b o, ev fr x = .ptr b o ∧ ∃ v, h.read b o m = some v ∧ WPo p ext l (putO fr d (.agg v)) h Q := by
  refine ⟨?_, fun ⟨b, o, h1, v, h2, h3⟩ => wpo_loadn h1 h2 h3⟩
  rintro ⟨n, fr', h', e, q⟩
  obtain ⟨v, h1, e1, e2⟩ := runOps_none.1 e
  simp only [opV] at e1
  split at e1
  case h_2 => cases e1
  rename_i b o hx
  split at e1
  case h_2 => cases e1
  rename_i v' hr
  cases e1
  exact ⟨b, o, hx, _, hr, n, fr', h', e2, q⟩
theorem WPo.call {d : Option Nat} {f : Nat} {args : List Opd} {l : List MO} {fr : Fr} {h : Hp} {Q : Fr → Hp → Prop} : WPo p ext (⟨d, .e (.call f args), none⟩ :: l) fr h Q ↔ WPc p ext f (evs fr args) h fun v h1 => WPo p ext l (putO fr d v) h1 Q := by
  refine ⟨?_, wpo_call⟩
  rintro ⟨n, fr', h', e, q⟩
  obtain ⟨v, h1, e1, e2⟩ := runOps_none.1 e
  exact ⟨n, v, h1, e1, n, fr', h', e2, q⟩
theorem WPo.extern {d : Option Nat} {f : Nat} {args : List Opd} {l : List MO} {fr : Fr} {h : Hp} {Q : Fr → Hp → Prop} : WPo p ext (⟨d, .e (.extern f args), none⟩ :: l) fr h Q ↔ WPc p ext f (evs fr args) h fun v h1 => WPo p ext l (putO fr d v) h1 Q := by
  refine ⟨?_, wpo_extern⟩
  rintro ⟨n, fr', h', e, q⟩
  obtain ⟨v, h1, e1, e2⟩ := runOps_none.1 e
  exact ⟨n, v, h1, e1, n, fr', h', e2, q⟩
theorem WPo.callv {d : Option Nat} {x : Opd} {args : List Opd} {l : List MO} {fr : Fr} {h : Hp} {Q : Fr → Hp → Prop} : WPo p ext (⟨d, .e (.callv x args), none⟩ :: l) fr h Q ↔
    ∃ f first captured, ev fr x = .func f first captured ∧ WPc p ext f (first ++ evs fr args ++ captured) h fun v h1 => WPo p ext l (putO fr d v) h1 Q := by
  refine ⟨?_, fun ⟨f, a, c, h1, h2⟩ => wpo_callv h1 h2⟩
  rintro ⟨n, fr', h', e, q⟩
  obtain ⟨v, h1, e1, e2⟩ := runOps_none.1 e
  simp only [opV, eV] at e1
  split at e1
  · rename_i f a c hx; exact ⟨f, a, c, hx, n, v, h1, e1, n, fr', h', e2, q⟩
  · cases e1
def EOp.calls : EOp → Bool
  | .call _ _ | .callv _ _ | .extern _ _ => true
  | _ => false
def eW (fr : Fr) (h : Hp) (o : EOp) : Option (V × Hp) := eV (fun _ _ _ => none) fr h o
theorem eV_calls {C : CallF} {fr : Fr} {h : Hp} {o : EOp} (ho : o.calls = false) : eV C fr h o = eW fr h o := by
  cases o <;> first | rfl | cases ho
theorem WPo.eff {d : Option Nat} {o : EOp} {l : List MO} {fr : Fr} {h : Hp} {Q : Fr → Hp → Prop} (ho : o.calls = false) : WPo p ext (⟨d, .e o, none⟩ :: l) fr h Q ↔ ∃ v h1, eW fr h o = some (v, h1) ∧ WPo p ext l (putO fr d v) h1 Q := by
  refine ⟨?_, fun ⟨v, h1, e1, e2⟩ => wpo_e (fun C => (eV_calls ho).trans e1) e2⟩
  rintro ⟨n, fr', h', e, q⟩
  obtain ⟨v, h1, e1, e2⟩ := runOps_none.1 e
  exact ⟨v, h1, (eV_calls ho).symm.trans e1, n, fr', h', e2, q⟩
theorem WPo.guard {d : Option Nat} {o : MOp} {t : Nat} {want : Bool} {l : List MO} {fr : Fr} {h : Hp} {Q : Fr → Hp → Prop} {b : Bool} (hb : ev fr (.tmp t) = .bool b) :
    WPo p ext (⟨d, o, some (t, want)⟩ :: l) fr h Q ↔ (b = want → WPo p ext (⟨d, o, none⟩ :: l) fr h Q) ∧ (b = !want → WPo p ext l (putO fr d (.tup [])) h Q) := by
  refine ⟨?_, fun ⟨h1, h2⟩ => wpo_guard b hb h1 fun hne => h2 (by cases b <;> cases want <;> simp_all)⟩
  rintro ⟨n, fr', h', e, q⟩
  refine ⟨fun hw => ⟨n, fr', h', ?_, q⟩, fun hw => ⟨n, fr', h', ?_, q⟩⟩
  · have : beqB b want = true := by subst hw; cases b <;> rfl
    simp only [runOps, gate, hb, this, cond_true] at e ⊢
    exact e
  · have : beqB b want = false := by subst hw; cases want <;> rfl
    simp only [runOps, gate, hb, this, cond_false] at e ⊢
    exact e
theorem WPo.guardNo {d : Option Nat} {o : MOp} {t : Nat} {want : Bool} {l : List MO} {fr : Fr} {h : Hp} {Q : Fr → Hp → Prop} {x : List V} (hb : ev fr (.tmp t) = .tup x) :
    WPo p ext (⟨d, o, some (t, want)⟩ :: l) fr h Q ↔ WPo p ext l (putO fr d (.tup [])) h Q := by
  refine ⟨?_, wpo_guard_no hb⟩
  rintro ⟨n, fr', h', e, q⟩
  refine ⟨n, fr', h', ?_, q⟩
  simp only [runOps, gate, hb] at e
  exact e
def optP {α : Type} : Option α → (α → Prop) → Prop
  | none, _ => False
  | some a, K => K a
theorem optP_some {α : Type} {a : α} {K : α → Prop} : optP (some a) K = K a := rfl
theorem optP_none {α : Type} {K : α → Prop} : optP none K = False := rfl
theorem optP_iff {α : Type} {o : Option α} {K : α → Prop} : optP o K ↔ ∃ a, o = some a ∧ K a := by
  cases o with
  | none => simp [optP]
  | some a => simp [optP]
def boolP : V → (Bool → Prop) → Prop
  | .bool b, K => K b
  | _, _ => False
theorem boolP_bool {b : Bool} {K : Bool → Prop} : boolP (.bool b) K = K b := rfl
def Hp.at1 (h : Hp) (b o : Nat) : Option V := match h.read b o 1 with
  | some [v] => some v
  | _ => none
theorem Hp.at1_iff {h : Hp} {b o : Nat} {v : V} : h.at1 b o = some v ↔ h.read b o 1 = some [v] := by
  unfold Hp.at1
  split
  · rename_i w hw; rw [hw]; simp
  · rename_i hne
    constructor
    · intro h; cases h
    · intro h; exact absurd h (hne v)
def ptrP : V → (Nat → Nat → Prop) → Prop
  | .ptr b o, K => K b o
  | _, _ => False
theorem ptrP_ptr {b o : Nat} {K : Nat → Nat → Prop} : ptrP (.ptr b o) K = K b o := rfl
theorem ptrP_iff {v : V} {K : Nat → Nat → Prop} : ptrP v K ↔ ∃ b o, v = .ptr b o ∧ K b o := by
  constructor
  · cases v <;> simp only [ptrP, false_implies]
    intro k; exact ⟨_, _, rfl, k⟩
  · rintro ⟨b, o, rfl, k⟩; exact k
def funP : V → (Nat → List V → List V → Prop) → Prop
  | .func f a c, K => K f a c
  | _, _ => False
theorem funP_func {f : Nat} {a c : List V} {K : Nat → List V → List V → Prop} : funP (.func f a c) K = K f a c := rfl
theorem funP_iff {v : V} {K : Nat → List V → List V → Prop} : funP v K ↔ ∃ f a c, v = .func f a c ∧ K f a c := by
  constructor
  · cases v <;> simp only [funP, false_implies]
    intro k; exact ⟨_, _, _, rfl, k⟩
  · rintro ⟨b, o, c, rfl, k⟩; exact k
def condP : V → Prop → Prop → Prop
  | .bool true, a, _ => a
  | .bool false, _, b => b
  | _, _, _ => False
theorem condP_tt {a b : Prop} : condP (.bool true) a b = a := rfl
theorem condP_ff {a b : Prop} : condP (.bool false) a b = b := rfl
theorem condP_of {t : Bool} {a b : Prop} (h1 : t = true → a) (h2 : t = false → b) : condP (.bool t) a b := by cases t; exact h2 rfl; exact h1 rfl
theorem W.cond {c : Opd} {a b : MCode} {fr : Fr} {h : Hp} {Q : Res → Prop} : WP p ext (.cond c a b) fr h Q ↔ condP (ev fr c) (WP p ext a fr h Q) (WP p ext b fr h Q) := by
  rw [WP.cond]
  constructor
  · rintro ⟨t, e, h1, h2⟩
    rw [e]
    exact condP_of h1 h2
  · intro hc
    cases e : ev fr c <;> rw [e] at hc <;> simp only [condP] at hc
    rename_i t
    cases t with
    | true => exact ⟨true, rfl, fun _ => hc, fun h => by cases h⟩
    | false => exact ⟨false, rfl, fun h => (by cases h), fun _ => hc⟩
theorem W.pure {d : Option Nat} {o : POp} {l : List MO} {fr : Fr} {h : Hp} {Q : Fr → Hp → Prop} : WPo p ext (⟨d, .p o, none⟩ :: l) fr h Q ↔ optP (pV p.env fr o) fun v => WPo p ext l (putO fr d v) h Q := by
  rw [WPo.pure, optP_iff]
theorem W.alloc {d : Option Nat} {o : AOp} {l : List MO} {fr : Fr} {h : Hp} {Q : Fr → Hp → Prop} : WPo p ext (⟨d, .a o, none⟩ :: l) fr h Q ↔ optP (aV fr o) fun r => WPo p ext l (putO fr d (r.2 h.next)) (h.new r.1) Q := by
  rw [WPo.alloc, optP_iff]
  constructor
  · rintro ⟨b, mk, e, k⟩; exact ⟨(b, mk), e, k⟩
  · rintro ⟨⟨b, mk⟩, e, k⟩; exact ⟨b, mk, e, k⟩
theorem W.load1 {d : Option Nat} {x : Opd} {l : List MO} {fr : Fr} {h : Hp} {Q : Fr → Hp → Prop} : WPo p ext (⟨d, .load1 x, none⟩ :: l) fr h Q ↔ ptrP (ev fr x) fun b o => optP (h.at1 b o) fun v => WPo p ext l (putO fr d v) h Q := by
  rw [WPo.load1, ptrP_iff]
  simp only [optP_iff, Hp.at1_iff]
theorem W.loadn {d : Option Nat} {x : Opd} {m : Nat} {l : List MO} {fr : Fr} {h : Hp} {Q : Fr → Hp → Prop} : WPo p ext (⟨d, .loadn m x, none⟩ :: l) fr h Q ↔ ptrP (ev fr x) fun b o => optP (h.read b o m) fun v => WPo p ext l (putO fr d (.agg v)) h Q := by
  rw [WPo.loadn, ptrP_iff]
  simp only [optP_iff]
theorem W.callv {d : Option Nat} {x : Opd} {args : List Opd} {l : List MO} {fr : Fr} {h : Hp} {Q : Fr → Hp → Prop} : WPo p ext (⟨d, .e (.callv x args), none⟩ :: l) fr h Q ↔
    funP (ev fr x) fun f first captured => WPc p ext f (first ++ evs fr args ++ captured) h fun v h1 => WPo p ext l (putO fr d v) h1 Q := by
  rw [WPo.callv, funP_iff]
theorem W.eff {d : Option Nat} {o : EOp} {l : List MO} {fr : Fr} {h : Hp} {Q : Fr → Hp → Prop} (ho : o.calls = false) : WPo p ext (⟨d, .e o, none⟩ :: l) fr h Q ↔ optP (eW fr h o) fun r => WPo p ext l (putO fr d r.1) r.2 Q := by
  rw [WPo.eff ho, optP_iff]
  constructor
  · rintro ⟨b, mk, e, k⟩; exact ⟨(b, mk), e, k⟩
  · rintro ⟨⟨b, mk⟩, e, k⟩; exact ⟨b, mk, e, k⟩
def gateP : V → Bool → Prop → Prop → Prop
  | .bool b, want, y, n => (b = want → y) ∧ (b = !want → n)
  | .tup _, _, _, n => n
  | _, _, _, _ => False
theorem gateP_tup {l : List V} {want : Bool} {y n : Prop} : gateP (.tup l) want y n = n := rfl
theorem gateP_yes {want : Bool} {y n : Prop} : gateP (.bool want) want y n = y := by cases want <;> simp [gateP]
theorem gateP_tt {y n : Prop} : gateP (.bool true) true y n = y := gateP_yes
theorem gateP_ff {y n : Prop} : gateP (.bool false) false y n = y := gateP_yes
theorem gateP_tf {y n : Prop} : gateP (.bool true) false y n = n := by simp [gateP]
theorem gateP_ft {y n : Prop} : gateP (.bool false) true y n = n := by simp [gateP]
theorem W.guard {d : Option Nat} {o : MOp} {t : Nat} {want : Bool} {l : List MO} {fr : Fr} {h : Hp} {Q : Fr → Hp → Prop} :
    WPo p ext (⟨d, o, some (t, want)⟩ :: l) fr h Q ↔ gateP (ev fr (.tmp t)) want (WPo p ext (⟨d, o, none⟩ :: l) fr h Q) (WPo p ext l (putO fr d (.tup [])) h Q) := by
  cases e : ev fr (.tmp t)
  case bool b => exact WPo.guard e
  case tup x => exact WPo.guardNo e
  all_goals
    refine ⟨?_, fun h => h.elim⟩
    rintro ⟨n, fr', h', e1, q⟩
    simp only [runOps, gate, e] at e1
    cases e1
theorem ev_val {fr : Fr} {v : V} : ev fr (.val v) = v := rfl
theorem ev_put {fr : Fr} {d t : Nat} {v : V} : ev (putO fr (some d) v) (.tmp t) = if t = d then v else ev fr (.tmp t) := by
  simp only [ev, putO, T.get_set]
  by_cases e : t = d
  · rw [if_pos e, if_pos e]
  · rw [if_neg e, if_neg e]
theorem put_none {fr : Fr} {v : V} : putO fr none v = fr := rfl
theorem ev_args {l : List V} {t : Nat} : ev (argsFr l 0 .leaf) (.tmp t) = l.getD t (.tup []) := by
  rw [ev_argsFr]
  by_cases hl : t < l.length
  · rw [if_pos ⟨Nat.zero_le _, by omega⟩]; rfl
  · rw [if_neg (by omega)]
    rw [List.getD_eq_getElem?_getD, List.getElem?_eq_none (by omega)]
    simp [ev]
theorem ieq_t {a b : Int} : ieq a b = decide (a = b) := by
  by_cases h : a = b
  · rw [decide_eq_true h, ieq_iff]; exact h
  · rw [decide_eq_false h]
    cases e : ieq a b with
    | false => rfl
    | true => exact absurd (ieq_iff.1 e) h
theorem ilt_t {a b : Int} : ilt a b = decide (a < b) := by
  by_cases h : a < b
  · rw [decide_eq_true h, ilt_iff]; exact h
  · rw [decide_eq_false h]
    cases e : ilt a b with
    | false => rfl
    | true => exact absurd (ilt_iff.1 e) h
theorem keq_self {k : IntKind} : keq k k = true := by cases k <;> rfl
section
variable {tab : Tab} {k : IntKind} {a b : Int}
theorem bin_add : binV tab .add (.int k a) (.int k b) = some (.int k (wr k (a + b))) := by simp only [binV, keq_self, cond_true]; rfl
theorem bin_sub : binV tab .sub (.int k a) (.int k b) = some (.int k (wr k (a - b))) := by simp only [binV, keq_self, cond_true]; rfl
theorem bin_mul : binV tab .mul (.int k a) (.int k b) = some (.int k (wr k (a * b))) := by simp only [binV, keq_self, cond_true]; rfl
theorem bin_quo (hb : b ≠ 0) : binV tab .quo (.int k a) (.int k b) = some (.int k (wr k (Int.tdiv a b))) := by
  have : ieq b (.ofNat 0) = false := by rw [ieq_t]; exact decide_eq_false hb
  simp only [binV, keq_self, cond_true, arith, this, cond_false]
theorem bin_rem (hb : b ≠ 0) : binV tab .rem (.int k a) (.int k b) = some (.int k (Int.tmod a b)) := by
  have : ieq b (.ofNat 0) = false := by rw [ieq_t]; exact decide_eq_false hb
  simp only [binV, keq_self, cond_true, arith, this, cond_false]
theorem bin_and : binV tab .and (.int k a) (.int k b) = some (.int k (wr k (.ofNat (Nat.land (toU k a) (toU k b))))) := by simp only [binV, keq_self, cond_true]; rfl
theorem bin_or : binV tab .or (.int k a) (.int k b) = some (.int k (wr k (.ofNat (Nat.lor (toU k a) (toU k b))))) := by simp only [binV, keq_self, cond_true]; rfl
theorem bin_xor : binV tab .xor (.int k a) (.int k b) = some (.int k (wr k (.ofNat (Nat.xor (toU k a) (toU k b))))) := by simp only [binV, keq_self, cond_true]; rfl
theorem bin_eql : binV tab .eql (.int k a) (.int k b) = some (.bool (decide (a = b))) := by simp only [binV, keq_self, cond_true, arith, ieq_t]
theorem bin_neq : binV tab .neq (.int k a) (.int k b) = some (.bool (!decide (a = b))) := by simp only [binV, keq_self, cond_true, arith, ieq_t]
theorem bin_lss : binV tab .lss (.int k a) (.int k b) = some (.bool (decide (a < b))) := by simp only [binV, keq_self, cond_true, arith, ilt_t]
theorem bin_gtr : binV tab .gtr (.int k a) (.int k b) = some (.bool (decide (b < a))) := by simp only [binV, keq_self, cond_true, arith, ilt_t]
theorem bin_leq : binV tab .leq (.int k a) (.int k b) = some (.bool (decide (a ≤ b))) := by
  have : (!ilt b a) = decide (a ≤ b) := by rw [ilt_t]; by_cases h : b < a <;> simp [h] <;> omega
  simp only [binV, keq_self, cond_true, arith, this]
theorem bin_geq : binV tab .geq (.int k a) (.int k b) = some (.bool (decide (b ≤ a))) := by
  have : (!ilt a b) = decide (b ≤ a) := by rw [ilt_t]; by_cases h : a < b <;> simp [h] <;> omega
  simp only [binV, keq_self, cond_true, arith, this]
theorem min2_int : min2V tab (.int k a) (.int k b) = some (.int k (min a b)) := by
  simp only [min2V, keq_self, cond_true, ilt_t]
  by_cases h : b < a <;> simp [h] <;> omega
theorem max2_int : max2V tab (.int k a) (.int k b) = some (.int k (max a b)) := by
  simp only [max2V, keq_self, cond_true, ilt_t]
  by_cases h : a < b <;> simp [h] <;> omega
end
theorem wr_of {n : Int} (h1 : -9223372036854775808 ≤ n) (h2 : n < 9223372036854775808) : wr .i64 n = n := by
  cases n with
  | ofNat m =>
    have : Nat.blt m 9223372036854775808 = true := nblt.2 (by have : (m : Int) < 9223372036854775808 := h2; omega)
    simp only [wr, hiN, this, cond_true]
  | negSucc m =>
    have : Nat.blt m 9223372036854775808 = true := nblt.2 (by have := h1; omega)
    simp only [wr, hiN, sgn, this, cond_true]
section
variable {d : Option Nat} {l : List MO} {fr : Fr} {h : Hp} {Q : Fr → Hp → Prop}
def storeH (h : Hp) (sz : Nat) (b o : Nat) (vs : List V) : Option Hp := cond (Nat.beq vs.length sz) (h.write b o vs) none
theorem W.store {sz : Nat} {a x : Opd} : WPo p ext (⟨d, .e (.store sz a x), none⟩ :: l) fr h Q ↔ ptrP (ev fr a) fun b o => optP (storeH h sz b o (ev fr x).cells) fun h1 => WPo p ext l (putO fr d (.tup [])) h1 Q := by
  rw [WPo.eff rfl, ptrP_iff]
  simp only [optP_iff, eW, eV, storeH]
  constructor
  · rintro ⟨v, h1, e, k⟩
    split at e
    case h_2 => cases e
    rename_i b o hb
    refine ⟨b, o, hb, h1, ?_⟩
    rw [cond_eq_ite] at e ⊢
    split at e
    case isFalse => cases e
    rename_i hc
    rw [if_pos hc]
    split at e
    · cases e; rename_i hw; exact ⟨hw, k⟩
    · cases e
  · rintro ⟨b, o, hb, h1, e, k⟩
    refine ⟨.tup [], h1, ?_, k⟩
    rw [hb]
    simp only
    rw [cond_eq_ite] at e ⊢
    split at e
    case isFalse => cases e
    rename_i hc
    rw [if_pos hc, e]
theorem W.append {sz by_ : Nat} {s x : Opd} : WPo p ext (⟨d, .e (.append sz by_ s x), none⟩ :: l) fr h Q ↔ optP (appendV sz by_ h (ev fr s) (ev fr x)) fun r => WPo p ext l (putO fr d r.1) r.2 Q := W.eff rfl
theorem W.appendz {z : List V} {sz by_ : Nat} {s x : Opd} : WPo p ext (⟨d, .e (.appendz z sz by_ s x), none⟩ :: l) fr h Q ↔ optP (appendZ z sz by_ h (ev fr s) (ev fr x)) fun r => WPo p ext l (putO fr d r.1) r.2 Q := W.eff rfl
theorem W.copy {sz : Nat} {a x : Opd} : WPo p ext (⟨d, .e (.copy sz a x), none⟩ :: l) fr h Q ↔ optP (eW fr h (.copy sz a x)) fun r => WPo p ext l (putO fr d r.1) r.2 Q := W.eff rfl
theorem W.text {x : Opd} : WPo p ext (⟨d, .e (.text x), none⟩ :: l) fr h Q ↔ optP (eW fr h (.text x)) fun r => WPo p ext l (putO fr d r.1) r.2 Q := W.eff rfl
theorem W.lookup {sk : Bool} {z : V} {ok : Bool} {m k : Opd} : WPo p ext (⟨d, .e (.lookup sk z ok m k), none⟩ :: l) fr h Q ↔ optP (eW fr h (.lookup sk z ok m k)) fun r => WPo p ext l (putO fr d r.1) r.2 Q := W.eff rfl
theorem W.mapput {sk : Bool} {m k v : Opd} : WPo p ext (⟨d, .e (.mapput sk m k v), none⟩ :: l) fr h Q ↔ optP (eW fr h (.mapput sk m k v)) fun r => WPo p ext l (putO fr d r.1) r.2 Q := W.eff rfl
theorem W.delete {sk : Bool} {m k : Opd} : WPo p ext (⟨d, .e (.delete sk m k), none⟩ :: l) fr h Q ↔ optP (eW fr h (.delete sk m k)) fun r => WPo p ext l (putO fr d r.1) r.2 Q := W.eff rfl
theorem W.lenm {x : Opd} : WPo p ext (⟨d, .e (.lenm x), none⟩ :: l) fr h Q ↔ optP (eW fr h (.lenm x)) fun r => WPo p ext l (putO fr d r.1) r.2 Q := W.eff rfl
theorem W.mark {x : Opd} : WPo p ext (⟨d, .e (.mark x), none⟩ :: l) fr h Q ↔ optP (eW fr h (.mark x)) fun r => WPo p ext l (putO fr d r.1) r.2 Q := W.eff rfl
end
theorem endR_okP {rs : List RV} {Q : V → Hp → Prop} {fr : Fr} {h : Hp} : endR rs Q (.ok fr h) ↔ optP (resV fr h rs) fun r => Q (tupOf r) h := by
  simp only [endR, optP_iff, resP]
  constructor
  · rintro ⟨v, e, k⟩
    split at e
    · rename_i r hr; cases e; exact ⟨r, hr, k⟩
    · cases e
  · rintro ⟨r, e, k⟩
    exact ⟨tupOf r, by rw [e], k⟩
theorem endR_retP {rs : List RV} {Q : V → Hp → Prop} {fr : Fr} {h : Hp} : endR rs Q (.ret fr h) ↔ optP (resV fr h rs) fun r => Q (tupOf r) h := endR_okP
def stAdd (b : Bool) (i : Nat) (h : Hp) (st : List (Nat × Hp)) : List (Nat × Hp) := cond b ((i + 1, h) :: st) st
theorem WPd.nil {i : Nat} {fr : Fr} {h : Hp} {st : List (Nat × Hp)} {rds : List Rd} {Q : Fr → Hp → Prop} : WPd p ext [] i fr h st rds Q ↔ allStill st rds = true ∧ Q fr h := by
  constructor
  · rintro ⟨n, fr', h', e, q⟩
    simp only [runD] at e
    rw [cond_eq_ite] at e; split at e
    · rename_i hs; cases e; exact ⟨hs, q⟩
    · cases e
  · rintro ⟨hs, q⟩
    exact ⟨0, fr, h, by simp [runD, hs], q⟩
theorem runD_none {C : CallF} {env : Env} {d : Option Nat} {o : MOp} {lo hi : Nat} {l : List DO} {i : Nat} {fr : Fr} {h : Hp} {st : List (Nat × Hp)} {rds : List Rd} {r : Fr × Hp} :
    runD env C (⟨⟨d, o, none⟩, lo, hi⟩ :: l) i fr h st rds = some r ↔ ∃ v h1, opV env C fr h o = some (v, h1) ∧ runD env C l (i + 1) (putO fr d v) h1 (cond (isE o) ((i + 1, h1) :: st) st) (rdOf fr h ⟨⟨d, o, none⟩, lo, hi⟩ ++ rds) = some r := by
  simp only [runD, gate]
  cases e : opV env C fr h o with
  | none => simp
  | some q =>
    obtain ⟨v, h1⟩ := q
    simp only [Option.some.injEq, Prod.mk.injEq]
    constructor
    · intro hh; exact ⟨v, h1, ⟨rfl, rfl⟩, hh⟩
    · rintro ⟨_, _, ⟨rfl, rfl⟩, hh⟩; exact hh
section
variable {d : Option Nat} {lo hi : Nat} {l : List DO} {i : Nat} {fr : Fr} {h : Hp} {st : List (Nat × Hp)} {rds : List Rd} {Q : Fr → Hp → Prop}
theorem D.pure {o : POp} : WPd p ext (⟨⟨d, .p o, none⟩, lo, hi⟩ :: l) i fr h st rds Q ↔ optP (pV p.env fr o) fun v => WPd p ext l (i + 1) (putO fr d v) h st rds Q := by
  rw [optP_iff]
  constructor
  · rintro ⟨n, fr', h', e, q⟩
    obtain ⟨v, h1, e1, e2⟩ := runD_none.1 e
    simp only [opV] at e1
    split at e1
    · rename_i v' hv; cases e1; exact ⟨_, hv, n, fr', h', e2, q⟩
    · cases e1
  · rintro ⟨v, e1, n, fr', h', e2, q⟩
    exact ⟨n, fr', h', runD_none.2 ⟨v, h, by simp [opV, e1], e2⟩, q⟩
theorem D.alloc {o : AOp} : WPd p ext (⟨⟨d, .a o, none⟩, lo, hi⟩ :: l) i fr h st rds Q ↔ optP (aV fr o) fun r => WPd p ext l (i + 1) (putO fr d (r.2 h.next)) (h.new r.1) st rds Q := by
  rw [optP_iff]
  constructor
  · rintro ⟨n, fr', h', e, q⟩
    obtain ⟨v, h1, e1, e2⟩ := runD_none.1 e
    simp only [opV] at e1
    split at e1
    · rename_i b mk hv; cases e1; exact ⟨_, hv, n, fr', h', e2, q⟩
    · cases e1
  · rintro ⟨⟨b, mk⟩, e1, n, fr', h', e2, q⟩
    exact ⟨n, fr', h', runD_none.2 ⟨_, _, by simp only [opV, e1], e2⟩, q⟩
theorem D.load1 {x : Opd} : WPd p ext (⟨⟨d, .load1 x, none⟩, lo, hi⟩ :: l) i fr h st rds Q ↔ ptrP (ev fr x) fun b o => optP (h.at1 b o) fun v => WPd p ext l (i + 1) (putO fr d v) h st (⟨lo, hi, b, o, [v]⟩ :: rds) Q := by
  rw [ptrP_iff]
  simp only [optP_iff, Hp.at1_iff]
  constructor
  · rintro ⟨n, fr', h', e, q⟩
    obtain ⟨v, h1, e1, e2⟩ := runD_none.1 e
    simp only [opV] at e1
    split at e1
    case h_2 => cases e1
    rename_i b o hx
    split at e1
    case h_2 => cases e1
    rename_i v' r hr
    cases e1
    have hlen : (v :: r).length = 1 := by
      unfold Hp.read at hr
      split at hr
      · obtain ⟨e3, e4⟩ := takeX_eq hr
        rw [e3, List.length_take]; simp at e4 ⊢; omega
      · cases hr
    have hr0 : r = [] := by cases r; rfl; simp at hlen
    subst hr0
    refine ⟨b, o, hx, v, hr, n, fr', h', ?_, q⟩
    simpa [rdOf, hx, hr, isE] using e2
  · rintro ⟨b, o, hx, v, hr, n, fr', h', e2, q⟩
    exact ⟨n, fr', h', runD_none.2 ⟨v, h, by simp [opV, hx, hr], by simpa [rdOf, hx, hr, isE] using e2⟩, q⟩
theorem D.loadn {x : Opd} {m : Nat} : WPd p ext (⟨⟨d, .loadn m x, none⟩, lo, hi⟩ :: l) i fr h st rds Q ↔ ptrP (ev fr x) fun b o => optP (h.read b o m) fun v => WPd p ext l (i + 1) (putO fr d (.agg v)) h st (⟨lo, hi, b, o, v⟩ :: rds) Q := by
  rw [ptrP_iff]
  simp only [optP_iff]
  constructor
  · rintro ⟨n, fr', h', e, q⟩
    obtain ⟨v, h1, e1, e2⟩ := runD_none.1 e
    simp only [opV] at e1
    split at e1
    case h_2 => cases e1
    rename_i b o hx
    split at e1
    case h_2 => cases e1
    rename_i r hr
    cases e1
    refine ⟨b, o, hx, r, hr, n, fr', h', ?_, q⟩
    simpa [rdOf, hx, hr, isE] using e2
  · rintro ⟨b, o, hx, v, hr, n, fr', h', e2, q⟩
    exact ⟨n, fr', h', runD_none.2 ⟨.agg v, h, by simp [opV, hx, hr], by simpa [rdOf, hx, hr, isE] using e2⟩, q⟩
theorem D.eff {o : EOp} (ho : o.calls = false) : WPd p ext (⟨⟨d, .e o, none⟩, lo, hi⟩ :: l) i fr h st rds Q ↔ optP (eW fr h o) fun r => WPd p ext l (i + 1) (putO fr d r.1) r.2 ((i + 1, r.2) :: st) rds Q := by
  rw [optP_iff]
  constructor
  · rintro ⟨n, fr', h', e, q⟩
    obtain ⟨v, h1, e1, e2⟩ := runD_none.1 e
    exact ⟨(v, h1), (eV_calls ho).symm.trans e1, n, fr', h', e2, q⟩
  · rintro ⟨⟨v, h1⟩, e1, n, fr', h', e2, q⟩
    exact ⟨n, fr', h', runD_none.2 ⟨v, h1, (eV_calls ho).trans e1, e2⟩, q⟩
theorem D.store {sz : Nat} {a x : Opd} : WPd p ext (⟨⟨d, .e (.store sz a x), none⟩, lo, hi⟩ :: l) i fr h st rds Q ↔ ptrP (ev fr a) fun b o => optP (storeH h sz b o (ev fr x).cells) fun h1 => WPd p ext l (i + 1) (putO fr d (.tup [])) h1 ((i + 1, h1) :: st) rds Q := by
  rw [D.eff rfl, ptrP_iff]
  simp only [optP_iff, eW, eV, storeH]
  constructor
  · rintro ⟨⟨v, h1⟩, e, k⟩
    split at e
    case h_2 => cases e
    rename_i b o hb
    refine ⟨b, o, hb, h1, ?_⟩
    rw [cond_eq_ite] at e ⊢
    split at e
    case isFalse => cases e
    rename_i hc
    rw [if_pos hc]
    split at e
    · cases e; rename_i hw; exact ⟨hw, k⟩
    · cases e
  · rintro ⟨b, o, hb, h1, e, k⟩
    refine ⟨(.tup [], h1), ?_, k⟩
    rw [hb]
    simp only
    rw [cond_eq_ite] at e ⊢
    split at e
    case isFalse => cases e
    rename_i hc
    rw [if_pos hc, e]
theorem D.append {sz by_ : Nat} {s x : Opd} : WPd p ext (⟨⟨d, .e (.append sz by_ s x), none⟩, lo, hi⟩ :: l) i fr h st rds Q ↔ optP (appendV sz by_ h (ev fr s) (ev fr x)) fun r => WPd p ext l (i + 1) (putO fr d r.1) r.2 ((i + 1, r.2) :: st) rds Q := D.eff rfl
theorem D.appendz {z : List V} {sz by_ : Nat} {s x : Opd} : WPd p ext (⟨⟨d, .e (.appendz z sz by_ s x), none⟩, lo, hi⟩ :: l) i fr h st rds Q ↔ optP (appendZ z sz by_ h (ev fr s) (ev fr x)) fun r => WPd p ext l (i + 1) (putO fr d r.1) r.2 ((i + 1, r.2) :: st) rds Q := D.eff rfl
theorem D.copy {sz : Nat} {a x : Opd} : WPd p ext (⟨⟨d, .e (.copy sz a x), none⟩, lo, hi⟩ :: l) i fr h st rds Q ↔ optP (eW fr h (.copy sz a x)) fun r => WPd p ext l (i + 1) (putO fr d r.1) r.2 ((i + 1, r.2) :: st) rds Q := D.eff rfl
theorem D.text {x : Opd} : WPd p ext (⟨⟨d, .e (.text x), none⟩, lo, hi⟩ :: l) i fr h st rds Q ↔ optP (eW fr h (.text x)) fun r => WPd p ext l (i + 1) (putO fr d r.1) r.2 ((i + 1, r.2) :: st) rds Q := D.eff rfl
theorem D.lookup {sk : Bool} {z : V} {ok : Bool} {m k : Opd} : WPd p ext (⟨⟨d, .e (.lookup sk z ok m k), none⟩, lo, hi⟩ :: l) i fr h st rds Q ↔ optP (eW fr h (.lookup sk z ok m k)) fun r => WPd p ext l (i + 1) (putO fr d r.1) r.2 ((i + 1, r.2) :: st) rds Q := D.eff rfl
theorem D.mapput {sk : Bool} {m k v : Opd} : WPd p ext (⟨⟨d, .e (.mapput sk m k v), none⟩, lo, hi⟩ :: l) i fr h st rds Q ↔ optP (eW fr h (.mapput sk m k v)) fun r => WPd p ext l (i + 1) (putO fr d r.1) r.2 ((i + 1, r.2) :: st) rds Q := D.eff rfl
theorem D.delete {sk : Bool} {m k : Opd} : WPd p ext (⟨⟨d, .e (.delete sk m k), none⟩, lo, hi⟩ :: l) i fr h st rds Q ↔ optP (eW fr h (.delete sk m k)) fun r => WPd p ext l (i + 1) (putO fr d r.1) r.2 ((i + 1, r.2) :: st) rds Q := D.eff rfl
theorem D.lenm {x : Opd} : WPd p ext (⟨⟨d, .e (.lenm x), none⟩, lo, hi⟩ :: l) i fr h st rds Q ↔ optP (eW fr h (.lenm x)) fun r => WPd p ext l (i + 1) (putO fr d r.1) r.2 ((i + 1, r.2) :: st) rds Q := D.eff rfl
theorem D.mark {x : Opd} : WPd p ext (⟨⟨d, .e (.mark x), none⟩, lo, hi⟩ :: l) i fr h st rds Q ↔ optP (eW fr h (.mark x)) fun r => WPd p ext l (i + 1) (putO fr d r.1) r.2 ((i + 1, r.2) :: st) rds Q := D.eff rfl
theorem D.call {f : Nat} {args : List Opd} : WPd p ext (⟨⟨d, .e (.call f args), none⟩, lo, hi⟩ :: l) i fr h st rds Q ↔ WPc p ext f (evs fr args) h fun v h1 => WPd p ext l (i + 1) (putO fr d v) h1 ((i + 1, h1) :: st) rds Q := by
  constructor
  · rintro ⟨n, fr', h', e, q⟩
    obtain ⟨v, h1, e1, e2⟩ := runD_none.1 e
    exact ⟨n, v, h1, e1, n, fr', h', e2, q⟩
  · rintro ⟨n, v, h1, e, m, fr', h', e2, q⟩
    have e1 := call_mono (p := p) (ext := ext) (Nat.le_max_left n m) _ _ _ _ e
    have e3 := runD_mono (call_mono (p := p) (ext := ext) (Nat.le_max_right n m)) e2
    exact ⟨max n m, fr', h', runD_none.2 ⟨v, h1, e1, e3⟩, q⟩
theorem D.extern {f : Nat} {args : List Opd} : WPd p ext (⟨⟨d, .e (.extern f args), none⟩, lo, hi⟩ :: l) i fr h st rds Q ↔ WPc p ext f (evs fr args) h fun v h1 => WPd p ext l (i + 1) (putO fr d v) h1 ((i + 1, h1) :: st) rds Q := by
  constructor
  · rintro ⟨n, fr', h', e, q⟩
    obtain ⟨v, h1, e1, e2⟩ := runD_none.1 e
    exact ⟨n, v, h1, e1, n, fr', h', e2, q⟩
  · rintro ⟨n, v, h1, e, m, fr', h', e2, q⟩
    have e1 := call_mono (p := p) (ext := ext) (Nat.le_max_left n m) _ _ _ _ e
    have e3 := runD_mono (call_mono (p := p) (ext := ext) (Nat.le_max_right n m)) e2
    exact ⟨max n m, fr', h', runD_none.2 ⟨v, h1, e1, e3⟩, q⟩
theorem D.callv {x : Opd} {args : List Opd} : WPd p ext (⟨⟨d, .e (.callv x args), none⟩, lo, hi⟩ :: l) i fr h st rds Q ↔
    funP (ev fr x) fun f first captured => WPc p ext f (first ++ evs fr args ++ captured) h fun v h1 => WPd p ext l (i + 1) (putO fr d v) h1 ((i + 1, h1) :: st) rds Q := by
  rw [funP_iff]
  constructor
  · rintro ⟨n, fr', h', e, q⟩
    obtain ⟨v, h1, e1, e2⟩ := runD_none.1 e
    simp only [opV, eV] at e1
    split at e1
    · rename_i f a c hx; exact ⟨f, a, c, hx, n, v, h1, e1, n, fr', h', e2, q⟩
    · cases e1
  · rintro ⟨f, a, c, hx, n, v, h1, e, m, fr', h', e2, q⟩
    have e1 := call_mono (p := p) (ext := ext) (Nat.le_max_left n m) _ _ _ _ e
    have e3 := runD_mono (call_mono (p := p) (ext := ext) (Nat.le_max_right n m)) e2
    exact ⟨max n m, fr', h', runD_none.2 ⟨v, h1, by simp only [opV, eV, hx]; exact e1, e3⟩, q⟩
theorem D.guard {o : MOp} {t : Nat} {want : Bool} :
    WPd p ext (⟨⟨d, o, some (t, want)⟩, lo, hi⟩ :: l) i fr h st rds Q ↔ gateP (ev fr (.tmp t)) want (WPd p ext (⟨⟨d, o, none⟩, lo, hi⟩ :: l) i fr h st rds Q) (WPd p ext l (i + 1) (putO fr d (.tup [])) h (stAdd (isE o) i h st) rds Q) := by
  have key : ∀ C r, runD p.env C (⟨⟨d, o, some (t, want)⟩, lo, hi⟩ :: l) i fr h st rds = some r ↔ gateP (ev fr (.tmp t)) want (runD p.env C (⟨⟨d, o, none⟩, lo, hi⟩ :: l) i fr h st rds = some r) (runD p.env C l (i + 1) (putO fr d (.tup [])) h (stAdd (isE o) i h st) rds = some r) := by
    intro C r
    cases e : ev fr (.tmp t)
    case bool b =>
      have rd : rdOf fr h ⟨⟨d, o, some (t, want)⟩, lo, hi⟩ = rdOf fr h ⟨⟨d, o, none⟩, lo, hi⟩ := rfl
      cases b <;> cases want <;> simp [runD, gate, e, gateP, beqB, stAdd, rd]
    case tup x => simp [runD, gate, e, gateP, stAdd]
    all_goals simp [runD, gate, e, gateP]
  constructor
  · rintro ⟨n, fr', h', e, q⟩
    have := (key _ _).1 e
    cases e : ev fr (.tmp t) <;> rw [e] at this <;> simp only [gateP] at this ⊢
    · exact ⟨fun hb => ⟨n, fr', h', this.1 hb, q⟩, fun hb => ⟨n, fr', h', this.2 hb, q⟩⟩
    · exact ⟨n, fr', h', this, q⟩
  · intro hg
    cases e : ev fr (.tmp t) <;> rw [e] at hg <;> simp only [gateP] at hg
    · rename_i b
      by_cases hb : b = want
      · obtain ⟨n, fr', h', e1, q⟩ := hg.1 hb
        refine ⟨n, fr', h', (key _ _).2 ?_, q⟩
        rw [e]
        exact ⟨fun _ => e1, fun hb' => by rw [hb'] at hb; cases want <;> cases hb⟩
      · have hb' : b = !want := by cases b <;> cases want <;> simp_all
        obtain ⟨n, fr', h', e1, q⟩ := hg.2 hb'
        refine ⟨n, fr', h', (key _ _).2 ?_, q⟩
        rw [e]
        exact ⟨fun hb'' => absurd hb'' hb, fun _ => e1⟩
    · obtain ⟨n, fr', h', e1, q⟩ := hg
      refine ⟨n, fr', h', (key _ _).2 ?_, q⟩
      rw [e]
      exact e1
end
attribute [simp] WP.skip WP.exit WP.ret WP.region WP.dregion WP.seq WP.block W.cond WPo.nil W.pure W.alloc W.load1 W.loadn W.callv WPo.call WPo.extern W.guard W.store W.append W.appendz W.copy W.text W.lookup W.mapput W.delete W.lenm W.mark
attribute [simp] D.store D.append D.appendz D.copy D.text D.lookup D.mapput D.delete D.lenm D.mark WPd.nil D.pure D.alloc D.load1 D.loadn D.call D.extern D.callv D.guard stAdd isE
attribute [simp] optP_some optP_none boolP_bool condP_tt condP_ff ptrP_ptr funP_func gateP_tup gateP_tt gateP_ff gateP_tf gateP_ft ev_val ev_put put_none ev_args endR_okP endR_retP
attribute [simp] bin_add bin_sub bin_mul bin_and bin_or bin_xor bin_eql bin_neq bin_lss bin_gtr bin_leq bin_geq min2_int max2_int
attribute [simp] evs evo resV res1 tupOf V.cells
def pickV (c a b : V) : Option V := match c with
  | .bool true => some a
  | .bool false => some b
  | _ => none
def nilchkV (x : V) : Option V := match x with
  | .ptr b o => some (.ptr b o)
  | .func f a c => some (.func f a c)
  | _ => none
def eqP (ty : ETy) (neg : Bool) (x y : V) : Option V := match eqV ty x y with
  | some r => some (.bool (cond neg (!r) r))
  | none => none
def eqiP (ints : List Nat) (lit neg : Bool) (x y : V) : Option V := match eqiV ints lit x y with
  | some r => some (.bool (cond neg (!r) r))
  | none => none
def negV (x : V) : Option V := match x with
  | .int k n => some (.int k (wr k (Int.sub (.ofNat 0) n)))
  | _ => none
def notV (x : V) : Option V := match x with
  | .bool b => some (.bool (!b))
  | _ => none
def complV (x : V) : Option V := match x with
  | .int k n => some (.int k (wr k (.ofNat (Nat.xor (Nat.sub (pow2 k) 1) (toU k n)))))
  | _ => none
def faddrV (off : Nat) (x : V) : Option V := match x with
  | .ptr b o => some (.ptr b (o + off))
  | _ => none
def field1V (off : Nat) (x : V) : Option V := match x with
  | .agg l => getX l off
  | _ => none
def fieldnV (off n : Nat) (x : V) : Option V := match x with
  | .agg l => match takeX n (l.drop off) with
    | some r => some (.agg r)
    | none => none
  | _ => none
def iaddrV (sz : Nat) (x i : V) : Option V := match x with
  | .slice b o sz' len _ _ => match natOf i with
    | some n => cond (Nat.blt n len) (cond (Nat.beq sz sz') (some (.ptr b (o + n * sz))) none) none
    | none => none
  | _ => none
def iaddraV (len sz : Nat) (x i : V) : Option V := match x with
  | .ptr b o => match natOf i with
    | some n => cond (Nat.blt n len) (some (.ptr b (o + n * sz))) none
    | none => none
  | _ => none
def idxsV (x i : V) : Option V := match x with
  | .str s => match natOf i with
    | some n => match getX s n with
      | some c => some (.int .u8 (.ofNat c))
      | none => none
    | none => none
  | _ => none
def idx1V (len : Nat) (x i : V) : Option V := match x with
  | .agg l => match natOf i with
    | some n => cond (Nat.blt n len) (getX l n) none
    | none => none
  | _ => none
def idxnV (len sz : Nat) (x i : V) : Option V := match x with
  | .agg l => match natOf i with
    | some n => cond (Nat.blt n len) (match takeX sz (l.drop (n * sz)) with
      | some r => some (.agg r)
      | none => none) none
    | none => none
  | _ => none
def extV' (i : Nat) (x : V) : Option V := match x with
  | .tup l => getX l i
  | _ => none
def lensV (x : V) : Option V := match x with
  | .str s => some (.int .i64 (.ofNat s.length))
  | _ => none
def lenbV (x : V) : Option V := match x with
  | .nilslice => some (.int .i64 (.ofNat 0))
  | .slice _ _ _ len _ _ => some (.int .i64 (.ofNat len))
  | _ => none
def capsV (x : V) : Option V := match x with
  | .nilslice => some (.int .i64 (.ofNat 0))
  | .slice _ _ _ _ c true => some (.int .i64 (.ofNat c))
  | _ => none
def aggO (o : Option (List V)) : Option V := match o with
  | some c => some (.agg c)
  | none => none
section
variable {env : Env} {fr : Fr} {x y z : Opd}
theorem pV_mov : pV env fr (.mov x) = some (ev fr x) := rfl
theorem pV_pick : pV env fr (.pick x y z) = pickV (ev fr x) (ev fr y) (ev fr z) := rfl
theorem pV_build {c : List V} {l : List (Nat × Nat × Opd)} : pV env fr (.build c l) = aggO (fillV c (evParts fr l)) := rfl
theorem pV_nilchk : pV env fr (.nilchk x) = nilchkV (ev fr x) := rfl
theorem pV_bin {op : BinOp} : pV env fr (.bin op x y) = binV env.tab op (ev fr x) (ev fr y) := rfl
theorem pV_eq {ty : ETy} {neg : Bool} : pV env fr (.eq ty neg x y) = eqP ty neg (ev fr x) (ev fr y) := rfl
theorem pV_eqi {lit neg : Bool} : pV env fr (.eqi lit neg x y) = eqiP env.ints lit neg (ev fr x) (ev fr y) := rfl
theorem pV_neg : pV env fr (.neg x) = negV (ev fr x) := rfl
theorem pV_not : pV env fr (.not x) = notV (ev fr x) := rfl
theorem pV_compl : pV env fr (.compl x) = complV (ev fr x) := rfl
theorem pV_conv {c : CTy} : pV env fr (.conv c x) = convV c (ev fr x) := rfl
theorem pV_mkiface {t : Nat} : pV env fr (.mkiface t x) = some (.iface t (ev fr x)) := rfl
theorem pV_mkfunc {f : Nat} {a c : List Opd} : pV env fr (.mkfunc f a c) = some (.func f (evs fr a) (evs fr c)) := rfl
theorem pV_slc {sz : Nat} {lo hi mx : Option Opd} : pV env fr (.slc sz x lo hi mx) = slcV sz (ev fr x) (evo fr lo) (evo fr hi) (evo fr mx) := rfl
theorem pV_sls {lo hi : Option Opd} : pV env fr (.sls x lo hi) = slsV (ev fr x) (evo fr lo) (evo fr hi) := rfl
theorem pV_sla {n sz : Nat} {lo hi mx : Option Opd} : pV env fr (.sla n sz x lo hi mx) = slaV n sz (ev fr x) (evo fr lo) (evo fr hi) (evo fr mx) := rfl
theorem pV_faddr {off : Nat} : pV env fr (.faddr off x) = faddrV off (ev fr x) := rfl
theorem pV_field1 {off : Nat} : pV env fr (.field1 off x) = field1V off (ev fr x) := rfl
theorem pV_fieldn {off n : Nat} : pV env fr (.fieldn off n x) = fieldnV off n (ev fr x) := rfl
theorem pV_iaddr {sz : Nat} : pV env fr (.iaddr sz x y) = iaddrV sz (ev fr x) (ev fr y) := rfl
theorem pV_iaddra {n sz : Nat} : pV env fr (.iaddra n sz x y) = iaddraV n sz (ev fr x) (ev fr y) := rfl
theorem pV_idxs : pV env fr (.idxs x y) = idxsV (ev fr x) (ev fr y) := rfl
theorem pV_idx1 {n : Nat} : pV env fr (.idx1 n x y) = idx1V n (ev fr x) (ev fr y) := rfl
theorem pV_idxn {n sz : Nat} : pV env fr (.idxn n sz x y) = idxnV n sz (ev fr x) (ev fr y) := rfl
theorem pV_ext {i : Nat} : pV env fr (.ext x i) = extV' i (ev fr x) := rfl
theorem pV_lens : pV env fr (.lens x) = lensV (ev fr x) := rfl
theorem pV_lenb : pV env fr (.lenb x) = lenbV (ev fr x) := rfl
theorem pV_lena {n : Nat} : pV env fr (.lena n) = some (.int .i64 (.ofNat n)) := rfl
theorem pV_caps : pV env fr (.caps x) = capsV (ev fr x) := rfl
theorem pV_min {l : List Opd} : pV env fr (.min (x :: l)) = foldV (min2V env.tab) (ev fr x) (evs fr l) := rfl
theorem pV_max {l : List Opd} : pV env fr (.max (x :: l)) = foldV (max2V env.tab) (ev fr x) (evs fr l) := rfl
end
theorem pickV_t {a b : V} : pickV (.bool true) a b = some a := rfl
theorem pickV_f {a b : V} : pickV (.bool false) a b = some b := rfl
theorem nilchkV_ptr {b o : Nat} : nilchkV (.ptr b o) = some (.ptr b o) := rfl
theorem nilchkV_func {f : Nat} {a c : List V} : nilchkV (.func f a c) = some (.func f a c) := rfl
theorem eqP_some {ty : ETy} {neg r : Bool} {x y : V} (h : eqV ty x y = some r) : eqP ty neg x y = some (.bool (cond neg (!r) r)) := by simp only [eqP, h]
theorem notV_bool {b : Bool} : notV (.bool b) = some (.bool (!b)) := rfl
theorem negV_int {k : IntKind} {n : Int} : negV (.int k n) = some (.int k (wr k (-n))) := by
  simp only [negV]
  rw [show Int.sub (.ofNat 0) n = -n from by show (0 : Int) - n = -n; omega]
theorem faddrV_ptr {off b o : Nat} : faddrV off (.ptr b o) = some (.ptr b (o + off)) := rfl
theorem field1V_agg {off : Nat} {l : List V} : field1V off (.agg l) = getX l off := rfl
theorem iaddrV_slice {sz b o len c n : Nat} {ex : Bool} (h : n < len) : iaddrV sz (.slice b o sz len c ex) (.int .i64 (n : Int)) = some (.ptr b (o + n * sz)) := by
  show cond (Nat.blt n len) (cond (Nat.beq sz sz) _ _) none = _
  rw [show Nat.blt n len = true from nblt.2 h, show Nat.beq sz sz = true from nbeq.2 rfl]
  rfl
theorem extV'_tup {i : Nat} {l : List V} : extV' i (.tup l) = getX l i := rfl
theorem lensV_str {s : List Nat} : lensV (.str s) = some (.int .i64 (s.length : Int)) := rfl
theorem lenbV_nil : lenbV .nilslice = some (.int .i64 0) := rfl
theorem lenbV_slice {b o sz len c : Nat} {ex : Bool} : lenbV (.slice b o sz len c ex) = some (.int .i64 (len : Int)) := rfl
theorem aggO_some {c : List V} : aggO (some c) = some (.agg c) := rfl
theorem convV_int {k j : IntKind} {n : Int} : convV (.int k) (.int j n) = some (.int k (wr k n)) := rfl
theorem foldV_nil {f : V → V → Option V} {x : V} : foldV f x [] = some x := rfl
theorem foldV_cons {f : V → V → Option V} {x y : V} {l : List V} : foldV f x (y :: l) = (f x y).bind fun z => foldV f z l := by
  simp only [foldV]; cases f x y <;> rfl
attribute [simp] pV_mov pV_pick pV_build pV_nilchk pV_bin pV_eq pV_eqi pV_neg pV_not pV_compl pV_conv pV_mkiface pV_mkfunc pV_slc pV_sls pV_sla pV_faddr pV_field1 pV_fieldn pV_iaddr pV_iaddra pV_idxs pV_idx1 pV_idxn pV_ext pV_lens pV_lenb pV_lena pV_caps pV_min pV_max
attribute [simp] pickV_t pickV_f nilchkV_ptr nilchkV_func notV_bool negV_int faddrV_ptr field1V_agg iaddrV_slice extV'_tup lensV_str lenbV_nil lenbV_slice aggO_some convV_int foldV_nil foldV_cons
end Go.Vm
end

section
namespace Go.Vm
def cellAt : Blk → Nat → Option V
  | .cells l _, o => l[o]?
  | _, _ => none
theorem takeX_one {l : List V} {o : Nat} : takeX 1 (l.drop o) = (l[o]?).map fun v => [v] := by
  cases e : l.drop o with
  | nil =>
    have : l.length ≤ o := by simpa using e
    rw [List.getElem?_eq_none (by omega)]
    rfl
  | cons v r =>
    have : l[o]? = some v := by
      have := List.getElem?_drop (xs := l) (i := o) (j := 0)
      rw [e] at this
      simpa using this.symm
    rw [this]
    rfl
theorem at1_eq {h : Hp} {b o : Nat} : h.at1 b o = cellAt (h.blk b) o := by
  unfold Hp.at1 Hp.read
  cases h.blk b with
  | cells l ro =>
    simp only [takeX_one, cellAt]
    cases l[o]? <;> rfl
  | map kk l => rfl
  | gone => rfl
theorem cellAt_cells {l : List V} {ro : Bool} {o : Nat} : cellAt (.cells l ro) o = l[o]? := rfl
theorem read_cells {h : Hp} {b o n : Nat} {l : List V} {ro : Bool} (hb : h.blk b = .cells l ro) (hn : o + n ≤ l.length) : h.read b o n = some ((l.drop o).take n) := by
  unfold Hp.read
  rw [hb]
  exact takeX_of (by simp; omega)
theorem write_cells {h : Hp} {b o : Nat} {vs l : List V} (hb : h.blk b = .cells l false) (hn : o + vs.length ≤ l.length) (hf : allFlat vs = true) : h.write b o vs = some (h.put b (.cells (splice l o vs) false)) := by
  unfold Hp.write
  rw [hb]
  simp only
  rw [show Nat.ble (o + vs.length) l.length = true from nble.2 hn, hf]
  rfl
theorem put_next {h : Hp} {b : Nat} {x : Blk} : (h.put b x).next = h.next := rfl
theorem new_next {h : Hp} {x : Blk} : (h.new x).next = h.next + 1 := rfl
theorem natOf_cast {k : IntKind} {n : Nat} : natOf (.int k (n : Int)) = some n := rfl
theorem natOf_lit {k : IntKind} {n : Nat} : natOf (.int k (@OfNat.ofNat Int n _)) = some n := rfl
theorem natOf_zero {k : IntKind} : natOf (.int k 0) = some 0 := rfl
theorem natOf_one {k : IntKind} : natOf (.int k 1) = some 1 := rfl
theorem blt_d {a b : Nat} : Nat.blt a b = decide (a < b) := by rw [Bool.eq_iff_iff, nblt, decide_eq_true_iff]
theorem ble_d {a b : Nat} : Nat.ble a b = decide (a ≤ b) := by rw [Bool.eq_iff_iff, nble, decide_eq_true_iff]
theorem beq_d {a b : Nat} : Nat.beq a b = decide (a = b) := by rw [Bool.eq_iff_iff, nbeq, decide_eq_true_iff]
theorem allFlat_cons {v : V} {l : List V} : allFlat (v :: l) = (v.flat && allFlat l) := by
  simp only [allFlat]; cases v.flat <;> rfl
mutual
theorem same_self : ∀ v : V, V.same v v = true
  | .bool b => by cases b <;> rfl
  | .int k n => by simp only [V.same, keq_self, cond_true, ieq_iff]
  | .sym i => by simp only [V.same, nbeq]
  | .str l => by
    have : ∀ l, neqs l l = true := fun l => by induction l with
      | nil => rfl
      | cons a l ih => simp only [neqs, show Nat.beq a a = true from nbeq.2 rfl, cond_true, ih]
    exact this l
  | .nilptr => rfl
  | .ptr b o => by simp only [V.same, show ∀ n, Nat.beq n n = true from fun n => nbeq.2 rfl, cond_true]
  | .nilslice => rfl
  | .slice b o sz len c e => by cases e <;> simp only [V.same, show ∀ n, Nat.beq n n = true from fun n => nbeq.2 rfl, cond_true] <;> rfl
  | .nilmap => rfl
  | .map b => by simp only [V.same, nbeq]
  | .func f a c => by simp only [V.same, show Nat.beq f f = true from nbeq.2 rfl, cond_true, sames_self a, sames_self c]
  | .nilfunc => rfl
  | .niliface => rfl
  | .iface t v => by simp only [V.same, show Nat.beq t t = true from nbeq.2 rfl, cond_true, same_self v]
  | .agg l => by simp only [V.same, sames_self l]
  | .tup l => by simp only [V.same, sames_self l]
theorem sames_self : ∀ l : List V, V.sames l l = true
  | [] => rfl
  | v :: l => by simp only [V.sames, same_self v, cond_true, sames_self l]
end
theorem sames_iff {a b : List V} : V.sames a b = true ↔ b = a := ⟨fun h => (sames_eq h).symm, fun h => by rw [h]; exact sames_self a⟩
theorem stillAt_one {lo hi b o : Nat} {v : V} {h : Hp} : stillAt ⟨lo, hi, b, o, [v]⟩ h = true ↔ cellAt (h.blk b) o = some v := by
  rw [← at1_eq, Hp.at1_iff]
  simp only [stillAt, List.length_singleton]
  cases e : h.read b o 1 with
  | none => simp
  | some l => simp only [sames_iff, Option.some.injEq]
theorem stillAt_many {lo hi b o : Nat} {l : List V} {h : Hp} : stillAt ⟨lo, hi, b, o, l⟩ h = true ↔ h.read b o l.length = some l := by
  simp only [stillAt]
  cases e : h.read b o l.length with
  | none => simp
  | some r => simp only [sames_iff, Option.some.injEq]
theorem stillAll_cons {r : Rd} {c : Nat} {h : Hp} {st : List (Nat × Hp)} : stillAll r ((c, h) :: st) = true ↔ (r.lo ≤ c → c ≤ r.hi → stillAt r h = true) ∧ stillAll r st = true := by
  simp only [stillAll]
  rw [cond_eq_ite, nble_d]
  by_cases h1 : r.lo ≤ c
  · rw [if_pos (decide_eq_true h1), cond_eq_ite, nble_d]
    by_cases h2 : c ≤ r.hi
    · rw [if_pos (decide_eq_true h2), cond_eq_ite]
      by_cases h3 : stillAt r h = true
      · rw [if_pos h3]; simp [h3]
      · rw [if_neg h3]; simp [h1, h2, h3]
    · rw [if_neg (by simpa using h2)]; simp [h2]
  · rw [if_neg (by simpa using h1)]; simp [h1]
theorem stillAll_nil {r : Rd} : stillAll r [] = true := rfl
theorem allStill_cons {r : Rd} {l : List Rd} {st : List (Nat × Hp)} : allStill st (r :: l) = true ↔ stillAll r st = true ∧ allStill st l = true := by
  simp only [allStill]
  rw [cond_eq_ite]
  by_cases h : stillAll r st = true
  · rw [if_pos h]; simp [h]
  · rw [if_neg h]; simp [h]
theorem allStill_nil {st : List (Nat × Hp)} : allStill st [] = true := rfl
attribute [simp] stillAt_one stillAt_many stillAll_cons stillAll_nil allStill_cons allStill_nil
def Own (h : Hp) (sz : Nat) (s : V) (n : Nat) (l : List V) : Prop :=
  (s = .nilslice ∧ n = 0 ∧ l = []) ∨ ∃ b, s = .slice b 0 sz n n false ∧ h.blk b = .cells l false ∧ l.length = n * sz ∧ 0 < n
def V.hasB (x : Nat) : V → Prop
  | .slice b _ _ _ _ _ => x = b
  | .ptr b _ => x = b
  | _ => False
def Chg (S : Nat → Prop) (h h' : Hp) : Prop := h.next ≤ h'.next ∧ ∀ x, x < h.next → ¬ S x → h'.blk x = h.blk x
theorem Chg.refl {S : Nat → Prop} {h : Hp} : Chg S h h := ⟨Nat.le_refl _, fun _ _ _ => rfl⟩
theorem Chg.trans {S T : Nat → Prop} {h h1 h2 : Hp} (a : Chg S h h1) (b : Chg T h1 h2) (hT : ∀ x, x < h.next → T x → S x) : Chg S h h2 :=
  ⟨Nat.le_trans a.1 b.1, fun x hx hs => (b.2 x (Nat.lt_of_lt_of_le hx a.1) fun ht => hs (hT x hx ht)).trans (a.2 x hx hs)⟩
theorem Chg.mono {S T : Nat → Prop} {h h1 : Hp} (a : Chg S h h1) (hT : ∀ x, x < h.next → S x → T x) : Chg T h h1 := ⟨a.1, fun x hx hs => a.2 x hx fun k => hs (hT x hx k)⟩
theorem Own.lenb {h : Hp} {sz n : Nat} {s : V} {l : List V} (ho : Own h sz s n l) : lenbV s = some (.int .i64 n) := by
  rcases ho with ⟨rfl, rfl, rfl⟩ | ⟨b, rfl, _⟩ <;> rfl
theorem Own.len {h : Hp} {sz n : Nat} {s : V} {l : List V} (ho : Own h sz s n l) : l.length = n * sz := by
  rcases ho with ⟨rfl, rfl, rfl⟩ | ⟨b, rfl, _, hl, _⟩
  · simp
  · exact hl
theorem Own.iaddr {h : Hp} {sz n i : Nat} {s : V} {l : List V} (ho : Own h sz s n l) (hi : i < n) : ∃ b, s = .slice b 0 sz n n false ∧ iaddrV sz s (.int .i64 (i : Int)) = some (.ptr b (i * sz)) ∧ h.blk b = .cells l false := by
  rcases ho with ⟨rfl, rfl, rfl⟩ | ⟨b, rfl, hb, hl, _⟩
  · omega
  · exact ⟨b, rfl, by rw [iaddrV_slice hi, Nat.zero_add], hb⟩
theorem Own.mono {h h' : Hp} {sz n : Nat} {s : V} {l : List V} (ho : Own h sz s n l) (hs : ∀ x, s.hasB x → h'.blk x = h.blk x) : Own h' sz s n l := by
  rcases ho with ⟨rfl, rfl, rfl⟩ | ⟨b, rfl, hb, hl, hn⟩
  · exact .inl ⟨rfl, rfl, rfl⟩
  · exact .inr ⟨b, rfl, (hs b rfl).trans hb, hl, hn⟩
theorem roomy_of {by_ n : Nat} (h1 : by_ * n ≤ 1099511627776) (h2 : n ≤ 1099511627776) : roomy by_ n = true := by
  unfold roomy
  rw [show Nat.ble (by_ * n) 1099511627776 = true from nble.2 h1, show Nat.ble n 1099511627776 = true from nble.2 h2]
  rfl
attribute [simp] at1_eq cellAt_cells blk_put blk_new put_next new_next natOf_cast natOf_lit natOf_zero natOf_one blt_d ble_d beq_d allFlat_cons V.flat
attribute [simp] fillV evParts splice over getX
end Go.Vm
end

section
namespace Go.Vm
variable {p : Prog} {ext : Ext}
inductive KF where
  | seq (b : MCode)
  | block (id : Nat)
def RK (p : Prog) (ext : Ext) : List KF → Res → (Res → Prop) → Prop
  | [], r, Q => Q r
  | .seq b :: K, r, Q => thenR (fun r => RK p ext K r Q) (fun fr h => WP p ext b fr h fun r => RK p ext K r Q) r
  | .block id :: K, r, Q => blockR id (fun r => RK p ext K r Q) r
def WS (p : Prog) (ext : Ext) (c : MCode) (K : List KF) (fr : Fr) (h : Hp) (Q : Res → Prop) : Prop := WP p ext c fr h fun r => RK p ext K r Q
def OS (p : Prog) (ext : Ext) (l : List MO) (K : List KF) (fr : Fr) (h : Hp) (Q : Res → Prop) : Prop := WPo p ext l fr h fun fr h => RK p ext K (.ok fr h) Q
def DS (p : Prog) (ext : Ext) (l : List DO) (K : List KF) (i : Nat) (fr : Fr) (h : Hp) (st : List (Nat × Hp)) (rds : List Rd) (Q : Res → Prop) : Prop := WPd p ext l i fr h st rds fun fr h => RK p ext K (.ok fr h) Q
theorem WS.start {c : MCode} {fr : Fr} {h : Hp} {Q : Res → Prop} : WP p ext c fr h Q ↔ WS p ext c [] fr h Q := Iff.rfl
section
variable {K : List KF} {fr : Fr} {h : Hp} {Q : Res → Prop}
theorem WS.seq {a b : MCode} : WS p ext (.seq a b) K fr h Q ↔ WS p ext a (.seq b :: K) fr h Q := WP.seq
theorem WS.block {id : Nat} {c : MCode} : WS p ext (.block id c) K fr h Q ↔ WS p ext c (.block id :: K) fr h Q := WP.block
theorem WS.skip : WS p ext .skip K fr h Q ↔ RK p ext K (.ok fr h) Q := WP.skip
theorem WS.exit {id : Nat} : WS p ext (.exit id) K fr h Q ↔ RK p ext K (.exit id fr h) Q := WP.exit
theorem WS.ret : WS p ext .ret K fr h Q ↔ RK p ext K (.ret fr h) Q := WP.ret
theorem WS.region {l : List MO} : WS p ext (.region l) K fr h Q ↔ OS p ext l K fr h Q := WP.region
theorem WS.dregion {l : List DO} : WS p ext (.dregion l) K fr h Q ↔ DS p ext l K 0 fr h [(0, h)] [] Q := WP.dregion
def condS (p : Prog) (ext : Ext) (v : V) (a b : MCode) (K : List KF) (fr : Fr) (h : Hp) (Q : Res → Prop) : Prop := condP v (WS p ext a K fr h Q) (WS p ext b K fr h Q)
theorem WS.cond {c : Opd} {a b : MCode} : WS p ext (.cond c a b) K fr h Q ↔ condS p ext (ev fr c) a b K fr h Q := W.cond
theorem condS_tt {a b : MCode} : condS p ext (.bool true) a b K fr h Q ↔ WS p ext a K fr h Q := Iff.rfl
theorem condS_ff {a b : MCode} : condS p ext (.bool false) a b K fr h Q ↔ WS p ext b K fr h Q := Iff.rfl
theorem RK.nil {r : Res} : RK p ext [] r Q ↔ Q r := Iff.rfl
theorem RK.seq_ok {b : MCode} : RK p ext (.seq b :: K) (.ok fr h) Q ↔ WS p ext b K fr h Q := Iff.rfl
theorem RK.seq_ret {b : MCode} : RK p ext (.seq b :: K) (.ret fr h) Q ↔ RK p ext K (.ret fr h) Q := Iff.rfl
theorem RK.seq_exit {b : MCode} {id : Nat} : RK p ext (.seq b :: K) (.exit id fr h) Q ↔ RK p ext K (.exit id fr h) Q := Iff.rfl
theorem RK.block_ok {id : Nat} : RK p ext (.block id :: K) (.ok fr h) Q ↔ RK p ext K (.ok fr h) Q := Iff.rfl
theorem RK.block_ret {id : Nat} : RK p ext (.block id :: K) (.ret fr h) Q ↔ RK p ext K (.ret fr h) Q := Iff.rfl
theorem RK.block_same {id : Nat} : RK p ext (.block id :: K) (.exit id fr h) Q ↔ RK p ext K (.ok fr h) Q := by
  simp only [RK, blockR_exit, show Nat.beq id id = true from nbeq.2 rfl, cond_true]
theorem RK.block_other {id id' : Nat} (hne : id' ≠ id) : RK p ext (.block id :: K) (.exit id' fr h) Q ↔ RK p ext K (.exit id' fr h) Q := by
  simp only [RK, blockR_exit, show Nat.beq id' id = false from by rw [nbeq_d]; exact decide_eq_false hne, cond_false]
theorem OS.nil : OS p ext [] K fr h Q ↔ RK p ext K (.ok fr h) Q := WPo.nil
def valS (p : Prog) (ext : Ext) (o : Option V) (d : Option Nat) (l : List MO) (K : List KF) (fr : Fr) (h : Hp) (Q : Res → Prop) : Prop := optP o fun v => OS p ext l K (putO fr d v) h Q
theorem valS_some {v : V} {d : Option Nat} {l : List MO} : valS p ext (some v) d l K fr h Q ↔ OS p ext l K (putO fr d v) h Q := Iff.rfl
def effS (p : Prog) (ext : Ext) (o : Option (V × Hp)) (d : Option Nat) (l : List MO) (K : List KF) (fr : Fr) (Q : Res → Prop) : Prop := optP o fun r => OS p ext l K (putO fr d r.1) r.2 Q
theorem effS_some {v : V} {h1 : Hp} {d : Option Nat} {l : List MO} : effS p ext (some (v, h1)) d l K fr Q ↔ OS p ext l K (putO fr d v) h1 Q := Iff.rfl
def newS (p : Prog) (ext : Ext) (o : Option (Blk × (Nat → V))) (d : Option Nat) (l : List MO) (K : List KF) (fr : Fr) (h : Hp) (Q : Res → Prop) : Prop := optP o fun r => OS p ext l K (putO fr d (r.2 h.next)) (h.new r.1) Q
theorem newS_some {x : Blk} {mk : Nat → V} {d : Option Nat} {l : List MO} : newS p ext (some (x, mk)) d l K fr h Q ↔ OS p ext l K (putO fr d (mk h.next)) (h.new x) Q := Iff.rfl
def loadV (h : Hp) (v : V) : Option V := match v with
  | .ptr b o => cellAt (h.blk b) o
  | _ => none
theorem loadV_ptr {b o : Nat} : loadV h (.ptr b o) = cellAt (h.blk b) o := rfl
def loadnV (h : Hp) (n : Nat) (v : V) : Option V := match v with
  | .ptr b o => aggO (h.read b o n)
  | _ => none
theorem loadnV_ptr {b o n : Nat} : loadnV h n (.ptr b o) = aggO (h.read b o n) := rfl
def storeV (h : Hp) (sz : Nat) (a x : V) : Option (V × Hp) := match a with
  | .ptr b o => (storeH h sz b o x.cells).map fun h1 => (.tup [], h1)
  | _ => none
theorem storeV_ptr {b o sz : Nat} {x : V} : storeV h sz (.ptr b o) x = (storeH h sz b o x.cells).map fun h1 => (.tup [], h1) := rfl
def callS (p : Prog) (ext : Ext) (f : Nat) (args : List V) (h : Hp) (d : Option Nat) (l : List MO) (K : List KF) (fr : Fr) (Q : Res → Prop) : Prop := WPc p ext f args h fun v h1 => OS p ext l K (putO fr d v) h1 Q
theorem Ret.call {f : Nat} {args : List V} {h' : Hp} {v : V} (a : Ret p ext f args h v h') {d : Option Nat} {l : List MO} : callS p ext f args h d l K fr Q ↔ OS p ext l K (putO fr d v) h' Q := a.wpc
theorem callS_of {f : Nat} {args : List V} {d : Option Nat} {l : List MO} (hw : WPc p ext f args h fun v h1 => OS p ext l K (putO fr d v) h1 Q) : callS p ext f args h d l K fr Q := hw
def callvS (p : Prog) (ext : Ext) (x : V) (args : List V) (h : Hp) (d : Option Nat) (l : List MO) (K : List KF) (fr : Fr) (Q : Res → Prop) : Prop := funP x fun f first captured => callS p ext f (first ++ args ++ captured) h d l K fr Q
theorem callvS_func {f : Nat} {a c args : List V} {d : Option Nat} {l : List MO} : callvS p ext (.func f a c) args h d l K fr Q ↔ callS p ext f (a ++ args ++ c) h d l K fr Q := Iff.rfl
theorem OS.pure {d : Option Nat} {o : POp} {l : List MO} : OS p ext (⟨d, .p o, none⟩ :: l) K fr h Q ↔ valS p ext (pV p.env fr o) d l K fr h Q := W.pure
theorem OS.alloc {d : Option Nat} {o : AOp} {l : List MO} : OS p ext (⟨d, .a o, none⟩ :: l) K fr h Q ↔ newS p ext (aV fr o) d l K fr h Q := W.alloc
theorem OS.load1 {d : Option Nat} {x : Opd} {l : List MO} : OS p ext (⟨d, .load1 x, none⟩ :: l) K fr h Q ↔ valS p ext (loadV h (ev fr x)) d l K fr h Q := by
  refine (W.load1 (p := p) (ext := ext)).trans ?_
  unfold valS
  cases ev fr x <;> simp only [ptrP, loadV, optP, at1_eq]
  rfl
theorem OS.loadn {d : Option Nat} {n : Nat} {x : Opd} {l : List MO} : OS p ext (⟨d, .loadn n x, none⟩ :: l) K fr h Q ↔ valS p ext (loadnV h n (ev fr x)) d l K fr h Q := by
  refine (W.loadn (p := p) (ext := ext)).trans ?_
  unfold valS
  cases ev fr x <;> simp only [ptrP, loadnV, optP]
  rename_i b o
  cases h.read b o n <;> simp only [aggO]
  rfl
theorem OS.call {d : Option Nat} {f : Nat} {args : List Opd} {l : List MO} : OS p ext (⟨d, .e (.call f args), none⟩ :: l) K fr h Q ↔ callS p ext f (evs fr args) h d l K fr Q := WPo.call
theorem OS.extern {d : Option Nat} {f : Nat} {args : List Opd} {l : List MO} : OS p ext (⟨d, .e (.extern f args), none⟩ :: l) K fr h Q ↔ callS p ext f (evs fr args) h d l K fr Q := WPo.extern
theorem OS.callv {d : Option Nat} {x : Opd} {args : List Opd} {l : List MO} : OS p ext (⟨d, .e (.callv x args), none⟩ :: l) K fr h Q ↔ callvS p ext (ev fr x) (evs fr args) h d l K fr Q := W.callv
theorem OS.store {d : Option Nat} {sz : Nat} {a x : Opd} {l : List MO} : OS p ext (⟨d, .e (.store sz a x), none⟩ :: l) K fr h Q ↔ effS p ext (storeV h sz (ev fr a) (ev fr x)) d l K fr Q := by
  refine (W.store (p := p) (ext := ext)).trans ?_
  unfold effS
  cases ev fr a <;> simp only [ptrP, storeV, optP]
  rename_i b o
  cases storeH h sz b o (ev fr x).cells <;> simp only [Option.map]
  rfl
theorem OS.append {d : Option Nat} {sz by_ : Nat} {s x : Opd} {l : List MO} : OS p ext (⟨d, .e (.append sz by_ s x), none⟩ :: l) K fr h Q ↔ effS p ext (appendV sz by_ h (ev fr s) (ev fr x)) d l K fr Q := W.append
theorem OS.appendz {d : Option Nat} {z : List V} {sz by_ : Nat} {s x : Opd} {l : List MO} : OS p ext (⟨d, .e (.appendz z sz by_ s x), none⟩ :: l) K fr h Q ↔ effS p ext (appendZ z sz by_ h (ev fr s) (ev fr x)) d l K fr Q := W.appendz
theorem OS.eff {d : Option Nat} {o : EOp} (ho : o.calls = false) {l : List MO} : OS p ext (⟨d, .e o, none⟩ :: l) K fr h Q ↔ effS p ext (eW fr h o) d l K fr Q := W.eff ho
theorem OS.copy {d : Option Nat} {sz : Nat} {a x : Opd} {l : List MO} : OS p ext (⟨d, .e (.copy sz a x), none⟩ :: l) K fr h Q ↔ effS p ext (eW fr h (.copy sz a x)) d l K fr Q := W.eff rfl
theorem OS.text {d : Option Nat} {x : Opd} {l : List MO} : OS p ext (⟨d, .e (.text x), none⟩ :: l) K fr h Q ↔ effS p ext (eW fr h (.text x)) d l K fr Q := W.eff rfl
theorem OS.lookup {d : Option Nat} {sk : Bool} {z : V} {ok : Bool} {m k : Opd} {l : List MO} : OS p ext (⟨d, .e (.lookup sk z ok m k), none⟩ :: l) K fr h Q ↔ effS p ext (eW fr h (.lookup sk z ok m k)) d l K fr Q := W.eff rfl
theorem OS.mapput {d : Option Nat} {sk : Bool} {m k v : Opd} {l : List MO} : OS p ext (⟨d, .e (.mapput sk m k v), none⟩ :: l) K fr h Q ↔ effS p ext (eW fr h (.mapput sk m k v)) d l K fr Q := W.eff rfl
theorem OS.delete {d : Option Nat} {sk : Bool} {m k : Opd} {l : List MO} : OS p ext (⟨d, .e (.delete sk m k), none⟩ :: l) K fr h Q ↔ effS p ext (eW fr h (.delete sk m k)) d l K fr Q := W.eff rfl
theorem OS.lenm {d : Option Nat} {x : Opd} {l : List MO} : OS p ext (⟨d, .e (.lenm x), none⟩ :: l) K fr h Q ↔ effS p ext (eW fr h (.lenm x)) d l K fr Q := W.eff rfl
theorem OS.mark {d : Option Nat} {x : Opd} {l : List MO} : OS p ext (⟨d, .e (.mark x), none⟩ :: l) K fr h Q ↔ effS p ext (eW fr h (.mark x)) d l K fr Q := W.eff rfl
def gateS (p : Prog) (ext : Ext) (v : V) (want : Bool) (d : Option Nat) (o : MOp) (l : List MO) (K : List KF) (fr : Fr) (h : Hp) (Q : Res → Prop) : Prop :=
  gateP v want (OS p ext (⟨d, o, none⟩ :: l) K fr h Q) (OS p ext l K (putO fr d (.tup [])) h Q)
theorem OS.guard {d : Option Nat} {o : MOp} {t : Nat} {want : Bool} {l : List MO} : OS p ext (⟨d, o, some (t, want)⟩ :: l) K fr h Q ↔ gateS p ext (ev fr (.tmp t)) want d o l K fr h Q := W.guard
theorem gateS_tt {d : Option Nat} {o : MOp} {l : List MO} : gateS p ext (.bool true) true d o l K fr h Q ↔ OS p ext (⟨d, o, none⟩ :: l) K fr h Q := by unfold gateS; rw [gateP_tt]
theorem gateS_ff {d : Option Nat} {o : MOp} {l : List MO} : gateS p ext (.bool false) false d o l K fr h Q ↔ OS p ext (⟨d, o, none⟩ :: l) K fr h Q := by unfold gateS; rw [gateP_ff]
theorem gateS_tf {d : Option Nat} {o : MOp} {l : List MO} : gateS p ext (.bool true) false d o l K fr h Q ↔ OS p ext l K (putO fr d (.tup [])) h Q := by unfold gateS; rw [gateP_tf]
theorem gateS_ft {d : Option Nat} {o : MOp} {l : List MO} : gateS p ext (.bool false) true d o l K fr h Q ↔ OS p ext l K (putO fr d (.tup [])) h Q := by unfold gateS; rw [gateP_ft]
theorem gateS_tup {want : Bool} {x : List V} {d : Option Nat} {o : MOp} {l : List MO} : gateS p ext (.tup x) want d o l K fr h Q ↔ OS p ext l K (putO fr d (.tup [])) h Q := Iff.rfl
variable {lo hi i : Nat} {st : List (Nat × Hp)} {rds : List Rd}
theorem DS.nil : DS p ext [] K i fr h st rds Q ↔ allStill st rds = true ∧ RK p ext K (.ok fr h) Q := WPd.nil
def valD (p : Prog) (ext : Ext) (o : Option V) (d : Option Nat) (l : List DO) (K : List KF) (i : Nat) (fr : Fr) (h : Hp) (st : List (Nat × Hp)) (rds : List Rd) (Q : Res → Prop) : Prop := optP o fun v => DS p ext l K (i + 1) (putO fr d v) h st rds Q
theorem valD_some {v : V} {d : Option Nat} {l : List DO} : valD p ext (some v) d l K i fr h st rds Q ↔ DS p ext l K (i + 1) (putO fr d v) h st rds Q := Iff.rfl
def effD (p : Prog) (ext : Ext) (o : Option (V × Hp)) (d : Option Nat) (l : List DO) (K : List KF) (i : Nat) (fr : Fr) (st : List (Nat × Hp)) (rds : List Rd) (Q : Res → Prop) : Prop := optP o fun r => DS p ext l K (i + 1) (putO fr d r.1) r.2 ((i + 1, r.2) :: st) rds Q
theorem effD_some {v : V} {h1 : Hp} {d : Option Nat} {l : List DO} : effD p ext (some (v, h1)) d l K i fr st rds Q ↔ DS p ext l K (i + 1) (putO fr d v) h1 ((i + 1, h1) :: st) rds Q := Iff.rfl
def newD (p : Prog) (ext : Ext) (o : Option (Blk × (Nat → V))) (d : Option Nat) (l : List DO) (K : List KF) (i : Nat) (fr : Fr) (h : Hp) (st : List (Nat × Hp)) (rds : List Rd) (Q : Res → Prop) : Prop := optP o fun r => DS p ext l K (i + 1) (putO fr d (r.2 h.next)) (h.new r.1) st rds Q
theorem newD_some {x : Blk} {mk : Nat → V} {d : Option Nat} {l : List DO} : newD p ext (some (x, mk)) d l K i fr h st rds Q ↔ DS p ext l K (i + 1) (putO fr d (mk h.next)) (h.new x) st rds Q := Iff.rfl
def loadD (p : Prog) (ext : Ext) (x : V) (d : Option Nat) (lo hi : Nat) (l : List DO) (K : List KF) (i : Nat) (fr : Fr) (h : Hp) (st : List (Nat × Hp)) (rds : List Rd) (Q : Res → Prop) : Prop := ptrP x fun b o => optP (h.at1 b o) fun v => DS p ext l K (i + 1) (putO fr d v) h st (⟨lo, hi, b, o, [v]⟩ :: rds) Q
def loadD' (p : Prog) (ext : Ext) (c : Option V) (b o : Nat) (d : Option Nat) (lo hi : Nat) (l : List DO) (K : List KF) (i : Nat) (fr : Fr) (h : Hp) (st : List (Nat × Hp)) (rds : List Rd) (Q : Res → Prop) : Prop := optP c fun v => DS p ext l K (i + 1) (putO fr d v) h st (⟨lo, hi, b, o, [v]⟩ :: rds) Q
theorem loadD_ptr {b o : Nat} {d : Option Nat} {l : List DO} : loadD p ext (.ptr b o) d lo hi l K i fr h st rds Q ↔ loadD' p ext (cellAt (h.blk b) o) b o d lo hi l K i fr h st rds Q := by unfold loadD loadD'; rw [ptrP_ptr, at1_eq]
theorem loadD'_some {v : V} {b o : Nat} {d : Option Nat} {l : List DO} : loadD' p ext (some v) b o d lo hi l K i fr h st rds Q ↔ DS p ext l K (i + 1) (putO fr d v) h st (⟨lo, hi, b, o, [v]⟩ :: rds) Q := Iff.rfl
def loadnD (p : Prog) (ext : Ext) (n : Nat) (x : V) (d : Option Nat) (lo hi : Nat) (l : List DO) (K : List KF) (i : Nat) (fr : Fr) (h : Hp) (st : List (Nat × Hp)) (rds : List Rd) (Q : Res → Prop) : Prop := ptrP x fun b o => optP (h.read b o n) fun v => DS p ext l K (i + 1) (putO fr d (.agg v)) h st (⟨lo, hi, b, o, v⟩ :: rds) Q
def loadnD' (p : Prog) (ext : Ext) (c : Option (List V)) (b o : Nat) (d : Option Nat) (lo hi : Nat) (l : List DO) (K : List KF) (i : Nat) (fr : Fr) (h : Hp) (st : List (Nat × Hp)) (rds : List Rd) (Q : Res → Prop) : Prop := optP c fun v => DS p ext l K (i + 1) (putO fr d (.agg v)) h st (⟨lo, hi, b, o, v⟩ :: rds) Q
theorem loadnD_ptr {b o n : Nat} {d : Option Nat} {l : List DO} : loadnD p ext n (.ptr b o) d lo hi l K i fr h st rds Q ↔ loadnD' p ext (h.read b o n) b o d lo hi l K i fr h st rds Q := Iff.rfl
theorem loadnD'_some {v : List V} {b o : Nat} {d : Option Nat} {l : List DO} : loadnD' p ext (some v) b o d lo hi l K i fr h st rds Q ↔ DS p ext l K (i + 1) (putO fr d (.agg v)) h st (⟨lo, hi, b, o, v⟩ :: rds) Q := Iff.rfl
def callD (p : Prog) (ext : Ext) (f : Nat) (args : List V) (h : Hp) (d : Option Nat) (l : List DO) (K : List KF) (i : Nat) (fr : Fr) (st : List (Nat × Hp)) (rds : List Rd) (Q : Res → Prop) : Prop := WPc p ext f args h fun v h1 => DS p ext l K (i + 1) (putO fr d v) h1 ((i + 1, h1) :: st) rds Q
theorem Ret.callD {f : Nat} {args : List V} {h' : Hp} {v : V} (a : Ret p ext f args h v h') {d : Option Nat} {l : List DO} : callD p ext f args h d l K i fr st rds Q ↔ DS p ext l K (i + 1) (putO fr d v) h' ((i + 1, h') :: st) rds Q := a.wpc
def callvD (p : Prog) (ext : Ext) (x : V) (args : List V) (h : Hp) (d : Option Nat) (l : List DO) (K : List KF) (i : Nat) (fr : Fr) (st : List (Nat × Hp)) (rds : List Rd) (Q : Res → Prop) : Prop := funP x fun f first captured => callD p ext f (first ++ args ++ captured) h d l K i fr st rds Q
theorem callvD_func {f : Nat} {a c args : List V} {d : Option Nat} {l : List DO} : callvD p ext (.func f a c) args h d l K i fr st rds Q ↔ callD p ext f (a ++ args ++ c) h d l K i fr st rds Q := Iff.rfl
theorem DS.pure {d : Option Nat} {o : POp} {l : List DO} : DS p ext (⟨⟨d, .p o, none⟩, lo, hi⟩ :: l) K i fr h st rds Q ↔ valD p ext (pV p.env fr o) d l K i fr h st rds Q := D.pure
theorem DS.alloc {d : Option Nat} {o : AOp} {l : List DO} : DS p ext (⟨⟨d, .a o, none⟩, lo, hi⟩ :: l) K i fr h st rds Q ↔ newD p ext (aV fr o) d l K i fr h st rds Q := D.alloc
theorem DS.load1 {d : Option Nat} {x : Opd} {l : List DO} : DS p ext (⟨⟨d, .load1 x, none⟩, lo, hi⟩ :: l) K i fr h st rds Q ↔ loadD p ext (ev fr x) d lo hi l K i fr h st rds Q := D.load1
theorem DS.loadn {d : Option Nat} {n : Nat} {x : Opd} {l : List DO} : DS p ext (⟨⟨d, .loadn n x, none⟩, lo, hi⟩ :: l) K i fr h st rds Q ↔ loadnD p ext n (ev fr x) d lo hi l K i fr h st rds Q := D.loadn
theorem DS.call {d : Option Nat} {f : Nat} {args : List Opd} {l : List DO} : DS p ext (⟨⟨d, .e (.call f args), none⟩, lo, hi⟩ :: l) K i fr h st rds Q ↔ callD p ext f (evs fr args) h d l K i fr st rds Q := D.call
theorem DS.extern {d : Option Nat} {f : Nat} {args : List Opd} {l : List DO} : DS p ext (⟨⟨d, .e (.extern f args), none⟩, lo, hi⟩ :: l) K i fr h st rds Q ↔ callD p ext f (evs fr args) h d l K i fr st rds Q := D.extern
theorem DS.callv {d : Option Nat} {x : Opd} {args : List Opd} {l : List DO} : DS p ext (⟨⟨d, .e (.callv x args), none⟩, lo, hi⟩ :: l) K i fr h st rds Q ↔ callvD p ext (ev fr x) (evs fr args) h d l K i fr st rds Q := D.callv
theorem DS.store {d : Option Nat} {sz : Nat} {a x : Opd} {l : List DO} : DS p ext (⟨⟨d, .e (.store sz a x), none⟩, lo, hi⟩ :: l) K i fr h st rds Q ↔ effD p ext (storeV h sz (ev fr a) (ev fr x)) d l K i fr st rds Q := by
  refine (D.store (p := p) (ext := ext)).trans ?_
  unfold effD
  cases ev fr a <;> simp only [ptrP, storeV, optP]
  rename_i b o
  cases storeH h sz b o (ev fr x).cells <;> simp only [Option.map]
  rfl
theorem DS.append {d : Option Nat} {sz by_ : Nat} {s x : Opd} {l : List DO} : DS p ext (⟨⟨d, .e (.append sz by_ s x), none⟩, lo, hi⟩ :: l) K i fr h st rds Q ↔ effD p ext (appendV sz by_ h (ev fr s) (ev fr x)) d l K i fr st rds Q := D.append
theorem DS.eff {d : Option Nat} {o : EOp} (ho : o.calls = false) {l : List DO} : DS p ext (⟨⟨d, .e o, none⟩, lo, hi⟩ :: l) K i fr h st rds Q ↔ effD p ext (eW fr h o) d l K i fr st rds Q := D.eff ho
theorem DS.lookup {d : Option Nat} {sk : Bool} {z : V} {ok : Bool} {m k : Opd} {l : List DO} : DS p ext (⟨⟨d, .e (.lookup sk z ok m k), none⟩, lo, hi⟩ :: l) K i fr h st rds Q ↔ effD p ext (eW fr h (.lookup sk z ok m k)) d l K i fr st rds Q := D.eff rfl
theorem DS.mapput {d : Option Nat} {sk : Bool} {m k v : Opd} {l : List DO} : DS p ext (⟨⟨d, .e (.mapput sk m k v), none⟩, lo, hi⟩ :: l) K i fr h st rds Q ↔ effD p ext (eW fr h (.mapput sk m k v)) d l K i fr st rds Q := D.eff rfl
theorem DS.lenm {d : Option Nat} {x : Opd} {l : List DO} : DS p ext (⟨⟨d, .e (.lenm x), none⟩, lo, hi⟩ :: l) K i fr h st rds Q ↔ effD p ext (eW fr h (.lenm x)) d l K i fr st rds Q := D.eff rfl
theorem DS.text {d : Option Nat} {x : Opd} {l : List DO} : DS p ext (⟨⟨d, .e (.text x), none⟩, lo, hi⟩ :: l) K i fr h st rds Q ↔ effD p ext (eW fr h (.text x)) d l K i fr st rds Q := D.eff rfl
def gateD (p : Prog) (ext : Ext) (v : V) (want : Bool) (d : Option Nat) (o : MOp) (lo hi : Nat) (l : List DO) (K : List KF) (i : Nat) (fr : Fr) (h : Hp) (st : List (Nat × Hp)) (rds : List Rd) (Q : Res → Prop) : Prop :=
  gateP v want (DS p ext (⟨⟨d, o, none⟩, lo, hi⟩ :: l) K i fr h st rds Q) (DS p ext l K (i + 1) (putO fr d (.tup [])) h (stAdd (isE o) i h st) rds Q)
theorem DS.guard {d : Option Nat} {o : MOp} {t : Nat} {want : Bool} {l : List DO} : DS p ext (⟨⟨d, o, some (t, want)⟩, lo, hi⟩ :: l) K i fr h st rds Q ↔ gateD p ext (ev fr (.tmp t)) want d o lo hi l K i fr h st rds Q := D.guard
theorem gateD_tt {d : Option Nat} {o : MOp} {l : List DO} : gateD p ext (.bool true) true d o lo hi l K i fr h st rds Q ↔ DS p ext (⟨⟨d, o, none⟩, lo, hi⟩ :: l) K i fr h st rds Q := by unfold gateD; rw [gateP_tt]
theorem gateD_ff {d : Option Nat} {o : MOp} {l : List DO} : gateD p ext (.bool false) false d o lo hi l K i fr h st rds Q ↔ DS p ext (⟨⟨d, o, none⟩, lo, hi⟩ :: l) K i fr h st rds Q := by unfold gateD; rw [gateP_ff]
theorem gateD_tf {d : Option Nat} {o : MOp} {l : List DO} : gateD p ext (.bool true) false d o lo hi l K i fr h st rds Q ↔ DS p ext l K (i + 1) (putO fr d (.tup [])) h (stAdd (isE o) i h st) rds Q := by unfold gateD; rw [gateP_tf]
theorem gateD_ft {d : Option Nat} {o : MOp} {l : List DO} : gateD p ext (.bool false) true d o lo hi l K i fr h st rds Q ↔ DS p ext l K (i + 1) (putO fr d (.tup [])) h (stAdd (isE o) i h st) rds Q := by unfold gateD; rw [gateP_ft]
theorem gateD_tup {want : Bool} {x : List V} {d : Option Nat} {o : MOp} {l : List DO} : gateD p ext (.tup x) want d o lo hi l K i fr h st rds Q ↔ DS p ext l K (i + 1) (putO fr d (.tup [])) h (stAdd (isE o) i h st) rds Q := Iff.rfl
end
def endS (o : Option (List V)) (h : Hp) (Q : V → Hp → Prop) : Prop := optP o fun r => Q (tupOf r) h
theorem endS_some {r : List V} {h : Hp} {Q : V → Hp → Prop} : endS (some r) h Q ↔ Q (tupOf r) h := Iff.rfl
theorem endR_okS {rs : List RV} {Q : V → Hp → Prop} {fr : Fr} {h : Hp} : endR rs Q (.ok fr h) ↔ endS (resV fr h rs) h Q := endR_okP
theorem endR_retS {rs : List RV} {Q : V → Hp → Prop} {fr : Fr} {h : Hp} : endR rs Q (.ret fr h) ↔ endS (resV fr h rs) h Q := endR_okP
theorem enter {f : Nat} {args : List V} {h : Hp} {Q : V → Hp → Prop} {m : Fun} (he : ext f args h = none) (hf : p.funs.get f = some m) (hn : args.length = m.nargs) (hw : WS p ext m.body [] (argsFr args 0 .leaf) h (endR m.results Q)) : WPc p ext f args h Q :=
  wpc_fun he hf hn hw
def roundR (b0 b1 : Nat) (J : Fr → Hp → Prop) (Q : Res → Prop) : Res → Prop
  | .fail => False
  | .ok fr h => J fr h
  | .ret fr h => Q (.ret fr h)
  | .exit id fr h => cond (Nat.beq id b1) (J fr h) (cond (Nat.beq id b0) (Q (.ok fr h)) (Q (.exit id fr h)))
section
variable {b0 b1 : Nat} {J : Fr → Hp → Prop} {Q : Res → Prop} {fr : Fr} {h : Hp}
theorem roundR_ok : roundR b0 b1 J Q (.ok fr h) ↔ J fr h := Iff.rfl
theorem roundR_ret : roundR b0 b1 J Q (.ret fr h) ↔ Q (.ret fr h) := Iff.rfl
theorem roundR_next : roundR b0 b1 J Q (.exit b1 fr h) ↔ J fr h := by simp only [roundR, show Nat.beq b1 b1 = true from nbeq.2 rfl, cond_true]
theorem roundR_end (hne : b0 ≠ b1) : roundR b0 b1 J Q (.exit b0 fr h) ↔ Q (.ok fr h) := by
  simp only [roundR, show Nat.beq b0 b1 = false from by rw [nbeq_d]; exact decide_eq_false hne, show Nat.beq b0 b0 = true from nbeq.2 rfl, cond_true, cond_false]
end
def loopR (J : Fr → Hp → Prop) (Q : Res → Prop) : Res → Prop
  | .fail => False
  | .ok fr h => J fr h
  | .exit id fr h => Q (.exit id fr h)
  | .ret fr h => Q (.ret fr h)
section
variable {J : Fr → Hp → Prop} {Q : Res → Prop} {fr : Fr} {h : Hp}
theorem loopR_ok : loopR J Q (.ok fr h) ↔ J fr h := Iff.rfl
theorem loopR_exit {id : Nat} : loopR J Q (.exit id fr h) ↔ Q (.exit id fr h) := Iff.rfl
theorem loopR_ret : loopR J Q (.ret fr h) ↔ Q (.ret fr h) := Iff.rfl
end
theorem ws_loop {c : MCode} {K : List KF} {Q : Res → Prop} (I : Nat → Fr → Hp → Prop)
    (hI : ∀ k fr h, I k fr h → WS p ext c [] fr h (loopR (fun fr' h' => ∃ k', k' < k ∧ I k' fr' h') fun r => RK p ext K r Q)) {k : Nat} {fr : Fr} {h : Hp} (hi : I k fr h) : WS p ext (.loop c) K fr h Q := by
  refine wp_loop' I (fun k fr h hi => ?_) hi
  refine (hI k fr h hi : WP _ _ _ _ _ _).mono fun r hr => ?_
  have hr : loopR _ _ r := hr
  cases r <;> exact hr
theorem bin_shr_lit {tab : Tab} {k j : IntKind} {a : Int} {n : Nat} : binV tab .shr (.int k a) (.int j (@OfNat.ofNat Int n _)) = some (.int k (shrI k a n)) := rfl
theorem bin_shl_lit {tab : Tab} {k j : IntKind} {a : Int} {n : Nat} : binV tab .shl (.int k a) (.int j (@OfNat.ofNat Int n _)) = some (.int k (shlI k a n)) := rfl
attribute [simp] bin_shr_lit bin_shl_lit loopR_ok loopR_exit loopR_ret
theorem and_range {a : Int} {m : Nat} (hm : m < 65536) : ∃ q : Nat, wr .i64 (.ofNat (Nat.land (toU .i64 a) (toU .i64 (m : Int)))) = (q : Int) ∧ q ≤ m := by
  have hle : Nat.land (toU .i64 a) m ≤ m := Nat.and_le_right
  have h2 : toU .i64 (m : Int) = m := by
    show m % 18446744073709551616 = m
    omega
  refine ⟨Nat.land (toU .i64 a) m, ?_, hle⟩
  rw [h2]
  generalize Nat.land (toU .i64 a) m = q at hle
  rw [show Int.ofNat q = (q : Int) from rfl, wr_of (by omega) (by omega)]
attribute [-simp] WP.skip WP.exit WP.ret WP.region WP.dregion WP.seq WP.block W.cond WPo.nil W.pure W.alloc W.load1 W.loadn W.callv WPo.call WPo.extern W.guard W.store W.append W.appendz W.copy W.text W.lookup W.mapput W.delete W.lenm W.mark
attribute [-simp] WPd.nil D.pure D.alloc D.load1 D.loadn D.call D.extern D.callv D.guard D.store D.append D.appendz D.copy D.text D.lookup D.mapput D.delete D.lenm D.mark endR_okP endR_retP
attribute [simp ↓] WS.seq WS.block WS.skip WS.exit WS.ret WS.region WS.dregion WS.cond condS_tt condS_ff RK.nil RK.seq_ok RK.seq_ret RK.seq_exit RK.block_ok RK.block_ret RK.block_same RK.block_other
attribute [simp ↓] OS.nil OS.pure OS.alloc OS.load1 OS.loadn OS.call OS.extern OS.callv OS.store OS.append OS.appendz OS.copy OS.text OS.lookup OS.mapput OS.delete OS.lenm OS.mark OS.guard
attribute [simp ↓] DS.nil DS.pure DS.alloc DS.load1 DS.loadn DS.call DS.extern DS.callv DS.store DS.append DS.lookup DS.mapput DS.lenm DS.text DS.guard
attribute [simp] condS_tt condS_ff valS_some effS_some newS_some loadV_ptr loadnV_ptr storeV_ptr callvS_func gateS_tt gateS_ff gateS_tf gateS_ft gateS_tup valD_some effD_some newD_some loadD_ptr loadD'_some loadnD_ptr loadnD'_some callvD_func gateD_tt gateD_ff gateD_tf gateD_ft gateD_tup
attribute [simp] roundR_ok roundR_ret roundR_next roundR_end endS_some endR_okS endR_retS
end Go.Vm
end

section
namespace Go.Vm
open Go.RowKit
variable {P : Program}
theorem trodAll_stays {H : Type} {enc : TypeId × Value → H} (hl : laidOutB P = true) {W W' : World} (hb : Below W.heap.size W W') {sp : Nat → Bool} :
    ∀ {ts : List TypeId} {vs : List Value} {ds : List (DataW H)} {p : List MemPlace}, (∀ t, t ∈ ts → P.readableRec t = true ∧ t < P.types.size) → DataW.TrodAll enc P W 0 (fun _ => true) true ts vs ds p →
    (∀ x, x ∈ p → x.block < W.heap.size) → (∀ x, x ∈ p → sp x.block = true) → DataW.TrodAll enc P W' 0 sp true ts vs ds p
  | [], [], [], p, _, h, _, _ => h
  | t :: ts, v :: vs, d :: ds, p, hr, h, hlt, hsp => by
    obtain ⟨q, r, h1, h2, rfl⟩ := h
    obtain ⟨k1, k2⟩ := hr t List.mem_cons_self
    exact ⟨q, r, WideElems.Trod_stays hl k1 k2 h1 (fun x hx => hb.same (hlt x (List.mem_append_left _ hx))) (fun x hx => hsp x (List.mem_append_left _ hx)),
      trodAll_stays hl hb (fun t ht => hr t (List.mem_cons_of_mem _ ht)) h2 (fun x hx => hlt x (List.mem_append_right _ hx)) (fun x hx => hsp x (List.mem_append_right _ hx)), rfl⟩
  | [], [], _ :: _, _, _, h, _, _ => h.elim
  | [], _ :: _, _, _, _, h, _, _ => h.elim
  | _ :: _, [], _, _, _, h, _, _ => h.elim
  | _ :: _, _ :: _, [], _, _, h, _, _ => h.elim
theorem frozen_below {W W' : World} (hb : Below W.heap.size W W') {a : Addr} (ha : a.block < W.heap.size) : W'.frozen? a = W.frozen? a := by
  simp only [World.frozen?, hb.block a.block ha]
theorem post_kept {H : Type} {enc : TypeId × Value → H} {f : Func} {s : ChangeSpec} {apart fresh handsOn again : Bool} {W W' : World} {args : Array Value} {v : Value} {ds gs : List (DataW H)} {before : List MemPlace}
    (hW : DataW.Whole enc P f.params.toList s.vars apart W args.toList ds gs before) (hnv : s.vars = [])
    (hl : laidOutB P = true) (hr : ∀ t, t ∈ f.params.toList → P.readableRec t = true ∧ t < P.types.size)
    (hfn : (s.fn H (ds ++ gs)).args = ds) (hvn : (s.fn H (ds ++ gs)).vars = [])
    (hres : ∀ (b : Nat) (sp : Nat → Bool) (hd : Bool), DataW.TrodAll enc P W' b sp hd f.resultTypes.toList (v.resultList f.resultTypes.size) (s.fn H (ds ++ gs)).results [])
    (hb : Below W.heap.size W W')
    (hok : ∀ (j : Nat) (t : TypeId) (r : Value), f.resultTypes[j]? = some t → (v.resultList f.resultTypes.size)[j]? = some r → Value.okWide P W' .any 0 t r) :
    s.post enc P f apart fresh handsOn again W args v W' := by
  have hW0 := hW
  obtain ⟨p, q, h1, h2, h3, hz, hn⟩ := hW
  rw [hnv] at h2
  have hq : q = [] := by
    cases gs with
    | nil => exact h2
    | cons g gs => exact h2.elim
  subst hq
  rw [List.append_nil] at h3
  subst h3
  have hlt : ∀ x, x ∈ before → x.block < W.heap.size := fun x hx => hW0.lt x hx
  have hargs : ∀ sp : Nat → Bool, (∀ x, x ∈ before → sp x.block = true) → DataW.TrodAll enc P W' 0 sp true f.params.toList args.toList (s.fn H (ds ++ gs)).args before := fun sp hsp => by
    rw [hfn]
    exact trodAll_stays hl hb hr h1 hlt hsp
  have hvars : ∀ sp : Nat → Bool, DataW.TrodVars enc P W' sp s.vars (s.fn H (ds ++ gs)).vars [] := fun sp => by
    rw [hnv, hvn]
    rfl
  have hk : W.keptBut W' (fun _ => False) := keptBut_of hb.os hb.output fun k hk => hb.block k hk
  have hnd : ∀ b off, MemPlace.cell b off ∈ before → W'.frozen? ⟨b, off, none⟩ = false := fun b off hp => by
    rw [frozen_below hb (hlt _ hp)]
    exact hz b off hp
  have hold : ∀ x, x ∈ before → (fun b => decide (b < W.heap.size)) x.block = true := fun x hx => by simpa using hlt x hx
  refine ⟨ds, gs, before, [], before, [], hW0, hres _ _ _, hargs _ hold, hvars _, World.keptBut_mono (fun p hp => hp.elim) hk, fun _ => ?_⟩
  exact ⟨hok, _, _, [] ++ before, ⟨[] ++ before, [], Go.ChangeShapes.trodAll_append (hargs (fun _ => true) fun _ _ => rfl) (hres 0 (fun _ => true) true), hvars _, by simp, fun b off hp => hnd b off (by simpa using hp), by simpa using hn⟩, fun p hp _ => by simpa using hp⟩
theorem top_wp (hm : P.follows .mixedOrders = true) {p : Prog} (hp : Valid P p) {ext : Ext} (hrx : Rises ext) (hx : CallOk P p.env ext) {φ : Emb} {h0 : Hp} {w : World} (hr : HR φ h0 w) (hok : EnvOk P φ p.env) (hfr : ∀ b, h0.next ≤ b → φ.at_ b = none)
    (hro : ∀ b, (h0.blk b).open_ = false) {f : Nat} {args : List V} {us : List Value} (hen : entered P f = true) (hargs : VRs φ args us) (hw : WPc p ext f args h0 fun v _ => v = .bool true) :
    Calls P f us.toArray w fun e w' => e = .returned (.bool true) ∧ Below w.heap.size w w' := by
  obtain ⟨n, v, h', hc, rfl⟩ := hw
  have := call_ok hm hp hrx hx n φ f args h0 (.bool true) h' w us hc hok hr (fun b h1 _ => hfr b h1) hargs
  rcases this with ⟨_, h2⟩ | ⟨u, ψ, w', h1, _⟩
  · refine h2.mono ?_
    rintro e w' ⟨u, ψ, rfl, r1, r2⟩
    cases r1
    exact ⟨rfl, r2.os, r2.tape, r2.output, r2.size, fun k hk => r2.kept k hk fun b pl hb => by rw [hro b] at hb; cases hb⟩
  · rw [callFunc_entered hen] at h1
    cases h1
theorem cells_there {w : World} {a : Addr} {n : Nat} {g : Nat → Value} (h : ∀ i, i < n → w.cell? (a.add i) = some (g i)) (hn : 0 < n) :
    ∃ b off c e fz, a = ⟨b, off, none⟩ ∧ w.heap[b]? = some (.cells c e fz) ∧ off + n ≤ c.size ∧ ∀ i, i < n → c[off + i]? = some (g i) := by
  obtain ⟨b, off, spot⟩ := a
  have hspot : spot = none := by simpa [Addr.add] using World.cell?_spot (h 0 hn)
  subst hspot
  have h' : ∀ i, i < n → w.cell? ⟨b, off + i, none⟩ = some (g i) := fun i hi => by rw [← Go.WideShapes.add_plain]; exact h i hi
  cases hb : w.heap[b]? with
  | none => have := h' 0 hn; simp [World.cell?, hb] at this
  | some o =>
    cases o with
    | cells c e fz =>
      have hc : ∀ i, i < n → c[off + i]? = some (g i) := fun i hi => by have := h' i hi; simpa [World.cell?, hb] using this
      refine ⟨b, off, c, e, fz, rfl, hb, ?_, hc⟩
      have := (Array.getElem?_eq_some_iff.1 (hc (n - 1) (by omega))).1
      omega
    | _ => have := h' 0 hn; simp [World.cell?, hb] at this
end Go.Vm
end

section
namespace Go.Vm
open Go.RowKit
variable {P : Program}
def NumsV (j : IntKind) (h : Hp) (s : V) (xs : List Int) : Prop :=
  ((s = .nilslice ∨ ∃ b o c ex, s = .slice b o 1 0 c ex) ∧ xs = []) ∨ ∃ b o c ex l ro, s = .slice b o 1 xs.length c ex ∧ h.blk b = .cells l ro ∧ xs.length ≤ c ∧ ∀ i x, xs[i]? = some x → l[o + i]? = some (.int j x)
theorem NumsV.mono {j : IntKind} {h h' : Hp} {s : V} {xs : List Int} (hs : NumsV j h s xs) (hk : ∀ x, s.hasB x → h'.blk x = h.blk x) : NumsV j h' s xs := by
  rcases hs with h1 | ⟨b, o, c, ex, l, ro, rfl, h2, h3⟩
  · exact .inl h1
  · exact .inr ⟨b, o, c, ex, l, ro, rfl, by rw [hk b rfl, h2], h3⟩
inductive Arg where
  | int (k : IntKind) (n : Int)
  | bool (b : Bool)
  | nums (k : IntKind) (xs : List Int)
inductive ArgK where
  | int (k : IntKind)
  | bool
  | nums (k : IntKind)
def Arg.kind : Arg → ArgK
  | .int k _ => .int k
  | .bool _ => .bool
  | .nums k _ => .nums k
def ArgV (h : Hp) : Arg → V → Prop
  | .int k n, v => v = .int k n ∧ (Lit.int k n).wf = true
  | .bool b, v => v = .bool b
  | .nums k xs, v => NumsV k h v xs ∧ (∀ x, x ∈ xs → (Lit.int k x).wf = true) ∧ xs.length ≤ maxLen ∧ ∀ x, v.hasB x → x < h.next
theorem ArgV.mono {h h' : Hp} {a : Arg} {v : V} (ha : ArgV h a v) (hn : h.next ≤ h'.next) (hk : ∀ x, x < h.next → h'.blk x = h.blk x) : ArgV h' a v := by
  cases a with
  | int k n => exact ha
  | bool b => exact ha
  | nums k xs => exact ⟨ha.1.mono fun x hx => hk x (ha.2.2.2 x hx), ha.2.1, ha.2.2.1, fun x hx => Nat.lt_of_lt_of_le (ha.2.2.2 x hx) hn⟩
inductive ArgsV (h : Hp) : List Arg → List V → Prop
  | nil : ArgsV h [] []
  | cons {a : Arg} {v : V} {as : List Arg} {vs : List V} (ha : ArgV h a v) (has : ArgsV h as vs) : ArgsV h (a :: as) (v :: vs)
def kindOk (P : Program) (t : TypeId) : ArgK → Prop
  | .int k => P.underlying t = some (.int k)
  | .bool => P.underlying t = some .bool
  | .nums k => ∃ e, P.underlying t = some (.slice e) ∧ P.underlying e = some (.int k) ∧ P.cellsOf e = 1
inductive KindsOk (P : Program) : List TypeId → List ArgK → Prop
  | nil : KindsOk P [] []
  | cons {t : TypeId} {k : ArgK} {ts : List TypeId} {ks : List ArgK} (h : kindOk P t k) (hs : KindsOk P ts ks) : KindsOk P (t :: ts) (k :: ks)
structure Bare (P : Program) (φ : Emb) (h : Hp) (w : World) : Prop where
  hr : HR φ h w
  ro : ∀ b, (h.blk b).open_ = false
  fr : ∀ b, h.next ≤ b → φ.at_ b = none
  gl : ∀ g, g < P.globals.size → ∃ x, φ.at_ g = some ⟨g, 0, x⟩
  sy : φ.sym = fun _ => .int .i64 0
  nx : P.globals.size ≤ h.next
theorem Bare.start {w : World} : Bare P (emb0 P fun _ => .int .i64 0) (h00 P.globals.size) w where
  hr := ⟨fun b hb => (by rw [blk_h00] at hb; cases hb), fun b b' pl pl' hb => (by rw [blk_h00] at hb; cases hb), fun b _ => blk_h00 _ b⟩
  ro b := by rw [blk_h00]; rfl
  fr b h1 := by
    show (if b < P.globals.size then some (⟨b, 0, 0⟩ : Place) else none) = _
    have h1 : P.globals.size ≤ b := h1
    rw [if_neg (by omega)]
  gl g hg := ⟨0, by show (if g < P.globals.size then _ else _) = _; rw [if_pos hg]⟩
  sy := rfl
  nx := Nat.le_refl _
theorem rowK_get (k : IntKind) : ∀ (l : List Int) (i : Nat) (v : V), (l.map (V.int k))[i]? = some v → v = .int k (l.getD i 0) ∧ i < l.length := by
  intro l i v h
  rw [List.getElem?_map] at h
  cases e : l[i]? with
  | none => rw [e] at h; cases h
  | some x =>
    rw [e] at h
    cases h
    exact ⟨by rw [List.getD_eq_getElem?_getD, e]; rfl, (List.getElem?_eq_some_iff.1 e).1⟩
theorem Bare.row {φ : Emb} {h : Hp} {w : World} (hb : Bare P φ h w) {k : IntKind} {b off : Nat} {c : Array Value} {ee : TypeId} {fz : Nat × Nat} (zs : List Int) (hc : w.heap[b]? = some (.cells c ee fz)) (hsz : off + zs.length ≤ c.size)
    (hcell : ∀ i, i < zs.length → c[off + i]? = some (.int k (zs.getD i 0))) :
    Bare P ⟨fun x => if x = h.next then some ⟨b, off, zs.length⟩ else φ.at_ x, φ.sym⟩ (h.new (.cells (zs.map (V.int k)) true)) w ∧ φ.Le ⟨fun x => if x = h.next then some ⟨b, off, zs.length⟩ else φ.at_ x, φ.sym⟩ := by
  have hle : φ.Le ⟨fun x => if x = h.next then some ⟨b, off, zs.length⟩ else φ.at_ x, φ.sym⟩ := ⟨fun x pl e => by
    show (if x = h.next then _ else φ.at_ x) = _
    rw [if_neg (fun e' => by rw [e', hb.fr _ (Nat.le_refl _)] at e; cases e)]
    exact e, rfl⟩
  have hro : ∀ x, ((h.new (.cells (zs.map (V.int k)) true)).blk x).open_ = false := fun x => by
    rw [blk_new]
    split
    · rfl
    · exact hb.ro x
  refine ⟨⟨⟨fun x hx => ?_, fun x x' q q' _ _ ho => ?_, fun x hx => ?_⟩, hro, fun x hx => ?_, fun g hg => ?_, hb.sy, Nat.le_succ_of_le hb.nx⟩, hle⟩
  · rw [blk_new] at hx ⊢
    by_cases e : x = h.next
    · rw [if_pos e]
      refine ⟨⟨b, off, zs.length⟩, by show (if x = h.next then _ else φ.at_ x) = _; rw [if_pos e], ?_⟩
      show CellsRo _ _ _ _
      refine ⟨by rw [List.length_map]; exact Nat.le_refl _, c, ee, fz, hc, hsz, fun i v hi => ?_⟩
      obtain ⟨rfl, hlt⟩ := rowK_get k zs i v hi
      exact ⟨_, hcell i hlt, .int _ _⟩
    · rw [if_neg e] at hx ⊢
      obtain ⟨q, h1, h2⟩ := hb.hr.lies x hx
      exact ⟨q, hle.at_ _ _ h1, h2.mono hle rfl⟩
  · rw [hro, hro] at ho
    rcases ho with e | e <;> cases e
  · have hx : h.next + 1 ≤ x := hx
    rw [blk_new, if_neg (by omega)]
    exact hb.hr.fresh x (by omega)
  · have hx : h.next + 1 ≤ x := hx
    show (if x = h.next then _ else φ.at_ x) = _
    rw [if_neg (by omega)]
    exact hb.fr x (by omega)
  · obtain ⟨y, e⟩ := hb.gl g hg
    exact ⟨y, hle.at_ _ _ e⟩
theorem Bare.arg {H : Type} {enc : TypeId × Value → H} {φ : Emb} {h : Hp} {w : World} (hb : Bare P φ h w) {t : TypeId} {k : ArgK} (hk : kindOk P t k) {r : Reach} {b0 : Nat} {u : Value} {d : DataW H} {ps : List MemPlace}
    (hval : Value.okWide P w r b0 t u) (hd : DataW.Trod enc P w 0 (fun _ => true) true t u d ps) :
    ∃ φ' h' a v, Bare P φ' h' w ∧ φ.Le φ' ∧ h.next ≤ h'.next ∧ (∀ x, x < h.next → h'.blk x = h.blk x) ∧ a.kind = k ∧ ArgV h' a v ∧ VR φ' v u := by
  cases k with
  | int k =>
    obtain ⟨n, rfl, _, _, hw⟩ := Go.ChangeShapes.open_int hk hval hd
    exact ⟨φ, h, .int k n, .int k n, hb, .refl φ, Nat.le_refl _, fun _ _ => rfl, rfl, ⟨rfl, hw⟩, .int k n⟩
  | bool =>
    obtain ⟨b, rfl, _⟩ := open_bool hk hval hd
    exact ⟨φ, h, .bool b, .bool b, hb, .refl φ, Nat.le_refl _, fun _ _ => rfl, rfl, rfl, .bool b⟩
  | nums k =>
    obtain ⟨e, ht, he, hc1⟩ := hk
    obtain ⟨a0, len, cap, rfl⟩ := Go.WideShapes.okWide_slice ht hval
    obtain ⟨fuel, hf⟩ := hd
    rcases Go.ChangeShapes.open_ints ht he hc1 hf with ⟨hcs, _⟩ | ⟨a, len', cap', zs, hcs, _, hl, hmx, hz, _, hcell, hwz⟩
    · simp [Value.cells] at hcs
      obtain ⟨rfl, rfl, rfl⟩ := hcs
      exact ⟨φ, h, .nums k [], .nilslice, hb, .refl φ, Nat.le_refl _, fun _ _ => rfl, rfl, ⟨.inl ⟨.inl rfl, rfl⟩, fun _ h => (by cases h), Nat.zero_le _, fun x hx => hx.elim⟩, .nilslice⟩
    · simp [Value.cells] at hcs
      obtain ⟨rfl, rfl, rfl⟩ := hcs
      simp at hz
      rcases Nat.eq_zero_or_pos cap with hc0 | hpos
      · subst hc0
        have hl0 : len = 0 := by omega
        subst hl0
        refine ⟨φ, { h with next := h.next + 1 }, .nums k [], .slice h.next 0 1 0 0 true, ?_, .refl φ, Nat.le_succ _, fun _ _ => rfl, rfl, ⟨.inl ⟨.inr ⟨_, _, _, _, rfl⟩, rfl⟩, fun _ h => (by cases h), Nat.zero_le _, fun x hx => ?_⟩,
          .slice h.next 0 1 0 0 true a 0 (fun hh => absurd hh (by omega)) (Nat.le_refl _) (Nat.zero_le _) (fun _ => rfl)⟩
        · exact ⟨⟨hb.hr.lies, hb.hr.apart, fun x hx => hb.hr.fresh x (Nat.le_of_succ_le hx)⟩, hb.ro, fun x hx => hb.fr x (Nat.le_of_succ_le hx), hb.gl, hb.sy, Nat.le_succ_of_le hb.nx⟩
        · have : x = h.next := hx
          subst this
          exact Nat.lt_succ_self _
      · obtain ⟨b, off, c, ee, fz, rfl, hbk, hsz, hc⟩ := cells_there (n := cap) (g := fun i => .int k (zs.getD i 0)) (fun i hi => hcell i (by omega)) hpos
        obtain ⟨hb', hle⟩ := hb.row zs hbk (by omega) (k := k) fun i hi => hc i (by omega)
        refine ⟨_, _, .nums k (zs.take len), .slice h.next 0 1 len cap true, hb', hle, Nat.le_succ _, fun x hx => by rw [blk_new, if_neg (by omega)], rfl, ⟨.inr ⟨h.next, 0, cap, true, zs.map (V.int k), true, ?_, by rw [blk_new, if_pos rfl], by rw [List.length_take]; omega, fun i x hi => ?_⟩, fun x hx => hwz x (List.take_subset _ _ hx), ?_, fun x hx => ?_⟩,
          .slice h.next 0 1 len cap true ⟨b, off, none⟩ cap (fun _ => ⟨⟨b, off, zs.length⟩, by show (if h.next = h.next then _ else _) = _; rw [if_pos rfl], rfl, fun e => by cases e⟩) hl (Nat.le_refl _) (fun _ => rfl)⟩
        · rw [List.length_take, Nat.min_eq_left (by omega)]
        · rw [List.getElem?_take] at hi
          split at hi
          · rw [Nat.zero_add, List.getElem?_map, hi]; rfl
          · cases hi
        · rw [List.length_take]; omega
        · have : x = h.next := hx
          subst this
          exact Nat.lt_succ_self _
theorem Bare.args {H : Type} {enc : TypeId × Value → H} {w : World} {r : Reach} {b0 : Nat} : ∀ {ts : List TypeId} {ks : List ArgK} {us : List Value} {ds : List (DataW H)} {ps : List MemPlace} {φ : Emb} {h : Hp}, KindsOk P ts ks → Bare P φ h w →
    (∀ (j : Nat) t u, ts[j]? = some t → us[j]? = some u → Value.okWide P w r b0 t u) → DataW.TrodAll enc P w 0 (fun _ => true) true ts us ds ps →
    ∃ φ' h' as vs, Bare P φ' h' w ∧ φ.Le φ' ∧ h.next ≤ h'.next ∧ (∀ x, x < h.next → h'.blk x = h.blk x) ∧ as.map Arg.kind = ks ∧ ArgsV h' as vs ∧ VRs φ' vs us
  | [], _, us, ds, ps, φ, h, .nil, hb, _, htr => by
    cases us with
    | nil => exact ⟨φ, h, [], [], hb, .refl φ, Nat.le_refl _, fun _ _ => rfl, rfl, .nil, .nil⟩
    | cons u us => cases ds <;> exact htr.elim
  | t :: ts, _, us, ds, ps, φ, h, .cons (k := k) (ks := ks) hk hks, hb, hval, htr => by
    obtain ⟨u, us', d, ds', p, q, rfl, rfl, rfl, h1, h2⟩ := Go.ChangeShapes.trodAll_cons htr
    obtain ⟨φ1, g1, a, v, hb1, le1, n1, k1, e1, a1, r1⟩ := hb.arg hk (hval 0 t u rfl rfl) h1
    obtain ⟨φ2, g2, as, vs, hb2, le2, n2, k2, e2, a2, r2⟩ := Bare.args hks hb1 (fun j t u ht hu => hval (j + 1) t u ht hu) h2
    exact ⟨φ2, g2, a :: as, v :: vs, hb2, le1.trans le2, Nat.le_trans n1 n2, fun x hx => (k2 x (by omega)).trans (k1 x hx), by rw [List.map_cons, e1, e2], .cons (a1.mono n2 k2) a2, .cons _ _ _ _ (r1.mono le2) r2⟩
theorem top_args (hm : P.follows .mixedOrders = true) {p : Prog} (hp : Valid P p) {ext : Ext} (hrx : Rises ext) (hx : CallOk P p.env ext) (htab : p.env.tab = []) (hints : IntsOk P p.env.ints)
    {f : Nat} (hen : entered P f = true) {ts : List TypeId} {ks : List ArgK} (hks : KindsOk P ts ks)
    (hw : ∀ (h : Hp) (as : List Arg) (vs : List V), as.map Arg.kind = ks → ArgsV h as vs → P.globals.size ≤ h.next → WPc p ext f vs h fun v _ => v = .bool true)
    {H : Type} {enc : TypeId × Value → H} {w : World} {r : Reach} {b0 : Nat} {us : List Value} {ds : List (DataW H)} {ps : List MemPlace}
    (hval : ∀ (j : Nat) t u, ts[j]? = some t → us[j]? = some u → Value.okWide P w r b0 t u) (hd : DataW.TrodAll enc P w 0 (fun _ => true) true ts us ds ps) :
    Calls P f us.toArray w fun e w' => e = .returned (.bool true) ∧ Below w.heap.size w w' := by
  obtain ⟨φ, h, as, vs, hb, _, _, _, e, ha, hv⟩ := Bare.args hks (Bare.start (P := P) (w := w)) hval hd
  refine top_wp hm hp hrx hx hb.hr ⟨fun i => ⟨.i64, 0, by rw [hb.sy]⟩, hb.gl, by rw [htab]; exact fun _ _ _ _ _ _ h => (by cases h), hints⟩ hb.fr hb.ro hen hv (hw h as vs e ha hb.nx)
end Go.Vm
end

section
namespace Go.Dv
open Go.Vm
inductive Md where
  | p | c | w
deriving DecidableEq
inductive D where
  | any
  | lit (v : V)
  | ptr (b o : Nat)
  | rptr (l : List D) (o : Nat)
  | slice (b o sz len cap : Nat) (ex : Bool)
  | row (sz : Nat) (m : Md) (l : List (List D))
  | map (b : Nat)
  | func (f : Nat) (first captured : List D)
  | iface (t : Nat) (v : D)
  | agg (l : List D)
  | tup (l : List D)
instance : Inhabited D := ⟨.any⟩
def atomV : V → Bool
  | .bool _ | .int _ _ | .sym _ | .str _ | .nilptr | .nilslice | .nilmap | .nilfunc | .niliface => true
  | _ => false
mutual
def VD (h : Hp) (ψ : Nat → Option Nat) (S : Nat → Prop) : D → V → Prop
  | .any, _ => True
  | .lit w, v => v = w ∧ atomV w = true
  | .ptr b o, v => ∃ c, ψ b = some c ∧ v = .ptr c o
  | .rptr l k, v => ∃ c o cs ro, S c ∧ v = .ptr c (o + k) ∧ h.blk c = .cells cs ro ∧ VDp h ψ S l (cs.drop o)
  | .slice b o sz len cap ex, v => ∃ c, ψ b = some c ∧ v = .slice c o sz len cap ex
  | .row sz m l, v => (v = .nilslice ∧ l = []) ∨ ∃ b o c ex, v = .slice b o sz l.length c ex ∧ l.length ≤ c ∧ (m = .c → c = l.length ∧ ex = true) ∧
      ((m = .w ∧ l = []) ∨ ∃ cs ro, S b ∧ h.blk b = .cells cs ro ∧ VDss h ψ S sz l (cs.drop o))
  | .map b, v => ∃ c, ψ b = some c ∧ v = .map c
  | .func f a c, v => ∃ a' c', v = .func f a' c' ∧ VDl h ψ S a a' ∧ VDl h ψ S c c'
  | .iface t d, v => ∃ v', v = .iface t v' ∧ VD h ψ S d v'
  | .agg l, v => ∃ l', v = .agg l' ∧ VDl h ψ S l l'
  | .tup l, v => ∃ l', v = .tup l' ∧ VDl h ψ S l l'
def VDl (h : Hp) (ψ : Nat → Option Nat) (S : Nat → Prop) : List D → List V → Prop
  | [], vs => vs = []
  | d :: l, vs => ∃ v r, vs = v :: r ∧ VD h ψ S d v ∧ VDl h ψ S l r
def VDp (h : Hp) (ψ : Nat → Option Nat) (S : Nat → Prop) : List D → List V → Prop
  | [], _ => True
  | d :: l, vs => ∃ v r, vs = v :: r ∧ VD h ψ S d v ∧ VDp h ψ S l r
def VDss (h : Hp) (ψ : Nat → Option Nat) (S : Nat → Prop) (sz : Nat) : List (List D) → List V → Prop
  | [], _ => True
  | e :: l, cs => e.length = sz ∧ VDp h ψ S e cs ∧ VDss h ψ S sz l (cs.drop sz)
end
section
variable {h h' : Hp} {ψ ψ' : Nat → Option Nat} {S S' : Nat → Prop}
structure Ex (h : Hp) (ψ : Nat → Option Nat) (S : Nat → Prop) (h' : Hp) (ψ' : Nat → Option Nat) (S' : Nat → Prop) : Prop where
  emb : ∀ b c, ψ b = some c → ψ' b = some c
  frz : ∀ c, S c → S' c ∧ h'.blk c = h.blk c
theorem Ex.refl : Ex h ψ S h ψ S := ⟨fun _ _ e => e, fun _ k => ⟨k, rfl⟩⟩
theorem Ex.trans {h1 h2 h3 : Hp} {ψ1 ψ2 ψ3 : Nat → Option Nat} {S1 S2 S3 : Nat → Prop} (x : Ex h1 ψ1 S1 h2 ψ2 S2) (y : Ex h2 ψ2 S2 h3 ψ3 S3) : Ex h1 ψ1 S1 h3 ψ3 S3 :=
  ⟨fun b c e => y.emb b c (x.emb b c e), fun c k => ⟨(y.frz c (x.frz c k).1).1, ((y.frz c (x.frz c k).1).2).trans (x.frz c k).2⟩⟩
mutual
theorem VD.mono (x : Ex h ψ S h' ψ' S') : ∀ (d : D) {v : V}, VD h ψ S d v → VD h' ψ' S' d v
  | .any, _, _ => by simp [VD]
  | .lit w, _, k => by simpa [VD] using k
  | .ptr b o, _, k => by simp only [VD] at k ⊢; obtain ⟨c, e, rfl⟩ := k; exact ⟨c, x.emb _ _ e, rfl⟩
  | .rptr l k0, _, k => by
    simp only [VD] at k ⊢
    obtain ⟨c, o, cs, ro, hs, rfl, hb, hp⟩ := k
    exact ⟨c, o, cs, ro, (x.frz c hs).1, rfl, (x.frz c hs).2.trans hb, VDp.mono x l hp⟩
  | .slice b o sz len cap ex, _, k => by simp only [VD] at k ⊢; obtain ⟨c, e, rfl⟩ := k; exact ⟨c, x.emb _ _ e, rfl⟩
  | .row sz m l, _, k => by
    simp only [VD] at k ⊢
    rcases k with k | ⟨b, o, c, ex, rfl, h1, h2, k⟩
    · exact .inl k
    · refine .inr ⟨b, o, c, ex, rfl, h1, h2, ?_⟩
      rcases k with k | ⟨cs, ro, hs, hb, hp⟩
      · exact .inl k
      · exact .inr ⟨cs, ro, (x.frz b hs).1, (x.frz b hs).2.trans hb, VDss.mono x sz l hp⟩
  | .map b, _, k => by simp only [VD] at k ⊢; obtain ⟨c, e, rfl⟩ := k; exact ⟨c, x.emb _ _ e, rfl⟩
  | .func f a c, _, k => by
    simp only [VD] at k ⊢
    obtain ⟨a', c', rfl, h1, h2⟩ := k
    exact ⟨a', c', rfl, VDl.mono x a h1, VDl.mono x c h2⟩
  | .iface t d, _, k => by simp only [VD] at k ⊢; obtain ⟨v', rfl, k⟩ := k; exact ⟨v', rfl, VD.mono x d k⟩
  | .agg l, _, k => by simp only [VD] at k ⊢; obtain ⟨v', rfl, k⟩ := k; exact ⟨v', rfl, VDl.mono x l k⟩
  | .tup l, _, k => by simp only [VD] at k ⊢; obtain ⟨v', rfl, k⟩ := k; exact ⟨v', rfl, VDl.mono x l k⟩
theorem VDl.mono (x : Ex h ψ S h' ψ' S') : ∀ (l : List D) {vs : List V}, VDl h ψ S l vs → VDl h' ψ' S' l vs
  | [], _, k => by simpa [VDl] using k
  | d :: l, _, k => by
    simp only [VDl] at k ⊢
    obtain ⟨v, r, rfl, h1, h2⟩ := k
    exact ⟨v, r, rfl, VD.mono x d h1, VDl.mono x l h2⟩
theorem VDp.mono (x : Ex h ψ S h' ψ' S') : ∀ (l : List D) {vs : List V}, VDp h ψ S l vs → VDp h' ψ' S' l vs
  | [], _, _ => by simp [VDp]
  | d :: l, _, k => by
    simp only [VDp] at k ⊢
    obtain ⟨v, r, rfl, h1, h2⟩ := k
    exact ⟨v, r, rfl, VD.mono x d h1, VDp.mono x l h2⟩
theorem VDss.mono (x : Ex h ψ S h' ψ' S') (sz : Nat) : ∀ (l : List (List D)) {vs : List V}, VDss h ψ S sz l vs → VDss h' ψ' S' sz l vs
  | [], _, _ => by simp [VDss]
  | e :: l, _, k => by
    simp only [VDss] at k ⊢
    exact ⟨k.1, VDp.mono x e k.2.1, VDss.mono x sz l k.2.2⟩
end
mutual
def D.under (n : Nat) : D → Prop
  | .ptr b _ => b < n
  | .slice b _ _ _ _ _ => b < n
  | .map b => b < n
  | .rptr l _ => D.unders n l
  | .row _ _ l => D.underss n l
  | .func _ a c => D.unders n a ∧ D.unders n c
  | .iface _ d => D.under n d
  | .agg l => D.unders n l
  | .tup l => D.unders n l
  | .any => True
  | .lit _ => True
def D.unders (n : Nat) : List D → Prop
  | [] => True
  | d :: l => D.under n d ∧ D.unders n l
def D.underss (n : Nat) : List (List D) → Prop
  | [] => True
  | e :: l => D.unders n e ∧ D.underss n l
end
mutual
theorem VD.under {n : Nat} (hn : ∀ b c, ψ b = some c → b < n) : ∀ (d : D) {v : V}, VD h ψ S d v → d.under n
  | .any, _, _ => by simp [D.under]
  | .lit w, _, _ => by simp [D.under]
  | .ptr b o, _, k => by simp only [VD] at k; obtain ⟨c, e, rfl⟩ := k; exact hn _ _ e
  | .rptr l k0, _, k => by
    simp only [VD] at k
    obtain ⟨c, o, cs, ro, hs, rfl, hb, hp⟩ := k
    simp only [D.under]
    exact VDp.under hn l hp
  | .slice b o sz len cap ex, _, k => by simp only [VD] at k; obtain ⟨c, e, rfl⟩ := k; exact hn _ _ e
  | .row sz m l, _, k => by
    simp only [VD] at k
    simp only [D.under]
    rcases k with ⟨_, rfl⟩ | ⟨b, o, c, ex, rfl, h1, h2, k⟩
    · simp [D.underss]
    · rcases k with ⟨_, rfl⟩ | ⟨cs, ro, hs, hb, hp⟩
      · simp [D.underss]
      · exact VDss.under hn sz l hp
  | .map b, _, k => by simp only [VD] at k; obtain ⟨c, e, rfl⟩ := k; exact hn _ _ e
  | .func f a c, _, k => by
    simp only [VD] at k
    obtain ⟨a', c', rfl, h1, h2⟩ := k
    simp only [D.under]
    exact ⟨VDl.under hn a h1, VDl.under hn c h2⟩
  | .iface t d, _, k => by simp only [VD] at k; obtain ⟨v', rfl, k⟩ := k; simp only [D.under]; exact VD.under hn d k
  | .agg l, _, k => by simp only [VD] at k; obtain ⟨v', rfl, k⟩ := k; simp only [D.under]; exact VDl.under hn l k
  | .tup l, _, k => by simp only [VD] at k; obtain ⟨v', rfl, k⟩ := k; simp only [D.under]; exact VDl.under hn l k
theorem VDl.under {n : Nat} (hn : ∀ b c, ψ b = some c → b < n) : ∀ (l : List D) {vs : List V}, VDl h ψ S l vs → D.unders n l
  | [], _, _ => by simp [D.unders]
  | d :: l, _, k => by
    simp only [VDl] at k
    obtain ⟨v, r, rfl, h1, h2⟩ := k
    simp only [D.unders]
    exact ⟨VD.under hn d h1, VDl.under hn l h2⟩
theorem VDp.under {n : Nat} (hn : ∀ b c, ψ b = some c → b < n) : ∀ (l : List D) {vs : List V}, VDp h ψ S l vs → D.unders n l
  | [], _, _ => by simp [D.unders]
  | d :: l, _, k => by
    simp only [VDp] at k
    obtain ⟨v, r, rfl, h1, h2⟩ := k
    simp only [D.unders]
    exact ⟨VD.under hn d h1, VDp.under hn l h2⟩
theorem VDss.under {n : Nat} (hn : ∀ b c, ψ b = some c → b < n) (sz : Nat) : ∀ (l : List (List D)) {vs : List V}, VDss h ψ S sz l vs → D.underss n l
  | [], _, _ => by simp [D.underss]
  | e :: l, _, k => by
    simp only [VDss] at k
    simp only [D.underss]
    exact ⟨VDp.under hn e k.2.1, VDss.under hn sz l k.2.2⟩
end
def cutE (ψ : Nat → Option Nat) (n : Nat) : Nat → Option Nat := fun b => if b < n then ψ b else none
theorem cutE_lt {n b : Nat} (hb : b < n) : cutE ψ n b = ψ b := by unfold cutE; rw [if_pos hb]
theorem cutE_some {n b c : Nat} : cutE ψ n b = some c ↔ b < n ∧ ψ b = some c := by
  unfold cutE; split <;> simp_all <;> omega
mutual
theorem VD.cut {n : Nat} : ∀ (d : D) {v : V}, d.under n → VD h ψ S d v → VD h (cutE ψ n) S d v
  | .any, _, _, _ => by simp [VD]
  | .lit w, _, _, k => by simpa [VD] using k
  | .ptr b o, _, hb, k => by simp only [VD, D.under] at k hb ⊢; rw [cutE_lt hb]; exact k
  | .rptr l k0, _, hb, k => by
    simp only [VD, D.under] at k hb ⊢
    obtain ⟨c, o, cs, ro, hs, rfl, hb', hp⟩ := k
    exact ⟨c, o, cs, ro, hs, rfl, hb', VDp.cut l hb hp⟩
  | .slice b o sz len cap ex, _, hb, k => by simp only [VD, D.under] at k hb ⊢; rw [cutE_lt hb]; exact k
  | .row sz m l, _, hb, k => by
    simp only [VD, D.under] at k hb ⊢
    rcases k with k | ⟨b, o, c, ex, rfl, h1, h2, k⟩
    · exact .inl k
    · refine .inr ⟨b, o, c, ex, rfl, h1, h2, ?_⟩
      rcases k with k | ⟨cs, ro, hs, hb', hp⟩
      · exact .inl k
      · exact .inr ⟨cs, ro, hs, hb', VDss.cut sz l hb hp⟩
  | .map b, _, hb, k => by simp only [VD, D.under] at k hb ⊢; rw [cutE_lt hb]; exact k
  | .func f a c, _, hb, k => by
    simp only [VD, D.under] at k hb ⊢
    obtain ⟨a', c', rfl, h1, h2⟩ := k
    exact ⟨a', c', rfl, VDl.cut a hb.1 h1, VDl.cut c hb.2 h2⟩
  | .iface t d, _, hb, k => by simp only [VD, D.under] at k hb ⊢; obtain ⟨v', rfl, k⟩ := k; exact ⟨v', rfl, VD.cut d hb k⟩
  | .agg l, _, hb, k => by simp only [VD, D.under] at k hb ⊢; obtain ⟨v', rfl, k⟩ := k; exact ⟨v', rfl, VDl.cut l hb k⟩
  | .tup l, _, hb, k => by simp only [VD, D.under] at k hb ⊢; obtain ⟨v', rfl, k⟩ := k; exact ⟨v', rfl, VDl.cut l hb k⟩
theorem VDl.cut {n : Nat} : ∀ (l : List D) {vs : List V}, D.unders n l → VDl h ψ S l vs → VDl h (cutE ψ n) S l vs
  | [], _, _, k => by simpa [VDl] using k
  | d :: l, _, hb, k => by
    simp only [VDl, D.unders] at k hb ⊢
    obtain ⟨v, r, rfl, h1, h2⟩ := k
    exact ⟨v, r, rfl, VD.cut d hb.1 h1, VDl.cut l hb.2 h2⟩
theorem VDp.cut {n : Nat} : ∀ (l : List D) {vs : List V}, D.unders n l → VDp h ψ S l vs → VDp h (cutE ψ n) S l vs
  | [], _, _, _ => by simp [VDp]
  | d :: l, _, hb, k => by
    simp only [VDp, D.unders] at k hb ⊢
    obtain ⟨v, r, rfl, h1, h2⟩ := k
    exact ⟨v, r, rfl, VD.cut d hb.1 h1, VDp.cut l hb.2 h2⟩
theorem VDss.cut {n : Nat} (sz : Nat) : ∀ (l : List (List D)) {vs : List V}, D.underss n l → VDss h ψ S sz l vs → VDss h (cutE ψ n) S sz l vs
  | [], _, _, _ => by simp [VDss]
  | e :: l, _, hb, k => by
    simp only [VDss, D.underss] at k hb ⊢
    exact ⟨k.1, VDp.cut e hb.1 k.2.1, VDss.cut sz l hb.2 k.2.2⟩
end
mutual
def D.le : D → D → Prop
  | _, .any => True
  | .lit v, .lit w => v = w
  | .lit v, .row _ _ l => v = .nilslice ∧ l = []
  | .row sz m l, .row sz' m' l' => sz = sz' ∧ (m' = m ∨ m = .c ∧ m' = .p ∨ m' = .w) ∧ D.less l l'
  | .agg l, .agg l' => D.les l l'
  | .tup l, .tup l' => D.les l l'
  | .iface t d, .iface t' d' => t = t' ∧ D.le d d'
  | .rptr l k, .rptr l' k' => k = k' ∧ D.les l l'
  | .func f a c, .func f' a' c' => f = f' ∧ D.les a a' ∧ D.les c c'
  | .ptr b o, .ptr b' o' => b = b' ∧ o = o'
  | .slice b o sz len cap ex, .slice b' o' sz' len' cap' ex' => b = b' ∧ o = o' ∧ sz = sz' ∧ len = len' ∧ cap = cap' ∧ ex = ex'
  | .map b, .map b' => b = b'
  | _, _ => False
def D.les : List D → List D → Prop
  | [], [] => True
  | d :: l, d' :: l' => D.le d d' ∧ D.les l l'
  | _, _ => False
def D.less : List (List D) → List (List D) → Prop
  | [], [] => True
  | e :: l, e' :: l' => D.les e e' ∧ D.less l l'
  | _, _ => False
end
theorem les_length : ∀ {l l' : List D}, D.les l l' → l.length = l'.length
  | [], [], _ => rfl
  | d :: l, d' :: l', k => by simp only [D.les] at k; simp [les_length k.2]
  | [], _ :: _, k => by simp [D.les] at k
  | _ :: _, [], k => by simp [D.les] at k
theorem less_length : ∀ {l l' : List (List D)}, D.less l l' → l.length = l'.length
  | [], [], _ => rfl
  | d :: l, d' :: l', k => by simp only [D.less] at k; simp [less_length k.2]
  | [], _ :: _, k => by simp [D.less] at k
  | _ :: _, [], k => by simp [D.less] at k
mutual
theorem VD.le : ∀ (d d' : D) {v : V}, D.le d d' → VD h ψ S d v → VD h ψ S d' v
  | d, .any, _, _, _ => by simp [VD]
  | .lit x, .lit w, _, k, hv => by simp only [D.le] at k; subst k; exact hv
  | .lit x, .row sz m l, _, k, hv => by
    simp only [D.le] at k
    obtain ⟨rfl, rfl⟩ := k
    simp only [VD] at hv ⊢
    exact .inl ⟨hv.1, trivial⟩
  | .row sz m l, .row sz' m' l', _, k, hv => by
    simp only [D.le] at k
    obtain ⟨rfl, hm, hl⟩ := k
    have hlen := less_length hl
    simp only [VD] at hv ⊢
    rcases hv with ⟨rfl, rfl⟩ | ⟨b, o, c, ex, rfl, h1, h2, hv⟩
    · cases l' with
      | nil => exact .inl ⟨rfl, rfl⟩
      | cons e l' => simp [D.less] at hl
    · refine .inr ⟨b, o, c, ex, by rw [hlen], by rw [← hlen]; exact h1, fun hc => ?_, ?_⟩
      · rcases hm with rfl | ⟨_, rfl⟩ | rfl
        · rw [← hlen]; exact h2 hc
        · cases hc
        · cases hc
      · rcases hv with ⟨hw, rfl⟩ | ⟨cs, ro, hs, hb, hp⟩
        · cases l' with
          | nil =>
            refine .inl ⟨?_, rfl⟩
            rcases hm with rfl | ⟨h3, _⟩ | rfl
            · exact hw
            · rw [hw] at h3; cases h3
            · rfl
          | cons e l' => simp [D.less] at hl
        · exact .inr ⟨cs, ro, hs, hb, VDss.le sz l l' hl hp⟩
  | .agg l, .agg l', _, k, hv => by
    simp only [D.le, VD] at k hv ⊢
    obtain ⟨v', rfl, hv⟩ := hv
    exact ⟨v', rfl, VDl.le l l' k hv⟩
  | .tup l, .tup l', _, k, hv => by
    simp only [D.le, VD] at k hv ⊢
    obtain ⟨v', rfl, hv⟩ := hv
    exact ⟨v', rfl, VDl.le l l' k hv⟩
  | .iface t d, .iface t' d', _, k, hv => by
    simp only [D.le, VD] at k hv ⊢
    obtain ⟨v', rfl, hv⟩ := hv
    obtain ⟨rfl, k⟩ := k
    exact ⟨v', rfl, VD.le d d' k hv⟩
  | .rptr l k0, .rptr l' k0', _, k, hv => by
    simp only [D.le, VD] at k hv ⊢
    obtain ⟨rfl, k⟩ := k
    obtain ⟨c, o, cs, ro, hs, rfl, hb, hp⟩ := hv
    exact ⟨c, o, cs, ro, hs, rfl, hb, VDp.le l l' k hp⟩
  | .func f a c, .func f' a' c', _, k, hv => by
    simp only [D.le, VD] at k hv ⊢
    obtain ⟨rfl, k1, k2⟩ := k
    obtain ⟨x, y, rfl, h1, h2⟩ := hv
    exact ⟨x, y, rfl, VDl.le a a' k1 h1, VDl.le c c' k2 h2⟩
  | .ptr b o, .ptr b' o', _, k, hv => by simp only [D.le] at k; obtain ⟨rfl, rfl⟩ := k; exact hv
  | .slice b o sz len cap ex, .slice b' o' sz' len' cap' ex', _, k, hv => by simp only [D.le] at k; obtain ⟨rfl, rfl, rfl, rfl, rfl, rfl⟩ := k; exact hv
  | .map b, .map b', _, k, hv => by simp only [D.le] at k; subst k; exact hv
  | .any, .lit _, _, k, _ | .any, .ptr _ _, _, k, _ | .any, .rptr _ _, _, k, _ | .any, .slice _ _ _ _ _ _, _, k, _ | .any, .row _ _ _, _, k, _ | .any, .map _, _, k, _ | .any, .func _ _ _, _, k, _ | .any, .iface _ _, _, k, _ | .any, .agg _, _, k, _ | .any, .tup _, _, k, _ => by simp [D.le] at k
  | .lit _, .ptr _ _, _, k, _ | .lit _, .rptr _ _, _, k, _ | .lit _, .slice _ _ _ _ _ _, _, k, _ | .lit _, .map _, _, k, _ | .lit _, .func _ _ _, _, k, _ | .lit _, .iface _ _, _, k, _ | .lit _, .agg _, _, k, _ | .lit _, .tup _, _, k, _ => by simp [D.le] at k
  | .ptr _ _, .lit _, _, k, _ | .ptr _ _, .rptr _ _, _, k, _ | .ptr _ _, .slice _ _ _ _ _ _, _, k, _ | .ptr _ _, .row _ _ _, _, k, _ | .ptr _ _, .map _, _, k, _ | .ptr _ _, .func _ _ _, _, k, _ | .ptr _ _, .iface _ _, _, k, _ | .ptr _ _, .agg _, _, k, _ | .ptr _ _, .tup _, _, k, _ => by simp [D.le] at k
  | .rptr _ _, .lit _, _, k, _ | .rptr _ _, .ptr _ _, _, k, _ | .rptr _ _, .slice _ _ _ _ _ _, _, k, _ | .rptr _ _, .row _ _ _, _, k, _ | .rptr _ _, .map _, _, k, _ | .rptr _ _, .func _ _ _, _, k, _ | .rptr _ _, .iface _ _, _, k, _ | .rptr _ _, .agg _, _, k, _ | .rptr _ _, .tup _, _, k, _ => by simp [D.le] at k
  | .slice _ _ _ _ _ _, .lit _, _, k, _ | .slice _ _ _ _ _ _, .ptr _ _, _, k, _ | .slice _ _ _ _ _ _, .rptr _ _, _, k, _ | .slice _ _ _ _ _ _, .row _ _ _, _, k, _ | .slice _ _ _ _ _ _, .map _, _, k, _ | .slice _ _ _ _ _ _, .func _ _ _, _, k, _ | .slice _ _ _ _ _ _, .iface _ _, _, k, _ | .slice _ _ _ _ _ _, .agg _, _, k, _ | .slice _ _ _ _ _ _, .tup _, _, k, _ => by simp [D.le] at k
  | .row _ _ _, .lit _, _, k, _ | .row _ _ _, .ptr _ _, _, k, _ | .row _ _ _, .rptr _ _, _, k, _ | .row _ _ _, .slice _ _ _ _ _ _, _, k, _ | .row _ _ _, .map _, _, k, _ | .row _ _ _, .func _ _ _, _, k, _ | .row _ _ _, .iface _ _, _, k, _ | .row _ _ _, .agg _, _, k, _ | .row _ _ _, .tup _, _, k, _ => by simp [D.le] at k
  | .map _, .lit _, _, k, _ | .map _, .ptr _ _, _, k, _ | .map _, .rptr _ _, _, k, _ | .map _, .slice _ _ _ _ _ _, _, k, _ | .map _, .row _ _ _, _, k, _ | .map _, .func _ _ _, _, k, _ | .map _, .iface _ _, _, k, _ | .map _, .agg _, _, k, _ | .map _, .tup _, _, k, _ => by simp [D.le] at k
  | .func _ _ _, .lit _, _, k, _ | .func _ _ _, .ptr _ _, _, k, _ | .func _ _ _, .rptr _ _, _, k, _ | .func _ _ _, .slice _ _ _ _ _ _, _, k, _ | .func _ _ _, .row _ _ _, _, k, _ | .func _ _ _, .map _, _, k, _ | .func _ _ _, .iface _ _, _, k, _ | .func _ _ _, .agg _, _, k, _ | .func _ _ _, .tup _, _, k, _ => by simp [D.le] at k
  | .iface _ _, .lit _, _, k, _ | .iface _ _, .ptr _ _, _, k, _ | .iface _ _, .rptr _ _, _, k, _ | .iface _ _, .slice _ _ _ _ _ _, _, k, _ | .iface _ _, .row _ _ _, _, k, _ | .iface _ _, .map _, _, k, _ | .iface _ _, .func _ _ _, _, k, _ | .iface _ _, .agg _, _, k, _ | .iface _ _, .tup _, _, k, _ => by simp [D.le] at k
  | .agg _, .lit _, _, k, _ | .agg _, .ptr _ _, _, k, _ | .agg _, .rptr _ _, _, k, _ | .agg _, .slice _ _ _ _ _ _, _, k, _ | .agg _, .row _ _ _, _, k, _ | .agg _, .map _, _, k, _ | .agg _, .func _ _ _, _, k, _ | .agg _, .iface _ _, _, k, _ | .agg _, .tup _, _, k, _ => by simp [D.le] at k
  | .tup _, .lit _, _, k, _ | .tup _, .ptr _ _, _, k, _ | .tup _, .rptr _ _, _, k, _ | .tup _, .slice _ _ _ _ _ _, _, k, _ | .tup _, .row _ _ _, _, k, _ | .tup _, .map _, _, k, _ | .tup _, .func _ _ _, _, k, _ | .tup _, .iface _ _, _, k, _ | .tup _, .agg _, _, k, _ => by simp [D.le] at k
theorem VDl.le : ∀ (l l' : List D) {vs : List V}, D.les l l' → VDl h ψ S l vs → VDl h ψ S l' vs
  | [], [], _, _, hv => hv
  | d :: l, d' :: l', _, k, hv => by
    simp only [D.les, VDl] at k hv ⊢
    obtain ⟨v, r, rfl, h1, h2⟩ := hv
    exact ⟨v, r, rfl, VD.le d d' k.1 h1, VDl.le l l' k.2 h2⟩
  | [], _ :: _, _, k, _ => by simp [D.les] at k
  | _ :: _, [], _, k, _ => by simp [D.les] at k
theorem VDp.le : ∀ (l l' : List D) {vs : List V}, D.les l l' → VDp h ψ S l vs → VDp h ψ S l' vs
  | [], [], _, _, hv => hv
  | d :: l, d' :: l', _, k, hv => by
    simp only [D.les, VDp] at k hv ⊢
    obtain ⟨v, r, rfl, h1, h2⟩ := hv
    exact ⟨v, r, rfl, VD.le d d' k.1 h1, VDp.le l l' k.2 h2⟩
  | [], _ :: _, _, k, _ => by simp [D.les] at k
  | _ :: _, [], _, k, _ => by simp [D.les] at k
theorem VDss.le (sz : Nat) : ∀ (l l' : List (List D)) {vs : List V}, D.less l l' → VDss h ψ S sz l vs → VDss h ψ S sz l' vs
  | [], [], _, _, hv => hv
  | e :: l, e' :: l', _, k, hv => by
    simp only [D.less, VDss] at k hv ⊢
    exact ⟨by rw [← les_length k.1]; exact hv.1, VDp.le e e' k.1 hv.2.1, VDss.le sz l l' k.2 hv.2.2⟩
  | [], _ :: _, _, k, _ => by simp [D.less] at k
  | _ :: _, [], _, k, _ => by simp [D.less] at k
end
mutual
theorem D.le_refl : ∀ d : D, D.le d d
  | .any => by simp [D.le]
  | .lit _ => by simp [D.le]
  | .ptr _ _ => by simp [D.le]
  | .rptr l _ => by simp only [D.le]; exact ⟨trivial, D.les_refl l⟩
  | .slice _ _ _ _ _ _ => by simp [D.le]
  | .row _ _ l => by simp only [D.le]; exact ⟨trivial, .inl trivial, D.less_refl l⟩
  | .map _ => by simp [D.le]
  | .func _ a c => by simp only [D.le]; exact ⟨trivial, D.les_refl a, D.les_refl c⟩
  | .iface _ d => by simp only [D.le]; exact ⟨trivial, D.le_refl d⟩
  | .agg l => by simp only [D.le]; exact D.les_refl l
  | .tup l => by simp only [D.le]; exact D.les_refl l
theorem D.les_refl : ∀ l : List D, D.les l l
  | [] => by simp [D.les]
  | d :: l => by simp only [D.les]; exact ⟨D.le_refl d, D.les_refl l⟩
theorem D.less_refl : ∀ l : List (List D), D.less l l
  | [] => by simp [D.less]
  | e :: l => by simp only [D.less]; exact ⟨D.les_refl e, D.less_refl l⟩
end
end
end Go.Dv
end

section
namespace Go.Dv
open Go.Vm
inductive BD where
  | cells (l : List D) (ro : Bool)
  | map (kk : Option IntKind) (l : List (V × D))
  | gone
structure HpD where
  next : Nat
  blk : Nat → BD
def HpD.put (H : HpD) (b : Nat) (x : BD) : HpD := ⟨H.next, fun c => if c = b then x else H.blk c⟩
def HpD.new (H : HpD) (x : BD) : HpD := ⟨H.next + 1, fun c => if c = H.next then x else H.blk c⟩
theorem put_blk {H : HpD} {b c : Nat} {x : BD} : (H.put b x).blk c = if c = b then x else H.blk c := rfl
theorem new_blk {H : HpD} {c : Nat} {x : BD} : (H.new x).blk c = if c = H.next then x else H.blk c := rfl
theorem put_next {H : HpD} {b : Nat} {x : BD} : (H.put b x).next = H.next := rfl
theorem new_next {H : HpD} {x : BD} : (H.new x).next = H.next + 1 := rfl
def VDm (h : Hp) (ψ : Nat → Option Nat) (S : Nat → Prop) : List (V × D) → List (V × V) → Prop
  | [], l' => l' = []
  | (k, d) :: l, l' => ∃ v r, l' = (k, v) :: r ∧ VD h ψ S d v ∧ VDm h ψ S l r
def BR (h : Hp) (ψ : Nat → Option Nat) (S : Nat → Prop) : BD → Blk → Prop
  | .cells l ro, x => ∃ l', x = .cells l' ro ∧ VDl h ψ S l l'
  | .map kk l, x => ∃ l', x = .map kk l' ∧ VDm h ψ S l l'
  | .gone, _ => True
def BD.isGone : BD → Bool
  | .gone => true
  | _ => false
structure SR (ψ : Nat → Option Nat) (S : Nat → Prop) (H : HpD) (h : Hp) : Prop where
  inj : ∀ b b' c, ψ b = some c → ψ b' = some c → b = b'
  dom : ∀ b c, ψ b = some c → b < H.next ∧ c < h.next
  frz : ∀ c, S c → c < h.next
  live : ∀ b, (H.blk b).isGone = false → ∃ c, ψ b = some c ∧ ¬ S c ∧ BR h ψ S (H.blk b) (h.blk c)
abbrev FrD := List (Nat × D)
def lk : FrD → Nat → D
  | [], _ => .any
  | (k, d) :: l, t => cond (Nat.beq k t) d (lk l t)
def FrR (h : Hp) (ψ : Nat → Option Nat) (S : Nat → Prop) (fr : FrD) (frv : Fr) : Prop := ∀ t, VD h ψ S (lk fr t) (ev frv (.tmp t))
def putD (fr : FrD) (dst : Option Nat) (d : D) : FrD :=
  match dst with
  | none => fr
  | some t => (t, d) :: fr
def keep : List Nat → FrD → FrD
  | [], _ => []
  | t :: l, fr => (t, lk fr t) :: keep l fr
mutual
def dV : V → D
  | .agg l => .agg (dVs l)
  | .tup l => .tup (dVs l)
  | .func f a c => .func f (dVs a) (dVs c)
  | .iface t v => .iface t (dV v)
  | .ptr _ _ => .any
  | .slice _ _ _ _ _ _ => .any
  | .map _ => .any
  | .bool b => .lit (.bool b)
  | .int k n => .lit (.int k n)
  | .sym i => .lit (.sym i)
  | .str l => .lit (.str l)
  | .nilptr => .lit .nilptr
  | .nilslice => .lit .nilslice
  | .nilmap => .lit .nilmap
  | .nilfunc => .lit .nilfunc
  | .niliface => .lit .niliface
def dVs : List V → List D
  | [] => []
  | v :: l => dV v :: dVs l
end
section
variable {h h' : Hp} {ψ ψ' : Nat → Option Nat} {S S' : Nat → Prop}
mutual
theorem dV_ok : ∀ v : V, VD h ψ S (dV v) v
  | .agg l => by simp only [dV, VD]; exact ⟨l, rfl, dVs_ok l⟩
  | .tup l => by simp only [dV, VD]; exact ⟨l, rfl, dVs_ok l⟩
  | .func f a c => by simp only [dV, VD]; exact ⟨a, c, rfl, dVs_ok a, dVs_ok c⟩
  | .iface t v => by simp only [dV, VD]; exact ⟨v, rfl, dV_ok v⟩
  | .ptr _ _ => by simp only [dV, VD]
  | .slice _ _ _ _ _ _ => by simp only [dV, VD]
  | .map _ => by simp only [dV, VD]
  | .bool b => by simp [dV, VD, atomV]
  | .int k n => by simp [dV, VD, atomV]
  | .sym i => by simp [dV, VD, atomV]
  | .str l => by simp [dV, VD, atomV]
  | .nilptr => by simp [dV, VD, atomV]
  | .nilslice => by simp [dV, VD, atomV]
  | .nilmap => by simp [dV, VD, atomV]
  | .nilfunc => by simp [dV, VD, atomV]
  | .niliface => by simp [dV, VD, atomV]
theorem dVs_ok : ∀ l : List V, VDl h ψ S (dVs l) l
  | [] => by simp [dVs, VDl]
  | v :: l => by simp only [dVs, VDl]; exact ⟨v, l, rfl, dV_ok v, dVs_ok l⟩
end
theorem VDm.mono (x : Ex h ψ S h' ψ' S') : ∀ {l : List (V × D)} {vs : List (V × V)}, VDm h ψ S l vs → VDm h' ψ' S' l vs
  | [], _, k => k
  | (a, d) :: l, _, k => by
    simp only [VDm] at k ⊢
    obtain ⟨v, r, rfl, h1, h2⟩ := k
    exact ⟨v, r, rfl, VD.mono x d h1, VDm.mono x h2⟩
theorem BR.mono (x : Ex h ψ S h' ψ' S') : ∀ {y : BD} {z : Blk}, BR h ψ S y z → BR h' ψ' S' y z
  | .cells l ro, _, k => by obtain ⟨l', rfl, k⟩ := k; exact ⟨l', rfl, VDl.mono x l k⟩
  | .map kk l, _, k => by obtain ⟨l', rfl, k⟩ := k; exact ⟨l', rfl, VDm.mono x k⟩
  | .gone, _, _ => trivial
theorem FrR.mono (x : Ex h ψ S h' ψ' S') {fr : FrD} {frv : Fr} (k : FrR h ψ S fr frv) : FrR h' ψ' S' fr frv := fun t => VD.mono x _ (k t)
theorem FrR.put {fr : FrD} {frv : Fr} (k : FrR h ψ S fr frv) {d : D} {v : V} (hv : VD h ψ S d v) (dst : Option Nat) : FrR h ψ S (putD fr dst d) (putO frv dst v) := by
  cases dst with
  | none => exact k
  | some t =>
    intro u
    simp only [putD, lk, ev_put]
    by_cases e : t = u
    · subst e; simpa using hv
    · rw [if_neg (by omega)]
      rw [show Nat.beq t u = false from by rw [nbeq_d]; exact decide_eq_false e]
      exact k u
theorem lk_keep {fr : FrD} {t : Nat} : ∀ {l : List Nat}, lk (keep l fr) t = if t ∈ l then lk fr t else .any
  | [] => rfl
  | u :: l => by
    simp only [keep, lk]
    by_cases e : u = t
    · subst e; simp
    · rw [show Nat.beq u t = false from by rw [nbeq_d]; exact decide_eq_false e, cond_false, lk_keep]
      simp [List.mem_cons, Ne.symm e]
theorem FrR.keep {fr : FrD} {frv : Fr} (k : FrR h ψ S fr frv) (l : List Nat) : FrR h ψ S (keep l fr) frv := by
  intro t
  rw [lk_keep]
  split
  · exact k t
  · simp [VD]
def evD (fr : FrD) : Opd → D
  | .tmp t => lk fr t
  | .val v => dV v
def evsD (fr : FrD) : List Opd → List D
  | [] => []
  | x :: l => evD fr x :: evsD fr l
theorem evD_ok {fr : FrD} {frv : Fr} (k : FrR h ψ S fr frv) : ∀ x : Opd, VD h ψ S (evD fr x) (ev frv x)
  | .tmp t => k t
  | .val v => dV_ok v
theorem evsD_ok {fr : FrD} {frv : Fr} (k : FrR h ψ S fr frv) : ∀ l : List Opd, VDl h ψ S (evsD fr l) (evs frv l)
  | [] => by simp [evsD, evs, VDl]
  | x :: l => by simp only [evsD, evs, VDl]; exact ⟨_, _, rfl, evD_ok k x, evsD_ok k l⟩
theorem VDl.length : ∀ {l : List D} {vs : List V}, VDl h ψ S l vs → vs.length = l.length
  | [], _, k => by simp only [VDl] at k; subst k; rfl
  | d :: l, _, k => by simp only [VDl] at k; obtain ⟨v, r, rfl, _, k⟩ := k; simp [VDl.length k]
theorem VDl.get : ∀ {l : List D} {vs : List V} {i : Nat} {d : D}, VDl h ψ S l vs → l[i]? = some d → ∃ v, vs[i]? = some v ∧ VD h ψ S d v
  | [], _, _, _, _, e => by simp at e
  | d :: l, _, i, _, k, e => by
    simp only [VDl] at k
    obtain ⟨v, r, rfl, h1, k⟩ := k
    cases i with
    | zero => simp at e; subst e; exact ⟨v, rfl, h1⟩
    | succ i => simp at e ⊢; exact VDl.get k e
theorem VDl.append : ∀ {l m : List D} {vs us : List V}, VDl h ψ S l vs → VDl h ψ S m us → VDl h ψ S (l ++ m) (vs ++ us)
  | [], _, _, _, k, k2 => by simp only [VDl] at k; subst k; simpa using k2
  | d :: l, _, _, _, k, k2 => by
    simp only [VDl, List.cons_append] at k ⊢
    obtain ⟨v, r, rfl, h1, k⟩ := k
    exact ⟨v, r ++ _, rfl, h1, VDl.append k k2⟩
theorem VDl.take : ∀ {l : List D} {vs : List V} (n : Nat), VDl h ψ S l vs → VDl h ψ S (l.take n) (vs.take n)
  | [], _, n, k => by simp only [VDl] at k; subst k; simp [VDl]
  | d :: l, _, n, k => by
    simp only [VDl] at k
    obtain ⟨v, r, rfl, h1, k⟩ := k
    cases n with
    | zero => simp [VDl]
    | succ n => simp only [List.take_succ_cons, VDl]; exact ⟨v, _, rfl, h1, VDl.take n k⟩
theorem VDl.drop : ∀ {l : List D} {vs : List V} (n : Nat), VDl h ψ S l vs → VDl h ψ S (l.drop n) (vs.drop n)
  | [], _, n, k => by simp only [VDl] at k; subst k; simp [VDl]
  | d :: l, _, n, k => by
    cases n with
    | zero => exact k
    | succ n =>
      simp only [VDl] at k
      obtain ⟨v, r, rfl, h1, k⟩ := k
      exact VDl.drop n k
theorem VDl.set : ∀ {l : List D} {vs : List V} (i : Nat) {d : D} {v : V}, VDl h ψ S l vs → VD h ψ S d v → VDl h ψ S (l.set i d) (vs.set i v)
  | [], _, n, _, _, k, _ => by simp only [VDl] at k; subst k; simp [VDl]
  | d :: l, _, n, _, _, k, k2 => by
    simp only [VDl] at k
    obtain ⟨v, r, rfl, h1, k⟩ := k
    cases n with
    | zero => simp only [List.set_cons_zero, VDl]; exact ⟨_, _, rfl, k2, k⟩
    | succ n => simp only [List.set_cons_succ, VDl]; exact ⟨_, _, rfl, h1, VDl.set n k k2⟩
theorem VDp.of : ∀ {l : List D} {vs us : List V}, VDl h ψ S l vs → VDp h ψ S l (vs ++ us)
  | [], _, _, _ => by simp [VDp]
  | d :: l, _, _, k => by
    simp only [VDl] at k
    obtain ⟨v, r, rfl, h1, k⟩ := k
    simp only [List.cons_append, VDp]
    exact ⟨_, _, rfl, h1, VDp.of k⟩
theorem VDp.take : ∀ {l : List D} {vs : List V} {n : Nat}, VDp h ψ S l vs → n ≤ l.length → ∃ us, takeX n vs = some us ∧ VDl h ψ S (l.take n) us
  | _, _, 0, _, _ => ⟨[], rfl, by simp [VDl]⟩
  | [], _, n + 1, _, hn => by simp at hn
  | d :: l, _, n + 1, k, hn => by
    simp only [VDp] at k
    obtain ⟨v, r, rfl, h1, k⟩ := k
    obtain ⟨us, e, k2⟩ := VDp.take (n := n) k (by simpa using hn)
    exact ⟨v :: us, by simp [takeX, e], by simp only [List.take_succ_cons, VDl]; exact ⟨v, us, rfl, h1, k2⟩⟩
theorem VDp.drop : ∀ {l : List D} {vs : List V} {n : Nat}, VDp h ψ S l vs → VDp h ψ S (l.drop n) (vs.drop n)
  | _, _, 0, k => k
  | [], _, n + 1, _ => by simp [VDp]
  | d :: l, _, n + 1, k => by
    simp only [VDp] at k
    obtain ⟨v, r, rfl, h1, k⟩ := k
    exact VDp.drop (n := n) k
theorem VDss.get : ∀ {l : List (List D)} {cs : List V} {sz i : Nat} {e : List D}, VDss h ψ S sz l cs → l[i]? = some e → e.length = sz ∧ VDp h ψ S e (cs.drop (i * sz))
  | [], _, _, _, _, _, e => by simp at e
  | x :: l, cs, sz, i, e, k, he => by
    simp only [VDss] at k
    cases i with
    | zero => simp at he; subst he; exact ⟨k.1, by simpa using k.2.1⟩
    | succ i =>
      obtain ⟨h1, h2⟩ := VDss.get k.2.2 (by simpa using he)
      refine ⟨h1, ?_⟩
      rw [List.drop_drop] at h2
      rw [show (i + 1) * sz = sz + i * sz from by rw [Nat.succ_mul]; omega]
      exact h2
theorem VDss.take : ∀ {l : List (List D)} {cs : List V} {sz n : Nat}, VDss h ψ S sz l cs → VDss h ψ S sz (l.take n) cs
  | [], _, _, _, _ => by simp [VDss]
  | x :: l, cs, sz, 0, k => by simp [VDss]
  | x :: l, cs, sz, n + 1, k => by
    simp only [VDss, List.take_succ_cons] at k ⊢
    exact ⟨k.1, k.2.1, VDss.take k.2.2⟩
theorem VDss.drop : ∀ {l : List (List D)} {cs : List V} {sz n : Nat}, VDss h ψ S sz l cs → VDss h ψ S sz (l.drop n) (cs.drop (n * sz))
  | [], _, _, _, _ => by simp [VDss]
  | x :: l, cs, sz, 0, k => by simpa using k
  | x :: l, cs, sz, n + 1, k => by
    simp only [VDss, List.drop_succ_cons] at k ⊢
    have := VDss.drop (n := n) k.2.2
    rw [List.drop_drop] at this
    rw [show (n + 1) * sz = sz + n * sz from by rw [Nat.succ_mul]; omega]
    exact this
theorem VDss.cells : ∀ {l : List (List D)} {cs : List V} {sz : Nat}, VDss h ψ S sz l cs → ∃ us, takeX (l.length * sz) cs = some us ∧ VDl h ψ S l.flatten us
  | [], cs, sz, _ => ⟨[], by simp [takeX], by simp [VDl]⟩
  | x :: l, cs, sz, k => by
    simp only [VDss] at k
    obtain ⟨us, e1, k1⟩ := VDp.take (n := sz) k.2.1 (by omega)
    obtain ⟨ws, e2, k2⟩ := VDss.cells k.2.2
    rw [List.take_of_length_le (by omega)] at k1
    refine ⟨us ++ ws, ?_, ?_⟩
    · obtain ⟨a1, a2⟩ := takeX_eq e1
      obtain ⟨b1, b2⟩ := takeX_eq e2
      rw [List.length_drop] at b2
      have hl : (x :: l).length * sz = sz + l.length * sz := by rw [List.length_cons, Nat.succ_mul]; omega
      rw [takeX_of (by omega), hl, List.take_add]
      rw [← a1, ← b1]
    · simp only [List.flatten_cons]; exact VDl.append k1 k2
theorem VDss.of : ∀ {l : List (List D)} {cs us : List V} {sz : Nat}, (∀ e, e ∈ l → e.length = sz) → VDl h ψ S l.flatten cs → VDss h ψ S sz l (cs ++ us)
  | [], cs, us, sz, _, _ => by simp [VDss]
  | x :: l, cs, us, sz, he, k => by
    have hx : x.length = sz := he x (List.mem_cons_self ..)
    have h1 := VDl.take sz k
    have h2 := VDl.drop sz k
    have hlen := k.length
    rw [List.flatten_cons] at h1 h2
    rw [List.take_left' hx] at h1
    rw [List.drop_left' hx] at h2
    have hle : sz ≤ cs.length := by rw [hlen]; simp; omega
    simp only [VDss]
    refine ⟨hx, ?_, ?_⟩
    · have := VDp.of (us := cs.drop sz ++ us) h1
      rwa [← List.append_assoc, List.take_append_drop] at this
    · rw [List.drop_append_of_le_length hle]
      exact VDss.of (fun e k => he e (List.mem_cons_of_mem _ k)) h2
end
end Go.Dv
end

section
namespace Go.Dv
open Go.Vm
mutual
def toV : D → Option V
  | .lit v => some v
  | .agg l => match toVs l with
    | some r => some (.agg r)
    | none => none
  | .iface t d => match toV d with
    | some v => some (.iface t v)
    | none => none
  | _ => none
def toVs : List D → Option (List V)
  | [] => some []
  | d :: l => match toV d with
    | some v => match toVs l with
      | some r => some (v :: r)
      | none => none
    | none => none
end
def litO (o : Option V) : Option D :=
  match o with
  | some v => cond (atomV v) (some (.lit v)) none
  | none => none
def pickD (t : Bool) (x y : D) : D :=
  match t with
  | true => x
  | false => y
def cellsD : D → Option (List D)
  | .agg l => some l
  | .any => none
  | .tup _ => none
  | d => some [d]
def spliceD : List D → Nat → List D → List D
  | l, 0, vs => vs ++ l.drop vs.length
  | x :: l, o + 1, vs => x :: spliceD l o vs
  | [], _ + 1, _ => []
def evPartsD (fr : FrD) : List (Nat × Nat × Opd) → List (Nat × Nat × D)
  | [] => []
  | (o, n, x) :: l => (o, n, evD fr x) :: evPartsD fr l
def fillD : List D → List (Nat × Nat × D) → Option (List D)
  | c, [] => some c
  | c, (o, n, d) :: l => match cellsD d with
    | some cs => cond (Nat.beq cs.length n) (cond (Nat.ble (o + n) c.length) (fillD (spliceD c o cs) l) none) none
    | none => none
def aggD (o : Option (List D)) : Option D :=
  match o with
  | some l => some (.agg l)
  | none => none
def nilchkD (x : D) : Option D := match x with
  | .ptr b o => some (.ptr b o)
  | .rptr l o => some (.rptr l o)
  | .func f a c => some (.func f a c)
  | _ => none
def binD (tab : Tab) (op : BinOp) (x y : D) : Option D := match x, y with
  | .lit v, .lit w => litO (binV tab op v w)
  | _, _ => none
def isEq (ty : ETy) (x y : D) : Option Bool :=
  match toV x, toV y with
  | some v, some w => eqV ty v w
  | _, _ => match ty, x, y with
    | .ptr, .lit .nilptr, .ptr _ _ => some false
    | .ptr, .lit .nilptr, .rptr _ _ => some false
    | .ptr, .ptr _ _, .lit .nilptr => some false
    | .ptr, .rptr _ _, .lit .nilptr => some false
    | .ptr, .ptr b o, .ptr b' o' => cond (Nat.beq b b') (some (Nat.beq o o')) none
    | .func, .lit .nilfunc, .func _ _ _ => some false
    | .func, .func _ _ _, .lit .nilfunc => some false
    | _, _, _ => none
def eqD (ty : ETy) (neg : Bool) (x y : D) : Option D :=
  match isEq ty x y with
  | some r => some (.lit (.bool (cond neg (!r) r)))
  | none => none
def isEqi (ints : List Nat) (lit : Bool) (x y : D) : Option Bool :=
  match toV x, toV y with
  | some v, some w => eqiV ints lit v w
  | _, _ => match x, y with
    | .lit .niliface, .iface _ _ => some false
    | .iface _ _, .lit .niliface => some false
    | _, _ => none
def eqiD (ints : List Nat) (lit neg : Bool) (x y : D) : Option D :=
  match isEqi ints lit x y with
  | some r => some (.lit (.bool (cond neg (!r) r)))
  | none => none
def lit1 (f : V → Option V) (x : D) : Option D := match x with
  | .lit v => litO (f v)
  | _ => none
def faddrD (off : Nat) (x : D) : Option D := match x with
  | .ptr b o => some (.ptr b (o + off))
  | .rptr l o => some (.rptr l (o + off))
  | _ => none
def field1D (off : Nat) (x : D) : Option D := match x with
  | .agg l => l[off]?
  | _ => none
def fieldnD (off n : Nat) (x : D) : Option D := match x with
  | .agg l => cond (Nat.ble (off + n) l.length) (some (.agg ((l.drop off).take n))) none
  | _ => none
def natD (x : D) : Option Nat := match x with
  | .lit v => natOf v
  | _ => none
def elemD (o : Option (List D)) : Option D := match o with
  | some e => some (.rptr e 0)
  | none => none
def iaddrD (sz : Nat) (x i : D) : Option D := match natD i with
  | some n => match x with
    | .slice b o sz' len _ _ => cond (Nat.blt n len) (cond (Nat.beq sz sz') (some (.ptr b (o + n * sz))) none) none
    | .row sz' _ l => cond (Nat.beq sz sz') (elemD l[n]?) none
    | _ => none
  | none => none
def iaddraD (len sz : Nat) (x i : D) : Option D := match natD i with
  | some n => match x with
    | .ptr b o => cond (Nat.blt n len) (some (.ptr b (o + n * sz))) none
    | _ => none
  | none => none
def idx1D (len : Nat) (x i : D) : Option D := match natD i with
  | some n => match x with
    | .agg l => cond (Nat.blt n len) l[n]? none
    | _ => none
  | none => none
def idxnD (len sz : Nat) (x i : D) : Option D := match natD i with
  | some n => match x with
    | .agg l => cond (Nat.blt n len) (cond (Nat.ble (n * sz + sz) l.length) (some (.agg ((l.drop (n * sz)).take sz))) none) none
    | _ => none
  | none => none
def idxsD (x i : D) : Option D := match x, i with
  | .lit v, .lit w => litO (idxsV v w)
  | _, _ => none
def extD (i : Nat) (x : D) : Option D := match x with
  | .tup l => l[i]?
  | _ => none
def lenbD (x : D) : Option D := match x with
  | .lit .nilslice => some (.lit (.int .i64 0))
  | .slice _ _ _ len _ _ => some (.lit (.int .i64 (len : Int)))
  | .row _ _ l => some (.lit (.int .i64 (l.length : Int)))
  | _ => none
def capsD (x : D) : Option D := match x with
  | .lit .nilslice => some (.lit (.int .i64 0))
  | .slice _ _ _ _ c true => some (.lit (.int .i64 (c : Int)))
  | .row _ .c l => some (.lit (.int .i64 (l.length : Int)))
  | _ => none
def evoD (fr : FrD) : Option Opd → Option D
  | none => none
  | some x => some (evD fr x)
def bndD (x : Option D) : Option (Option V) := match x with
  | none => some none
  | some (.lit v) => some (some v)
  | some _ => none
def sliceO (o : Option V) : Option D := match o with
  | some (.slice b o sz len c e) => some (.slice b o sz len c e)
  | some .nilslice => some (.lit .nilslice)
  | _ => none
def cutMd (m : Md) (mx : Option V) (h : Nat) : Md := match m with
  | .w => .w
  | _ => match mx with
    | none => .p
    | some v => match natOf v with
      | some k => cond (Nat.beq k h) .c .p
      | none => .p
def slcRow (sz : Nat) (m : Md) (l : List (List D)) (lo hi mx : Option V) : Option D :=
  match boundM mx l.length true with
  | some (k, _) => match boundH hi l.length k with
    | some h => match boundL lo h with
      | some j => some (.row sz (cutMd m mx h) ((l.take h).drop j))
      | none => none
    | none => none
  | none => none
def slcD (sz : Nat) (x : D) (lo hi mx : Option D) : Option D :=
  match bndD lo, bndD hi, bndD mx with
  | some lo, some hi, some mx => match x with
    | .lit .nilslice => sliceO (slcV sz .nilslice lo hi mx)
    | .slice b o sz' len c ex => sliceO (slcV sz (.slice b o sz' len c ex) lo hi mx)
    | .row sz' m l => cond (Nat.beq sz sz') (cond (needH hi mx) (slcRow sz m l lo hi mx) none) none
    | _ => none
  | _, _, _ => none
def slaD (n sz : Nat) (x : D) (lo hi mx : Option D) : Option D :=
  match bndD lo, bndD hi, bndD mx with
  | some lo, some hi, some mx => match x with
    | .ptr b o => sliceO (slaV n sz (.ptr b o) lo hi mx)
    | _ => none
  | _, _, _ => none
def slsD (x : D) (lo hi : Option D) : Option D :=
  match bndD lo, bndD hi with
  | some lo, some hi => match x with
    | .lit v => litO (slsV v lo hi)
    | _ => none
  | _, _ => none
def foldD (f : V → V → Option V) (l : List D) : Option D := match toVs l with
  | some (x :: r) => litO (foldV f x r)
  | _ => none
def pD (env : Env) (fr : FrD) : POp → Option D
  | .mov x => some (evD fr x)
  | .pick c a b => match evD fr c with
    | .lit (.bool t) => some (pickD t (evD fr a) (evD fr b))
    | _ => none
  | .build zero parts => aggD (fillD (dVs zero) (evPartsD fr parts))
  | .nilchk x => nilchkD (evD fr x)
  | .bin op x y => binD env.tab op (evD fr x) (evD fr y)
  | .eq ty neg x y => eqD ty neg (evD fr x) (evD fr y)
  | .eqi lit neg x y => eqiD env.ints lit neg (evD fr x) (evD fr y)
  | .neg x => lit1 negV (evD fr x)
  | .not x => lit1 notV (evD fr x)
  | .compl x => lit1 complV (evD fr x)
  | .conv c x => lit1 (convV c) (evD fr x)
  | .mkiface t x => some (.iface t (evD fr x))
  | .mkfunc f first captured => some (.func f (evsD fr first) (evsD fr captured))
  | .slc sz x lo hi mx => slcD sz (evD fr x) (evoD fr lo) (evoD fr hi) (evoD fr mx)
  | .sls x lo hi => slsD (evD fr x) (evoD fr lo) (evoD fr hi)
  | .sla n sz x lo hi mx => slaD n sz (evD fr x) (evoD fr lo) (evoD fr hi) (evoD fr mx)
  | .faddr off x => faddrD off (evD fr x)
  | .field1 off x => field1D off (evD fr x)
  | .fieldn off n x => fieldnD off n (evD fr x)
  | .iaddr sz x i => iaddrD sz (evD fr x) (evD fr i)
  | .iaddra len sz x i => iaddraD len sz (evD fr x) (evD fr i)
  | .idxs x i => idxsD (evD fr x) (evD fr i)
  | .idx1 len x i => idx1D len (evD fr x) (evD fr i)
  | .idxn len sz x i => idxnD len sz (evD fr x) (evD fr i)
  | .ext x i => extD i (evD fr x)
  | .lens x => lit1 lensV (evD fr x)
  | .lenb x => lenbD (evD fr x)
  | .lena n => some (.lit (.int .i64 (n : Int)))
  | .caps x => capsD (evD fr x)
  | .min l => foldD (min2V env.tab) (evsD fr l)
  | .max l => foldD (max2V env.tab) (evsD fr l)
section
variable {h : Hp} {ψ : Nat → Option Nat} {S : Nat → Prop}
mutual
theorem toV_ok : ∀ (d : D) {v w : V}, toV d = some w → VD h ψ S d v → v = w
  | .lit x, _, _, e, k => by simp only [toV, VD] at e k; cases e; exact k.1
  | .agg l, _, _, e, k => by
    simp only [toV] at e
    split at e
    · rename_i r hr
      cases e
      simp only [VD] at k
      obtain ⟨l', rfl, k⟩ := k
      rw [toVs_ok l hr k]
    · cases e
  | .iface t d, _, _, e, k => by
    simp only [toV] at e
    split at e
    · rename_i r hr
      cases e
      simp only [VD] at k
      obtain ⟨l', rfl, k⟩ := k
      rw [toV_ok d hr k]
    · cases e
  | .any, _, _, e, _ | .ptr _ _, _, _, e, _ | .rptr _ _, _, _, e, _ | .slice _ _ _ _ _ _, _, _, e, _ | .row _ _ _, _, _, e, _ | .map _, _, _, e, _ | .func _ _ _, _, _, e, _ | .tup _, _, _, e, _ => by simp [toV] at e
theorem toVs_ok : ∀ (l : List D) {vs ws : List V}, toVs l = some ws → VDl h ψ S l vs → vs = ws
  | [], _, _, e, k => by simp only [toVs, VDl] at e k; cases e; exact k
  | d :: l, _, _, e, k => by
    simp only [toVs] at e
    split at e
    · rename_i v hv
      split at e
      · rename_i r hr
        cases e
        simp only [VDl] at k
        obtain ⟨v', r', rfl, k1, k2⟩ := k
        rw [toV_ok d hv k1, toVs_ok l hr k2]
      · cases e
    · cases e
end
theorem litO_some {o : Option V} {d : D} (e : litO o = some d) : ∃ v, o = some v ∧ d = .lit v ∧ VD h ψ S d v := by
  unfold litO at e
  split at e
  · rename_i v
    rw [cond_eq_ite] at e
    split at e
    · rename_i ha; cases e; exact ⟨v, rfl, rfl, by simp [VD, ha]⟩
    · cases e
  · cases e
theorem cellsD_ok {d : D} {v : V} {l : List D} (e : cellsD d = some l) (k : VD h ψ S d v) : VDl h ψ S l v.cells := by
  cases d with
  | agg l' => cases e; simp only [VD] at k; obtain ⟨l', rfl, k⟩ := k; exact k
  | any => cases e
  | tup => cases e
  | lit w => cases e; have k' := k; simp only [VD] at k'; obtain ⟨rfl, ha⟩ := k'; cases v <;> first | (simp only [VDl, V.cells]; exact ⟨_, _, rfl, k, rfl⟩) | cases ha
  | ptr b o => cases e; have k' := k; simp only [VD] at k'; obtain ⟨c, _, rfl⟩ := k'; simp only [VDl, V.cells]; exact ⟨_, _, rfl, k, rfl⟩
  | rptr l o => cases e; have k' := k; simp only [VD] at k'; obtain ⟨_, _, _, _, _, rfl, _⟩ := k'; simp only [VDl, V.cells]; exact ⟨_, _, rfl, k, rfl⟩
  | slice => cases e; have k' := k; simp only [VD] at k'; obtain ⟨c, _, rfl⟩ := k'; simp only [VDl, V.cells]; exact ⟨_, _, rfl, k, rfl⟩
  | row => cases e; have k' := k; simp only [VD] at k'; rcases k' with ⟨rfl, _⟩ | ⟨_, _, _, _, rfl, _⟩ <;> (simp only [VDl, V.cells]; exact ⟨_, _, rfl, k, rfl⟩)
  | map => cases e; have k' := k; simp only [VD] at k'; obtain ⟨c, _, rfl⟩ := k'; simp only [VDl, V.cells]; exact ⟨_, _, rfl, k, rfl⟩
  | func => cases e; have k' := k; simp only [VD] at k'; obtain ⟨_, _, rfl, _⟩ := k'; simp only [VDl, V.cells]; exact ⟨_, _, rfl, k, rfl⟩
  | iface => cases e; have k' := k; simp only [VD] at k'; obtain ⟨_, rfl, _⟩ := k'; simp only [VDl, V.cells]; exact ⟨_, _, rfl, k, rfl⟩
theorem over_eq : ∀ (l vs : List V), vs.length ≤ l.length → over l vs = vs ++ l.drop vs.length
  | l, [], _ => by cases l <;> simp [over]
  | [], v :: vs, hl => by simp at hl
  | x :: l, v :: vs, hl => by simp only [over, List.cons_append, List.length_cons, List.drop_succ_cons]; rw [over_eq l vs (by simpa using hl)]
theorem spliceD_ok : ∀ {l : List D} {vs : List V} {o : Nat} {m : List D} {us : List V}, VDl h ψ S l vs → VDl h ψ S m us → o + m.length ≤ l.length → VDl h ψ S (spliceD l o m) (splice vs o us)
  | l, vs, 0, m, us, k, k2, hl => by
    have h1 := k.length
    have h2 := k2.length
    rw [show splice vs 0 us = over vs us from by cases vs <;> rfl, over_eq _ _ (by omega)]
    rw [show spliceD l 0 m = m ++ l.drop m.length from by cases l <;> rfl, h2]
    exact VDl.append k2 (VDl.drop _ k)
  | d :: l, vs, o + 1, m, us, k, k2, hl => by
    simp only [VDl] at k
    obtain ⟨v, r, rfl, h1, k⟩ := k
    simp only [spliceD, splice, VDl]
    exact ⟨_, _, rfl, h1, spliceD_ok k k2 (by simp at hl; omega)⟩
  | [], vs, o + 1, m, us, k, k2, hl => by simp at hl
theorem fillD_ok {fr : FrD} {frv : Fr} (k : FrR h ψ S fr frv) : ∀ (l : List (Nat × Nat × Opd)) {c : List D} {vs : List V} {r : List D}, VDl h ψ S c vs → fillD c (evPartsD fr l) = some r → ∃ us, fillV vs (evParts frv l) = some us ∧ VDl h ψ S r us
  | [], c, vs, r, k1, e => by simp only [evPartsD, fillD] at e; cases e; exact ⟨vs, rfl, k1⟩
  | (o, n, x) :: l, c, vs, r, k1, e => by
    simp only [evPartsD, fillD] at e
    split at e
    · rename_i cs hcs
      have hk := cellsD_ok hcs (evD_ok k x)
      rw [cond_eq_ite, cond_eq_ite] at e
      split at e
      · rename_i h1
        split at e
        · rename_i h2
          rw [nbeq] at h1
          rw [nble] at h2
          obtain ⟨us, e1, k2⟩ := fillD_ok k l (spliceD_ok k1 hk (by omega)) e
          refine ⟨us, ?_, k2⟩
          simp only [evParts, fillV]
          rw [show Nat.beq (ev frv x).cells.length n = true from nbeq.2 (by rw [hk.length, h1]), show Nat.ble (o + n) vs.length = true from nble.2 (by rw [k1.length]; exact h2)]
          exact e1
        · cases e
      · cases e
    · cases e
theorem bnd_ok {fr : FrD} {frv : Fr} (k : FrR h ψ S fr frv) : ∀ (x : Option Opd) {b : Option V}, bndD (evoD fr x) = some b → evo frv x = b
  | none, b, e => by simp only [evoD, bndD] at e; cases e; rfl
  | some x, b, e => by
    simp only [evoD] at e
    have hk := evD_ok k x
    simp only [evo]
    cases hx : evD fr x <;> rw [hx] at e hk <;> simp only [bndD] at e <;> first | cases e | skip
    simp only [VD] at hk
    rw [hk.1]
theorem natD_ok {d : D} {v : V} {n : Nat} (e : natD d = some n) (k : VD h ψ S d v) : natOf v = some n := by
  cases d <;> simp only [natD] at e <;> first | cases e | skip
  simp only [VD] at k
  rw [k.1]; exact e
end
end Go.Dv
end
