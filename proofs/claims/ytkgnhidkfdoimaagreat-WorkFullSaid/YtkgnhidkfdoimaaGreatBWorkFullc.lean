/-
 Texts that the claim's last one rests on, joined.
-/
import Derived.Test.YtkgnhidkfdoimaaGreatBWorkFullb
import Derived.Orders
import Derived.RowKit3
import Derived.ChangeSame
import Derived.Laws.Externs

section
namespace Go.Vm
variable {P : Program} {φ : Emb}
def CallSim (P : Program) (φ : Emb) (f : Nat) (us : List Value) (h : Hp) (w : World) (v : V) (h' : Hp) : Prop :=
 (entered P f = true ∧ Calls P f us.toArray w fun e w' => ∃ u ψ, e = .returned u ∧ VR ψ v u ∧ St φ h w ψ h' w') ∨
 (∃ u ψ w', (callFunc f us.toArray).run P w = .ok (.value u) w' ∧ VR ψ v u ∧ St φ h w ψ h' w')
def Fresh (φ : Emb) (lo hi : Nat) : Prop := ∀ b, lo ≤ b → b < hi → φ.at_ b = none
theorem Fresh.step {ψ : Emb} {h h1 : Hp} {w w1 : World} {hi : Nat} (hf : Fresh φ h.next hi) (s : St φ h w ψ h1 w1) : Fresh ψ h1.next hi := fun b h2 h3 => by
 rw [s.new b (.inr h2)];exact hf b (Nat.le_trans s.nx h2) h3
theorem Fresh.sub {lo hi hi' : Nat} (h : Fresh φ lo hi) (hh : hi' ≤ hi) : Fresh φ lo hi' := fun b h1 h2 => h b h1 (Nat.lt_of_lt_of_le h2 hh)
def CallOk (P : Program) (env : Env) (call : Nat → List V → Hp → Option (V × Hp)) : Prop :=
 ∀ (φ : Emb) f args h v h' w us, call f args h = some (v, h') → EnvOk P φ env → HR φ h w → Fresh φ h.next h'.next → VRs φ args us → CallSim P φ f us h w v h'
theorem callFunc_entered {f : Nat} (h : entered P f = true) (args : Array Value) (w : World) : (callFunc f args).run P w = .ok (.enter f args) w := by
 unfold entered at h;split at h
 ·rename_i fn hf;rw [cond_eq_ite] at h;split at h
  ·cases h
  rename_i hn
  have hn' : fn.name ≠ "runtime.NumGoroutine" := by simpa using hn
  cases hb : fn.body with
  | none => rw [hb] at h; cases h
  | some c => simp [callFunc, hf, hn', hb]
 ·cases h
theorem call_wp {f : Nat} {us : List Value} {h h' : Hp} {w : World} {v : V} (hs : CallSim P φ f us h w v h') {o : Oper} {a : Act} {w0 : World} (he : (execOp a.eval o).run P w = (callFunc f us.toArray).run P w0) (hw : w0 = w)
  {next : Act → World → Prop} {Q : Exit → Act → World → Prop} (hk : ∀ u ψ w', VR ψ v u → St φ h w ψ h' w' → next (a.put o.dst u) w') : o.wp P a w next Q := by
 subst hw;unfold Oper.wp;rw [he];rcases hs with ⟨h1, h2⟩ | ⟨u, ψ, w', h1, h2, h3⟩
 ·rw [callFunc_entered h1, Oper.upon_enter];refine h2.mono ?_;rintro e w' ⟨u, ψ, rfl, r1, r2⟩;exact hk u ψ w' r1 r2
 ·rw [h1, Oper.upon_value];exact hk u ψ w' h2 h3
theorem run_value {o : Oper} {a : Act} {w w' : World} {u : Value} (he : (execOp a.eval o).run P w = .ok (.value u) w') {next : Act → World → Prop} {Q : Exit → Act → World → Prop} (hk : next (a.put o.dst u) w') : o.wp P a w next Q := by
 unfold Oper.wp;rw [he, Oper.upon_value];exact hk
theorem Acts.wp {a : Act} {o : Oper} {h h' : Hp} {w : World} {v : V} (hs : Acts P φ a o h w v h') {next : Act → World → Prop} {Q : Exit → Act → World → Prop}
  (hk : ∀ u ψ w', VR ψ v u → St φ h w ψ h' w' → next (a.put o.dst u) w') : o.wp P a w next Q := by
 obtain ⟨nx, u, ψ, w', h1, h2, h3, h4⟩ := hs;unfold Oper.wp;rw [h1];rcases h2 with rfl | ⟨rfl, rfl⟩
 ·rw [Oper.upon_value]; exact hk u ψ w' h3 h4
 ·rw [Oper.upon_skip]; exact hk undef ψ w' h3 h4
theorem args_arr {args : Array Operand} {a : Act} : (args.map a.eval) = (args.toList.map a.eval).toArray := by
 apply Array.ext';simp
theorem only_call {o : Oper} {p : EOp} (hc : cOp P o.op = some (.e p)) (hp : p.isCall = true) : ∃ c, o.op = .call c ∧ cCall P c = some (.e p) := by
 cases hop : o.op <;> rw [hop] at hc <;> simp only [cOp, reduceCtorEq] at hc
 case call c => exact ⟨c, rfl, hc⟩
 case panic x => cases hc; cases hp
 case makeFunc fn x y =>
  cases fn <;> simp only [reduceCtorEq] at hc;split at hc <;> cases hc
 case makeMap t r' =>
  cases r' <;> simp only [reduceCtorEq] at hc
  repeat' (first | (cases hc; done) | split at hc)
 case convert s d X =>
  split at hc
  ·unfold cConv at hc
   repeat' (first | (cases hc; done) | (cases hc; cases hp; done) | (rw [cond_eq_ite] at hc; split at hc) | split at hc)
  ·cases hc
 all_goals (repeat' (first | (cases hc; done) | (cases hc; cases hp; done) | (obtain ⟨y, _, e⟩ := map_some hc; cases e; done) | (rw [cond_eq_ite] at hc; split at hc) | split at hc))
theorem op_sim {env : Env} (ok : EnvOk P φ env) {call : Nat → List V → Hp → Option (V × Hp)} (hcall : CallOk P env call) {fr : Fr} {a : Act} (hf : FR φ fr a) {o : Oper} {m : MOp} (hc : cOp P o.op = some m)
  {h h' : Hp} {w : World} (hr : HR φ h w) (hfr : Fresh φ h.next h'.next) {v : V} (hv : opV env call fr h m = some (v, h')) {next : Act → World → Prop} {Q : Exit → Act → World → Prop}
  (hk : ∀ u ψ w', VR ψ v u → St φ h w ψ h' w' → next (a.put o.dst u) w') : o.wp P a w next Q := by
 cases m with
 | p p =>
  simp only [opV] at hv;split at hv
  case h_2 => cases hv
  rename_i v' hv';cases hv;obtain ⟨u, h1, h2⟩ := p_sim ok hf hc hv';exact run_value (h2 w) (hk u φ w h1 (.refl hr))
 | a p =>
  simp only [opV] at hv;split at hv
  case h_2 => cases hv
  rename_i blk mk hv';cases hv;obtain ⟨u, obj, pl, w1, h1, h2, h3, h4, h5⟩ := a_sim ok hf hc hv' w;have hfn : φ.at_ h.next = none := hfr h.next (Nat.le_refl _) (Nat.lt_succ_self _);have hw1 : w1.heap = w.heap := (by rcases h1 with rfl | rfl <;> rfl);have hsz : w1.heap.size = w.heap.size := (by rw [hw1]);have hr1 : HR φ h w1 := (by rcases h1 with rfl | rfl <;> first | exact hr | exact hr.drew);have hst := hr1.new blk obj pl (by rw [hsz]; exact h3) hfn (fun ψ w' hle hh => h5 ψ w' hle (by rw [← hsz]; exact hh));have hst0 : St φ h w φ h w1 := (by rcases h1 with rfl | rfl <;> first | exact .refl hr | exact .drew hr)
  refine run_value h2 (hk u _ _ (h4 _ h.next hst.le ?_) (hst0.trans hst));show (if h.next = h.next then some pl else _) = _;rw [if_pos rfl]
 | load1 x =>
  simp only [opV] at hv;split at hv
  case h_2 => cases hv
  rename_i b q hx;split at hv
  case h_2 => cases hv
  rename_i v0 l hl;cases hv;obtain ⟨pl, us, r1, r2, r3, r4⟩ := hr.read hl
  cases r3 with | cons _ u _ us' k1 k2 =>
  exact run_value (load1_sim ok hf hc hx r1 r4 rfl) (hk u φ w k1 (.refl hr))
 | loadn n x =>
  simp only [opV] at hv;split at hv
  case h_2 => cases hv
  rename_i b q hx;split at hv
  case h_2 => cases hv
  rename_i l hl;cases hv;obtain ⟨pl, us, r1, r2, r3, r4⟩ := hr.read hl;exact run_value (loadn_sim ok hf hc hx r1 r4 (by rw [← r3.length, r2])) (hk _ φ w (.agg _ _ (by simpa using r3)) (.refl hr))
 | e p =>
  simp only [opV] at hv
  cases hnc : p.isCall with
  | false => exact (e_sim ok hf hc hnc hr (fun hlt => hfr h.next (Nat.le_refl _) hlt) hv).wp hk
  | true =>
   obtain ⟨c, hop, hcc⟩ := only_call hc hnc;unfold cCall at hcc;split at hcc
   ·cases hcc
   rename_i args ha;have rargs := opds_rel ok.gl hf ha;split at hcc
   ·rename_i b hb;unfold cBuiltin at hcc
    repeat' (first | (cases hcc; done) | (cases hcc; cases hnc; done) | (rw [cond_eq_ite] at hcc; split at hcc) | split at hcc)
   ·rename_i f hcl
    have he : ∀ w, (execOp a.eval o).run P w = (callFunc f (c.args.toList.map a.eval).toArray).run P w := by
     intro w;simp only [execOp, hop, resolve, hcl, Act.eval, Deferred.ofValue, pure_bind, invoke];rw [args_arr];simp
    have hgo : call f (evs fr args) h = some (v, h') → o.wp P a w next Q := fun hv =>
     call_wp (hcall φ f _ h v h' w _ hv ok hr hfr rargs) (he w) rfl hk
    rw [cond_eq_ite] at hcc;split at hcc
    ·cases hcc; exact hgo hv
    ·cases hcc; exact hgo hv
   ·rename_i x hne hcl;split at hcc
    case h_2 => cases hcc
    rename_i y hy;cases hcc;simp only [eV] at hv;split at hv
    case h_2 => cases hv
    rename_i f first captured ex
    have rx := opd_rel ok.gl hf hy;rw [ex] at rx;generalize hxu : a.eval x = xu at rx
    cases rx with | func _ _ _ fst cap r1 r2 =>
    have he : ∀ w, (execOp a.eval o).run P w = (callFunc f (fst.toList ++ c.args.toList.map a.eval ++ cap.toList).toArray).run P w := by
     intro w;simp only [execOp, hop, resolve, hcl, hxu, Deferred.ofValue, pure_bind, invoke]
     congr 2
     apply Array.ext';simp
    exact call_wp (hcall φ f _ h v h' w _ hv ok hr hfr ((r1.append rargs).append r2)) (he w) rfl hk
   ·cases hcc
theorem FR.put {ψ : Emb} {fr : Fr} {a : Act} (hf : FR φ fr a) (hle : φ.Le ψ) {dst : Option Nat} {v : V} {u : Value} (hv : VR ψ v u) (hd : ∀ d, dst = some d → d < a.tmps.size) : FR ψ (putO fr dst v) (a.put dst u) := by
 intro t
 cases dst with
 | none => exact (hf t).mono hle
 | some d =>
  simp only [putO, Act.put, ev, T.get_set]
  by_cases e : t = d
  ·subst e;rw [if_pos rfl];have := hd t rfl;simp only [Array.getD_eq_getD_getElem?, Array.getElem?_setIfInBounds, if_true, this];simpa using hv
  ·rw [if_neg e];have := (hf t).mono hle;simp only [ev] at this;simp only [Array.getD_eq_getD_getElem?, Array.getElem?_setIfInBounds];rw [if_neg (by omega)];simpa [Array.getD_eq_getD_getElem?] using this
theorem put_size (a : Act) (dst : Option Nat) (u : Value) : (a.put dst u).tmps.size = a.tmps.size := by cases dst <;> simp [Act.put]
theorem put_defers (a : Act) (dst : Option Nat) (u : Value) : (a.put dst u).defers = a.defers := by cases dst <;> rfl
def boolOf : Option Value → Option Bool
 | some (.bool b) => some b
 | _ => none
theorem gate_ok {ops : Array Oper} {o : Oper} {g : Option (Nat × Bool)} (hg : cGuard ops o.guard = some g) {fr : Fr} {a : Act} (hf : FR φ fr a) :
  (gate fr g = .yes → Region.wanted o (yielded ops a.tmps) = true) ∧ (gate fr g = .no → Region.wanted o (yielded ops a.tmps) = false) := by
 cases hgd : o.guard with
 | none =>
  rw [hgd] at hg;simp [cGuard] at hg;subst hg;exact ⟨fun _ => by simp [Region.wanted, hgd], fun h => by cases h⟩
 | some jw =>
  obtain ⟨j, w⟩ := jw;rw [hgd] at hg;simp only [cGuard] at hg;split at hg
  case h_2 => cases hg
  rename_i d hd;cases hg;have rt := hf d
  have hy : yielded ops a.tmps j = boolOf a.tmps[d]? := by
   simp only [yielded, hd, Option.bind_some]
   cases a.tmps[d]? with
   | none => rfl
   | some q => cases q <;> rfl
  simp only [gate];constructor
  ·intro h;split at h
   ·rename_i b hb;rw [hb] at rt;rw [cond_eq_ite] at h;split at h
    case isFalse => cases h
    rename_i hbw;rw [beqB_iff] at hbw;subst hbw;generalize hu : a.tmps.getD d undef = u at rt;cases rt
    have : a.tmps[d]? = some (.bool b) := by
     rw [Array.getD_eq_getD_getElem?] at hu
     cases hq : a.tmps[d]? with
     | none => rw [hq] at hu; cases hu
     | some q => rw [hq] at hu; simp at hu; rw [hu]
    simp [Region.wanted, hgd, hy, this, boolOf]
   ·cases h
   ·cases h
  ·intro h;split at h
   ·rename_i b hb;rw [hb] at rt;rw [cond_eq_ite] at h;split at h
    ·cases h
    rename_i hbw;generalize hu : a.tmps.getD d undef = u at rt;cases rt
    have : a.tmps[d]? = some (.bool b) := by
     rw [Array.getD_eq_getD_getElem?] at hu
     cases hq : a.tmps[d]? with
     | none => rw [hq] at hu; cases hu
     | some q => rw [hq] at hu; simp at hu; rw [hu]
    have hne : b ≠ w := fun e => hbw (beqB_iff.2 e);simp [Region.wanted, hgd, hy, this, hne, boolOf]
   ·rename_i l hb;rw [hb] at rt;generalize hu : a.tmps.getD d undef = u at rt
    cases rt with | tup _ cs hcs =>
    have : boolOf a.tmps[d]? = none := by
     rw [Array.getD_eq_getD_getElem?] at hu
     cases hq : a.tmps[d]? with
     | none => rfl
     | some q => rw [hq] at hu; simp at hu; rw [hu]; rfl
    simp [Region.wanted, hgd, hy, this]
   ·cases h
theorem cOper_some {n : Nat} {ops : Array Oper} {o : Oper} {mo : MO} (h : cOper P n ops o = some mo) : cOp P o.op = some mo.op ∧ cGuard ops o.guard = some mo.guard ∧ mo.dst = o.dst ∧ ∀ d, o.dst = some d → d < n := by
 unfold cOper at h;split at h
 case h_2 => cases h
 rename_i m g h1 h2;rw [cond_eq_ite] at h;split at h
 case isFalse => cases h
 rename_i hd;cases h;refine ⟨h1, h2, rfl, fun d e => ?_⟩;rw [e] at hd;exact nblt.1 hd
theorem runOps_sim {env : Env} {call : Nat → List V → Hp → Option (V × Hp)} (hrise : Rises call) (hcall : CallOk P env call) {n : Nat} {ops : Array Oper} :
  ∀ (l : List Oper) {mos : List MO} {φ : Emb} {fr fr' : Fr} {h h' : Hp} {a : Act} {w : World}, mapO (cOper P n ops) l = some mos → runOps env call mos fr h = some (fr', h') → EnvOk P φ env → FR φ fr a → HR φ h w → Fresh φ h.next h'.next → n ≤ a.tmps.size →
   ∀ {Q : Exit → Act → World → Prop}, (∀ ψ a' w', FR ψ fr' a' → St φ h w ψ h' w' → a'.defers = a.defers → a'.tmps.size = a.tmps.size → Q .normal a' w') → wpList P ops Q l a w
 | [], mos, φ, fr, fr', h, h', a, w, hc, hv, ok, hf, hr, hfr, hn, Q, hk => by
  simp [mapO] at hc; subst hc;simp only [runOps, Option.some.injEq, Prod.mk.injEq] at hv;obtain ⟨rfl, rfl⟩ := hv;exact wpList_nil (hk φ a w hf (.refl hr) rfl rfl)
 | o :: l, mos, φ, fr, fr', h, h', a, w, hc, hv, ok, hf, hr, hfr, hn, Q, hk => by
  obtain ⟨mo, mos', h1, h2, rfl⟩ := mapO_cons hc;obtain ⟨c1, c2, c3, c4⟩ := cOper_some h1;obtain ⟨g1, g2⟩ := gate_ok c2 hf;have hdst : ∀ d, mo.dst = some d → d < a.tmps.size := fun d e => Nat.lt_of_lt_of_le (c4 d (c3 ▸ e)) hn;simp only [runOps] at hv;refine wpList_step fun K hK => ?_;split at hv
  ·rename_i hg;rw [if_neg (by rw [g2 hg]; simp)];refine hK _ _ ?_;refine runOps_sim hrise hcall l h2 hv ok (c3 ▸ hf.put (.refl φ) undef_rel hdst) hr hfr (by rw [put_size]; exact hn) fun ψ a' w' k1 k2 k3 k4 => ?_;exact hk ψ a' w' k1 k2 (by rw [k3, put_defers]) (by rw [k4, put_size])
  ·cases hv
  ·rename_i hg;rw [if_pos (g1 hg)];split at hv
   case h_2 => cases hv
   rename_i v h1' hv1;have hrs := runOps_next hrise hv;refine op_sim ok hcall hf c1 hr (hfr.sub hrs) hv1 fun u ψ w' k1 k2 => hK _ _ ?_;refine runOps_sim hrise hcall l h2 hv (ok.mono k2.le) (c3 ▸ hf.put k2.le k1 hdst) k2.hr (hfr.step k2) (by rw [put_size]; exact hn) fun χ a' w'' m1 m2 m3 m4 => ?_;exact hk χ a' w'' m1 (k2.trans m2) (by rw [m3, put_defers]) (by rw [m4, put_size])
end Go.Vm
end

section
namespace Go.Vm
variable {P : Program}
theorem allR_all {α : Type} {r : α → Bool} : ∀ {l : List α}, allR r l = true → ∀ x, x ∈ l → r x = true
 | [], _, x, hx => by cases hx
 | y :: l, h, x, hx => by
  simp only [allR] at h;rw [cond_eq_ite] at h; split at h
  ·rename_i hy;rcases List.mem_cons.1 hx with rfl | hx
   ·exact hy
   ·exact allR_all h x hx
  ·cases h
theorem allPairs_get {α : Type} {r : α → α → Bool} : ∀ {l : List α}, allPairs r l = true → ∀ {p q : Nat} {x y : α}, p < q → l[p]? = some x → l[q]? = some y → r x y = true
 | [], _, p, q, x, y, _, h1, _ => by simp at h1
 | z :: l, h, p, q, x, y, hpq, h1, h2 => by
  simp only [allPairs] at h;rw [cond_eq_ite] at h; split at h
  case isFalse => cases h
  rename_i hz
  cases q with
  | zero => omega
  | succ q =>
   simp only [List.getElem?_cons_succ] at h2
   cases p with
   | zero =>
    simp at h1;subst h1;exact allR_all hz y (List.mem_of_getElem? h2)
   | succ p =>
    simp only [List.getElem?_cons_succ] at h1;exact allPairs_get h (by omega) h1 h2
theorem memN_mem {n : Nat} : ∀ {l : List Nat}, memN n l = true → n ∈ l
 | [], h => by cases h
 | x :: l, h => by
  simp only [memN] at h;rw [cond_eq_ite] at h; split at h
  ·rename_i e; rw [nbeq] at e; exact List.mem_cons.2 (.inl e.symm)
  ·exact List.mem_cons.2 (.inr (memN_mem h))
theorem mem_memN {n : Nat} : ∀ {l : List Nat}, n ∈ l → memN n l = true
 | [], h => by cases h
 | x :: l, h => by
  simp only [memN];rw [cond_eq_ite]; split
  ·rfl
  ·rename_i e;rcases List.mem_cons.1 h with h | h
   ·exact absurd (nbeq.2 h.symm) e
   ·exact mem_memN h
theorem ancL_spec {anc : Nat → Nat} {i : Nat} : ∀ {l : List Edge}, Nat.testBit (ancL anc l) i = true → ∃ e, e ∈ l ∧ Region.binds .any e = true ∧ (e.on = i ∨ Nat.testBit (anc e.on) i = true)
 | [], h => by simp [ancL] at h
 | e :: l, h => by
  simp only [ancL] at h;rw [cond_eq_ite] at h; split at h
  ·rename_i hb;have h' : Nat.testBit ((2 ^ e.on ||| anc e.on) ||| ancL anc l) i = true := h;rw [Nat.testBit_or, Nat.testBit_or, Bool.or_eq_true, Bool.or_eq_true] at h';rcases h' with (h' | h') | h'
   ·rw [Nat.testBit_two_pow] at h';exact ⟨e, List.mem_cons_self, hb, .inl (by simpa using h')⟩
   ·exact ⟨e, List.mem_cons_self, hb, .inr h'⟩
   ·obtain ⟨e', h1, h2⟩ := ancL_spec h';exact ⟨e', List.mem_cons_of_mem _ h1, h2⟩
  ·obtain ⟨e', h1, h2⟩ := ancL_spec h;exact ⟨e', List.mem_cons_of_mem _ h1, h2⟩
theorem ancL_has {anc : Nat → Nat} : ∀ {l : List Edge} {e : Edge}, e ∈ l → Region.binds .any e = true → Nat.testBit (ancL anc l) e.on = true
 | [], e, h, _ => by cases h
 | x :: l, e, h, hb => by
  simp only [ancL];rw [cond_eq_ite];split
  ·show Nat.testBit ((2 ^ x.on ||| anc x.on) ||| ancL anc l) e.on = true;rw [Nat.testBit_or, Nat.testBit_or, Bool.or_eq_true, Bool.or_eq_true];rcases List.mem_cons.1 h with h | h
   ·subst h; exact .inl (.inl (by rw [Nat.testBit_two_pow]; simp))
   ·exact .inr (ancL_has h hb)
  ·rename_i hx;rcases List.mem_cons.1 h with h | h
   ·subst h; exact absurd hb hx
   ·exact ancL_has h hb
structure Stat (P : Program) (nt : Nat) (ops : Array Oper) (L : List (Nat × DO)) (D : Nat → Nat → Prop) : Prop where
 comp : ∀ (p : Nat) (x : Nat × DO), L[p]? = some x → ∃ o, ops[x.1]? = some o ∧ cOper P nt ops o = some x.2.o
 cover : ∀ i, i < ops.size → ∃ (p : Nat) (x : Nat × DO), L[p]? = some x ∧ x.1 = i
 step : ∀ (j : Nat) (o : Oper) (i : Nat), ops[j]? = some o → D i j → ∃ e, e ∈ o.after ∧ Region.binds .any e = true ∧ (e.on = i ∨ D i e.on)
 irr : ∀ j, j < ops.size → ¬ D j j
 dep : ∀ (j : Nat) (o : Oper) (e : Edge), ops[j]? = some o → e ∈ o.after → Region.binds .any e = true → D e.on j ∧ e.on < ops.size
 neq : ∀ (p q : Nat) (x y : Nat × DO), p < q → L[p]? = some x → L[q]? = some y → x.1 ≠ y.1
 topo : ∀ (p q : Nat) (x y : Nat × DO), p < q → L[p]? = some x → L[q]? = some y → ¬ D y.1 x.1
 dsts : ∀ (p q : Nat) (x y : Nat × DO), p < q → L[p]? = some x → L[q]? = some y → ∀ t, x.2.o.dst = some t → y.2.o.dst ≠ some t
 eff : ∀ (p q : Nat) (x y : Nat × DO), p < q → L[p]? = some x → L[q]? = some y → isE y.2.o.op = true → D x.1 y.1
 wr : ∀ (p q : Nat) (x y : Nat × DO), p < q → L[p]? = some x → L[q]? = some y → ∀ t, x.2.o.dst = some t → t ∈ y.2.o.looks → D x.1 y.1
 rw : ∀ (p q : Nat) (x y : Nat × DO), p < q → L[p]? = some x → L[q]? = some y → ∀ t, y.2.o.dst = some t → t ∈ x.2.o.looks → D x.1 y.1
 lo : ∀ (q : Nat) (x : Nat × DO), L[q]? = some x → isL x.2.o.op = true → ∀ c, x.2.lo = c + 1 → ∃ y : Nat × DO, L[c]? = some y ∧ isE y.2.o.op = true ∧ D y.1 x.1
 hi : ∀ (q : Nat) (x : Nat × DO), L[q]? = some x → isL x.2.o.op = true → ∀ y : Nat × DO, L[x.2.hi]? = some y → D x.1 y.1
theorem mapO_get {α β : Type} {f : α → Option β} : ∀ {l : List α} {r : List β}, mapO f l = some r → ∀ {p : Nat} {y : β}, r[p]? = some y → ∃ x, l[p]? = some x ∧ f x = some y
 | [], r, h, p, y, hy => by simp [mapO] at h; subst h; simp at hy
 | x :: l, r, h, p, y, hy => by
  obtain ⟨z, q, h1, h2, rfl⟩ := mapO_cons h
  cases p with
  | zero => simp at hy; subst hy; exact ⟨x, rfl, h1⟩
  | succ p => simp only [List.getElem?_cons_succ] at hy ⊢; exact mapO_get h2 hy
theorem pairOk_spec {anc : Nat → Nat} {x y : Nat × DO} (h : pairOk anc x y = true) :
  x.1 ≠ y.1 ∧ Nat.testBit (anc x.1) y.1 = false ∧ (∀ t, x.2.o.dst = some t → y.2.o.dst ≠ some t) ∧
  (Nat.testBit (anc y.1) x.1 = true ∨ (isE y.2.o.op = false ∧ (∀ t, x.2.o.dst = some t → t ∉ y.2.o.looks) ∧ (∀ t, y.2.o.dst = some t → t ∉ x.2.o.looks))) := by
 unfold pairOk at h;rw [cond_eq_ite] at h; split at h
 ·cases h
 rename_i h1;rw [cond_eq_ite] at h; split at h
 ·cases h
 rename_i h2;rw [cond_eq_ite] at h; split at h
 ·cases h
 rename_i h3;refine ⟨fun e => h1 (nbeq.2 e), by simpa using h2, fun t e1 e2 => h3 (by rw [e1, e2]; exact nbeq.2 rfl), ?_⟩;rw [cond_eq_ite] at h; split at h
 ·rename_i h4; exact .inl h4
 rw [cond_eq_ite] at h; split at h
 ·cases h
 rename_i h5;rw [cond_eq_ite] at h; split at h
 ·cases h
 rename_i h6;refine .inr ⟨by simpa using h5, fun t e1 e2 => h6 ?_, fun t e1 e2 => ?_⟩
 ·rw [e1]; exact mem_memN e2
 ·rw [e1] at h;have : memN t x.2.o.looks = true := mem_memN e2;simp [hitsD, this] at h
theorem stat_of {nt : Nat} {ops : Array Oper} {l : List DO} (h : cDraw P nt ops = some l) : ∃ L D, Stat P nt ops L D ∧ l = L.map (·.2) := by
 unfold cDraw at h;split at h
 ·cases h
 rename_i ms hms;simp only at h;split at h
 ·cases h
 rename_i L hL;rw [cond_eq_ite] at h; split at h
 case isFalse => cases h
 rename_i hok;cases h;generalize hanc : (fun i => (Region.before ops).getD i 0) = anc at hok;refine ⟨L, fun i j => Nat.testBit (anc j) i = true, ?_, rfl⟩;unfold drawOk at hok;rw [cond_eq_ite] at hok; split at hok
 case isFalse => cases hok
 rename_i k1;rw [cond_eq_ite] at hok; split at hok
 case isFalse => cases hok
 rename_i k2;rw [cond_eq_ite] at hok; split at hok
 case isFalse => cases hok
 rename_i k3;have pair : ∀ p q x y, p < q → L[p]? = some x → L[q]? = some y → pairOk anc x y = true := fun p q x y hpq hx hy => allPairs_get k3 hpq hx hy
 have hanc : ∀ j o, ops[j]? = some o → anc j = ancL anc o.after.toList ∧ Nat.testBit (anc j) j = false ∧ ∀ e, e ∈ o.after.toList → Region.binds .any e = true → e.on < ops.size := by
  intro j o ho;have hlt := (Array.getElem?_eq_some_iff.1 ho).1;have hj := allR_all k1 j (List.mem_range.2 hlt);unfold ancOk at hj;rw [ho] at hj;simp only at hj;rw [cond_eq_ite] at hj; split at hj
  case isFalse => cases hj
  rename_i j1;rw [cond_eq_ite] at hj; split at hj
  ·cases hj
  rename_i j2;refine ⟨nbeq.1 j1, by simpa using j2, fun e he hb => ?_⟩;have := allR_all hj e he;rw [hb] at this;exact nblt.1 this
 have wind : ∀ (q : Nat) (x : Nat × DO), L[q]? = some x → isL x.2.o.op = true → loOk anc L x.1 x.2.lo = true ∧ hiOk anc L x.1 x.2.hi = true := by
  intro q x hx hl;have := allR_all hok x (List.mem_of_getElem? hx);unfold windOk at this;rw [hl] at this;simp only [cond_true] at this;rw [cond_eq_ite] at this; split at this
  ·rename_i hh; exact ⟨hh, this⟩
  ·cases this
 constructor
 case comp =>
  intro p x hx;obtain ⟨i, hi, hf⟩ := mapO_get hL hx;split at hf
  case h_2 => cases hf
  rename_i m hm;cases hf;obtain ⟨o, ho, hc⟩ := mapO_get hms hm;exact ⟨o, by simpa using ho, hc⟩
 case cover =>
  intro i hi;have := memN_mem (allR_all k2 i (List.mem_range.2 hi));obtain ⟨x, hx, e⟩ := List.mem_map.1 this;obtain ⟨p, hp, e2⟩ := List.mem_iff_getElem.1 hx;exact ⟨p, x, by rw [List.getElem?_eq_getElem hp, e2], e⟩
 case step =>
  intro j o i ho hd;rw [(hanc j o ho).1] at hd;obtain ⟨e, h1, h2, h3⟩ := ancL_spec hd;exact ⟨e, by simpa using h1, h2, h3⟩
 case irr =>
  intro j hj hd;have := (hanc j _ (Array.getElem?_eq_getElem hj)).2.1;rw [this] at hd;cases hd
 case dep =>
  intro j o e ho he hb;obtain ⟨h1, h2, h3⟩ := hanc j o ho;refine ⟨?_, h3 e (by simpa using he) hb⟩;rw [h1];exact ancL_has (by simpa using he) hb
 case neq => exact fun p q x y hpq hx hy => (pairOk_spec (pair p q x y hpq hx hy)).1
 case topo => exact fun p q x y hpq hx hy hd => by rw [(pairOk_spec (pair p q x y hpq hx hy)).2.1] at hd; cases hd
 case dsts => exact fun p q x y hpq hx hy => (pairOk_spec (pair p q x y hpq hx hy)).2.2.1
 case eff =>
  intro p q x y hpq hx hy he;rcases (pairOk_spec (pair p q x y hpq hx hy)).2.2.2 with h | ⟨h, _⟩
  ·exact h
  ·rw [he] at h; cases h
 case wr =>
  intro p q x y hpq hx hy t h1 h2;rcases (pairOk_spec (pair p q x y hpq hx hy)).2.2.2 with h | ⟨_, h, _⟩
  ·exact h
  ·exact absurd h2 (h t h1)
 case rw =>
  intro p q x y hpq hx hy t h1 h2;rcases (pairOk_spec (pair p q x y hpq hx hy)).2.2.2 with h | ⟨_, _, h⟩
  ·exact h
  ·exact absurd h2 (h t h1)
 case lo =>
  intro q x hx hl c hc;have := (wind q x hx hl).1;rw [hc] at this;simp only [loOk, getX_eq] at this;split at this
  ·rename_i i d hy;rw [cond_eq_ite] at this; split at this
   ·rename_i he; exact ⟨(i, d), hy, he, this⟩
   ·cases this
  ·cases this
 case hi =>
  intro q x hx hl y hy;have := (wind q x hx hl).2;simp only [hiOk, getX_eq, hy] at this;exact this
structure Can (env : Env) (call : Nat → List V → Hp → Option (V × Hp)) (L : List (Nat × DO)) (fr : Nat → Fr) (h : Nat → Hp) (v : Nat → V) (yes : Nat → Bool) : Prop where
 put : ∀ (p : Nat) (x : Nat × DO), L[p]? = some x → fr (p + 1) = putO (fr p) x.2.o.dst (v p)
 step : ∀ (p : Nat) (x : Nat × DO), L[p]? = some x → (yes p = true ∧ gate (fr p) x.2.o.guard = .yes ∧ opV env call (fr p) (h p) x.2.o.op = some (v p, h (p + 1))) ∨
   (yes p = false ∧ gate (fr p) x.2.o.guard = .no ∧ v p = .tup [] ∧ h (p + 1) = h p)
 still : ∀ (q : Nat) (x : Nat × DO), L[q]? = some x → yes q = true → isL x.2.o.op = true → ∀ c, (c = 0 ∨ ∃ (p : Nat) (y : Nat × DO), c = p + 1 ∧ L[p]? = some y ∧ isE y.2.o.op = true) → x.2.lo ≤ c → c ≤ x.2.hi →
  opV env call (fr q) (h c) x.2.o.op = some (v q, h c)
theorem stillAll_spec {r : Rd} : ∀ {st : List (Nat × Hp)}, stillAll r st = true → ∀ c hh, (c, hh) ∈ st → r.lo ≤ c → c ≤ r.hi → stillAt r hh = true
 | [], _, c, hh, hm, _, _ => by cases hm
 | (c', h') :: st, h, c, hh, hm, h1, h2 => by
  simp only [stillAll] at h;rcases List.mem_cons.1 hm with e | hm
  ·cases e;rw [nble.2 h1, nble.2 h2] at h;simp only [cond_true] at h;rw [cond_eq_ite] at h; split at h
   ·rename_i hh; exact hh
   ·cases h
  ·have : stillAll r st = true := by
    rw [cond_eq_ite] at h; split at h
    ·rw [cond_eq_ite] at h; split at h
     ·rw [cond_eq_ite] at h; split at h
      ·exact h
      ·cases h
     ·exact h
    ·exact h
   exact stillAll_spec this c hh hm h1 h2
theorem allStill_spec {st : List (Nat × Hp)} : ∀ {rds : List Rd}, allStill st rds = true → ∀ r, r ∈ rds → stillAll r st = true
 | [], _, r, hr => by cases hr
 | x :: l, h, r, hr => by
  simp only [allStill] at h;rw [cond_eq_ite] at h; split at h
  ·rename_i hx;rcases List.mem_cons.1 hr with rfl | hr
   ·exact hx
   ·exact allStill_spec h r hr
  ·cases h
def RunOf (env : Env) (call : Nat → List V → Hp → Option (V × Hp)) (L : List (Nat × DO)) (p0 : Nat) (fr0 : Fr) (h0 : Hp) (st : List (Nat × Hp)) (rds : List Rd) (fr' : Fr) (h' : Hp) : Prop :=
  ∃ (fr : Nat → Fr) (h : Nat → Hp) (v : Nat → V) (yes : Nat → Bool) (stF : List (Nat × Hp)) (rdF : List Rd), fr 0 = fr0 ∧ h 0 = h0 ∧ fr L.length = fr' ∧ h L.length = h' ∧
   (∀ (p : Nat) (x : Nat × DO), L[p]? = some x → fr (p + 1) = putO (fr p) x.2.o.dst (v p)) ∧
   (∀ (p : Nat) (x : Nat × DO), L[p]? = some x → (yes p = true ∧ gate (fr p) x.2.o.guard = .yes ∧ opV env call (fr p) (h p) x.2.o.op = some (v p, h (p + 1))) ∨
    (yes p = false ∧ gate (fr p) x.2.o.guard = .no ∧ v p = .tup [] ∧ h (p + 1) = h p)) ∧
   allStill stF rdF = true ∧ (∀ s, s ∈ st → s ∈ stF) ∧ (∀ r, r ∈ rds → r ∈ rdF) ∧ (∀ (p : Nat) (x : Nat × DO), L[p]? = some x → isE x.2.o.op = true → (p0 + p + 1, h (p + 1)) ∈ stF) ∧
   (∀ (p : Nat) (x : Nat × DO), L[p]? = some x → yes p = true → ∀ r, r ∈ rdOf (fr p) (h p) x.2 → r ∈ rdF)
theorem can_of_run {env : Env} {call : Nat → List V → Hp → Option (V × Hp)} : ∀ (L : List (Nat × DO)) (p0 : Nat) (fr0 : Fr) (h0 : Hp) (st : List (Nat × Hp)) (rds : List Rd) (fr' : Fr) (h' : Hp),
  runD env call (L.map (·.2)) p0 fr0 h0 st rds = some (fr', h') → RunOf env call L p0 fr0 h0 st rds fr' h'
 | [], p0, fr0, h0, st, rds, fr', h', e => by
  simp only [List.map_nil, runD] at e;rw [cond_eq_ite] at e; split at e
  case isFalse => cases e
  rename_i hs;cases e;exact ⟨fun _ => fr0, fun _ => h0, fun _ => .tup [], fun _ => false, st, rds, rfl, rfl, rfl, rfl, by simp, by simp, hs, fun _ h => h, fun _ h => h, by simp, by simp⟩
 | x :: L, p0, fr0, h0, st, rds, fr', h', e => by
  simp only [List.map_cons, runD] at e
  have go : ∀ (b : Bool) (v0 : V) (h1 : Hp) (rds1 : List Rd), (∀ r, r ∈ rds → r ∈ rds1) → (b = true → ∀ r, r ∈ rdOf fr0 h0 x.2 → r ∈ rds1) →
    ((b = true ∧ gate fr0 x.2.o.guard = .yes ∧ opV env call fr0 h0 x.2.o.op = some (v0, h1)) ∨ (b = false ∧ gate fr0 x.2.o.guard = .no ∧ v0 = .tup [] ∧ h1 = h0)) →
    runD env call (L.map (·.2)) (p0 + 1) (putO fr0 x.2.o.dst v0) h1 (cond (isE x.2.o.op) ((p0 + 1, h1) :: st) st) rds1 = some (fr', h') → RunOf env call (x :: L) p0 fr0 h0 st rds fr' h' := by
   intro b v0 h1 rds1 hr1 hr2 hb e1;obtain ⟨fr, h, v, yes, stF, rdF, f1, f2, f3, f4, f5, f6, f7, f8, f9, f10, f11⟩ := can_of_run L (p0 + 1) _ h1 _ rds1 fr' h' e1;refine ⟨fun | 0 => fr0 | p + 1 => fr p, fun | 0 => h0 | p + 1 => h p, fun | 0 => v0 | p + 1 => v p, fun | 0 => b | p + 1 => yes p, stF, rdF, rfl, rfl, f3, f4, ?_, ?_, f7, fun s hs => f8 s ?_, fun r hr => f9 r (hr1 r hr), ?_, ?_⟩
   ·intro p y hy
    cases p with
    | zero => simp at hy; subst hy; exact f1
    | succ p => exact f5 p y (by simpa using hy)
   ·intro p y hy
    cases p with
    | zero => simp at hy; subst hy; dsimp only; rw [f2]; exact hb
    | succ p => exact f6 p y (by simpa using hy)
   ·rw [cond_eq_ite]; split
    ·exact List.mem_cons_of_mem _ hs
    ·exact hs
   ·intro p y hy he
    cases p with
    | zero =>
     simp at hy; subst hy;refine f8 _ ?_;rw [he];dsimp only;rw [f2];exact List.mem_cons_self
    | succ p =>
     have := f10 p y (by simpa using hy) he;rw [show p0 + (p + 1) + 1 = p0 + 1 + p + 1 by omega];exact this
   ·intro p y hy hyes r hr
    cases p with
    | zero => simp at hy; subst hy; exact f9 r (hr2 hyes r hr)
    | succ p => exact f11 p y (by simpa using hy) hyes r hr
  split at e
  ·rename_i hg;exact go false (.tup []) h0 rds (fun _ h => h) (fun h => by cases h) (.inr ⟨rfl, hg, rfl, rfl⟩) e
  ·cases e
  ·rename_i hg;split at e
   case h_2 => cases e
   rename_i v0 h1 hv;exact go true v0 h1 _ (fun r hr => List.mem_append_right _ hr) (fun _ r hr => List.mem_append_left _ hr) (.inl ⟨rfl, hg, hv⟩) e
theorem read_length {h : Hp} {b o n : Nat} {l : List V} (e : h.read b o n = some l) : l.length = n := by
 unfold Hp.read at e;split at e
 ·obtain ⟨h1, h2⟩ := takeX_eq e;rw [h1, List.length_take]; omega
 ·cases e
theorem can_of {env : Env} {call : Nat → List V → Hp → Option (V × Hp)} {L : List (Nat × DO)} {fr0 fr' : Fr} {h0 h' : Hp} (e : runD env call (L.map (·.2)) 0 fr0 h0 [(0, h0)] [] = some (fr', h')) :
  ∃ fr h v yes, Can env call L fr h v yes ∧ fr 0 = fr0 ∧ h 0 = h0 ∧ fr L.length = fr' ∧ h L.length = h' := by
 obtain ⟨fr, h, v, yes, stF, rdF, f1, f2, f3, f4, f5, f6, f7, f8, f9, f10, f11⟩ := can_of_run L 0 fr0 h0 _ _ fr' h' e;refine ⟨fr, h, v, yes, ⟨f5, f6, ?_⟩, f1, f2, f3, f4⟩;intro q x hx hy hl c hc h1 h2
 have hst : (c, h c) ∈ stF := by
  rcases hc with rfl | ⟨p, y, rfl, hp, he⟩
  ·rw [f2]; exact f8 _ (List.mem_singleton.2 rfl)
  ·have := f10 p y hp he
   rwa [Nat.zero_add] at this
 have hrd := f11 q x hx hy
 have hop : opV env call (fr q) (h q) x.2.o.op = some (v q, h (q + 1)) := by
  rcases f6 q x hx with ⟨_, _, k⟩ | ⟨k, _⟩
  ·exact k
  ·rw [hy] at k; cases k
 have key : ∀ b o l, ⟨x.2.lo, x.2.hi, b, o, l⟩ ∈ rdF → (h c).read b o l.length = some l := by
  intro b o l hm;have := stillAll_spec (allStill_spec f7 _ hm) c (h c) hst h1 h2;unfold stillAt at this;simp only at this;split at this
  ·rename_i l' hl';rw [hl', sames_eq this]
  ·cases this
 cases hm : x.2.o.op <;> rw [hm] at hl hop <;> simp only [isL, reduceCtorEq] at hl
 case load1 a =>
  simp only [opV] at hop ⊢;unfold rdOf at hrd;rw [hm] at hrd;simp only at hrd;split at hop
  case h_2 => cases hop
  rename_i b o ha;rw [ha] at hrd;simp only at hrd
  cases hr : (h q).read b o 1 with
  | none => rw [hr] at hop; cases hop
  | some l =>
   rw [hr] at hop hrd;have hlen : l.length = 1 := read_length hr;have := key b o l (hrd _ (List.mem_singleton.2 rfl));rw [hlen] at this;rw [this]
   cases l with
   | nil => cases hlen
   | cons z r =>
    simp only [Option.some.injEq, Prod.mk.injEq] at hop ⊢;exact ⟨hop.1, trivial⟩
 case loadn n a =>
  simp only [opV] at hop ⊢;unfold rdOf at hrd;rw [hm] at hrd;simp only at hrd;split at hop
  case h_2 => cases hop
  rename_i b o ha;rw [ha] at hrd;simp only at hrd
  cases hr : (h q).read b o n with
  | none => rw [hr] at hop; cases hop
  | some l =>
   rw [hr] at hop hrd;have hlen : l.length = n := read_length hr;have := key b o l (hrd _ (List.mem_singleton.2 rfl));rw [hlen] at this;rw [this];simp only [Option.some.injEq, Prod.mk.injEq] at hop ⊢;exact ⟨hop.1, trivial⟩
end Go.Vm
end

section
namespace Go.Vm
variable {P : Program}
structure Sx (φ0 : Emb) (h0 : Hp) (w0 : World) (ψ : Emb) (At : Nat → Blk → Prop) (w : World) (hi : Nat) : Prop where
 le : φ0.Le ψ
 new : ∀ b, (b < h0.next ∨ hi ≤ b) → ψ.at_ b = φ0.at_ b
 os : w.os = w0.os
 tape : w.tape = w0.tape
 output : w.output = w0.output
 size : w0.heap.size ≤ w.heap.size
 kept : ∀ k, k < w0.heap.size → (∀ b pl, (h0.blk b).open_ = true → φ0.at_ b = some pl → pl.blk ≠ k) → w.heap[k]? = w0.heap[k]?
 host : ∀ b x pl, At b x → x.open_ = true → ψ.at_ b = some pl → (∃ b' pl', (h0.blk b').open_ = true ∧ φ0.at_ b' = some pl' ∧ pl'.blk = pl.blk) ∨ w0.heap.size ≤ pl.blk
 roof : ∀ b x pl, At b x → x.live = true → ψ.at_ b = some pl → (∃ b' pl', (h0.blk b').live = true ∧ φ0.at_ b' = some pl' ∧ pl'.blk = pl.blk) ∨ w0.heap.size ≤ pl.blk
 lies : ∀ b x, At b x → x.live = true → ∃ pl, ψ.at_ b = some pl ∧ BlkAt ψ w pl x
 apart : ∀ b b' x x' pl pl', At b x → At b' x' → x.live = true → x'.live = true → (x.open_ = true ∨ x'.open_ = true) → ψ.at_ b = some pl → ψ.at_ b' = some pl' → b ≠ b' → pl.blk ≠ pl'.blk
variable {φ0 ψ : Emb} {h0 : Hp} {w0 w : World} {At : Nat → Blk → Prop} {hi : Nat}
theorem Sx.hr (s : Sx φ0 h0 w0 ψ At w hi) {g : Hp} (hg : ∀ b, (g.blk b).live = true → At b (g.blk b)) (hf : ∀ b, g.next ≤ b → g.blk b = .gone) : HR ψ g w :=
 ⟨fun b hb => s.lies b _ (hg b hb) hb, fun b b' pl pl' h1 h2 => s.apart b b' _ _ pl pl' (hg b h1) (hg b' h2) h1 h2, hf⟩
theorem HR.lt {φ : Emb} {g : Hp} (hr : HR φ g w) {b : Nat} (h : (g.blk b).live = true) : b < g.next := by
 rcases Nat.lt_or_ge b g.next with k | k
 ·exact k
 ·rw [hr.fresh b k] at h; cases h
theorem Sx.eff (s : Sx φ0 h0 w0 ψ At w hi) {g g' : Hp} {w' : World} {χ : Emb} (hr : HR ψ g w) (st : St ψ g w χ g' w') (hg : ∀ b, (g.blk b).live = true → At b (g.blk b)) (hn : h0.next ≤ g.next) (hi' : g'.next ≤ hi)
  {At' : Nat → Blk → Prop} (ha : ∀ b x, At' b x → x.live = true → g'.blk b = x ∨ (g'.next ≤ b ∧ At b x)) : Sx φ0 h0 w0 χ At' w' hi where
 le := s.le.trans st.le
 new b hb := (st.new b (by have := st.nx; omega)).trans (s.new b hb)
 os := st.os.trans s.os
 tape := st.tape.trans s.tape
 output := st.output.trans s.output
 size := Nat.le_trans s.size st.size
 kept k hk hn' := by
  rw [st.kept k (Nat.lt_of_lt_of_le hk s.size) fun b pl ho hp e => ?_, s.kept k hk hn'];rcases s.host b _ pl (hg b (Blk.live_of_open ho)) ho hp with ⟨b', pl', o', p', e'⟩ | hge
  ·exact hn' b' pl' o' p' (e'.trans e)
  ·omega
 host b x pl h1 h2 h3 := by
  rcases ha b x h1 (Blk.live_of_open h2) with e | ⟨hb, hat⟩
  ·subst e;rcases st.host b pl h2 h3 with ⟨b', pl', o', p', e'⟩ | hge
   ·rcases s.host b' _ pl' (hg b' (Blk.live_of_open o')) o' p' with ⟨y, q, k1, k2, k3⟩ | h
    ·exact .inl ⟨y, q, k1, k2, k3.trans e'⟩
    ·right; omega
   ·right; have := s.size; omega
  ·rw [st.new b (.inr hb)] at h3;exact s.host b x pl hat h2 h3
 roof b x pl h1 h2 h3 := by
  rcases ha b x h1 h2 with e | ⟨hb, hat⟩
  ·subst e;rcases st.roof b pl h2 h3 with ⟨b', pl', o', p', e'⟩ | hge
   ·rcases s.roof b' _ pl' (hg b' o') o' p' with ⟨y, q, k1, k2, k3⟩ | h
    ·exact .inl ⟨y, q, k1, k2, k3.trans e'⟩
    ·right; omega
   ·right; have := s.size; omega
  ·rw [st.new b (.inr hb)] at h3;exact s.roof b x pl hat h2 h3
 lies b x h1 h2 := by
  rcases ha b x h1 h2 with e | ⟨hb, hat⟩
  ·subst e; exact st.hr.lies b h2
  ·obtain ⟨pl, k1, k2⟩ := s.lies b x hat h2;refine ⟨pl, (st.new b (.inr hb)).trans k1, k2.mono st.le (st.kept _ (k2.lt h2) fun b' pl' o' p' e => ?_)⟩;have hl' := Blk.live_of_open o';have := hr.lt hl';exact s.apart b' b _ x pl' pl (hg b' hl') hat hl' h2 (.inl o') p' k1 (by have := st.nx; omega) e
 apart b b' x x' pl pl' h1 h2 l1 l2 ho p1 p2 hne := by
  have key : ∀ {b b' x x' pl pl'}, g'.blk b = x → x.live = true → (x.open_ = true ∨ x'.open_ = true) → χ.at_ b = some pl → (g'.next ≤ b' ∧ At b' x') → x'.live = true → χ.at_ b' = some pl' → pl.blk ≠ pl'.blk := by
   rintro b b' x x' pl pl' rfl l1 ho p1 ⟨hb', hat⟩ l2 p2 heq;rw [st.new b' (.inr hb')] at p2;obtain ⟨q, k1, k2⟩ := s.lies b' x' hat l2;rw [p2] at k1; cases k1;rcases ho with ho | ho
   ·rcases st.host b pl ho p1 with ⟨y, q', o', p', e'⟩ | hge
    ·have hly := Blk.live_of_open o';have := hr.lt hly;exact s.apart y b' _ x' q' pl' (hg y hly) hat hly l2 (.inl o') p' p2 (by have := st.nx; omega) (e'.trans heq)
    ·have := k2.lt l2; omega
   ·rcases st.roof b pl l1 p1 with ⟨y, q', o', p', e'⟩ | hge
    ·have := hr.lt o';exact s.apart y b' _ x' q' pl' (hg y o') hat o' l2 (.inr ho) p' p2 (by have := st.nx; omega) (e'.trans heq)
    ·have := k2.lt l2; omega
  rcases ha b x h1 l1 with e | e
  ·rcases ha b' x' h2 l2 with e' | e'
   ·subst e; subst e'; exact st.hr.apart b b' pl pl' l1 l2 ho p1 p2 hne
   ·exact key e l1 ho p1 e' l2 p2
  ·rcases ha b' x' h2 l2 with e' | e'
   ·exact (key e' l2 ho.symm p2 e l1 p1).symm
   ·rw [st.new b (.inr e.1)] at p1;rw [st.new b' (.inr e'.1)] at p2;exact s.apart b b' x x' pl pl' e.2 e'.2 l1 l2 ho p1 p2 hne
theorem Sx.mono (s : Sx φ0 h0 w0 ψ At w hi) {At' : Nat → Blk → Prop} (ha : ∀ b x, At' b x → x.live = true → At b x) : Sx φ0 h0 w0 ψ At' w hi where
 le := s.le
 new := s.new
 os := s.os
 tape := s.tape
 output := s.output
 size := s.size
 kept := s.kept
 host b x pl h1 h2 h3 := s.host b x pl (ha b x h1 (Blk.live_of_open h2)) h2 h3
 roof b x pl h1 h2 h3 := s.roof b x pl (ha b x h1 h2) h2 h3
 lies b x h1 h2 := s.lies b x (ha b x h1 h2) h2
 apart b b' x x' pl pl' h1 h2 l1 l2 := s.apart b b' x x' pl pl' (ha b x h1 l1) (ha b' x' h2 l2) l1 l2
theorem Sx.drew (s : Sx φ0 h0 w0 ψ At w hi) : Sx φ0 h0 w0 ψ At w.drew hi where
 le := s.le
 new := s.new
 os := s.os
 tape := s.tape
 output := s.output
 size := s.size
 kept := s.kept
 host := s.host
 roof := s.roof
 lies b x h1 h2 := let ⟨pl, k1, k2⟩ := s.lies b x h1 h2; ⟨pl, k1, k2.mono (.refl ψ) rfl⟩
 apart := s.apart
theorem Sx.alloc (s : Sx φ0 h0 w0 ψ At w hi) {b : Nat} {x : Blk} {o : Obj} {pl : Place} (hb : h0.next ≤ b) (hbi : b < hi) (hfree : ψ.at_ b = none) (hpl : pl.blk = w.heap.size)
  (hx : ∀ χ w', ψ.Le χ → w'.heap[w.heap.size]? = some o → BlkAt χ w' pl x)
  {At' : Nat → Blk → Prop} (ha : ∀ b' x', At' b' x' → x'.live = true → (b' = b ∧ x' = x) ∨ (b' ≠ b ∧ At b' x')) :
  Sx φ0 h0 w0 ⟨fun y => if y = b then some pl else ψ.at_ y, ψ.sym⟩ At' (w.alloc o) hi := by
 have hle : ψ.Le ⟨fun y => if y = b then some pl else ψ.at_ y, ψ.sym⟩ := ⟨fun y q e => by
  show (if y = b then some pl else ψ.at_ y) = some q;split
  ·rename_i e'; rw [e', hfree] at e; cases e
  ·exact e, rfl⟩
 have hnew : (w.alloc o).heap[w.heap.size]? = some o := heap_alloc_new w o;have at1 : ∀ {q : Place}, (if b = b then some pl else ψ.at_ b) = some q → q = pl := fun e => (by rw [if_pos rfl] at e; cases e; rfl);have at2 : ∀ {y : Nat} {q : Place}, y ≠ b → (if y = b then some pl else ψ.at_ y) = some q → ψ.at_ y = some q := fun hy e => (by rwa [if_neg hy] at e);refine ⟨s.le.trans hle, fun y hy => ?_, s.os, s.tape, s.output, ?_, fun k hk hn => ?_, fun y z q h1 h2 h3 => ?_, fun y z q h1 h2 h3 => ?_, fun y z h1 h2 => ?_, fun y y' z z' q q' h1 h2 l1 l2 ho p1 p2 hne => ?_⟩
 ·show (if y = b then some pl else ψ.at_ y) = _;rw [if_neg (by omega)];exact s.new y hy
 ·have := s.size;simp;omega
 ·rw [heap_alloc_old w o k (Nat.lt_of_lt_of_le hk s.size)];exact s.kept k hk hn
 ·rcases ha y z h1 (Blk.live_of_open h2) with ⟨rfl, rfl⟩ | ⟨hy, hat⟩
  ·have := at1 h3; subst this; right; have := s.size; omega
  ·exact s.host y z q hat h2 (at2 hy h3)
 ·rcases ha y z h1 h2 with ⟨rfl, rfl⟩ | ⟨hy, hat⟩
  ·have := at1 h3; subst this; right; have := s.size; omega
  ·exact s.roof y z q hat h2 (at2 hy h3)
 ·rcases ha y z h1 h2 with ⟨rfl, rfl⟩ | ⟨hy, hat⟩
  ·exact ⟨pl, by show (if y = y then some pl else ψ.at_ y) = _; rw [if_pos rfl], hx _ _ hle hnew⟩
  ·obtain ⟨q, k1, k2⟩ := s.lies y z hat h2;exact ⟨q, by show (if y = b then some pl else ψ.at_ y) = _; rw [if_neg hy]; exact k1, k2.mono hle (heap_alloc_old w o _ (k2.lt h2))⟩
 ·rcases ha y z h1 l1 with ⟨rfl, rfl⟩ | ⟨hy, hat⟩
  ·rcases ha y' z' h2 l2 with ⟨rfl, rfl⟩ | ⟨hy', hat'⟩
   ·exact absurd rfl hne
   ·have := at1 p1; subst this;have := at2 hy' p2;obtain ⟨r, k1, k2⟩ := s.lies y' z' hat' l2;rw [this] at k1; cases k1;have := k2.lt l2; omega
  ·rcases ha y' z' h2 l2 with ⟨rfl, rfl⟩ | ⟨hy', hat'⟩
   ·have := at1 p2; subst this;have := at2 hy p1;obtain ⟨r, k1, k2⟩ := s.lies y z hat l1;rw [this] at k1; cases k1;have := k2.lt l1; omega
   ·exact s.apart y y' z z' q q' hat hat' l1 l2 ho (at2 hy p1) (at2 hy' p2) hne
theorem Sx.start {φ : Emb} {h : Hp} (hr : HR φ h w) : Sx φ h w φ (fun b x => h.blk b = x) w hi where
 le := .refl φ
 new _ _ := rfl
 os := rfl
 tape := rfl
 output := rfl
 size := Nat.le_refl _
 kept _ _ _ := rfl
 host b x pl h1 h2 h3 := .inl ⟨b, pl, h1 ▸ h2, h3, rfl⟩
 roof b x pl h1 h2 h3 := .inl ⟨b, pl, h1 ▸ h2, h3, rfl⟩
 lies b x h1 h2 := by subst h1; exact hr.lies b h2
 apart b b' x x' pl pl' h1 h2 l1 l2 := by subst h1; subst h2; exact hr.apart b b' pl pl' l1 l2
theorem Sx.done {g : Hp} (s : Sx φ0 h0 w0 ψ At w g.next) (hg : ∀ b, (g.blk b).live = true → At b (g.blk b)) (hf : ∀ b, g.next ≤ b → g.blk b = .gone) (nx : h0.next ≤ g.next) : St φ0 h0 w0 ψ g w where
 le := s.le
 new := s.new
 nx := nx
 os := s.os
 tape := s.tape
 output := s.output
 size := s.size
 kept := s.kept
 host b pl h1 h2 := s.host b _ pl (hg b (Blk.live_of_open h1)) h1 h2
 roof b pl h1 h2 := s.roof b _ pl (hg b h1) h1 h2
 hr := s.hr hg hf
section
variable {env : Env} {call : Nat → List V → Hp → Option (V × Hp)} {L : List (Nat × DO)} {fr : Nat → Fr} {h : Nat → Hp} {v : Nat → V} {yes : Nat → Bool}
theorem Can.nx (can : Can env call L fr h v yes) (hrise : Rises call) {p : Nat} {x : Nat × DO} (hx : L[p]? = some x) : (h p).next ≤ (h (p + 1)).next := by
 rcases can.step p x hx with ⟨_, _, k⟩ | ⟨_, _, _, k⟩
 ·exact opV_next hrise k
 ·rw [k]; exact Nat.le_refl _
theorem Can.mono (can : Can env call L fr h v yes) (hrise : Rises call) {p : Nat} : ∀ {q : Nat}, p ≤ q → q ≤ L.length → (h p).next ≤ (h q).next
 | 0, h1, _ => by rw [show p = 0 by omega]; exact Nat.le_refl _
 | q + 1, h1, h2 => by
  rcases Nat.lt_or_ge p (q + 1) with hlt | hge
  ·exact Nat.le_trans (can.mono hrise (q := q) (by omega) (by omega)) (can.nx hrise (List.getElem?_eq_getElem (by omega)))
  ·rw [show p = q + 1 by omega]; exact Nat.le_refl _
theorem Can.quiet (can : Can env call L fr h v yes) {p : Nat} {x : Nat × DO} (hx : L[p]? = some x) (hq : isE x.2.o.op = false) : h (p + 1) = h p ∨ ∃ k, h (p + 1) = (h p).new k := by
 rcases can.step p x hx with ⟨_, _, k⟩ | ⟨_, _, _, k⟩
 ·cases hm : x.2.o.op <;> rw [hm] at k hq
  case e => cases hq
  all_goals
   simp only [opV] at k
   repeat' (first | (cases k; done) | split at k)
   all_goals (simp only [Option.some.injEq, Prod.mk.injEq] at k; first | exact .inl k.2.symm | exact .inr ⟨_, k.2.symm⟩)
 ·exact .inl k
theorem Can.range (can : Can env call L fr h v yes) {c : Nat} (hf : ∀ b, (h c).next ≤ b → (h c).blk b = .gone) : ∀ {q : Nat}, c ≤ q → q ≤ L.length → (∀ p x, c ≤ p → p < q → L[p]? = some x → isE x.2.o.op = false) →
  (∀ b, (h q).next ≤ b → (h q).blk b = .gone) ∧ ∀ b, b < (h q).next → (b < (h c).next ∧ (h q).blk b = (h c).blk b) ∨ ∃ p, c ≤ p ∧ p < q ∧ b = (h p).next ∧ h (p + 1) = (h p).new ((h q).blk b)
 | 0, h1, _, _ => by
  rw [show c = 0 by omega] at hf ⊢;exact ⟨hf, fun b hb => .inl ⟨hb, rfl⟩⟩
 | q + 1, h1, h2, hq => by
  rcases Nat.lt_or_ge c (q + 1) with hlt | hge
  case inr =>
   rw [show c = q + 1 by omega] at hf ⊢;exact ⟨hf, fun b hb => .inl ⟨hb, rfl⟩⟩
  obtain ⟨r1, r2⟩ := can.range hf (q := q) (by omega) (by omega) fun p x a b => hq p x a (by omega);have hx : L[q]? = some L[q] := List.getElem?_eq_getElem (by omega);rcases can.quiet hx (hq q _ (by omega) (by omega) hx) with e | ⟨k, e⟩
  ·rw [e];refine ⟨r1, fun b hb => ?_⟩;rcases r2 b hb with r | ⟨p, a, b', c', d⟩
   ·exact .inl r
   ·exact .inr ⟨p, a, by omega, c', d⟩
  ·refine ⟨fun b hb => ?_, fun b hb => ?_⟩
   ·rw [e] at hb ⊢;have hb : (h q).next + 1 ≤ b := hb;rw [blk_new, if_neg (by omega)];exact r1 b (by omega)
   ·have hb' : b < (h q).next + 1 := by rw [e] at hb; exact hb
    by_cases eb : b = (h q).next
    ·right;refine ⟨q, by omega, by omega, eb, ?_⟩;rw [e, blk_new, if_pos eb]
    ·rw [e, blk_new, if_neg eb];rcases r2 b (by omega) with r | ⟨p, a, b', c', d⟩
     ·exact .inl r
     ·exact .inr ⟨p, a, by omega, c', d⟩
theorem ev_putO {f : Fr} {dst : Option Nat} {x : V} {t : Nat} : ev (putO f dst x) (.tmp t) = if dst = some t then x else ev f (.tmp t) := by
 cases dst with
 | none => simp [putO]
 | some d =>
  simp only [putO, ev, T.get_set]
  by_cases e : t = d
  ·subst e; simp
  ·rw [if_neg e, if_neg (by simp; omega)]
theorem Can.ev_at (can : Can env call L fr h v yes) (t : Nat) : ∀ {q : Nat}, q ≤ L.length →
  (∃ p x, p < q ∧ L[p]? = some x ∧ x.2.o.dst = some t ∧ ev (fr q) (.tmp t) = v p) ∨ ((∀ p x, p < q → L[p]? = some x → x.2.o.dst ≠ some t) ∧ ev (fr q) (.tmp t) = ev (fr 0) (.tmp t))
 | 0, _ => .inr ⟨fun p x hp => by omega, rfl⟩
 | q + 1, hq => by
  have hx : L[q]? = some L[q] := List.getElem?_eq_getElem (by omega);rw [can.put q _ hx, ev_putO]
  by_cases e : L[q].2.o.dst = some t
  ·rw [if_pos e];exact .inl ⟨q, _, by omega, hx, e, rfl⟩
  ·rw [if_neg e];rcases can.ev_at t (q := q) (by omega) with ⟨p, x, a, b, c, d⟩ | ⟨a, b⟩
   ·exact .inl ⟨p, x, by omega, b, c, d⟩
   ·refine .inr ⟨fun p x hp hpx => ?_, b⟩;rcases Nat.lt_or_ge p q with hlt | hge
    ·exact a p x hlt hpx
    ·rw [show p = q by omega, hx] at hpx;cases hpx; exact e
end
end Go.Vm
end

section
namespace Go.Vm
variable {P : Program}
def AtS (L : List (Nat × DO)) (h : Nat → Hp) (S : Nat → Prop) (c : Nat) (b : Nat) (x : Blk) : Prop :=
 (b < (h c).next ∧ (h c).blk b = x) ∨ ∃ (p : Nat) (y : Nat × DO), c ≤ p ∧ L[p]? = some y ∧ S y.1 ∧ b = (h p).next ∧ h (p + 1) = (h p).new x
structure Inv (L : List (Nat × DO)) (fr : Nat → Fr) (h : Nat → Hp) (v : Nat → V) (φ0 : Emb) (w0 : World) (a0 : Act) (S : Nat → Prop) (c : Nat) (φ : Emb) (f : Fr) (a : Act) (w : World) : Prop where
 cN : c ≤ L.length
 cut : c = 0 ∨ ∃ (p : Nat) (y : Nat × DO), c = p + 1 ∧ L[p]? = some y ∧ isE y.2.o.op = true
 low : ∀ (p : Nat) (x : Nat × DO), p < c → L[p]? = some x → S x.1
 high : ∀ (p : Nat) (x : Nat × DO), c ≤ p → L[p]? = some x → S x.1 → isE x.2.o.op = false
 put : ∀ (p : Nat) (x : Nat × DO) (t : Nat), L[p]? = some x → S x.1 → x.2.o.dst = some t → ev f (.tmp t) = v p
 un : ∀ t, (∀ (p : Nat) (x : Nat × DO), L[p]? = some x → S x.1 → x.2.o.dst ≠ some t) → ev f (.tmp t) = ev (fr 0) (.tmp t)
 fr : FR φ f a
 sx : Sx φ0 (h 0) w0 φ (AtS L h S c) w (h L.length).next
 fresh : ∀ b, (h c).next ≤ b → (h c).blk b = .gone
 free : ∀ b, (h c).next ≤ b → b < (h L.length).next → (∀ (p : Nat) (y : Nat × DO) (x : Blk), c ≤ p → L[p]? = some y → S y.1 → h (p + 1) = (h p).new x → b ≠ (h p).next) → φ.at_ b = none
 defs : a.defers = a0.defers
 size : a.tmps.size = a0.tmps.size
section
variable {env : Env} {call : Nat → List V → Hp → Option (V × Hp)} {nt : Nat} {ops : Array Oper} {L : List (Nat × DO)} {D : Nat → Nat → Prop} {fr : Nat → Fr} {h : Nat → Hp} {v : Nat → V} {yes : Nat → Bool}
 {φ0 φ : Emb} {w0 w : World} {a0 a : Act} {S S' : Nat → Prop} {c : Nat} {f : Fr} {q : Nat} {x : Nat × DO}
theorem Stat.inj (st : Stat P nt ops L D) {p q : Nat} {x y : Nat × DO} (hx : L[p]? = some x) (hy : L[q]? = some y) (e : x.1 = y.1) : p = q := by
 rcases Nat.lt_trichotomy p q with h | h | h
 ·exact absurd e (st.neq p q x y h hx hy)
 ·exact h
 ·exact absurd e.symm (st.neq q p y x h hy hx)
theorem len_of {p : Nat} {x : Nat × DO} (hx : L[p]? = some x) : p < L.length := (List.getElem?_eq_some_iff.1 hx).1
theorem Inv.slots (st : Stat P nt ops L D) (I : Inv L fr h v φ0 w0 a0 S c φ f a w) (hx : L[q]? = some x) (hS' : ∀ i, S' i ↔ (S i ∨ i = x.1)) :
  (∀ (p : Nat) (y : Nat × DO) (t : Nat), L[p]? = some y → S' y.1 → y.2.o.dst = some t → ev (putO f x.2.o.dst (v q)) (.tmp t) = v p) ∧
  (∀ t, (∀ (p : Nat) (y : Nat × DO), L[p]? = some y → S' y.1 → y.2.o.dst ≠ some t) → ev (putO f x.2.o.dst (v q)) (.tmp t) = ev (fr 0) (.tmp t)) := by
 constructor
 ·intro p y t hy hs hd;rw [ev_putO]
  by_cases e : x.2.o.dst = some t
  ·rw [if_pos e]
   have : p = q := by
    rcases Nat.lt_trichotomy p q with hh | hh | hh
    ·exact absurd e (st.dsts p q y x hh hy hx t hd)
    ·exact hh
    ·exact absurd hd (st.dsts q p x y hh hx hy t e)
   rw [this]
  ·rw [if_neg e];rcases (hS' y.1).1 hs with k | k
   ·exact I.put p y t hy k hd
   ·have := st.inj hy hx k;subst this;rw [hx] at hy; cases hy;exact absurd hd e
 ·intro t ht;rw [ev_putO, if_neg (ht q x hx ((hS' x.1).2 (.inr rfl)))];exact I.un t fun p y hy hs => ht p y hy ((hS' y.1).2 (.inl hs))
theorem Inv.quietStep (st : Stat P nt ops L D) (I : Inv L fr h v φ0 w0 a0 S c φ f a w) (hx : L[q]? = some x) (hS' : ∀ i, S' i ↔ (S i ∨ i = x.1)) (hE : isE x.2.o.op = false)
  {φ' : Emb} {u : Value} {w' : World} (hle : φ.Le φ') (hu : VR φ' (v q) u) (hdst : ∀ d, x.2.o.dst = some d → d < a.tmps.size) (sx' : Sx φ0 (h 0) w0 φ' (AtS L h S' c) w' (h L.length).next)
  (free' : ∀ b, (h c).next ≤ b → b < (h L.length).next → (∀ (p : Nat) (y : Nat × DO) (x : Blk), c ≤ p → L[p]? = some y → S' y.1 → h (p + 1) = (h p).new x → b ≠ (h p).next) → φ'.at_ b = none) :
  Inv L fr h v φ0 w0 a0 S' c φ' (putO f x.2.o.dst (v q)) (a.put x.2.o.dst u) w' where
 cN := I.cN
 cut := I.cut
 low p y hp hy := (hS' y.1).2 (.inl (I.low p y hp hy))
 high p y hp hy hs := by
  rcases (hS' y.1).1 hs with k | k
  ·exact I.high p y hp hy k
  ·have := st.inj hy hx k;subst this;rw [hx] at hy; cases hy;exact hE
 put := (I.slots st hx hS').1
 un := (I.slots st hx hS').2
 fr := I.fr.put hle hu hdst
 sx := sx'
 fresh := I.fresh
 free := free'
 defs := by rw [put_defers, I.defs]
 size := by rw [put_size, I.size]
theorem Inv.still (st : Stat P nt ops L D) (I : Inv L fr h v φ0 w0 a0 S c φ f a w) (hx : L[q]? = some x) (hS' : ∀ i, S' i ↔ (S i ∨ i = x.1)) (hE : isE x.2.o.op = false) (hh : h (q + 1) = h q)
  {u : Value} (hu : VR φ (v q) u) (hdst : ∀ d, x.2.o.dst = some d → d < a.tmps.size) : Inv L fr h v φ0 w0 a0 S' c φ (putO f x.2.o.dst (v q)) (a.put x.2.o.dst u) w :=
 I.quietStep st hx hS' hE (.refl φ) hu hdst
  (I.sx.mono fun b z hz _ => by
   rcases hz with k | ⟨p, y, k1, k2, k3, k4, k5⟩
   ·exact .inl k
   ·rcases (hS' y.1).1 k3 with k | k
    ·exact .inr ⟨p, y, k1, k2, k, k4, k5⟩
    ·have := st.inj k2 hx k;subst this;rw [hh] at k5;have := congrArg Hp.next k5;have : (h p).next = (h p).next + 1 := this
     omega)
  (fun b h1 h2 h3 => I.free b h1 h2 fun p y z k1 k2 k3 k4 => h3 p y z k1 k2 ((hS' y.1).2 (.inl k3)) k4)
theorem Inv.hrAt (can : Can env call L fr h v yes) (I : Inv L fr h v φ0 w0 a0 S c φ f a w) (hcq : c ≤ q) (hq : q ≤ L.length) (hprev : ∀ (p : Nat) (y : Nat × DO), p < q → L[p]? = some y → S y.1) :
  (∀ b, (h q).next ≤ b → (h q).blk b = .gone) ∧ (∀ b, ((h q).blk b).live = true → AtS L h S c b ((h q).blk b)) := by
 obtain ⟨r1, r2⟩ := can.range I.fresh hcq hq fun p x a b hx => I.high p x a hx (hprev p x b hx);refine ⟨r1, fun b hb => ?_⟩
 have hlt : b < (h q).next := by
  rcases Nat.lt_or_ge b (h q).next with k | k
  ·exact k
  ·rw [r1 b k] at hb; cases hb
 rcases r2 b hlt with ⟨k1, k2⟩ | ⟨p, k1, k2, k3, k4⟩
 ·exact .inl ⟨k1, k2.symm⟩
 ·have hp : L[p]? = some L[p] := List.getElem?_eq_getElem (by omega);exact .inr ⟨p, _, k1, hp, hprev p _ k2 hp, k3, k4⟩
theorem Inv.effStep (st : Stat P nt ops L D) (can : Can env call L fr h v yes) (hrise : Rises call) (I : Inv L fr h v φ0 w0 a0 S c φ f a w) (hx : L[q]? = some x) (hS : ¬ S x.1) (hS' : ∀ i, S' i ↔ (S i ∨ i = x.1))
  (hcq : c ≤ q) (hE : isE x.2.o.op = true) (hprev : ∀ (p : Nat) (y : Nat × DO), p < q → L[p]? = some y → S y.1) {χ : Emb} {w' : World} {u : Value} (hr : HR φ (h q) w) (stp : St φ (h q) w χ (h (q + 1)) w')
  (hu : VR χ (v q) u) (hdst : ∀ d, x.2.o.dst = some d → d < a.tmps.size) : Inv L fr h v φ0 w0 a0 S' (q + 1) χ (putO f x.2.o.dst (v q)) (a.put x.2.o.dst u) w' := by
 have hqN := len_of hx
 have hne : ∀ (p : Nat) (y : Nat × DO), q + 1 ≤ p → L[p]? = some y → S' y.1 → S y.1 := fun p y hp hy hs => by
  rcases (hS' y.1).1 hs with k | k
  ·exact k
  ·have := st.inj hy hx k; omega
 have hm := fun {p q : Nat} (h1 : p ≤ q) (h2 : q ≤ L.length) => can.mono hrise h1 h2;obtain ⟨g1, g2⟩ := I.hrAt can hcq (by omega) hprev
 refine ⟨by omega, .inr ⟨q, x, rfl, hx, hE⟩, fun p y hp hy => ?_, fun p y hp hy hs => I.high p y (by omega) hy (hne p y hp hy hs), (I.slots st hx hS').1, (I.slots st hx hS').2, I.fr.put stp.le hu hdst, ?_,
  stp.hr.fresh, fun b h1 h2 h3 => ?_, by rw [put_defers, I.defs], by rw [put_size, I.size]⟩
 ·rcases Nat.lt_or_ge p q with k | k
  ·exact (hS' y.1).2 (.inl (hprev p y k hy))
  ·have : p = q := (by omega);subst this;rw [hx] at hy; cases hy;exact (hS' x.1).2 (.inr rfl)
 ·refine I.sx.eff hr stp g2 (hm (Nat.zero_le _) (by omega)) (hm (by omega) (Nat.le_refl _)) fun b z hz _ => ?_;rcases hz with ⟨_, k⟩ | ⟨p, y, k1, k2, k3, k4, k5⟩
  ·exact .inl k
  ·have := len_of k2;refine .inr ⟨by rw [k4]; exact hm k1 (by omega), .inr ⟨p, y, by omega, k2, hne p y k1 k2 k3, k4, k5⟩⟩
 ·rw [stp.new b (.inr h1)];refine I.free b (Nat.le_trans (hm (by omega) (by omega)) h1) h2 fun p y z k1 k2 k3 k4 => ?_;rcases Nat.lt_trichotomy p q with k | k | k
  ·intro e;have e1 : (h (p + 1)).next = (h p).next + 1 := (by rw [k4]; rfl);have := hm (p := p + 1) (q := q + 1) (by omega) (by omega);omega
  ·subst k;rw [hx] at k2; cases k2;exact absurd k3 hS
  ·exact h3 p y z k k2 ((hS' y.1).2 (.inl k3)) k4
theorem Inv.agree (st : Stat P nt ops L D) (can : Can env call L fr h v yes) (I : Inv L fr h v φ0 w0 a0 S c φ f a w) (hx : L[q]? = some x) (hS : ¬ S x.1) (hD : ∀ i, D i x.1 → S i)
  (hU : ∀ (p : Nat) (y : Nat × DO), L[p]? = some y → S y.1 → ¬ D x.1 y.1) : Agree x.2.o.looks (fr q) f := by
 intro t ht;rcases can.ev_at t (q := q) (by have := len_of hx; omega) with ⟨p, y, hp, hy, hd, he⟩ | ⟨hn, he⟩
 ·rw [he];exact (I.put p y t hy (hD _ (st.wr p q y x hp hy hx t hd ht)) hd).symm
 ·rw [he];refine (I.un t fun p y hy hs hd => ?_).symm;rcases Nat.lt_trichotomy p q with k | k | k
  ·exact hn p y k hy hd
  ·subst k;rw [hx] at hy; cases hy;exact hS hs
  ·exact hU p y hy hs (st.rw q p x y k hx hy t hd ht)
theorem Inv.step (st : Stat P nt ops L D) (can : Can env call L fr h v yes) (hrise : Rises call) (hcall : CallOk P env call) (ok0 : EnvOk P φ0 env) (hnt : nt ≤ a0.tmps.size) (I : Inv L fr h v φ0 w0 a0 S c φ f a w)
  (hx : L[q]? = some x) (hS : ¬ S x.1) (hS' : ∀ i, S' i ↔ (S i ∨ i = x.1)) (hD : ∀ i, D i x.1 → S i) (hU : ∀ (p : Nat) (y : Nat × DO), L[p]? = some y → S y.1 → ¬ D x.1 y.1) {K : Act → World → Prop} {Q : Exit → Act → World → Prop}
  (hk : ∀ c' φ' f' a' w', Inv L fr h v φ0 w0 a0 S' c' φ' f' a' w' → K a' w') : wpOp P ops Q x.1 K a w := by
 obtain ⟨o, ho, hc⟩ := st.comp q x hx;obtain ⟨c1, c2, c3, c4⟩ := cOper_some hc;have hqN := len_of hx;have ok : EnvOk P φ env := ok0.mono I.sx.le
 have hcq : c ≤ q := by
  rcases Nat.lt_or_ge q c with k | k
  ·exact absurd (I.low q x k hx) hS
  ·exact k
 have hag := I.agree st can hx hS hD hU;have hag1 : Agree (gtmps x.2.o.guard) (fr q) f := hag.left;have hag2 : Agree x.2.o.op.tmps (fr q) f := hag.right;have hgate := gate_agree hag1;obtain ⟨g1, g2⟩ := gate_ok c2 I.fr
 have hdst : ∀ d, x.2.o.dst = some d → d < a.tmps.size := fun d e => by
  rw [I.size];exact Nat.lt_of_lt_of_le (c4 d (c3 ▸ e)) hnt
 have hprev : isE x.2.o.op = true → ∀ (p : Nat) (y : Nat × DO), p < q → L[p]? = some y → S y.1 := fun he p y hp hy => hD _ (st.eff p q y x hp hy hx he);have hmono := fun {p q : Nat} (h1 : p ≤ q) (h2 : q ≤ L.length) => can.mono hrise h1 h2;unfold wpOp;rw [ho];simp only;have hput : ∀ u, a.put o.dst u = a.put x.2.o.dst u := fun u => (by rw [c3]);rcases can.step q x hx with ⟨hy, hg, hv⟩ | ⟨hy, hg, hv, hh⟩
 case inr =>
  rw [hgate] at hg;rw [if_neg (by rw [g2 hg]; simp)]
  cases hE : isE x.2.o.op with
  | false => rw [hput]; exact hk _ _ _ _ _ (I.still st hx hS' hE hh (by rw [hv]; exact undef_rel) hdst)
  | true =>
   obtain ⟨r1, r2⟩ := I.hrAt can hcq (by omega) (hprev hE);have hr := I.sx.hr r2 r1;rw [hput];exact hk _ _ _ _ _ (I.effStep st can hrise hx hS hS' hcq hE (hprev hE) hr (by rw [hh]; exact .refl hr) (by rw [hv]; exact undef_rel) hdst)
 rw [hgate] at hg;rw [if_pos (g1 hg)];left
 have hcl : isL x.2.o.op = true → opV env call f (h c) x.2.o.op = some (v q, h c) := by
  intro hl;rw [← opV_agree hag2];refine can.still q x hx hy hl c I.cut ?_ ?_
  ·cases hlo : x.2.lo with
   | zero => exact Nat.zero_le _
   | succ k =>
    obtain ⟨y, k1, k2, k3⟩ := st.lo q x hx hl k hlo;rcases Nat.lt_or_ge k c with kk | kk
    ·exact kk
    ·have := I.high k y kk k1 (hD _ k3);rw [k2] at this; cases this
  ·rcases Nat.lt_or_ge x.2.hi c with kk | kk
   ·have hlt : x.2.hi < L.length := Nat.lt_of_lt_of_le kk I.cN;have hy' : L[x.2.hi]? = some L[x.2.hi] := List.getElem?_eq_getElem hlt;exact absurd (st.hi q x hx hl _ hy') (hU _ _ hy' (I.low _ _ kk hy'))
   ·exact kk
 have hltc : ∀ b, ((h c).blk b).live = true → b < (h c).next := fun b hb => by
  rcases Nat.lt_or_ge b (h c).next with k | k
  ·exact k
  ·rw [I.fresh b k] at hb; cases hb
 have hrc : HR φ (h c) w := I.sx.hr (fun b hb => .inl ⟨hltc b hb, rfl⟩) I.fresh;rw [opV_agree hag2] at hv;generalize hop : x.2.o.op = m at *
 cases m with
 | p p =>
  simp only [opV] at hv;split at hv
  case h_2 => cases hv
  rename_i v' hv';simp only [Option.some.injEq, Prod.mk.injEq] at hv;obtain ⟨u, h1, h2⟩ := p_sim ok I.fr c1 hv';rw [hv.1] at h1;exact run_value (h2 w) (by rw [hput]; exact hk _ _ _ _ _ (I.still st hx hS' (by rw [hop]; rfl) hv.2.symm h1 hdst))
 | load1 y =>
  have hcl := hcl rfl
  have hqq : h (q + 1) = h q := by
   simp only [opV] at hv
   repeat' (first | (cases hv; done) | split at hv)
   simp only [Option.some.injEq, Prod.mk.injEq] at hv;exact hv.2.symm
  simp only [opV] at hcl;split at hcl
  case h_2 => cases hcl
  rename_i b k ha;split at hcl
  case h_2 => cases hcl
  rename_i z l hl;simp only [Option.some.injEq, Prod.mk.injEq] at hcl;obtain ⟨pl, us, r1, r2, r3, r4⟩ := hrc.read hl
  cases r3 with | cons _ u _ us' k1 k2 =>
  rw [hcl.1] at k1;exact run_value (load1_sim ok I.fr c1 ha r1 r4 rfl) (by rw [hput]; exact hk _ _ _ _ _ (I.still st hx hS' (by rw [hop]; rfl) hqq k1 hdst))
 | loadn n y =>
  have hcl := hcl rfl
  have hqq : h (q + 1) = h q := by
   simp only [opV] at hv
   repeat' (first | (cases hv; done) | split at hv)
   simp only [Option.some.injEq, Prod.mk.injEq] at hv;exact hv.2.symm
  simp only [opV] at hcl;split at hcl
  case h_2 => cases hcl
  rename_i b k ha;split at hcl
  case h_2 => cases hcl
  rename_i l hl;simp only [Option.some.injEq, Prod.mk.injEq] at hcl;obtain ⟨pl, us, r1, r2, r3, r4⟩ := hrc.read hl;have hu : VR φ (v q) (.agg us.toArray) := (by rw [← hcl.1]; exact .agg _ _ (by simpa using r3));exact run_value (loadn_sim ok I.fr c1 ha r1 r4 (by rw [← r3.length, r2])) (by rw [hput]; exact hk _ _ _ _ _ (I.still st hx hS' (by rw [hop]; rfl) hqq hu hdst))
 | a p =>
  simp only [opV] at hv;split at hv
  case h_2 => cases hv
  rename_i blk mk hv';simp only [Option.some.injEq, Prod.mk.injEq] at hv;obtain ⟨hv1, hv2⟩ := hv;obtain ⟨u, obj, pl, w1, h1, h2, h3, h4, h5⟩ := a_sim ok I.fr c1 hv' w;have hnq : (h (q + 1)).next = (h q).next + 1 := (by rw [← hv2]; rfl);have hb1 : (h c).next ≤ (h q).next := hmono hcq (by omega)
  have hb2 : (h q).next < (h L.length).next := by have := hmono (p := q + 1) (q := L.length) (by omega) (Nat.le_refl _); omega
  have hfree : φ.at_ (h q).next = none := I.free _ hb1 hb2 fun p y z k1 k2 k3 k4 e => by
   have e1 : (h (p + 1)).next = (h p).next + 1 := (by rw [k4]; rfl);have := len_of k2;rcases Nat.lt_trichotomy p q with k | k | k
   ·have := hmono (p := p + 1) (q := q) (by omega) (by omega); omega
   ·subst k;rw [hx] at k2; cases k2;exact hS k3
   ·have := hmono (p := q + 1) (q := p) (by omega) (by omega); omega
  have hsx1 : Sx φ0 (h 0) w0 φ (AtS L h S c) w1 (h L.length).next := by
   rcases h1 with rfl | rfl
   ·exact I.sx
   ·exact I.sx.drew
  have hsz : w1.heap.size = w.heap.size := by rcases h1 with rfl | rfl <;> rfl
  have hat : ∀ b' x', AtS L h S' c b' x' → x'.live = true → (b' = (h q).next ∧ x' = blk) ∨ (b' ≠ (h q).next ∧ AtS L h S c b' x') := by
   intro b' x' hz hl;rcases hz with ⟨k1, k2⟩ | ⟨p, y, k1, k2, k3, k4, k5⟩
   ·exact .inr ⟨by omega, .inl ⟨k1, k2⟩⟩
   ·have := len_of k2;have e1 : (h (p + 1)).next = (h p).next + 1 := (by rw [k5]; rfl);rcases Nat.lt_trichotomy p q with k | k | k
    ·refine .inr ⟨by have := hmono (p := p + 1) (q := q) (by omega) (by omega); omega, .inr ⟨p, y, k1, k2, ?_, k4, k5⟩⟩;rcases (hS' y.1).1 k3 with s | s
     ·exact s
     ·have := st.inj k2 hx s; omega
    ·subst k;refine .inl ⟨k4, ?_⟩;rw [← hv2] at k5;have := congrArg (fun g => g.blk (h p).next) k5;simp only [blk_new, if_true] at this;exact this.symm
    ·refine .inr ⟨by have := hmono (p := q + 1) (q := p) (by omega) (by omega); omega, .inr ⟨p, y, k1, k2, ?_, k4, k5⟩⟩;rcases (hS' y.1).1 k3 with s | s
     ·exact s
     ·have := st.inj k2 hx s; omega
  have hsx2 := hsx1.alloc (b := (h q).next) (x := blk) (o := obj) (pl := pl) (hmono (Nat.zero_le _) (by omega)) hb2 hfree (by rw [hsz]; exact h3) (fun χ w' hle hh => h5 χ w' hle (by rw [← hsz]; exact hh)) hat
  have hle : φ.Le ⟨fun y => if y = (h q).next then some pl else φ.at_ y, φ.sym⟩ := ⟨fun y z e => by
   show (if y = (h q).next then some pl else φ.at_ y) = some z;split
   ·rename_i e'; rw [e', hfree] at e; cases e
   ·exact e, rfl⟩
  have hu := h4 ⟨fun y => if y = (h q).next then some pl else φ.at_ y, φ.sym⟩ (h q).next hle (by show (if (h q).next = (h q).next then some pl else _) = _; rw [if_pos rfl]);rw [hv1] at hu;refine run_value h2 ?_;rw [hput];refine hk _ _ _ _ _ (I.quietStep st hx hS' (by rw [hop]; rfl) hle hu hdst hsx2 fun b k1 k2 k3 => ?_);show (if b = (h q).next then some pl else φ.at_ b) = none;rw [if_neg (k3 q x blk hcq hx ((hS' x.1).2 (.inr rfl)) hv2.symm)];exact I.free b k1 k2 fun p y z m1 m2 m3 m4 => k3 p y z m1 m2 ((hS' y.1).2 (.inl m3)) m4
 | e p =>
  obtain ⟨r1, r2⟩ := I.hrAt can hcq (by omega) (hprev rfl);have hr := I.sx.hr r2 r1
  have hfr : Fresh φ (h q).next (h (q + 1)).next := fun b k1 k2 => I.free b (Nat.le_trans (hmono hcq (by omega)) k1) (Nat.lt_of_lt_of_le k2 (hmono (by omega) (Nat.le_refl _))) fun p y z m1 m2 m3 m4 e => by
   have e1 : (h (p + 1)).next = (h p).next + 1 := (by rw [m4]; rfl);have := len_of m2;rcases Nat.lt_trichotomy p q with k | k | k
   ·have := hmono (p := p + 1) (q := q) (by omega) (by omega); omega
   ·subst k;rw [hx] at m2; cases m2;exact hS m3
   ·have := hmono (p := q + 1) (q := p) (by omega) (by omega); omega
  exact op_sim ok hcall I.fr c1 hr hfr hv fun u ψ w' k1 k2 => by rw [hput]; exact hk _ _ _ _ _ (I.effStep st can hrise hx hS hS' hcq (by rw [hop]; rfl) (hprev rfl) hr k2 k1 hdst)
end
end Go.Vm
end

section
namespace Go.Vm
variable {P : Program}
section
variable {env : Env} {call : Nat → List V → Hp → Option (V × Hp)} {nt : Nat} {ops : Array Oper} {L : List (Nat × DO)} {D : Nat → Nat → Prop} {fr : Nat → Fr} {h : Nat → Hp} {v : Nat → V} {yes : Nat → Bool}
 {φ0 φ : Emb} {w0 w : World} {a0 a : Act} {c : Nat} {f : Fr}
def Lst (listed : Array Bool) (i : Nat) : Prop := listed.getD i true = true
theorem Lst.of_false {listed : Array Bool} {i : Nat} (h : listed.getD i false = true) : Lst listed i := by
 unfold Lst;rcases Nat.lt_or_ge i listed.size with k | k
 ·simp [k] at h ⊢; exact h
 ·simp [Array.getElem?_eq_none k] at h
theorem Lst.to_false {listed : Array Bool} {i : Nat} (h : Lst listed i) (hi : i < listed.size) : listed.getD i false = true := by
 unfold Lst at h;simp [hi] at h ⊢;exact h
theorem lst_set {listed : Array Bool} {j : Nat} (hj : j < listed.size) (i : Nat) : Lst (listed.setIfInBounds j true) i ↔ (Lst listed i ∨ i = j) := by
 unfold Lst
 by_cases e : j = i
 ·subst e; simp [hj]
 ·rw [getD_set_ne true e];constructor
  ·exact .inl
  ·rintro (k | k)
   ·exact k
   ·exact absurd k.symm e
theorem Stat.ready (st : Stat P nt ops L D) {listed : Array Bool} (hs : listed.size = ops.size) {p : Nat} {x : Nat × DO} (hx : L[p]? = some x) (hn : ¬ Lst listed x.1) (hprev : ∀ (q : Nat) (y : Nat × DO), q < p → L[q]? = some y → Lst listed y.1) :
  x.1 ∈ Region.ready .any ops listed := by
 obtain ⟨o, ho, _⟩ := st.comp p x hx;have hxn := (Array.getElem?_eq_some_iff.1 ho).1;refine mem_ready.2 ⟨by simpa [Lst] using hn, o, ho, fun e he hb => ?_⟩;obtain ⟨d1, d2⟩ := st.dep x.1 o e ho he hb;obtain ⟨q, y, hy, ey⟩ := st.cover e.on d2;rw [← ey] at d1 d2 ⊢;refine Lst.to_false (hprev q y ?_ hy) (by omega);rcases Nat.lt_trichotomy q p with k | k | k
 ·exact k
 ·subst k;rw [hx] at hy; cases hy;exact absurd d1 (st.irr _ hxn)
 ·exact absurd d1 (st.topo p q x y k hx hy)
theorem Stat.all_of (st : Stat P nt ops L D) {listed : Array Bool} (hs : listed.size = ops.size) (hr : Region.ready .any ops listed = []) : ∀ (p : Nat) (x : Nat × DO), L[p]? = some x → Lst listed x.1 := by
 intro p
 induction p using Nat.strongRecOn with
 | _ p ih =>
  intro x hx
  by_cases hn : Lst listed x.1
  ·exact hn
  ·have := st.ready hs hx hn fun q y hq hy => ih q hq y hy;rw [hr] at this;cases this
theorem Inv.done (can : Can env call L fr h v yes) (hrise : Rises call) {S : Nat → Prop} (I : Inv L fr h v φ0 w0 a0 S c φ f a w) (hall : ∀ (p : Nat) (x : Nat × DO), L[p]? = some x → S x.1) :
  FR φ (fr L.length) a ∧ St φ0 (h 0) w0 φ (h L.length) w := by
 constructor
 ·intro t;have ht := I.fr t
  have : ev f (.tmp t) = ev (fr L.length) (.tmp t) := by
   rcases can.ev_at t (q := L.length) (Nat.le_refl _) with ⟨p, y, hp, hy, hd, he⟩ | ⟨hn, he⟩
   ·rw [he]; exact I.put p y t hy (hall p y hy) hd
   ·rw [he]; exact I.un t fun p y hy _ hd => hn p y (len_of hy) hy hd
  rw [← this]; exact ht
 ·obtain ⟨r1, r2⟩ := I.hrAt can I.cN (Nat.le_refl _) fun p y _ hy => hall p y hy;exact I.sx.done r2 r1 (can.mono hrise (Nat.zero_le _) (Nat.le_refl _))
theorem any_order (st : Stat P nt ops L D) (can : Can env call L fr h v yes) (hrise : Rises call) (hcall : CallOk P env call) (ok0 : EnvOk P φ0 env) (hnt : nt ≤ a0.tmps.size) {Q : Exit → Act → World → Prop}
  (hk : ∀ ψ a' w', FR ψ (fr L.length) a' → St φ0 (h 0) w0 ψ (h L.length) w' → a'.defers = a0.defers → a'.tmps.size = a0.tmps.size → Q .normal a' w') :
  ∀ (fuel : Nat) (U : List Nat) (listed : Array Bool) (c : Nat) (φ : Emb) (f : Fr) (a : Act) (w : World), U.length ≤ fuel → (∀ i, i < ops.size → ¬ Lst listed i → i ∈ U) → listed.size = ops.size →
   (∀ j, j < ops.size → Lst listed j → ∀ i, D i j → Lst listed i) → Inv L fr h v φ0 w0 a0 (Lst listed) c φ f a w → wpAny P .any ops Q fuel listed a w := by
 intro fuel
 have fin : ∀ (listed : Array Bool) (c : Nat) (φ : Emb) (f : Fr) (a : Act) (w : World), listed.size = ops.size → Inv L fr h v φ0 w0 a0 (Lst listed) c φ f a w → Region.ready .any ops listed = [] → Q .normal a w := by
  intro listed c φ f a w hs I hr;obtain ⟨k1, k2⟩ := I.done can hrise (st.all_of hs hr);exact hk φ a w k1 k2 I.defs I.size
 induction fuel with
 | zero =>
  intro U listed c φ f a w hU hin hs hdown I
  have hr : Region.ready .any ops listed = [] := by
   rw [List.eq_nil_iff_forall_not_mem];intro j hj;obtain ⟨h1, o, ho, _⟩ := mem_ready.1 hj;have := hin j (Array.getElem?_eq_some_iff.1 ho).1 (by unfold Lst; rw [h1]; simp);have hU0 : U = [] := List.length_eq_zero_iff.1 (by omega);rw [hU0] at this;cases this
  exact ⟨hr, fin listed c φ f a w hs I hr⟩
 | succ fuel ih =>
  intro U listed c φ f a w hU hin hs hdown I;refine ⟨fin listed c φ f a w hs I, fun j hj => ?_⟩;obtain ⟨h1, o, ho, hdep⟩ := mem_ready.1 hj;have hjn := (Array.getElem?_eq_some_iff.1 ho).1;have hnl : ¬ Lst listed j := (by unfold Lst; rw [h1]; simp);obtain ⟨q, x, hx, ex⟩ := st.cover j hjn;subst ex
  have hD : ∀ i, D i x.1 → Lst listed i := by
   intro i hi;obtain ⟨e, he, hb, hor⟩ := st.step x.1 o i ho hi;have hl := Lst.of_false (hdep e he hb);rcases hor with rfl | hd
   ·exact hl
   ·exact hdown e.on (st.dep x.1 o e ho he hb).2 hl i hd
  refine I.step st can hrise hcall ok0 hnt hx hnl (lst_set (by omega)) hD (fun p y hy hs' hd => ?_) fun c' φ' f' a' w' I' => ?_
  ·obtain ⟨o', ho', _⟩ := st.comp p y hy;exact hnl (hdown y.1 (Array.getElem?_eq_some_iff.1 ho').1 hs' x.1 hd)
  ·refine ih (U.erase x.1) (listed.setIfInBounds x.1 true) c' φ' f' a' w' ?_ ?_ (by simpa using hs) ?_ I'
   ·have := List.length_erase_of_mem (hin x.1 hjn hnl);omega
   ·intro i hi hni;have h2 : ¬ Lst listed i := fun hl => hni ((lst_set (by omega) i).2 (.inl hl));have h3 : i ≠ x.1 := fun e => hni ((lst_set (by omega) i).2 (.inr e));exact (List.mem_erase_of_ne h3).2 (hin i hi h2)
   ·intro j' hj' hl i hi;rcases (lst_set (by omega) j').1 hl with k | k
    ·exact (lst_set (by omega) i).2 (.inl (hdown j' hj' k i hi))
    ·subst k; exact (lst_set (by omega) i).2 (.inl (hD i hi))
end
theorem dregion_wp (hm : P.follows .mixedOrders = true) {env : Env} {call : Nat → List V → Hp → Option (V × Hp)} (hrise : Rises call) (hcall : CallOk P env call) {nt : Nat} {ops : Array Oper} {l : List DO} (hc : cDraw P nt ops = some l)
  {fr0 fr' : Fr} {h0 h' : Hp} (hv : runD env call l 0 fr0 h0 [(0, h0)] [] = some (fr', h')) {φ : Emb} {a : Act} {w : World} (ok : EnvOk P φ env) (hf : FR φ fr0 a) (hr : HR φ h0 w) (hfr : Fresh φ h0.next h'.next) (hn : nt ≤ a.tmps.size)
  {id : Nat} {Q : Exit → Act → World → Prop} (hk : ∀ ψ a' w', FR ψ fr' a' → St φ h0 w ψ h' w' → a'.defers = a.defers → a'.tmps.size = a.tmps.size → Q .normal a' w') : (Code.region id ops true).wp P Q a w := by
 obtain ⟨L, D, st, rfl⟩ := stat_of hc;obtain ⟨fr, h, v, yes, can, rfl, rfl, rfl, rfl⟩ := can_of hv;refine wp_region_any hm ?_
 have hlst : ∀ i, i < ops.size → ¬ Lst (Array.replicate ops.size false) i := fun i hi hl => by
  unfold Lst at hl;simp [hi] at hl
 have hno : ∀ (p : Nat) (y : Nat × DO), L[p]? = some y → ¬ Lst (Array.replicate ops.size false) y.1 := fun p y hy => by
  obtain ⟨o, ho, _⟩ := st.comp p y hy;exact hlst _ (Array.getElem?_eq_some_iff.1 ho).1
 refine any_order st can hrise hcall ok hn (w0 := w.drew) (fun ψ a' w' k1 k2 k3 k4 => hk ψ a' w' k1 ((St.drew hr).trans k2) k3 k4) ops.size (List.range ops.size) _ 0 φ (fr 0) a w.drew (by simp) (fun i hi _ => List.mem_range.2 hi) (by simp)
  (fun j hj hl => absurd hl (hlst j hj)) ⟨Nat.zero_le _, .inl rfl, fun p x hp => absurd hp (Nat.not_lt_zero _), fun p x _ hx hs => absurd hs (hno p x hx), fun p x t hx hs => absurd hs (hno p x hx), fun _ _ => rfl, hf, ?_, hr.fresh, ?_, rfl, rfl⟩
 ·refine (Sx.start hr.drew).mono fun b x hz _ => ?_;rcases hz with ⟨_, k⟩ | ⟨p, y, _, k2, k3, _⟩
  ·exact k
  ·exact absurd k3 (hno p y k2)
 ·intro b k1 k2 _;exact hfr b k1 k2
end Go.Vm
end

section
namespace Go.Vm
variable {P : Program}
def resS (t : Array Value) : ResultVar → Sem Value
 | .tmp x => pure (t.getD x undef)
 | .cell a ty => do loadVar ty (← asAddr (t.getD a undef))
theorem res1_sim {φ : Emb} {fr : Fr} {a : Act} (hf : FR φ fr a) {h : Hp} {w : World} (hr : HR φ h w) {r : ResultVar} {rv : RV} (hc : cRes P r = some rv) {v : V} (hv : res1 fr h rv = some v) :
  ∃ u, (resS a.tmps r).run P w = .ok u w ∧ VR φ v u := by
 cases r with
 | tmp t =>
  simp only [cRes, Option.some.injEq] at hc;subst hc;simp only [res1, Option.some.injEq] at hv;subst hv;exact ⟨_, rfl, hf t⟩
 | cell t ty =>
  have rt := hf t;simp only [cRes] at hc;split at hc
  ·rename_i n h1 h2;cases hc;simp only [res1] at hv;split at hv
   case h_2 => cases hv
   rename_i b o hb;rw [hb] at rt;split at hv
   case h_2 => cases hv
   rename_i l hl;cases hv;generalize ht : a.tmps.getD t undef = tu at rt
   cases rt with | ptr _ _ pl hp =>
   obtain ⟨pl', us, r1, r2, r3, r4⟩ := hr.read hl;rw [hp] at r1; cases r1;refine ⟨.agg us.toArray, ?_, .agg _ _ (by simpa using r3)⟩;have := (load_cells (P := P) h1 h2 r4).1 rfl (by rw [← r3.length, r2]);simp only [resS, ht, asAddr, pure_bind];exact this
  ·rename_i n h1 h2;cases hc;simp only [res1] at hv;split at hv
   case h_2 => cases hv
   rename_i b o hb;rw [hb] at rt;split at hv
   case h_2 => cases hv
   rename_i z l hl;cases hv;generalize ht : a.tmps.getD t undef = tu at rt
   cases rt with | ptr _ _ pl hp =>
   obtain ⟨pl', us, r1, r2, r3, r4⟩ := hr.read hl;rw [hp] at r1; cases r1
   cases r3 with | cons _ u _ us' k1 k2 =>
   refine ⟨u, ?_, k1⟩;have := (load_cells (P := P) h1 h2 r4).2 rfl u rfl;simp only [resS, ht, asAddr, pure_bind];exact this
  ·cases hc
theorem resL_sim {φ : Emb} {fr : Fr} {a : Act} (hf : FR φ fr a) {h : Hp} {w : World} (hr : HR φ h w) : ∀ {l : List ResultVar} {rvs : List RV} {r : List V}, mapO (cRes P) l = some rvs → resV fr h rvs = some r →
  ∃ us, (l.mapM (resS a.tmps)).run P w = .ok us w ∧ VRs φ r us
 | [], rvs, r, hc, hv => by
  simp [mapO] at hc; subst hc;simp [resV] at hv; subst hv;exact ⟨[], by simp, .nil⟩
 | x :: l, rvs, r, hc, hv => by
  obtain ⟨y, q, h1, h2, rfl⟩ := mapO_cons hc;simp only [resV] at hv;split at hv
  case h_2 => cases hv
  rename_i v hv1;split at hv
  case h_2 => cases hv
  rename_i r' hv2;cases hv;obtain ⟨u, k1, k2⟩ := res1_sim hf hr h1 hv1;obtain ⟨us, k3, k4⟩ := resL_sim hf hr h2 hv2;exact ⟨u :: us, by simp [List.mapM_cons, k1, k3], .cons _ _ _ _ k2 k4⟩
theorem results_sim {φ : Emb} {fr : Fr} {a : Act} (hf : FR φ fr a) {h h' : Hp} {w : World} (hr : HR φ h w) {fn : Func} {rvs : List RV} {v : V} (hc : mapO (cRes P) fn.results.toList = some rvs) (hv : resP fr h rvs = some (v, h')) :
  h' = h ∧ ∃ u, (results fn a.tmps).run P w = .ok u w ∧ VR φ v u := by
 unfold resP at hv;split at hv
 case h_2 => cases hv
 rename_i r hr';cases hv;refine ⟨rfl, ?_⟩;obtain ⟨us, h1, h2⟩ := resL_sim hf hr hc hr'
 have he : results fn a.tmps = (do let vs ← fn.results.mapM (resS a.tmps); pure (if h : vs.size = 1 then vs[0] else .tuple vs)) := by
  unfold results
  congr 1
 rw [he]
 have hm : (fn.results.mapM (resS a.tmps)).run P w = .ok us.toArray w := by
  rw [Array.mapM_eq_mapM_toList];simp [h1]
 simp only [Sem.run_bind, hm, Result.andThen_ok, Sem.run_pure];refine ⟨_, rfl, ?_⟩
 cases h2 with
 | nil => simp only [tupOf]; exact .tup _ _ .nil
 | cons v u l rr k1 k2 =>
  cases k2 with
  | nil => simpa [tupOf] using k1
  | cons v2 u2 l2 r2 k3 k4 => simp only [tupOf]; exact .tup _ _ (.cons _ _ _ _ k1 (.cons _ _ _ _ k3 k4))
theorem ev_argsFr : ∀ (l : List V) (n : Nat) (fr : Fr) (t : Nat), ev (argsFr l n fr) (.tmp t) = if n ≤ t ∧ t < n + l.length then l.getD (t - n) (.tup []) else ev fr (.tmp t)
 | [], n, fr, t => by rw [if_neg (by simp)]; rfl
 | v :: l, n, fr, t => by
  simp only [argsFr];rw [ev_argsFr l (n + 1) (fr.set n v) t];simp only [List.length_cons]
  by_cases e : t = n
  ·subst e;rw [if_neg (by omega), if_pos (by omega)];simp [ev, T.get_set]
  ·by_cases k : n + 1 ≤ t ∧ t < n + 1 + l.length
   ·rw [if_pos k, if_pos (by omega), show t - n = (t - (n + 1)) + 1 by omega];simp
   ·rw [if_neg k, if_neg (by omega)];simp [ev, T.get_set, e]
theorem VRs.getD {φ : Emb} : ∀ {l : List V} {r : List Value}, VRs φ l r → ∀ (i : Nat), VR φ (l.getD i (.tup [])) (r.getD i undef)
 | _, _, .nil, i => by simpa using undef_rel
 | _, _, .cons v u l r h h', 0 => by simpa using h
 | _, _, .cons v u l r h h', i + 1 => by simpa using VRs.getD h' i
theorem FR.start {φ : Emb} {args : List V} {us : List Value} (hr : VRs φ args us) (n : Nat) : FR φ (argsFr args 0 .leaf) { tmps := us.toArray ++ Array.replicate (n - us.toArray.size) undef, defers := [] } := by
 intro t;rw [ev_argsFr];simp only [Nat.zero_le, true_and, Nat.zero_add, Nat.sub_zero];have hl := hr.length
 by_cases k : t < args.length
 ·rw [if_pos k];have := hr.getD t
  have e : (us.toArray ++ Array.replicate (n - us.toArray.size) undef).getD t undef = us.getD t undef := by
   rw [Array.getD_eq_getD_getElem?, Array.getElem?_append_left (by simp; omega)];simp
  rw [e]; exact this
 ·rw [if_neg k]
  have e : (us.toArray ++ Array.replicate (n - us.toArray.size) undef).getD t undef = undef := by
   rw [Array.getD_eq_getD_getElem?, Array.getElem?_append_right (by simp; omega), Array.getElem?_replicate];split <;> rfl
  rw [e];simpa [ev] using undef_rel
def exitOf : Res → Option (Exit × Fr × Hp)
 | .fail => none
 | .ok fr h => some (.normal, fr, h)
 | .exit id fr h => some (.exit id, fr, h)
 | .ret fr h => some (.ret, fr, h)
def Valid (P : Program) (p : Prog) : Prop := ∀ f m, p.funs.get f = some m → ∃ fn, P.funcs[f]? = some fn ∧ cFun P fn = some m ∧ entered P f = true
def CodeOk (P : Program) (env : Env) (ex : MCode → Fr → Hp → Res) : Prop :=
 ∀ (c : Code) (m : MCode) (nt : Nat) (φ : Emb) (fr fr' : Fr) (h h' : Hp) (e : Exit) (a : Act) (w : World) (Q : Exit → Act → World → Prop), cCode P nt c = some m → exitOf (ex m fr h) = some (e, fr', h') →
  EnvOk P φ env → FR φ fr a → HR φ h w → Fresh φ h.next h'.next → nt ≤ a.tmps.size →
  (∀ ψ a' w', FR ψ fr' a' → St φ h w ψ h' w' → a'.defers = a.defers → a'.tmps.size = a.tmps.size → Q e a' w') → c.wp P Q a w
theorem callV_ok {p : Prog} (hp : Valid P p) {ext : Ext} (hx : CallOk P p.env ext) {ex : MCode → Fr → Hp → Res} (hc : CodeOk P p.env ex) : CallOk P p.env (callV p ext ex) := by
 intro φ f args h v h' w us hv ok hr hfr hargs;unfold callV at hv;split at hv
 ·rename_i r hr';cases hv;exact hx φ f args h v h' w us hr' ok hr hfr hargs
 split at hv
 ·cases hv
 rename_i m hm;rw [cond_eq_ite] at hv; split at hv
 case isFalse => cases hv
 rename_i hn;rw [nbeq] at hn;obtain ⟨fn, hfn, hcf, hen⟩ := hp f m hm;unfold cFun at hcf;split at hcf
 ·cases hcf
 rename_i c hb;split at hcf
 case h_2 => cases hcf
 rename_i mc rvs hmc hrv;rw [cond_eq_ite] at hcf; split at hcf
 case isFalse => cases hcf
 rename_i hle;rw [nble] at hle;cases hcf;have hl := hargs.length;refine .inl ⟨hen, calls_of_wp hfn hb ?_⟩
 have go : ∀ e fr1 h1, exitOf (ex mc (argsFr args 0 .leaf) h) = some (e, fr1, h1) → (e = .normal ∨ e = .ret) → resP fr1 h1 rvs = some (v, h') →
   c.wp P (bodyPost P fn fun e w' => ∃ u ψ, e = .returned u ∧ VR ψ v u ∧ St φ h w ψ h' w') { tmps := us.toArray ++ Array.replicate (fn.ntmps - us.toArray.size) undef, defers := [] } w := by
  intro e fr1 h1 he hee hres
  have h1e : h' = h1 := by
   unfold resP at hres;split at hres <;> cases hres;rfl
  subst h1e;refine hc c mc fn.ntmps φ _ fr1 h h' e _ w _ hmc he ok (FR.start hargs fn.ntmps) hr hfr (by simp; omega) fun ψ a' w' k1 k2 k3 k4 => ?_;obtain ⟨_, u, k5, k6⟩ := results_sim k1 k2.hr hrv hres;rcases hee with rfl | rfl
  ·exact ⟨k3, u, k5, u, ψ, rfl, k6, k2⟩
  ·exact ⟨k3, u, k5, u, ψ, rfl, k6, k2⟩
 split at hv
 ·rename_i fr1 h1 he;exact go .normal fr1 h1 (by rw [he]; rfl) (.inl rfl) hv
 ·rename_i fr1 h1 he;exact go .ret fr1 h1 (by rw [he]; rfl) (.inr rfl) hv
 ·cases hv
theorem exitOf_next {ex : MCode → Fr → Hp → Res} {m : MCode} {fr fr' : Fr} {h h' : Hp} {e : Exit} (hr : (ex m fr h).rises h.next) (he : exitOf (ex m fr h) = some (e, fr', h')) : h.next ≤ h'.next := by
 cases hx : ex m fr h <;> rw [hx] at hr he <;> cases he <;> exact hr
theorem loop_ok {p : Prog} {ext : Ext} (hrx : Rises ext) {x : Code} {mx : MCode} {nt : Nat} (h1 : cCode P nt x = some mx) : ∀ (n : Nat), (∀ k, k < n → CodeOk P p.env (exec p ext k)) →
  ∀ (φ : Emb) (fr fr' : Fr) (h h' : Hp) (e : Exit) (a : Act) (w : World) (Q : Exit → Act → World → Prop), exitOf (exec p ext n (.loop mx) fr h) = some (e, fr', h') →
  EnvOk P φ p.env → FR φ fr a → HR φ h w → Fresh φ h.next h'.next → nt ≤ a.tmps.size →
  (∀ ψ a' w', FR ψ fr' a' → St φ h w ψ h' w' → a'.defers = a.defers → a'.tmps.size = a.tmps.size → Q e a' w') → Code.rounds P x Q n a w
 | 0, _, φ, fr, fr', h, h', e, a, w, Q, he, _, _, _, _, _, _ => by simp [exec, exitOf] at he
 | n + 1, hall, φ, fr, fr', h, h', e, a, w, Q, he, ok, hf, hr, hfr, hnt, hk => by
  have ih := hall n (Nat.lt_succ_self n);have hnx := exec_next (p := p) hrx n;have ha := hnx mx fr h;rw [rounds_succ];simp only [exec] at he;split at he
  ·rename_i fr1 h1' hx1;rw [hx1] at ha;have hb := exitOf_next (hnx (.loop mx) fr1 h1') he;refine ih x mx nt φ fr fr1 h h1' .normal a w _ h1 (by rw [hx1]; rfl) ok hf hr (hfr.sub hb) hnt fun ψ a' w' k1 k2 k3 k4 => ?_;refine loop_ok hrx h1 n (fun k hk => hall k (Nat.lt_succ_of_lt hk)) ψ fr1 fr' h1' h' e a' w' Q he (ok.mono k2.le) k1 k2.hr (hfr.step k2) (by omega) fun χ a'' w'' m1 m2 m3 m4 => ?_;exact hk χ a'' w'' m1 (k2.trans m2) (m3.trans k3) (m4.trans k4)
  ·rename_i hno;refine ih x mx nt φ fr fr' h h' e a w _ h1 he ok hf hr hfr hnt fun ψ a' w' k1 k2 k3 k4 => ?_;have := hk ψ a' w' k1 k2 k3 k4
   cases e with
   | normal =>
    exfalso;cases hq : exec p ext n mx fr h <;> rw [hq] at he <;> simp [exitOf] at he;exact hno _ _ hq
   | _ => exact this
theorem exec_ok (hm : P.follows .mixedOrders = true) {p : Prog} (hp : Valid P p) {ext : Ext} (hrx : Rises ext) (hx : CallOk P p.env ext) (n : Nat) : CodeOk P p.env (exec p ext n) := by
 induction n using Nat.strongRecOn with
 | _ n hall =>
 cases n with
 | zero => exact fun c m nt φ fr fr' h h' e a w Q _ he => by simp [exec, exitOf] at he
 | succ n =>
  have ih := hall n (Nat.lt_succ_self n);have hcall := callV_ok hp hx ih;have hnx := exec_next (p := p) hrx n;have hrise : Rises (callV p ext (exec p ext n)) := callV_next hrx hnx;intro c m nt φ fr fr' h h' e a w Q hc he ok hf hr hfr hnt hk
  cases c <;> first | (simp only [cCode, reduceCtorEq] at hc; done) | skip
  all_goals (try simp only [cCode] at hc)
  case skip =>
   cases hc;simp only [exec, exitOf, Option.some.injEq, Prod.mk.injEq] at he;obtain ⟨rfl, rfl, rfl⟩ := he;exact wp_skip (hk φ a w hf (.refl hr) rfl rfl)
  case exit id =>
   cases hc;simp only [exec, exitOf, Option.some.injEq, Prod.mk.injEq] at he;obtain ⟨rfl, rfl, rfl⟩ := he;exact wp_exit (hk φ a w hf (.refl hr) rfl rfl)
  case ret =>
   cases hc;simp only [exec, exitOf, Option.some.injEq, Prod.mk.injEq] at he;obtain ⟨rfl, rfl, rfl⟩ := he;exact wp_ret (hk φ a w hf (.refl hr) rfl rfl)
  case region id ops d =>
   cases d with
   | false =>
    simp only [cCode] at hc;obtain ⟨mos, h1, h2⟩ := map_some hc;subst h2;simp only [exec] at he;split at he
    case h_2 => cases he
    rename_i fr1 h1' hv;simp only [exitOf, Option.some.injEq, Prod.mk.injEq] at he;obtain ⟨rfl, rfl, rfl⟩ := he;exact wp_region_list (runOps_sim hrise hcall ops.toList h1 hv ok hf hr hfr hnt hk)
   | true =>
    simp only [cCode] at hc;obtain ⟨mos, h1, h2⟩ := map_some hc;subst h2;simp only [exec] at he;split at he
    case h_2 => cases he
    rename_i fr1 h1' hv;simp only [exitOf, Option.some.injEq, Prod.mk.injEq] at he;obtain ⟨rfl, rfl, rfl⟩ := he;exact dregion_wp hm hrise hcall h1 hv ok hf hr hfr hnt hk
  case seq x y =>
   split at hc
   case h_2 => cases hc
   rename_i mx my h1 h2;cases hc;simp only [exec] at he;have ha := hnx mx fr h;refine wp_seq_k fun K hK => ?_;split at he
   ·rename_i fr1 h1' hx1;rw [hx1] at ha;have hb := exitOf_next (hnx my fr1 h1') he;refine ih x mx nt φ fr fr1 h h1' .normal a w _ h1 (by rw [hx1]; rfl) ok hf hr (hfr.sub hb) hnt fun ψ a' w' k1 k2 k3 k4 => ?_;refine hK _ _ (ih y my nt ψ fr1 fr' h1' h' e a' w' Q h2 he (ok.mono k2.le) k1 k2.hr (hfr.step k2) (by omega) fun χ a'' w'' m1 m2 m3 m4 => ?_);exact hk χ a'' w'' m1 (k2.trans m2) (m3.trans k3) (m4.trans k4)
   ·rename_i hno;refine ih x mx nt φ fr fr' h h' e a w _ h1 he ok hf hr hfr hnt fun ψ a' w' k1 k2 k3 k4 => ?_;have := hk ψ a' w' k1 k2 k3 k4
    cases e with
    | normal =>
     exfalso;cases hq : exec p ext n mx fr h <;> rw [hq] at he <;> simp [exitOf] at he;exact hno _ _ hq
    | _ => exact this
  case cond g x y =>
   split at hc
   case h_2 => cases hc
   rename_i cg mx my h0 h1 h2;cases hc;simp only [exec] at he;have rg := opd_rel ok.gl hf h0;split at he
   ·rename_i hg;rw [hg] at rg;generalize hu : a.eval g = u at rg;cases rg;exact wp_cond_true hu (ih x mx nt φ fr fr' h h' e a w Q h1 he ok hf hr hfr hnt hk)
   ·rename_i hg;rw [hg] at rg;generalize hu : a.eval g = u at rg;cases rg;exact wp_cond_false hu (ih y my nt φ fr fr' h h' e a w Q h2 he ok hf hr hfr hnt hk)
   ·cases he
  case block id x =>
   obtain ⟨mx, h1, h2⟩ := map_some hc;subst h2;simp only [exec] at he;refine wp_block ?_;split at he
   ·rename_i id' fr1 h1' hx1;rw [cond_eq_ite] at he;split at he
    ·rename_i hid;rw [nbeq] at hid;simp only [exitOf, Option.some.injEq, Prod.mk.injEq] at he;obtain ⟨rfl, rfl, rfl⟩ := he;refine ih x mx nt φ fr fr1 h h1' (.exit id') a w _ h1 (by rw [hx1]; rfl) ok hf hr hfr hnt fun ψ a' w' k1 k2 k3 k4 => ?_;simp only [Exit.inBlock, hid, if_true];exact hk ψ a' w' k1 k2 k3 k4
    ·rename_i hid;rw [nbeq] at hid;simp only [exitOf, Option.some.injEq, Prod.mk.injEq] at he;obtain ⟨rfl, rfl, rfl⟩ := he;refine ih x mx nt φ fr fr1 h h1' (.exit id') a w _ h1 (by rw [hx1]; rfl) ok hf hr hfr hnt fun ψ a' w' k1 k2 k3 k4 => ?_;simp only [Exit.inBlock, hid, if_false];exact hk ψ a' w' k1 k2 k3 k4
   ·rename_i hno;refine ih x mx nt φ fr fr' h h' e a w _ h1 he ok hf hr hfr hnt fun ψ a' w' k1 k2 k3 k4 => ?_;have := hk ψ a' w' k1 k2 k3 k4
    cases e with
    | exit id' =>
     exfalso;cases hq : exec p ext n mx fr h <;> rw [hq] at he <;> simp [exitOf] at he;exact hno _ _ _ hq
    | _ => exact this
  case loop x =>
   obtain ⟨mx, h1, h2⟩ := map_some hc;subst h2;exact wp_loop_rounds (n + 1) (loop_ok hrx h1 (n + 1) hall φ fr fr' h h' e a w Q he ok hf hr hfr hnt hk)
theorem call_ok (hm : P.follows .mixedOrders = true) {p : Prog} (hp : Valid P p) {ext : Ext} (hrx : Rises ext) (hx : CallOk P p.env ext) (n : Nat) : CallOk P p.env (call p ext n) :=
 callV_ok hp hx (exec_ok hm hp hrx hx n)
end Go.Vm
end

section
namespace Go.Vm
variable {P : Program}
def AllT {α : Type} (Q : Nat → α → Prop) : Nat → Nat → T α → Prop
 | _, _, .leaf => True
 | a, b, .node l v r => (match v with
  | some x => Q b x
  | none => True) ∧ AllT Q (2 * a) (a + b) l ∧ AllT Q (2 * a) (2 * a + b) r
theorem AllT.get {α : Type} {Q : Nat → α → Prop} : ∀ {t : T α} {a b : Nat}, AllT Q a b t → ∀ {n : Nat} {x : α}, t.get n = some x → Q (a * n + b) x
 | .leaf, _, _, _, n, x, hx => by simp at hx
 | .node l v r, a, b, h, n, x, hx => by
  obtain ⟨h1, h2, h3⟩ := h;have ev : ∀ a, Nat.div a 2 = a / 2 := fun _ => rfl;have em : ∀ a, Nat.mod a 2 = a % 2 := fun _ => rfl
  cases n with
  | zero =>
   simp only [T.get] at hx;subst hx;simpa using h1
  | succ m =>
   rcases Nat.mod_two_eq_zero_or_one m with m0 | m1
   ·simp only [T.get, em, m0, ev] at hx;have := AllT.get h2 hx
    rwa [show 2 * a * (m / 2) + (a + b) = a * (m + 1) + b by
     have : m = 2 * (m / 2) := (by omega);rw [this, Nat.mul_add];simp
     rw [Nat.mul_assoc, Nat.mul_left_comm, Nat.add_assoc]] at this
   ·simp only [T.get, em, m1, ev] at hx;have := AllT.get h3 hx
    rwa [show 2 * a * (m / 2) + (2 * a + b) = a * (m + 1) + b by
     have : m = 2 * (m / 2) + 1 := (by omega);rw [this];rw [show (2 * (m / 2) + 1) / 2 = m / 2 by omega];rw [show 2 * (m / 2) + 1 + 1 = 2 * (m / 2 + 1) by omega];rw [Nat.mul_left_comm, Nat.mul_add, Nat.mul_add]
     simp [Nat.mul_assoc, Nat.add_assoc]] at this
def IsFun (P : Program) (i : Nat) (m : Fun) : Prop := ∃ fn, P.funcs[i]? = some fn ∧ cFun P fn = some m ∧ entered P i = true
theorem valid_of {p : Prog} (h : AllT (IsFun P) 1 0 p.funs) : Valid P p := fun f m hm => by
 have := h.get hm;rw [Nat.one_mul, Nat.add_zero] at this;exact this
def intsB (P : Program) (l : List Nat) : Bool :=
 allR (fun t => match P.info? t, P.underlying t with
  | some i, some (.int _) => i.comparable
  | _, _ => false) l
theorem ints_of {l : List Nat} (h : intsB P l = true) : IntsOk P l := by
 intro t ht
 have hm : t ∈ l := by
  clear h
  induction l with
  | nil => cases ht
  | cons x l ih =>
   simp only [eqiV.hasN] at ht;rw [cond_eq_ite] at ht; split at ht
   ·rename_i e; rw [nbeq] at e; exact List.mem_cons.2 (.inl e.symm)
   ·exact List.mem_cons.2 (.inr (ih ht))
 have := allR_all h t hm;split at this
 ·rename_i i k h1 h2; exact ⟨i, k, h1, this, h2⟩
 ·cases this
def h00 (g : Nat) : Hp := { next := g, t := .leaf }
def runs (p : Prog) (ext : Ext) (n f : Nat) (args : List V) (g : Nat) : Bool :=
 match call p ext n f args (h00 g) with
 | some (.bool true, _) => true
 | _ => false
theorem blk_h00 (g b : Nat) : (h00 g).blk b = .gone := by
 simp [h00, Hp.blk]
def emb0 (P : Program) (σ : Nat → Value) : Emb := ⟨fun b => if b < P.globals.size then some ⟨b, 0, 0⟩ else none, σ⟩
theorem keptBut_of {w w' : World} (h1 : w'.os = w.os) (h2 : w'.output = w.output) (h3 : ∀ k, k < w.heap.size → w'.heap[k]? = w.heap[k]?) : w.keptBut w' (fun _ => False) := by
 refine ⟨h1, h2, fun i hi => ?_⟩;rw [h3 i hi]
 cases h : w.heap[i]? with
 | none => simp
 | some o => cases o <;> simp
end Go.Vm
end

section
namespace Go.Vm
variable {P : Program}
inductive Ek where
 | add64
 | cmp
def cmpLs : List Nat → List Nat → Int
 | [], [] => .ofNat 0
 | [], _ :: _ => .negSucc 0
 | _ :: _, [] => .ofNat 1
 | a :: x, b :: y => cond (Nat.blt a b) (.negSucc 0) (cond (Nat.blt b a) (.ofNat 1) (cmpLs x y))
def bytesV (h : Hp) : V → Option (List Nat)
 | .nilslice => some []
 | .slice b o sz len _ _ => cond (Nat.beq sz 1) (match h.read b o len with
  | some l => eV.bytesOf l
  | none => none) none
 | _ => none
def extV (k : Ek) (args : List V) (h : Hp) : Option (V × Hp) :=
 match k with
 | .add64 => match args with
  | [.int .u64 (.ofNat x), .int .u64 (.ofNat y), .int .u64 (.ofNat c)] => cond (Nat.ble c 1)
    (some (.tup [.int .u64 (.ofNat (Nat.mod (Nat.add (Nat.add x y) c) 18446744073709551616)), .int .u64 (.ofNat (Nat.div (Nat.add (Nat.add x y) c) 18446744073709551616))], h)) none
  | _ => none
 | .cmp => match args with
  | [a, b] => match bytesV h a, bytesV h b with
   | some x, some y => some (.int .i64 (cmpLs x y), h)
   | _, _ => none
  | _ => none
def extBy : List (Nat × Ek) → Ext
 | [], _, _, _ => none
 | (g, k) :: l, f, args, h => cond (Nat.beq g f) (extV k args h) (extBy l f args h)
def add64S (args : Array Value) : Sem Value := do
 let (x, y, c) ← Extern.MathBitsCarry.three "Add64" args
 pure (Extern.MathBitsCarry.pair ((x + y + c) % Extern.MathBitsCarry.m64) ((x + y + c) / Extern.MathBitsCarry.m64))
def extS : Ek → Array Value → Sem Value
 | .add64 => add64S
 | .cmp => Extern.BytealgCompare.compare
def IsExt (P : Program) (x : Nat × Ek) : Prop := ∃ fn, P.funcs[x.1]? = some fn ∧ (fn.name == "runtime.NumGoroutine") = false ∧ fn.body.isNone = true ∧ Extern.findNext fn = none ∧ Extern.find fn = some (extS x.2)
theorem loadBytes_ok {w : World} {k : Nat} : ∀ (s : List Nat) (o : Nat) (us : List Value) (acc : ByteArray), us = s.map (fun n => Value.int .u8 (.ofNat n)) → w.rangeAt k o us →
  (Extern.Bytes.loadBytes ⟨k, o, none⟩ s.length acc).run P w = .ok ⟨acc.data ++ (s.map Nat.toUInt8).toArray⟩ w
 | [], o, us, acc, _, _ => by simp [Extern.Bytes.loadBytes]
 | n :: s, o, us, acc, hu, hr => by
  subst hu;have h0 := hr 0 (.int .u8 (.ofNat n)) rfl;rw [Nat.add_zero] at h0;have hadd : (⟨k, o, none⟩ : Addr).add 1 = ⟨k, o + 1, none⟩ := rfl
  have ih := loadBytes_ok s (o + 1) _ (acc.push n.toUInt8) rfl (fun j v hv => by
   have := hr (j + 1) v hv
   rwa [show o + (j + 1) = o + 1 + j by omega] at this)
  simp only [List.length_cons, Extern.Bytes.loadBytes, Sem.run_bind, run_load, h0, Result.andThen_ok, hadd];have e : (Int.ofNat n).toNat.toUInt8 = n.toUInt8 := rfl;rw [e, ih]
  congr 2
  simp [ByteArray.push]
theorem bytesOf_spec {φ : Emb} : ∀ {l : List V} {s : List Nat} {us : List Value}, eV.bytesOf l = some s → VRs φ l us → us = s.map (fun n => Value.int .u8 (.ofNat n)) ∧ ∀ n, n ∈ s → n < 256
 | [], s, us, h, hr => by
  simp only [eV.bytesOf, Option.some.injEq] at h;subst h;cases hr;exact ⟨rfl, fun _ h => by cases h⟩
 | v :: l, s, us, h, hr => by
  unfold eV.bytesOf at h;split at h
  ·rename_i e; cases e
  ·rename_i n l' e;cases e;rw [cond_eq_ite] at h; split at h
   case isFalse => cases h
   rename_i hn;split at h
   case h_2 => cases h
   rename_i r hr';cases h
   cases hr with | cons _ u _ us' k1 k2 =>
   cases k1;obtain ⟨e1, e2⟩ := bytesOf_spec hr' k2;refine ⟨by rw [e1]; rfl, fun m hm => ?_⟩;rcases List.mem_cons.1 hm with rfl | hm
   ·exact nblt.1 hn
   ·exact e2 m hm
  ·cases h
theorem bytesV_ok {φ : Emb} {h : Hp} {w : World} (hr : HR φ h w) {v : V} {u : Value} (hv : VR φ v u) {s : List Nat} (hs : bytesV h v = some s) :
  (Extern.Bytes.bytesOf u).run P w = .ok ⟨(s.map Nat.toUInt8).toArray⟩ w ∧ ∀ n, n ∈ s → n < 256 := by
 cases v <;> simp only [bytesV, reduceCtorEq] at hs
 case nilslice =>
  cases hv;cases hs;exact ⟨rfl, fun _ h => by cases h⟩
 case slice b o sz len c ex =>
  cases hv with | slice _ _ _ _ _ _ ad cc h0 h1 h2 h3 =>
  rw [cond_eq_ite] at hs; split at hs
  case isFalse => cases hs
  split at hs
  case h_2 => cases hs
  rename_i l hl;obtain ⟨pl, us, r1, r2, r3, r4⟩ := hr.read hl;obtain ⟨e1, e2⟩ := bytesOf_spec hs r3;refine ⟨?_, e2⟩;simp only [Extern.Bytes.bytesOf]
  have hlen : s.length = len := by
   have := r3.length;rw [e1, List.length_map] at this;omega
  rcases Nat.eq_zero_or_pos cc with z | z
  ·have : len = 0 := (by omega);rw [this] at hlen;have : s = [] := List.length_eq_zero_iff.1 hlen;subst this;rw [show len = 0 by omega];rfl
  ·obtain ⟨pl', k1, k2, _⟩ := h0 z;rw [r1] at k1; cases k1;rw [k2, ← hlen];have := loadBytes_ok (P := P) s (pl.base + o) us .empty e1 r4;rw [this];rw [show ByteArray.empty.data = #[] from rfl];simp
theorem get_bytes (s : List Nat) {i : Nat} (h : i < s.length) : (ByteArray.mk (s.map Nat.toUInt8).toArray)[i]! = (s[i]).toUInt8 := by
 have : i < (ByteArray.mk (s.map Nat.toUInt8).toArray).size := by
  show i < (s.map Nat.toUInt8).toArray.size;simpa using h
 rw [getElem!_pos (ByteArray.mk (s.map Nat.toUInt8).toArray) i this];show (s.map Nat.toUInt8).toArray[i] = _;simp
theorem u8_inj {a b : Nat} (ha : a < 256) (hb : b < 256) : (a.toUInt8 = b.toUInt8) ↔ a = b := by
 constructor
 ·intro h;have := congrArg UInt8.toNat h;simp at this;omega
 ·rintro rfl; rfl
theorem u8_lt {a b : Nat} (ha : a < 256) (hb : b < 256) : (a.toUInt8 < b.toUInt8) ↔ a < b := by
 rw [UInt8.lt_iff_toNat_lt];simp;omega
theorem cmpLs_same : ∀ {x y : List Nat}, (∀ j, j < min x.length y.length → x[j]? = y[j]?) → cmpLs x y = if x.length < y.length then .negSucc 0 else if x.length > y.length then .ofNat 1 else .ofNat 0
 | [], [], _ => rfl
 | [], b :: y, _ => by simp [cmpLs]
 | a :: x, [], _ => by simp [cmpLs]
 | a :: x, b :: y, h => by
  have h0 := h 0 (by simp);simp at h0;subst h0;simp only [cmpLs]
  have : Nat.blt a a = false := by
   cases e : Nat.blt a a with
   | false => rfl
   | true => rw [nblt] at e; omega
  rw [this];simp only [cond_false]
  rw [cmpLs_same (x := x) (y := y) fun j hj => by
   have := h (j + 1) (by simp; omega)
   simpa using this]
  simp
theorem cmpLs_diff : ∀ {i : Nat} {x y : List Nat}, i < x.length → i < y.length → (∀ j, j < i → x[j]? = y[j]?) → x[i]? ≠ y[i]? → cmpLs x y = if x.getD i 0 < y.getD i 0 then .negSucc 0 else .ofNat 1
 | _, [], _, h, _, _, _ => by simp at h
 | _, _ :: _, [], _, h, _, _ => by simp at h
 | 0, a :: x, b :: y, _, _, _, h => by
  simp at h;simp only [cmpLs, List.getD_cons_zero]
  by_cases k : a < b
  ·rw [nblt.2 k]; simp [k]
  ·have e1 : Nat.blt a b = false := by
    cases e : Nat.blt a b with
    | false => rfl
    | true => rw [nblt] at e; omega
   have e2 : Nat.blt b a = true := nblt.2 (by omega);rw [e1, e2];simp [k]
 | i + 1, a :: x, b :: y, h1, h2, h3, h4 => by
  have h0 := h3 0 (by omega);simp at h0;subst h0;simp only [cmpLs, List.getD_cons_succ]
  have : Nat.blt a a = false := by
   cases e : Nat.blt a a with
   | false => rfl
   | true => rw [nblt] at e; omega
  rw [this];simp only [cond_false];exact cmpLs_diff (by simpa using h1) (by simpa using h2) (fun j hj => by have := h3 (j + 1) (by omega); simpa using this) (by simpa using h4)
theorem cmp_ok {x y : List Nat} (hx : ∀ n, n ∈ x → n < 256) (hy : ∀ n, n ∈ y → n < 256) : Extern.BytealgCompare.cmp ⟨(x.map Nat.toUInt8).toArray⟩ ⟨(y.map Nat.toUInt8).toArray⟩ = cmpLs x y := by
 have sx : (ByteArray.mk (x.map Nat.toUInt8).toArray).size = x.length := (by show (x.map Nat.toUInt8).toArray.size = _; simp)
 have sy : (ByteArray.mk (y.map Nat.toUInt8).toArray).size = y.length := by show (y.map Nat.toUInt8).toArray.size = _; simp
 have key : ∀ i (h1 : i < x.length) (h2 : i < y.length), ((ByteArray.mk (x.map Nat.toUInt8).toArray)[i]! != (ByteArray.mk (y.map Nat.toUInt8).toArray)[i]!) = true ↔ x[i]? ≠ y[i]? := by
  intro i h1 h2;rw [get_bytes x h1, get_bytes y h2, bne_iff_ne, ne_eq, u8_inj (hx _ (List.getElem_mem h1)) (hy _ (List.getElem_mem h2))];simp [h1, h2]
 unfold Extern.BytealgCompare.cmp;rw [sx, sy];split
 ·rename_i i hi;rw [List.find?_range_eq_some] at hi;obtain ⟨k1, k2, k3⟩ := hi;have hlt : i < min x.length y.length := (by simpa using k2);have h1 : i < x.length := (by omega)
  have h2 : i < y.length := by omega
  rw [cmpLs_diff h1 h2 (fun j hj => by
   have := k3 j hj;have h3 := key j (by omega) (by omega)
   by_cases e : x[j]? = y[j]?
   ·exact e
   ·rw [h3.2 e] at this; cases this) ((key i h1 h2).1 k1)]
  rw [get_bytes x h1, get_bytes y h2];have := u8_lt (hx _ (List.getElem_mem h1)) (hy _ (List.getElem_mem h2));simp only [this, List.getD, List.getElem?_eq_getElem h1, List.getElem?_eq_getElem h2, Option.getD_some];rfl
 ·rename_i hi;rw [List.find?_range_eq_none] at hi
  rw [cmpLs_same fun j hj => by
   have := hi j hj;have h3 := key j (by omega) (by omega)
   by_cases e : x[j]? = y[j]?
   ·exact e
   ·rw [h3.2 e] at this; cases this]
  rfl
theorem ext_one {x : Nat × Ek} (hx : IsExt P x) {φ : Emb} {args : List V} {h h' : Hp} {v : V} {w : World} {us : List Value} (hv : extV x.2 args h = some (v, h')) (hr : HR φ h w) (hargs : VRs φ args us) :
  CallSim P φ x.1 us h w v h' := by
 obtain ⟨fn, hf, hn, hb, hnx, hfd⟩ := hx;right;have hrun := run_callFunc_extern hf hn hb hnx hfd us.toArray w;obtain ⟨f, k⟩ := x
 cases k with
 | add64 =>
  simp only [extV] at hv;split at hv
  case h_2 => cases hv
  rename_i a b c;rw [cond_eq_ite] at hv; split at hv
  case isFalse => cases hv
  rename_i hc;rw [nble] at hc;cases hv
  cases hargs with | cons _ u1 _ _ r1 hargs =>
  cases hargs with | cons _ u2 _ _ r2 hargs =>
  cases hargs with | cons _ u3 _ _ r3 hargs =>
  cases hargs;cases r1;cases r2;cases r3;refine ⟨_, φ, w, ?_, .tup _ _ (.cons _ _ _ _ (.int _ _) (.cons _ _ _ _ (.int _ _) .nil)), .refl hr⟩;rw [hrun]
  have hc' : ¬ (Int.ofNat c).toNat > 1 := by simp; omega
  have he : extS .add64 #[.int .u64 (.ofNat a), .int .u64 (.ofNat b), .int .u64 (.ofNat c)] = (do
    let p ← (do
     if (Int.ofNat c).toNat > 1 then (unsupported (.noEntry ("extern/math/bits." ++ "Add64" ++ ": a carry that is neither 0 nor 1")) : Sem Unit)
     pure ((Int.ofNat a).toNat, (Int.ofNat b).toNat, (Int.ofNat c).toNat) : Sem (Nat × Nat × Nat))
    pure (Extern.MathBitsCarry.pair ((p.1 + p.2.1 + p.2.2) % Extern.MathBitsCarry.m64) ((p.1 + p.2.1 + p.2.2) / Extern.MathBitsCarry.m64))) := rfl
  show ((extS .add64 #[.int .u64 (.ofNat a), .int .u64 (.ofNat b), .int .u64 (.ofNat c)]).run P w).andThen _ = _;rw [he, if_neg hc'];rfl
 | cmp =>
  simp only [extV] at hv;split at hv
  case h_2 => cases hv
  rename_i a b;split at hv
  case h_2 => cases hv
  rename_i x y h1 h2;cases hv
  cases hargs with | cons _ u1 _ _ r1 hargs =>
  cases hargs with | cons _ u2 _ _ r2 hargs =>
  cases hargs;obtain ⟨b1, c1⟩ := bytesV_ok (P := P) hr r1 h1;obtain ⟨b2, c2⟩ := bytesV_ok (P := P) hr r2 h2;refine ⟨_, φ, w, ?_, .int _ _, .refl hr⟩;rw [hrun]
  have he : extS .cmp #[u1, u2] = (do
    let p ← Extern.Bytes.bytesOf u1
    let q ← Extern.Bytes.bytesOf u2
    pure (goInt (Extern.BytealgCompare.cmp p q))) := rfl
  show ((extS .cmp #[u1, u2]).run P w).andThen _ = _;rw [he];simp only [Sem.run_bind, b1, b2, Result.andThen_ok, Sem.run_pure, cmp_ok c1 c2, goInt]
theorem extBy_rises (l : List (Nat × Ek)) : Rises (extBy l) := by
 intro f args h v h' e
 induction l with
 | nil => cases e
 | cons x l ih =>
  obtain ⟨g, k⟩ := x;simp only [extBy] at e;rw [cond_eq_ite] at e; split at e
  ·cases k <;> simp only [extV] at e
   all_goals
    repeat' (first | (cases e; done) | (rw [cond_eq_ite] at e; split at e) | split at e)
    all_goals (cases e; exact Nat.le_refl _)
  ·exact ih e
theorem extBy_ok {env : Env} {l : List (Nat × Ek)} (hl : ∀ x, x ∈ l → IsExt P x) : CallOk P env (extBy l) := by
 intro φ f args h v h' w us hv _ hr _ hargs
 induction l with
 | nil => cases hv
 | cons x l ih =>
  obtain ⟨g, k⟩ := x;simp only [extBy] at hv;rw [cond_eq_ite] at hv; split at hv
  ·rename_i e;rw [nbeq] at e;subst e;exact ext_one (hl _ List.mem_cons_self) hv hr hargs
  ·exact ih (fun x hx => hl x (List.mem_cons_of_mem _ hx)) hv
end Go.Vm
end

section
namespace Go.Vm
open Go.RowKit
variable {P : Program}
theorem St.below {φ : Emb} {h : Hp} {w w' : World} (hr : HR φ h w) (hb : Below w.heap.size w w') : St φ h w φ h w' where
 le := .refl φ
 new _ _ := rfl
 nx := Nat.le_refl _
 os := hb.os
 tape := hb.tape
 output := hb.output
 size := hb.size
 kept k hk _ := hb.block k hk
 host b pl h1 h2 := .inl ⟨b, pl, h1, h2, rfl⟩
 roof b pl h1 h2 := .inl ⟨b, pl, h1, h2, rfl⟩
 hr := ⟨fun b hl => let ⟨pl, h1, h2⟩ := hr.lies b hl; ⟨pl, h1, h2.mono (.refl φ) (hb.block _ (h2.lt hl))⟩, hr.apart, hr.fresh⟩
theorem St.belowNew {φ : Emb} {h : Hp} {w w' : World} (hr : HR φ h w) (hb : Below w.heap.size w w') {x : Blk} {pl : Place} (hfr : φ.at_ h.next = none) (hg : w.heap.size ≤ pl.blk)
  (hx : ∀ ψ, φ.Le ψ → BlkAt ψ w' pl x) : St φ h w ⟨fun b => if b = h.next then some pl else φ.at_ b, φ.sym⟩ (h.new x) w' := by
 have hle : φ.Le ⟨fun b => if b = h.next then some pl else φ.at_ b, φ.sym⟩ := ⟨fun b q e => by
  show (if b = h.next then some pl else φ.at_ b) = some q;split
  ·rename_i e'; rw [e', hfr] at e; cases e
  ·exact e, rfl⟩
 have key : ∀ {b : Nat} {q : Place}, (if b = h.next then some pl else φ.at_ b) = some q → (b = h.next ∧ q = pl) ∨ (b ≠ h.next ∧ φ.at_ b = some q) := by
  intro b q e
  by_cases eb : b = h.next
  ·rw [if_pos eb] at e; cases e; exact .inl ⟨eb, rfl⟩
  ·rw [if_neg eb] at e; exact .inr ⟨eb, e⟩
 refine ⟨hle, fun b hb' => ?_, Nat.le_succ _, hb.os, hb.tape, hb.output, hb.size, fun k hk _ => hb.block k hk, fun b q ho hq => ?_, fun b q ho hq => ?_, ⟨fun b hl => ?_, fun b b' q q' hl hl' ho hq hq' hne => ?_, fun b hb' => ?_⟩⟩
 ·show (if b = h.next then some pl else φ.at_ b) = _
  have : b ≠ h.next := by
   rcases hb' with hb' | hb'
   ·omega
   ·have : h.next + 1 ≤ b := hb';omega
  rw [if_neg this]
 ·rcases key hq with ⟨_, rfl⟩ | ⟨e, hq⟩
  ·exact .inr hg
  ·rw [blk_new, if_neg e] at ho; exact .inl ⟨b, q, ho, hq, rfl⟩
 ·rcases key hq with ⟨_, rfl⟩ | ⟨e, hq⟩
  ·exact .inr hg
  ·rw [blk_new, if_neg e] at ho; exact .inl ⟨b, q, ho, hq, rfl⟩
 ·rw [blk_new] at hl ⊢
  by_cases e : b = h.next
  ·rw [if_pos e];exact ⟨pl, by show (if b = h.next then some pl else φ.at_ b) = _; rw [if_pos e], hx _ hle⟩
  ·rw [if_neg e] at hl ⊢;obtain ⟨q, h1, h2⟩ := hr.lies b hl;exact ⟨q, by show (if b = h.next then some pl else φ.at_ b) = _; rw [if_neg e]; exact h1, h2.mono hle (hb.block _ (h2.lt hl))⟩
 ·rw [blk_new] at hl hl';rcases key hq with ⟨e, rfl⟩ | ⟨e, hqq⟩
  ·rcases key hq' with ⟨e', _⟩ | ⟨e', hq'⟩
   ·exact absurd (e.trans e'.symm) hne
   ·rw [if_neg e'] at hl';obtain ⟨r, h1, h2⟩ := hr.lies b' hl';rw [h1] at hq'; cases hq';have := h2.lt hl'; omega
  ·rw [if_neg e] at hl;rcases key hq' with ⟨e', eq'⟩ | ⟨e', hq'⟩
   ·obtain ⟨r, h1, h2⟩ := hr.lies b hl;have hqr : q = r := Option.some.inj (hqq.symm.trans h1);subst hqr;rw [eq'];have := h2.lt hl; omega
   ·rw [if_neg e'] at hl';rw [blk_new, if_neg e, blk_new, if_neg e'] at ho;exact hr.apart b b' q q' hl hl' ho hqq hq' hne
 ·rw [blk_new];have : h.next + 1 ≤ b := hb';rw [if_neg (by omega)];exact hr.fresh b (by omega)
def orX (a b : Ext) : Ext := fun f args h => match a f args h with
 | some r => some r
 | none => b f args h
theorem orX_rises {a b : Ext} (ha : Rises a) (hb : Rises b) : Rises (orX a b) := by
 intro f args h v h' e;unfold orX at e;split at e
 ·rename_i r hr; cases e; exact ha _ _ _ _ _ hr
 ·exact hb _ _ _ _ _ e
theorem orX_ok {env : Env} {a b : Ext} (ha : CallOk P env a) (hb : CallOk P env b) : CallOk P env (orX a b) := by
 intro φ f args h v h' w us hv ok hr hfr hargs;unfold orX at hv;split at hv
 ·rename_i r hr'; cases hv; exact ha φ f args h v h' w us hr' ok hr hfr hargs
 ·exact hb φ f args h v h' w us hv ok hr hfr hargs
def keysI : List (V × V) → Option (List Int)
 | [] => some []
 | (.int .i64 n, _) :: l => cond (ieq (wr .i64 n) n) (match keysI l with
  | some r => some (n :: r)
  | none => none) none
 | _ => none
def rowI : List Int → List V
 | [] => []
 | n :: l => .int .i64 n :: rowI l
theorem rowI_length : ∀ l : List Int, (rowI l).length = l.length
 | [] => rfl
 | _ :: l => congrArg (· + 1) (rowI_length l)
end Go.Vm
end

section
namespace Go.Vm
open Go.RowKit
variable {P : Program}
def hasF (f : Nat) : List Nat → Bool
 | [] => false
 | g :: l => cond (Nat.beq g f) true (hasF f l)
def constX (l : List Nat) : Ext := fun f args h => cond (hasF f l) (match args with
 | [] => some (.bool true, h)
 | _ => none) none
theorem hasF_mem {f : Nat} : ∀ {l : List Nat}, hasF f l = true → f ∈ l
 | [], h => by cases h
 | g :: l, h => by
  simp only [hasF] at h;rw [cond_eq_ite] at h; split at h
  ·rename_i e; rw [nbeq] at e; subst e; exact List.mem_cons_self
  ·exact List.mem_cons_of_mem _ (hasF_mem h)
theorem top_below (hm : P.follows .mixedOrders = true) {p : Prog} (hp : Valid P p) {ext : Ext} (hrx : Rises ext) (hx : CallOk P p.env ext) (σ : Nat → Value) (hσ : ∀ i, ∃ k n, σ i = .int k n) (htab : TabOk P σ p.env.tab) (hints : IntsOk P p.env.ints)
  {f n : Nat} {args : List V} {us : List Value} (hen : entered P f = true) (hv : runs p ext n f args P.globals.size = true) (hargs : VRs (emb0 P σ) args us) (w : World) :
  Calls P f us.toArray w fun e w' => e = .returned (.bool true) ∧ Below w.heap.size w w' := by
 unfold runs at hv;split at hv
 case h_2 => cases hv
 rename_i h' hc;have hr : HR (emb0 P σ) (h00 P.globals.size) w := ⟨fun b hb => (by rw [blk_h00] at hb; cases hb), fun b b' pl pl' hb => (by rw [blk_h00] at hb; cases hb), fun b _ => blk_h00 _ b⟩;have hok : EnvOk P (emb0 P σ) p.env := ⟨hσ, fun g hg => ⟨0, by show (if g < P.globals.size then _ else _) = _; rw [if_pos hg]⟩, htab, hints⟩
 have hfr : Fresh (emb0 P σ) (h00 P.globals.size).next h'.next := fun b h1 h2 => by
  show (if b < P.globals.size then some (⟨b, 0, 0⟩ : Place) else none) = _;have h1 : P.globals.size ≤ b := h1;rw [if_neg (by omega)]
 have := call_ok hm hp hrx hx n (emb0 P σ) f args (h00 P.globals.size) (.bool true) h' w us hc hok hr hfr hargs;rcases this with ⟨_, h2⟩ | ⟨u, ψ, w', h1, _⟩
 ·refine h2.mono ?_;rintro e w' ⟨u, ψ, rfl, r1, r2⟩;cases r1;exact ⟨rfl, r2.os, r2.tape, r2.output, r2.size, fun k hk => r2.kept k hk fun b pl hb => by rw [blk_h00] at hb; cases hb⟩
 ·rw [callFunc_entered hen] at h1;cases h1
theorem constX_rises (l : List Nat) : Rises (constX l) := by
 intro f args h v h' e;unfold constX at e;rw [cond_eq_ite] at e; split at e
 case isFalse => cases e
 split at e
 ·cases e; exact Nat.le_refl _
 ·cases e
theorem constX_ok (hm : P.follows .mixedOrders = true) {p : Prog} (hp : Valid P p) {ext : Ext} (hrx : Rises ext) (hx : CallOk P p.env ext) (htab : p.env.tab = []) (hints : IntsOk P p.env.ints) {n : Nat} {l : List Nat} {env : Env}
  (hl : ∀ f, f ∈ l → entered P f = true ∧ runs p ext n f [] P.globals.size = true) : CallOk P env (constX l) := by
 intro φ f args h v h' w us hv ok hr hfr hargs;unfold constX at hv;rw [cond_eq_ite] at hv; split at hv
 case isFalse => cases hv
 rename_i hf;obtain ⟨h1, h2⟩ := hl f (hasF_mem hf);split at hv
 case h_2 => cases hv
 cases hv;cases hargs;refine .inl ⟨h1, (top_below hm hp hrx hx (fun _ => .int .i64 0) (fun _ => ⟨_, _, rfl⟩) (by rw [htab]; exact fun _ _ _ _ _ _ h => by cases h) hints h1 h2 .nil w).mono ?_⟩;rintro e w' ⟨rfl, hb⟩;exact ⟨_, φ, rfl, .bool true, .below hr hb⟩
end Go.Vm
end

section
namespace Go.Vm
abbrev CallF := Nat → List V → Hp → Option (V × Hp)
def CallLe (C D : CallF) : Prop := ∀ f args h r, C f args h = some r → D f args h = some r
theorem eV_mono {C D : CallF} (hcd : CallLe C D) {fr : Fr} {h : Hp} {o : EOp} {r : V × Hp} (e : eV C fr h o = some r) : eV D fr h o = some r := by
 cases o
 case call f args => exact hcd _ _ _ _ e
 case extern f args => exact hcd _ _ _ _ e
 case callv x args =>
  simp only [eV] at e ⊢;split at e
  ·exact hcd _ _ _ _ e
  ·cases e
 all_goals exact e
theorem opV_mono {C D : CallF} (hcd : CallLe C D) {env : Env} {fr : Fr} {h : Hp} {o : MOp} {r : V × Hp} (e : opV env C fr h o = some r) : opV env D fr h o = some r := by
 cases o
 case e o => exact eV_mono hcd e
 all_goals exact e
theorem runOps_mono {C D : CallF} (hcd : CallLe C D) {env : Env} : ∀ {l : List MO} {fr : Fr} {h : Hp} {r : Fr × Hp}, runOps env C l fr h = some r → runOps env D l fr h = some r
 | [], _, _, _, e => e
 | o :: l, fr, h, r, e => by
  simp only [runOps] at e ⊢;split at e
  ·exact runOps_mono hcd e
  ·cases e
  ·split at e
   ·rename_i v h' hv;rw [opV_mono hcd hv];exact runOps_mono hcd e
   ·cases e
theorem runD_mono {C D : CallF} (hcd : CallLe C D) {env : Env} : ∀ {l : List DO} {p : Nat} {fr : Fr} {h : Hp} {st : List (Nat × Hp)} {rds : List Rd} {r : Fr × Hp}, runD env C l p fr h st rds = some r → runD env D l p fr h st rds = some r
 | [], _, _, _, _, _, _, e => e
 | o :: l, p, fr, h, st, rds, r, e => by
  simp only [runD] at e ⊢;split at e
  ·exact runD_mono hcd e
  ·cases e
  ·split at e
   ·rename_i v h' hv;rw [opV_mono hcd hv];exact runD_mono hcd e
   ·cases e
variable {p : Prog} {ext : Ext}
def ExLe (x y : MCode → Fr → Hp → Res) : Prop := ∀ c fr h, x c fr h ≠ .fail → y c fr h = x c fr h
theorem callV_mono {x y : MCode → Fr → Hp → Res} (hxy : ExLe x y) : CallLe (callV p ext x) (callV p ext y) := by
 intro f args h r e;unfold callV at e ⊢
 cases hq : ext f args h with
 | some q => rw [hq] at e; exact e
 | none =>
  rw [hq] at e;simp only at e ⊢
  cases hfn : p.funs.get f with
  | none => rw [hfn] at e; exact e
  | some fn =>
   rw [hfn] at e;simp only at e ⊢;rw [cond_eq_ite] at e; split at e
   case isFalse => cases e
   rename_i hb;rw [cond_eq_ite, if_pos hb];have hne : x fn.body (argsFr args 0 .leaf) h ≠ .fail := fun hf => (by rw [hf] at e; cases e);rw [hxy _ _ _ hne];exact e
theorem exec_region (n : Nat) (ops : List MO) (fr : Fr) (h : Hp) : exec p ext (n + 1) (.region ops) fr h = match runOps p.env (callV p ext (exec p ext n)) ops fr h with
 | some (fr', h') => .ok fr' h'
 | none => .fail := rfl
theorem exec_dregion (n : Nat) (ops : List DO) (fr : Fr) (h : Hp) : exec p ext (n + 1) (.dregion ops) fr h = match runD p.env (callV p ext (exec p ext n)) ops 0 fr h [(0, h)] [] with
 | some (fr', h') => .ok fr' h'
 | none => .fail := rfl
theorem exec_seq (n : Nat) (a b : MCode) (fr : Fr) (h : Hp) : exec p ext (n + 1) (.seq a b) fr h = match exec p ext n a fr h with
 | .ok fr' h' => exec p ext n b fr' h'
 | r => r := rfl
theorem exec_cond (n : Nat) (c : Opd) (a b : MCode) (fr : Fr) (h : Hp) : exec p ext (n + 1) (.cond c a b) fr h = match ev fr c with
 | .bool true => exec p ext n a fr h
 | .bool false => exec p ext n b fr h
 | _ => .fail := rfl
theorem exec_block (n : Nat) (id : Nat) (c : MCode) (fr : Fr) (h : Hp) : exec p ext (n + 1) (.block id c) fr h = match exec p ext n c fr h with
 | .exit id' fr' h' => cond (Nat.beq id' id) (.ok fr' h') (.exit id' fr' h')
 | r => r := rfl
theorem exec_loop (n : Nat) (c : MCode) (fr : Fr) (h : Hp) : exec p ext (n + 1) (.loop c) fr h = match exec p ext n c fr h with
 | .ok fr' h' => exec p ext n (.loop c) fr' h'
 | r => r := rfl
theorem exec_le (n : Nat) : ExLe (exec p ext n) (exec p ext (n + 1)) := by
 induction n with
 | zero => intro c fr h hne; exact absurd rfl hne
 | succ n ih =>
  have hc : CallLe (callV p ext (exec p ext n)) (callV p ext (exec p ext (n + 1))) := callV_mono ih;intro c fr h hne
  cases c with
  | skip => rfl
  | exit id => rfl
  | ret => rfl
  | region ops =>
   rw [exec_region] at hne; rw [exec_region, exec_region]
   cases e : runOps p.env (callV p ext (exec p ext n)) ops fr h with
   | none => rw [e] at hne; exact absurd rfl hne
   | some r => rw [runOps_mono hc e]
  | dregion ops =>
   rw [exec_dregion] at hne; rw [exec_dregion, exec_dregion]
   cases e : runD p.env (callV p ext (exec p ext n)) ops 0 fr h [(0, h)] [] with
   | none => rw [e] at hne; exact absurd rfl hne
   | some r => rw [runD_mono hc e]
  | seq a b =>
   rw [exec_seq] at hne; rw [exec_seq, exec_seq];have ha : exec p ext n a fr h ≠ .fail := fun hf => (by rw [hf] at hne; exact hne rfl);rw [show exec p ext (n + 1) a fr h = exec p ext n a fr h from ih a fr h ha]
   cases e : exec p ext n a fr h with
   | ok fr' h' => rw [e] at hne; exact ih b fr' h' hne
   | _ => rfl
  | cond c a b =>
   rw [exec_cond] at hne; rw [exec_cond, exec_cond];split
   ·rename_i hg; rw [hg] at hne; exact ih a fr h hne
   ·rename_i hg; rw [hg] at hne; exact ih b fr h hne
   ·rfl
  | block id c =>
   rw [exec_block] at hne; rw [exec_block, exec_block];have ha : exec p ext n c fr h ≠ .fail := fun hf => (by rw [hf] at hne; exact hne rfl);rw [show exec p ext (n + 1) c fr h = exec p ext n c fr h from ih c fr h ha]
  | loop c =>
   rw [exec_loop] at hne; rw [exec_loop, exec_loop];have ha : exec p ext n c fr h ≠ .fail := fun hf => (by rw [hf] at hne; exact hne rfl);rw [show exec p ext (n + 1) c fr h = exec p ext n c fr h from ih c fr h ha]
   cases e : exec p ext n c fr h with
   | ok fr' h' => rw [e] at hne; exact ih (.loop c) fr' h' hne
   | _ => rfl
theorem exec_mono {n m : Nat} (hnm : n ≤ m) : ExLe (exec p ext n) (exec p ext m) := by
 induction hnm with
 | refl => intro c fr h _; rfl
 | step _ ih => intro c fr h hne; rw [show exec p ext _ c fr h = exec p ext _ c fr h from exec_le _ c fr h (by rw [ih c fr h hne]; exact hne)]; exact ih c fr h hne
theorem call_mono {n m : Nat} (hnm : n ≤ m) : CallLe (call p ext n) (call p ext m) := callV_mono (exec_mono hnm)
def WP (p : Prog) (ext : Ext) (c : MCode) (fr : Fr) (h : Hp) (Q : Res → Prop) : Prop := ∃ n, exec p ext n c fr h ≠ .fail ∧ Q (exec p ext n c fr h)
def WPc (p : Prog) (ext : Ext) (f : Nat) (args : List V) (h : Hp) (Q : V → Hp → Prop) : Prop := ∃ n v h', call p ext n f args h = some (v, h') ∧ Q v h'
def WPo (p : Prog) (ext : Ext) (l : List MO) (fr : Fr) (h : Hp) (Q : Fr → Hp → Prop) : Prop := ∃ n fr' h', runOps p.env (call p ext n) l fr h = some (fr', h') ∧ Q fr' h'
def WPd (p : Prog) (ext : Ext) (l : List DO) (i : Nat) (fr : Fr) (h : Hp) (st : List (Nat × Hp)) (rds : List Rd) (Q : Fr → Hp → Prop) : Prop := ∃ n fr' h', runD p.env (call p ext n) l i fr h st rds = some (fr', h') ∧ Q fr' h'
theorem WP.mono {c : MCode} {fr : Fr} {h : Hp} {Q R : Res → Prop} (hw : WP p ext c fr h Q) (hqr : ∀ r, Q r → R r) : WP p ext c fr h R :=
 let ⟨n, a, b⟩ := hw; ⟨n, a, hqr _ b⟩
theorem WPc.mono {f : Nat} {args : List V} {h : Hp} {Q R : V → Hp → Prop} (hw : WPc p ext f args h Q) (hqr : ∀ v h', Q v h' → R v h') : WPc p ext f args h R :=
 let ⟨n, v, h', a, b⟩ := hw; ⟨n, v, h', a, hqr _ _ b⟩
theorem wp_skip' {fr : Fr} {h : Hp} {Q : Res → Prop} (hq : Q (.ok fr h)) : WP p ext .skip fr h Q := ⟨1, by simp [exec], by simpa [exec] using hq⟩
theorem wp_exit' {id : Nat} {fr : Fr} {h : Hp} {Q : Res → Prop} (hq : Q (.exit id fr h)) : WP p ext (.exit id) fr h Q := ⟨1, by simp [exec], by simpa [exec] using hq⟩
theorem wp_ret' {fr : Fr} {h : Hp} {Q : Res → Prop} (hq : Q (.ret fr h)) : WP p ext .ret fr h Q := ⟨1, by simp [exec], by simpa [exec] using hq⟩
theorem wp_region' {l : List MO} {fr : Fr} {h : Hp} {Q : Res → Prop} (hw : WPo p ext l fr h fun fr' h' => Q (.ok fr' h')) : WP p ext (.region l) fr h Q := by
 obtain ⟨n, fr', h', e, q⟩ := hw;have e' : runOps p.env (callV p ext (exec p ext n)) l fr h = some (fr', h') := e;exact ⟨n + 1, by simp [exec, e'], by simpa [exec, e'] using q⟩
theorem wp_dregion' {l : List DO} {fr : Fr} {h : Hp} {Q : Res → Prop} (hw : WPd p ext l 0 fr h [(0, h)] [] fun fr' h' => Q (.ok fr' h')) : WP p ext (.dregion l) fr h Q := by
 obtain ⟨n, fr', h', e, q⟩ := hw;have e' : runD p.env (callV p ext (exec p ext n)) l 0 fr h [(0, h)] [] = some (fr', h') := e;exact ⟨n + 1, by simp [exec, e'], by simpa [exec, e'] using q⟩
def thenR (Q : Res → Prop) (next : Fr → Hp → Prop) : Res → Prop
 | .fail => False
 | .ok fr h => next fr h
 | .exit id fr h => Q (.exit id fr h)
 | .ret fr h => Q (.ret fr h)
@[simp] theorem thenR_ok {Q : Res → Prop} {next : Fr → Hp → Prop} {fr : Fr} {h : Hp} : thenR Q next (.ok fr h) = next fr h := rfl
@[simp] theorem thenR_exit {Q : Res → Prop} {next : Fr → Hp → Prop} {id : Nat} {fr : Fr} {h : Hp} : thenR Q next (.exit id fr h) = Q (.exit id fr h) := rfl
@[simp] theorem thenR_ret {Q : Res → Prop} {next : Fr → Hp → Prop} {fr : Fr} {h : Hp} : thenR Q next (.ret fr h) = Q (.ret fr h) := rfl
theorem wp_seq' {a b : MCode} {fr : Fr} {h : Hp} {Q : Res → Prop} (hw : WP p ext a fr h (thenR Q fun fr' h' => WP p ext b fr' h' Q)) : WP p ext (.seq a b) fr h Q := by
 obtain ⟨n, hn, q⟩ := hw
 cases e : exec p ext n a fr h with
 | fail => exact absurd e hn
 | ok fr' h' =>
  rw [e] at q;obtain ⟨m, hm, q⟩ := q;have e1 : exec p ext (max n m) a fr h = .ok fr' h' := (exec_mono (Nat.le_max_left n m) a fr h hn).trans e;have e2 : exec p ext (max n m) b fr' h' = exec p ext m b fr' h' := exec_mono (Nat.le_max_right n m) b fr' h' hm;exact ⟨max n m + 1, by simp only [exec, e1, e2]; exact hm, by simp only [exec, e1, e2]; exact q⟩
 | exit id fr' h' => rw [e] at q; exact ⟨n + 1, by simp [exec, e], by simpa [exec, e] using q⟩
 | ret fr' h' => rw [e] at q; exact ⟨n + 1, by simp [exec, e], by simpa [exec, e] using q⟩
theorem wp_cond' {c : Opd} {a b : MCode} {fr : Fr} {h : Hp} {Q : Res → Prop} (t : Bool) (ht : ev fr c = .bool t) (ha : t = true → WP p ext a fr h Q) (hb : t = false → WP p ext b fr h Q) : WP p ext (.cond c a b) fr h Q := by
 cases t with
 | true => obtain ⟨n, hn, q⟩ := ha rfl; exact ⟨n + 1, by simpa [exec, ht] using hn, by simpa [exec, ht] using q⟩
 | false => obtain ⟨n, hn, q⟩ := hb rfl; exact ⟨n + 1, by simpa [exec, ht] using hn, by simpa [exec, ht] using q⟩
def blockR (id : Nat) (Q : Res → Prop) : Res → Prop
 | .fail => False
 | .ok fr h => Q (.ok fr h)
 | .exit id' fr h => cond (Nat.beq id' id) (Q (.ok fr h)) (Q (.exit id' fr h))
 | .ret fr h => Q (.ret fr h)
@[simp] theorem blockR_ok {Q : Res → Prop} {id : Nat} {fr : Fr} {h : Hp} : blockR id Q (.ok fr h) = Q (.ok fr h) := rfl
@[simp] theorem blockR_exit {Q : Res → Prop} {id id' : Nat} {fr : Fr} {h : Hp} : blockR id Q (.exit id' fr h) = cond (Nat.beq id' id) (Q (.ok fr h)) (Q (.exit id' fr h)) := rfl
@[simp] theorem blockR_ret {Q : Res → Prop} {id : Nat} {fr : Fr} {h : Hp} : blockR id Q (.ret fr h) = Q (.ret fr h) := rfl
theorem wp_block' {id : Nat} {c : MCode} {fr : Fr} {h : Hp} {Q : Res → Prop} (hw : WP p ext c fr h (blockR id Q)) : WP p ext (.block id c) fr h Q := by
 obtain ⟨n, hn, q⟩ := hw
 cases e : exec p ext n c fr h with
 | fail => exact absurd e hn
 | ok fr' h' => rw [e] at q; exact ⟨n + 1, by simp [exec, e], by simpa [exec, e] using q⟩
 | ret fr' h' => rw [e] at q; exact ⟨n + 1, by simp [exec, e], by simpa [exec, e] using q⟩
 | exit id' fr' h' =>
  rw [e] at q;simp only [blockR_exit] at q
  cases hb : Nat.beq id' id with
  | true => rw [hb] at q; exact ⟨n + 1, by simp [exec, e, hb], by simpa [exec, e, hb] using q⟩
  | false => rw [hb] at q; exact ⟨n + 1, by simp [exec, e, hb], by simpa [exec, e, hb] using q⟩
theorem wp_loop' {c : MCode} {Q : Res → Prop} (I : Nat → Fr → Hp → Prop) (hI : ∀ k fr h, I k fr h → WP p ext c fr h (thenR Q fun fr' h' => ∃ k', k' < k ∧ I k' fr' h')) :
  ∀ {k : Nat} {fr : Fr} {h : Hp}, I k fr h → WP p ext (.loop c) fr h Q := by
 intro k
 induction k using Nat.strongRecOn with
 | _ k ih =>
 intro fr h hi;obtain ⟨n, hn, q⟩ := hI k fr h hi
 cases e : exec p ext n c fr h with
 | fail => exact absurd e hn
 | ok fr' h' =>
  rw [e] at q;obtain ⟨k', hk, hi'⟩ := q;obtain ⟨m, hm, q⟩ := ih k' hk hi';have e1 : exec p ext (max n m) c fr h = .ok fr' h' := (exec_mono (Nat.le_max_left n m) c fr h hn).trans e;have e2 : exec p ext (max n m) (.loop c) fr' h' = exec p ext m (.loop c) fr' h' := exec_mono (Nat.le_max_right n m) (.loop c) fr' h' hm;exact ⟨max n m + 1, by simp only [exec, e1, e2]; exact hm, by simp only [exec, e1, e2]; exact q⟩
 | exit id fr' h' => rw [e] at q; exact ⟨n + 1, by simp [exec, e], by simpa [exec, e] using q⟩
 | ret fr' h' => rw [e] at q; exact ⟨n + 1, by simp [exec, e], by simpa [exec, e] using q⟩
theorem wpo_nil {fr : Fr} {h : Hp} {Q : Fr → Hp → Prop} (hq : Q fr h) : WPo p ext [] fr h Q := ⟨0, fr, h, rfl, hq⟩
theorem wpo_p {d : Option Nat} {o : POp} {l : List MO} {fr : Fr} {h : Hp} {Q : Fr → Hp → Prop} {v : V} (hv : pV p.env fr o = some v) (hw : WPo p ext l (putO fr d v) h Q) : WPo p ext (⟨d, .p o, none⟩ :: l) fr h Q := by
 obtain ⟨n, fr', h', e, q⟩ := hw;exact ⟨n, fr', h', by simpa [runOps, gate, opV, hv] using e, q⟩
theorem wpo_a {d : Option Nat} {o : AOp} {l : List MO} {fr : Fr} {h : Hp} {Q : Fr → Hp → Prop} {b : Blk} {mk : Nat → V} (hv : aV fr o = some (b, mk)) (hw : WPo p ext l (putO fr d (mk h.next)) (h.new b) Q) : WPo p ext (⟨d, .a o, none⟩ :: l) fr h Q := by
 obtain ⟨n, fr', h', e, q⟩ := hw;exact ⟨n, fr', h', by simpa [runOps, gate, opV, hv] using e, q⟩
theorem wpo_load1 {d : Option Nat} {x : Opd} {l : List MO} {fr : Fr} {h : Hp} {Q : Fr → Hp → Prop} {b o : Nat} {v : V} (hx : ev fr x = .ptr b o) (hv : h.read b o 1 = some [v]) (hw : WPo p ext l (putO fr d v) h Q) : WPo p ext (⟨d, .load1 x, none⟩ :: l) fr h Q := by
 obtain ⟨n, fr', h', e, q⟩ := hw;exact ⟨n, fr', h', by simpa [runOps, gate, opV, hx, hv] using e, q⟩
theorem wpo_loadn {d : Option Nat} {x : Opd} {m : Nat} {l : List MO} {fr : Fr} {h : Hp} {Q : Fr → Hp → Prop} {b o : Nat} {v : List V} (hx : ev fr x = .ptr b o) (hv : h.read b o m = some v) (hw : WPo p ext l (putO fr d (.agg v)) h Q) : WPo p ext (⟨d, .loadn m x, none⟩ :: l) fr h Q := by
 obtain ⟨n, fr', h', e, q⟩ := hw;exact ⟨n, fr', h', by simpa [runOps, gate, opV, hx, hv] using e, q⟩
theorem wpo_e {d : Option Nat} {o : EOp} {l : List MO} {fr : Fr} {h h1 : Hp} {Q : Fr → Hp → Prop} {v : V} (hv : ∀ C, eV C fr h o = some (v, h1)) (hw : WPo p ext l (putO fr d v) h1 Q) : WPo p ext (⟨d, .e o, none⟩ :: l) fr h Q := by
 obtain ⟨n, fr', h', e, q⟩ := hw;exact ⟨n, fr', h', by simpa [runOps, gate, opV, hv] using e, q⟩
theorem wpo_call {d : Option Nat} {f : Nat} {args : List Opd} {l : List MO} {fr : Fr} {h : Hp} {Q : Fr → Hp → Prop} (hw : WPc p ext f (evs fr args) h fun v h1 => WPo p ext l (putO fr d v) h1 Q) : WPo p ext (⟨d, .e (.call f args), none⟩ :: l) fr h Q := by
 obtain ⟨n, v, h1, e, m, fr', h', e2, q⟩ := hw;refine ⟨max n m, fr', h', ?_, q⟩;have e1 := call_mono (p := p) (ext := ext) (Nat.le_max_left n m) _ _ _ _ e;have e3 := runOps_mono (call_mono (p := p) (ext := ext) (Nat.le_max_right n m)) e2;simpa [runOps, gate, opV, eV, e1] using e3
theorem wpo_extern {d : Option Nat} {f : Nat} {args : List Opd} {l : List MO} {fr : Fr} {h : Hp} {Q : Fr → Hp → Prop} (hw : WPc p ext f (evs fr args) h fun v h1 => WPo p ext l (putO fr d v) h1 Q) : WPo p ext (⟨d, .e (.extern f args), none⟩ :: l) fr h Q := by
 obtain ⟨n, v, h1, e, m, fr', h', e2, q⟩ := hw;refine ⟨max n m, fr', h', ?_, q⟩;have e1 := call_mono (p := p) (ext := ext) (Nat.le_max_left n m) _ _ _ _ e;have e3 := runOps_mono (call_mono (p := p) (ext := ext) (Nat.le_max_right n m)) e2;simpa [runOps, gate, opV, eV, e1] using e3
theorem wpo_callv {d : Option Nat} {x : Opd} {f : Nat} {first captured : List V} {args : List Opd} {l : List MO} {fr : Fr} {h : Hp} {Q : Fr → Hp → Prop} (hx : ev fr x = .func f first captured)
  (hw : WPc p ext f (first ++ evs fr args ++ captured) h fun v h1 => WPo p ext l (putO fr d v) h1 Q) : WPo p ext (⟨d, .e (.callv x args), none⟩ :: l) fr h Q := by
 obtain ⟨n, v, h1, e, m, fr', h', e2, q⟩ := hw;refine ⟨max n m, fr', h', ?_, q⟩;have e1 := call_mono (p := p) (ext := ext) (Nat.le_max_left n m) _ _ _ _ e;have e3 := runOps_mono (call_mono (p := p) (ext := ext) (Nat.le_max_right n m)) e2;rw [List.append_assoc] at e1;simpa [runOps, gate, opV, eV, hx, e1] using e3
theorem wpo_guard {d : Option Nat} {o : MOp} {t : Nat} {want : Bool} {l : List MO} {fr : Fr} {h : Hp} {Q : Fr → Hp → Prop} (b : Bool) (hb : ev fr (.tmp t) = .bool b)
  (hy : b = want → WPo p ext (⟨d, o, none⟩ :: l) fr h Q) (hn : b ≠ want → WPo p ext l (putO fr d (.tup [])) h Q) : WPo p ext (⟨d, o, some (t, want)⟩ :: l) fr h Q := by
 by_cases hbw : b = want
 ·obtain ⟨n, fr', h', e, q⟩ := hy hbw;refine ⟨n, fr', h', ?_, q⟩;have : beqB b want = true := (by subst hbw; cases b <;> rfl);simp only [runOps, gate, hb, this, cond_true] at e ⊢;exact e
 ·obtain ⟨n, fr', h', e, q⟩ := hn hbw;refine ⟨n, fr', h', ?_, q⟩;have : beqB b want = false := (by cases b <;> cases want <;> first | rfl | exact absurd rfl hbw);simp only [runOps, gate, hb, this, cond_false] at e ⊢;exact e
theorem wpo_guard_no {d : Option Nat} {o : MOp} {t : Nat} {want : Bool} {l : List MO} {fr : Fr} {h : Hp} {Q : Fr → Hp → Prop} {x : List V} (hb : ev fr (.tmp t) = .tup x) (hn : WPo p ext l (putO fr d (.tup [])) h Q) : WPo p ext (⟨d, o, some (t, want)⟩ :: l) fr h Q := by
 obtain ⟨n, fr', h', e, q⟩ := hn;refine ⟨n, fr', h', ?_, q⟩;simp only [runOps, gate, hb];exact e
theorem wpc_ext {f : Nat} {args : List V} {h h' : Hp} {v : V} {Q : V → Hp → Prop} (he : ext f args h = some (v, h')) (hq : Q v h') : WPc p ext f args h Q :=
 ⟨0, v, h', by simp [call, callV, he], hq⟩
def endR (rs : List RV) (Q : V → Hp → Prop) : Res → Prop
 | .ok fr h => ∃ v, resP fr h rs = some (v, h) ∧ Q v h
 | .ret fr h => ∃ v, resP fr h rs = some (v, h) ∧ Q v h
 | _ => False
theorem wpc_fun {f : Nat} {args : List V} {h : Hp} {Q : V → Hp → Prop} {m : Fun} (he : ext f args h = none) (hf : p.funs.get f = some m) (hn : args.length = m.nargs) (hw : WP p ext m.body (argsFr args 0 .leaf) h (endR m.results Q)) : WPc p ext f args h Q := by
 obtain ⟨n, hn', q⟩ := hw
 have hb : Nat.beq args.length m.nargs = true := by rw [nbeq]; exact hn
 cases e : exec p ext n m.body (argsFr args 0 .leaf) h with
 | fail => exact absurd e hn'
 | ok fr' h' =>
  rw [e] at q;obtain ⟨v, e1, q⟩ := q;exact ⟨n, v, h', by simp [call, callV, he, hf, hb, e, e1], q⟩
 | ret fr' h' =>
  rw [e] at q;obtain ⟨v, e1, q⟩ := q;exact ⟨n, v, h', by simp [call, callV, he, hf, hb, e, e1], q⟩
 | exit id fr' h' => rw [e] at q; exact q.elim
end Go.Vm
end
