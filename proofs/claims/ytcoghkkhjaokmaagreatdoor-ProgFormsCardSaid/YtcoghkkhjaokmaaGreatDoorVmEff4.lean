/-
  Vm, part 20: operations that may write: the joint.
-/
import Derived.Test.YtcoghkkhjaokmaaGreatDoorVmEff3
namespace Go.Vm

variable {P : Program} {φ : Emb}

theorem e_sim {env : Env} (ok : EnvOk P φ env) {fr : Fr} {a : Act} (hf : FR φ fr a) {o : Oper} {p : EOp} (hc : cOp P o.op = some (.e p)) (hnc : p.isCall = false) {call : Nat → List V → Hp → Option (V × Hp)}
    {h h' : Hp} {w : World} (hr : HR φ h w) (hfr : h.next < h'.next → φ.at_ h.next = none) {v : V} (hv : eV call fr h p = some (v, h')) : Acts P φ a o h w v h' := by
  cases hop : o.op <;> rw [hop] at hc <;> simp only [cOp, reduceCtorEq] at hc
  case store t A X =>
    split at hc
    case h_2 => cases hc
    rename_i n x y h1 h2 h3
    cases hc
    have ra := opd_rel ok.gl hf h2
    have rx := opd_rel ok.gl hf h3
    simp only [eV] at hv
    split at hv
    case h_2 => cases hv
    rename_i b of ea
    rw [cond_eq_ite] at hv
    split at hv
    case isFalse => cases hv
    rename_i hn
    rw [nbeq] at hn
    split at hv
    case h_2 => cases hv
    rename_i h1' hw
    cases hv
    rw [ea] at ra
    have he : execOp a.eval o = (do Instr.storeAt t (a.eval A) (a.eval X); pure Next.skip) := by simp only [execOp, hop]
    generalize a.eval A = au at ra he
    generalize a.eval X = xu at rx he
    cases ra with | ptr _ _ pl hp =>
    have rc := rx.cells ok.sym
    obtain ⟨pl', p1, p2, p3, p4⟩ := hr.store rc hw
    rw [hp] at p1; cases p1
    refine .of_skip he ⟨φ, _, ?_, p4⟩
    have hsz : (xu.cells.size = n) := by have := rc.length; simp at this; omega
    have hst := store_run (P := P) p2 (all_one ok.sym rc p3)
    simp only [Instr.storeAt, Instr.sureAddr, pure_bind, storeVar, Sem.run_bind, run_sizeOf_of h1, Result.andThen_ok, Sem.run_ite]
    rw [if_neg (by simp [hsz]), show pl.base + of = pl.base + of from rfl]
    simpa using hst
  case convert s d X =>
    split at hc
    case h_2 => cases hc
    rename_i x hx
    have rx := opd_rel ok.gl hf hx
    have he : execOp a.eval o = (do pure (Next.value (← convert s d (a.eval X)))) := by simp only [execOp, hop]
    generalize a.eval X = xu at rx he
    unfold cConv at hc
    split at hc
    · cases hc
    · cases hc
    · cases hc
    · split at hc <;> cases hc
    · rename_i e h1 h2
      split at hc
      case h_2 => cases hc
      rename_i h3
      cases hc
      simp only [eV] at hv
      obtain ⟨rfl, u, k1, k2⟩ := text_sim (P := P) hr h1 h2 h3 rx hv
      exact .of he ⟨u, φ, w, k1, k2, .refl hr⟩
    · rename_i e0 e h1 h2
      rw [cond_eq_ite] at hc
      split at hc
      case isFalse => cases hc
      rename_i esd
      rw [nbeq] at esd
      split at hc
      case h_2 => cases hc
      rename_i h3
      cases hc
      simp only [eV] at hv
      split at hv
      case h_2 => cases hv
      rename_i b of sz len c ex ex1
      split at hv
      case h_2 => cases hv
      rename_i l hb
      rw [cond_eq_ite] at hv
      split at hv
      case isFalse => cases hv
      rename_i hpos
      rw [nblt] at hpos
      cases hv
      rw [ex1] at rx
      cases rx with | slice _ _ _ _ _ _ ad cc hp k1 k2 k3 =>
      obtain ⟨pl, q1, q2, q3⟩ := hp (by omega)
      subst q2
      obtain ⟨w', m1, m2⟩ := mark_sim (P := P) hr hb q1 (o := pl.base + of)
      refine .of he ⟨_, φ, w', .slice _ _ _ _ _ _ _ _ (fun _ => ⟨pl, q1, rfl, q3⟩) k1 k2 k3, ?_, m2⟩
      subst esd
      have h12 : e0 = e := by rw [h1] at h2; cases h2; rfl
      subst h12
      simp only [convert, Sem.run_bind, run_underlying h1, Result.andThen_ok, run_underlying h3, beq_self_eq_true, m1, Sem.run_pure]
    · cases hc
  case lookup t M K okb =>
    split at hc
    case h_2 => cases hc
    rename_i kt e m k ht hm hk
    have rm := opd_rel ok.gl hf hm
    have rk := opd_rel ok.gl hf hk
    have he : execOp a.eval o = (do pure (Next.value (← Instr.lookup t (a.eval M) (a.eval K) okb))) := by simp only [execOp, hop]
    split at hc
    · rename_i j z h1 h2
      cases hc
      obtain ⟨it, zu, hi, hz0, rz, _⟩ := zeroP_info (φ := φ) ok.sym h2
      simp only [eV] at hv
      obtain ⟨rfl, u, k1, k2⟩ := lookup_sim (P := P) hr ht h1 (.inl ⟨rfl, j, rfl⟩) hi hz0 rz rm rk hv
      exact .of he ⟨u, φ, w, k1, k2, .refl hr⟩
    · rename_i z h1 h2
      cases hc
      obtain ⟨it, zu, hi, hz0, rz, _⟩ := zeroP_info (φ := φ) ok.sym h2
      simp only [eV] at hv
      obtain ⟨rfl, u, k1, k2⟩ := lookup_sim (P := P) hr ht h1 (.inr ⟨rfl, rfl⟩) hi hz0 rz rm rk hv
      exact .of he ⟨u, φ, w, k1, k2, .refl hr⟩
    · cases hc
  case mapUpdate t M K X =>
    split at hc
    case h_2 => cases hc
    rename_i kt e m k x ht hm hk hx
    have rm := opd_rel ok.gl hf hm
    have rk := opd_rel ok.gl hf hk
    have rx := opd_rel ok.gl hf hx
    have he : execOp a.eval o = (do Instr.mapUpdate t (a.eval M) (a.eval K) (a.eval X); pure Next.skip) := by simp only [execOp, hop]
    split at hc
    · rename_i j h1
      cases hc
      simp only [eV] at hv
      obtain ⟨rfl, w', k1, k2⟩ := mapput_sim (P := P) hr ht h1 (.inl ⟨rfl, j, rfl⟩) rm rk rx hv
      exact .of_skip he ⟨φ, w', k1, k2⟩
    · rename_i h1
      cases hc
      simp only [eV] at hv
      obtain ⟨rfl, w', k1, k2⟩ := mapput_sim (P := P) hr ht h1 (.inr ⟨rfl, rfl⟩) rm rk rx hv
      exact .of_skip he ⟨φ, w', k1, k2⟩
    · cases hc
  case call c =>
    unfold cCall at hc
    split at hc
    · cases hc
    rename_i args ha
    have rargs := opds_rel ok.gl hf ha
    split at hc
    · rename_i b hb
      have he : ∀ (s : Sem Value), (builtin b c.argTypes o.type (c.args.map fun | .const _ => true | _ => false) (c.args.map a.eval) = (do pure (Next.value (← s)))) → execOp a.eval o = (do pure (Next.value (← s))) := by
        intro s hs
        simp only [execOp, hop, resolve, hb, pure_bind, invoke]
        exact hs
      unfold cBuiltin at hc
      split at hc
      · -- len of a map
        rename_i x
        obtain ⟨u, ru, hau⟩ := args1 rargs
        cases ht0 : c.argTypes[0]? with
        | none => simp [ht0] at hc
        | some t =>
          simp only [ht0, Option.bind_some] at hc
          split at hc
          · cases hc
          · cases hc
          · cases hc
          · rename_i kt e ht
            cases hc
            refine .of (he (Builtin.len_ c.argTypes o.type (c.args.map a.eval)) rfl) ?_
            have hlen : ∀ w, (Builtin.len_ c.argTypes o.type (c.args.map a.eval)).run P w = (Builtin.len_ #[t] o.type #[u]).run P w := by
              intro w
              simp only [Builtin.len_, hau, ht0]
              rfl
            simp only [eV] at hv
            generalize ev fr x = xv at hv ru
            cases xv <;> simp only [reduceCtorEq] at hv
            · cases hv
              cases ru
              exact ⟨_, φ, w, .int _ _, by rw [hlen]; simp [Builtin.len_, run_underlying ht]; rfl, .refl hr⟩
            · split at hv
              case h_2 => cases hv
              rename_i kk l hb
              cases hv
              cases ru with | map _ pl hp =>
              obtain ⟨pl', es, clock, p1, p2, p3, _⟩ := map_at hr hb
              rw [hp] at p1; cases p1
              refine ⟨.int .i64 es.size, φ, w, ?_, by rw [hlen]; simp [Builtin.len_, run_underlying ht, MapKept.run_getObj_map p2]; rfl, .refl hr⟩
              have : l.length = es.size := by have := p3.1; simpa using this
              rw [this]
              exact .int _ _
          · cases hc
      · -- cap
        split at hc <;> cases hc
      · cases hc
      · cases hc
      · -- append
        rename_i s x
        obtain ⟨su, xu, rs, rx, hau⟩ := args2 rargs
        refine .of (he (Builtin.append_ c.argTypes o.type (c.args.map a.eval)) rfl) ?_
        rw [hau]
        cases ht0 : c.argTypes[0]? with
        | none => simp [ht0] at hc
        | some t =>
          simp only [ht0, Option.bind_some] at hc
          split at hc
          case h_2 => cases hc
          rename_i e ht
          split at hc
          case h_2 => cases hc
          rename_i sz bytes z hsz hby hz
          rw [cond_eq_ite] at hc
          split at hc
          case isFalse => cases hc
          rename_i hzl
          rw [nbeq] at hzl
          obtain ⟨it, hi, e1⟩ := szP_info hsz
          have e1 : it.size = sz + 1 := e1
          have e2 : it.bytes = bytes := by unfold bytesP at hby; simp [hi] at hby; exact hby
          split at hc
          · rename_i k hd
            cases hc
            simp only [eV] at hv
            rw [← e1, ← e2] at hv
            exact appendz_sim ok hr hfr ht0 ht hi hz (by omega) (by omega) rs rx hd hv
          · rename_i e' hd
            cases hc
            simp only [eV] at hv
            rw [← e1, ← e2] at hv
            exact append_sim ok hr hfr ht0 ht hi hz (by omega) (by omega) rs rx hd (fun k hk => by cases hk) hv
          · rename_i hd
            cases hc
            simp only [eV] at hv
            rw [← e1, ← e2] at hv
            exact append_sim ok hr hfr ht0 ht hi hz (by omega) (by omega) rs rx hd (fun k hk => by cases hk) hv
          · cases hc
      · -- copy
        rename_i d s
        obtain ⟨du, su, rd, rs, hau⟩ := args2 rargs
        refine .of (he (Builtin.copy_ c.argTypes o.type (c.args.map a.eval)) rfl) ?_
        rw [hau]
        cases ht0 : c.argTypes[0]? with
        | none => simp [ht0] at hc
        | some t =>
          simp only [ht0, Option.bind_some] at hc
          split at hc
          case h_2 => cases hc
          rename_i e ht
          split at hc
          case h_2 => cases hc
          rename_i sz hsz
          cases hc
          simp only [eV] at hv
          exact copy_sim ok hr ht0 ht hsz rd rs hv
      · -- clear
        rename_i x
        obtain ⟨u, ru, hau⟩ := args1 rargs
        refine .of (he (Builtin.clear_ c.argTypes o.type (c.args.map a.eval)) rfl) ?_
        rw [hau]
        cases ht0 : c.argTypes[0]? with
        | none => simp [ht0] at hc
        | some t =>
          simp only [ht0, Option.bind_some] at hc
          split at hc
          case h_2 => cases hc
          rename_i e ht
          split at hc
          case h_2 => cases hc
          rename_i z hz
          cases hc
          obtain ⟨it, zu, hi, hz0, rz, rzc⟩ := zeroP_info (φ := φ) ok.sym hz
          simp only [eV] at hv
          generalize ev fr x = xv at hv ru
          cases xv <;> (try simp only [reduceCtorEq] at hv)
          case nilslice =>
            cases hv
            cases ru
            exact ⟨_, φ, w, .tup _ _ .nil, by simp [Builtin.clear_, ht0, run_underlying ht], .refl hr⟩
          case slice b of sz len cc ex =>
            cases ru with | slice _ _ _ _ _ _ ad cc2 hp k1 k2 k3 =>
            cases len with
            | zero =>
              simp only [Option.some.injEq, Prod.mk.injEq] at hv
              obtain ⟨rfl, rfl⟩ := hv
              exact ⟨_, φ, w, .tup _ _ .nil, by simp [Builtin.clear_, ht0, run_underlying ht], .refl hr⟩
            | succ n =>
              simp only at hv
              rw [cond_eq_ite] at hv
              split at hv
              case isFalse => cases hv
              split at hv
              case h_2 => cases hv
              rename_i h1' hw
              cases hv
              obtain ⟨pl, p1, p2, p3, p4⟩ := hr.store (zeroCells_rel rzc (n + 1)) hw
              obtain ⟨pl', q1, q2, _⟩ := hp (by omega)
              rw [p1] at q1; cases q1
              subst q2
              have hst := store_run (P := P) p2 (all_one ok.sym (zeroCells_rel rzc (n + 1)) p3)
              refine ⟨_, φ, _, .tup _ _ .nil, ?_, p4⟩
              simp only [Builtin.clear_, ht0, List.getElem?_toArray, List.getElem?_cons_zero, Sem.run_bind, run_underlying ht, Result.andThen_ok, zeroValue, typeInfo, run_program, hi, hz0, Sem.run_pure, hst]
      · -- delete
        rename_i m k
        obtain ⟨mu, ku, rm, rk, hau⟩ := args2 rargs
        refine .of (he (Builtin.delete_ c.argTypes o.type (c.args.map a.eval)) rfl) ?_
        rw [hau]
        cases ht0 : c.argTypes[0]? with
        | none => simp [ht0] at hc
        | some t =>
          simp only [ht0, Option.bind_some] at hc
          split at hc
          case h_2 => cases hc
          rename_i kt e ht
          split at hc
          · rename_i j h1
            cases hc
            simp only [eV] at hv
            obtain ⟨rfl, w', k1, k2⟩ := delete_sim (P := P) (ty := o.type) hr ht0 ht h1 (.inl ⟨rfl, j, rfl⟩) rm rk hv
            exact ⟨_, φ, w', .tup _ _ .nil, k1, k2⟩
          · rename_i h1
            cases hc
            simp only [eV] at hv
            obtain ⟨rfl, w', k1, k2⟩ := delete_sim (P := P) (ty := o.type) hr ht0 ht h1 (.inr ⟨rfl, rfl⟩) rm rk hv
            exact ⟨_, φ, w', .tup _ _ .nil, k1, k2⟩
          · cases hc
      · cases hc
    · rw [cond_eq_ite] at hc
      split at hc <;> (cases hc; cases hnc)
    · split at hc
      · cases hc; cases hnc
      · cases hc
    · cases hc
  case panic x => cases hc; cases hv
  case makeFunc fn x y =>
    cases fn <;> simp only [reduceCtorEq] at hc
    split at hc <;> cases hc
  case makeMap t r' =>
    cases r' <;> simp only [reduceCtorEq] at hc
    repeat' (first | (cases hc; done) | split at hc)
  all_goals (repeat' (first | (cases hc; done) | (obtain ⟨y, _, e⟩ := map_some hc; cases e; done) | (rw [cond_eq_ite] at hc; split at hc) | split at hc))

end Go.Vm
