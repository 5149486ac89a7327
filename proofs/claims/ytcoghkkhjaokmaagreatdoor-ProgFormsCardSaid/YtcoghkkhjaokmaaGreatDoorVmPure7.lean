/-
  Vm, part 13: operations on values alone: the joint.
-/
import Derived.Test.YtcoghkkhjaokmaaGreatDoorVmPure6
namespace Go.Vm

variable {P : Program} {φ : Emb}

theorem builtin_does {env : Env} (ok : EnvOk P φ env) {fr : Fr} {a : Act} (hf : FR φ fr a) {o : Oper} {c : Call} (hop : o.op = .call c) {b : Builtin} (hb : c.callee = .builtin b) {args : List Opd}
    (hx : cOpds P c.args.toList = some args) {p : POp} (hc : cBuiltin P b c.argTypes args = some (.p p)) {v : V} (hv : pV env fr p = some v) : Does P φ a o v := by
  have rx := opds_rel ok.gl hf hx
  have he : ∀ (s : Sem Value), (builtin b c.argTypes o.type (c.args.map fun | .const _ => true | _ => false) (c.args.map a.eval) = (do pure (Next.value (← s)))) → execOp a.eval o = (do pure (Next.value (← s))) := by
    intro s hs
    simp only [execOp, hop, resolve, hb, pure_bind, invoke]
    exact hs
  have hargs : (c.args.map a.eval).toList = c.args.toList.map a.eval := by simp
  unfold cBuiltin at hc
  split at hc
  · -- len
    rename_i x
    have h1 : ∃ u, VR φ (ev fr x) u ∧ c.args.map a.eval = #[u] := by
      simp only [evs] at rx
      generalize hl : c.args.toList.map a.eval = us at rx hargs
      cases rx with | cons _ u _ _ r1 r2 =>
      cases r2
      exact ⟨u, r1, by apply Array.ext'; rw [hargs]⟩
    obtain ⟨u, hu, hau⟩ := h1
    cases ht0 : c.argTypes[0]? with
    | none => simp [ht0] at hc
    | some t =>
      simp only [ht0, Option.bind_some] at hc
      have hlen : ∀ w, (Builtin.len_ c.argTypes o.type (c.args.map a.eval)).run P w = (Builtin.len_ #[t] o.type #[u]).run P w := by
        intro w
        simp only [Builtin.len_, hau, ht0]
        rfl
      refine .of (he (Builtin.len_ c.argTypes o.type (c.args.map a.eval)) rfl) ?_
      split at hc
      · rename_i ht
        cases hc
        simp only [pV] at hv
        split at hv
        case h_2 => cases hv
        rename_i l hl
        cases hv
        rw [hl] at hu
        cases hu with | str s =>
        refine ⟨.int .i64 (s.size : Int), ?_, fun w => by rw [hlen, run_len_string w t o.type s ht]; rfl⟩
        have : (s.data.toList.map UInt8.toNat).length = s.size := by simp
        rw [this]
        exact .int _ _
      · rename_i e ht
        cases hc
        simp only [pV] at hv
        split at hv
        · rename_i hl; cases hv; rw [hl] at hu; cases hu
          exact ⟨_, .int _ _, fun w => by rw [hlen]; simp [Builtin.len_, run_underlying ht]; rfl⟩
        · rename_i hl; cases hv; rw [hl] at hu; cases hu
          exact ⟨_, .int _ _, fun w => by rw [hlen]; simp [Builtin.len_, run_underlying ht]; rfl⟩
        · cases hv
      · rename_i n e ht
        cases hc
        simp only [pV, Option.some.injEq] at hv
        subst hv
        exact ⟨_, .int _ _, fun w => by rw [hlen]; simp [Builtin.len_, run_underlying ht]; rfl⟩
      · cases hc
      · cases hc
  · -- cap
    rename_i x
    have h1 : ∃ u, VR φ (ev fr x) u ∧ c.args.map a.eval = #[u] := by
      simp only [evs] at rx
      generalize hl : c.args.toList.map a.eval = us at rx hargs
      cases rx with | cons _ u _ _ r1 r2 =>
      cases r2
      exact ⟨u, r1, by apply Array.ext'; rw [hargs]⟩
    obtain ⟨u, hu, hau⟩ := h1
    cases ht0 : c.argTypes[0]? with
    | none => simp [ht0] at hc
    | some t =>
      simp only [ht0, Option.bind_some] at hc
      have hlen : ∀ w, (Builtin.cap_ c.argTypes o.type (c.args.map a.eval)).run P w = (Builtin.cap_ #[t] o.type #[u]).run P w := by
        intro w
        simp only [Builtin.cap_, hau, ht0]
        rfl
      refine .of (he (Builtin.cap_ c.argTypes o.type (c.args.map a.eval)) rfl) ?_
      split at hc
      · rename_i e ht
        cases hc
        simp only [pV] at hv
        split at hv
        · rename_i hl; cases hv; rw [hl] at hu; cases hu
          exact ⟨_, .int _ _, fun w => by rw [hlen]; simp [Builtin.cap_, run_underlying ht]; rfl⟩
        · rename_i cc hl; cases hv; rw [hl] at hu
          cases hu with | slice _ _ _ _ _ _ ad cc2 hp h1 h2 h3 =>
          have := h3 rfl
          subst this
          exact ⟨_, .int _ _, fun w => by rw [hlen]; simp [Builtin.cap_, run_underlying ht]; rfl⟩
        · cases hv
      · cases hc
  · -- min
    cases hc
    refine .of (he (Builtin.min_ c.argTypes o.type (c.args.map a.eval)) rfl) ?_
    simp only [pV] at hv
    simp only [Builtin.min_, hargs]
    generalize c.args.toList.map a.eval = us at rx
    generalize evs fr args = vs at rx hv
    cases rx with
    | nil => cases hv
    | cons x u l r h1 h2 => exact fold_ok (min_ok ok.tab) l r x v u hv h1 h2
  · -- max
    cases hc
    refine .of (he (Builtin.max_ c.argTypes o.type (c.args.map a.eval)) rfl) ?_
    simp only [pV] at hv
    simp only [Builtin.max_, hargs]
    generalize c.args.toList.map a.eval = us at rx
    generalize evs fr args = vs at rx hv
    cases rx with
    | nil => cases hv
    | cons x u l r h1 h2 => exact fold_ok (max_ok ok.tab) l r x v u hv h1 h2
  all_goals (repeat (first | (cases hc; done) | split at hc))
  all_goals (try (rw [cond_eq_ite] at hc; split at hc))
  all_goals (try (repeat (first | (cases hc; done) | split at hc)))
  all_goals (cases hc)


theorem p_sim {env : Env} (ok : EnvOk P φ env) {fr : Fr} {a : Act} (hf : FR φ fr a) {o : Oper} {p : POp} (hc : cOp P o.op = some (.p p)) {v : V} (hv : pV env fr p = some v) : Does P φ a o v := by
  cases hop : o.op <;> rw [hop] at hc <;> simp only [cOp, reduceCtorEq] at hc
  case move x =>
    obtain ⟨y, hy, e⟩ := map_some hc
    cases e
    simp only [pV, Option.some.injEq] at hv
    subst hv
    exact ⟨_, opd_rel ok.gl hf hy, fun w => by simp [execOp, hop]⟩
  case assign x =>
    obtain ⟨y, hy, e⟩ := map_some hc
    cases e
    simp only [pV, Option.some.injEq] at hv
    subst hv
    exact ⟨_, opd_rel ok.gl hf hy, fun w => by simp [execOp, hop]⟩
  case pick c x y =>
    split at hc
    case h_2 => cases hc
    rename_i c' x' y' h1 h2 h3
    cases hc
    have rc := opd_rel ok.gl hf h1
    simp only [pV] at hv
    split at hv
    · rename_i e
      cases hv
      rw [e] at rc
      refine ⟨_, opd_rel ok.gl hf h2, fun w => ?_⟩
      generalize hcc : a.eval c = cu at rc
      cases rc
      simp [execOp, hop, hcc, asBool]
    · rename_i e
      cases hv
      rw [e] at rc
      refine ⟨_, opd_rel ok.gl hf h3, fun w => ?_⟩
      generalize hcc : a.eval c = cu at rc
      cases rc
      simp [execOp, hop, hcc, asBool]
    · cases hv
  case alloc t => split at hc <;> cases hc
  case box t x => obtain ⟨y, hy, e⟩ := map_some hc; cases e
  case build t parts =>
    refine .of (s := Instr.build t (parts.map fun p => (p.1, a.eval p.2))) (by simp only [execOp, hop]) ?_
    split at hc
    · rename_i z fs hz ht
      split at hc
      case h_2 => cases hc
      rename_i pl hpl
      obtain ⟨pr, hpr, e⟩ := map_some hc
      cases e
      simp only [pV] at hv
      split at hv
      case h_2 => cases hv
      rename_i c hfill
      cases hv
      obtain ⟨it, zu, hi, hz0, rz, rzc⟩ := zeroP_info ok.sym hz
      obtain ⟨cs', k1, k2⟩ := fill_ok ok.sym ok.gl hf _ parts.toList hpr hfill rzc
      refine ⟨.agg cs', .agg _ _ k2, fun w => run_build w t _ cs' ?_⟩
      simp only [Program.built, hi, ht, hz0, places_ok hpl]
      simpa using k1
    · rename_i z n e hz ht
      split at hc
      case h_2 => cases hc
      rename_i sz hsz
      obtain ⟨pr, hpr, e⟩ := map_some hc
      cases e
      simp only [pV] at hv
      split at hv
      case h_2 => cases hv
      rename_i c hfill
      cases hv
      obtain ⟨it, zu, hi, hz0, rz, rzc⟩ := zeroP_info ok.sym hz
      obtain ⟨ie, hie, rfl⟩ := szP_info hsz
      obtain ⟨cs', k1, k2⟩ := fill_ok ok.sym ok.gl hf _ parts.toList hpr hfill rzc
      refine ⟨.agg cs', .agg _ _ k2, fun w => run_build w t _ cs' ?_⟩
      simp only [Program.built, hi, ht, hz0, hie]
      simpa using k1
    · cases hc
  case buildSlice t len parts =>
    split at hc
    case h_2 => cases hc
    split at hc
    case h_2 => cases hc
    rw [cond_eq_ite] at hc; split at hc
    case isFalse => cases hc
    rw [cond_eq_ite] at hc; split at hc
    case isFalse => cases hc
    obtain ⟨y, hy, e⟩ := map_some hc; cases e
  case load t x => split at hc <;> cases hc
  case store t x y => split at hc <;> cases hc
  case nilCheck x =>
    obtain ⟨y, hy, e⟩ := map_some hc
    cases e
    have rx := opd_rel ok.gl hf hy
    simp only [pV] at hv
    split at hv
    · rename_i e
      cases hv
      rw [e] at rx
      refine ⟨_, rx, fun w => ?_⟩
      generalize hcc : a.eval x = cu at rx
      cases rx
      simp [execOp, hop, hcc]
    · rename_i e
      cases hv
      rw [e] at rx
      refine ⟨_, rx, fun w => ?_⟩
      generalize hcc : a.eval x = cu at rx
      cases rx
      simp [execOp, hop, hcc]
    · cases hv
  case binOp op t X Y yt =>
    split at hc
    case h_2 => cases hc
    rename_i x y hx hy
    obtain ⟨q, hq, e⟩ := map_some hc
    cases e
    exact bin_does ok hf hop hx hy hq hv
  case unOp op t X =>
    have he : execOp a.eval o = (do pure (Next.value (← Op.unary op (a.eval X)))) := by simp only [execOp, hop]
    split at hc
    all_goals first | (cases hc; done) | skip
    all_goals
      rename_i x hx
      cases hc
      have rx := opd_rel ok.gl hf hx
      simp only [pV] at hv
      split at hv
      case h_2 => cases hv
      rename_i e
      cases hv
      rw [e] at rx
      generalize a.eval X = cu at rx he
      cases rx
    · exact .of he ⟨_, .int _ _, fun w => by simp [Op.unary, Op.intArith, wr_eq]; exact congrArg _ (by show -_ = 0 - _; omega)⟩
    · exact .of he ⟨_, .bool _, fun w => by simp [Op.unary]⟩
    · rename_i k n
      refine .of he ⟨_, .int _ _, fun w => ?_⟩
      simp only [Op.unary, Op.intBits, Sem.run_pure, wr_eq, Int.ofNat_eq_natCast]
      congr 3
      rw [toU_eq, BitVec.toNat_xor]
      congr 1
      cases k <;> rfl
  case convert s d X =>
    split at hc
    case h_2 => cases hc
    rename_i x hx
    exact conv_does ok hf hop hx hc hv
  case makeInterface t X =>
    split at hc
    · cases hc
    · rename_i d h1 h2
      obtain ⟨y, hy, e⟩ := map_some hc
      cases e
      simp only [pV, Option.some.injEq] at hv
      subst hv
      refine .of (s := Instr.makeInterface t (a.eval X)) (by simp only [execOp, hop]) ⟨_, .iface _ _ _ (opd_rel ok.gl hf hy), fun w => ?_⟩
      cases d <;> first | (exact (h1 _ rfl).elim) | simp [Instr.makeInterface, run_underlying h2]
    · cases hc
  case makeFunc fn first captured =>
    cases fn <;> simp only [reduceCtorEq] at hc
    rename_i f
    split at hc
    case h_2 => cases hc
    rename_i x y hx hy
    cases hc
    simp only [pV, Option.some.injEq] at hv
    subst hv
    refine .of (s := Instr.makeFunc (.func f) (first.map a.eval) (captured.map a.eval)) (by simp only [execOp, hop]) ⟨.func (.func f) (first.map a.eval) (captured.map a.eval), .func _ _ _ _ _ ?_ ?_, fun w => by simp [Instr.makeFunc]⟩
    · have := opds_rel ok.gl hf hx; simpa using this
    · have := opds_rel ok.gl hf hy; simpa using this
  case makeMap t r =>
    cases r <;> simp only [reduceCtorEq] at hc
    split at hc
    · split at hc <;> cases hc
    · cases hc
  case makeSlice t l c =>
    split at hc
    case h_2 => cases hc
    split at hc <;> cases hc
  case slice t X lo hi mx =>
    split at hc
    case h_2 => cases hc
    rename_i x lo' hi' mx' hx hlo hhi hmx
    obtain ⟨q, hq, e⟩ := map_some hc
    cases e
    refine .of (s := Instr.sliceAt t (a.eval X) (lo.map a.eval) (hi.map a.eval) (mx.map a.eval)) (by simp only [execOp, hop]) ?_
    have rx := opd_rel ok.gl hf hx
    have rl := opt_rel ok.gl hf hlo
    have rh := opt_rel ok.gl hf hhi
    have rm := opt_rel ok.gl hf hmx
    unfold cSlice at hq
    split at hq
    · rename_i ht
      split at hq
      case h_2 => cases hq
      rename_i sz hsz
      cases hq
      exact sla_ok ht hsz rx rl rh rm hv
    · rename_i ht
      split at hq
      case h_2 => cases hq
      rename_i sz hsz
      cases hq
      exact slc_ok ht hsz rx rl rh rm hv
    · rename_i ht
      split at hq
      · cases hq
        have : mx = none := by
          cases mx with
          | none => rfl
          | some m =>
            simp only [cOpt] at hmx
            split at hmx <;> cases hmx
        subst this
        exact sls_ok ht rx rl rh hv
      · cases hq
    · cases hq
  case fieldAddr t X f =>
    split at hc
    case h_2 => cases hc
    rename_i fs x ht hx
    split at hc
    case h_2 => cases hc
    rename_i fd hfd
    split at hc
    case h_2 => cases hc
    rename_i sz hsz
    cases hc
    have rx := opd_rel ok.gl hf hx
    simp only [pV] at hv
    split at hv
    case h_2 => cases hv
    rename_i b of e
    cases hv
    rw [e] at rx
    generalize hcc : a.eval X = cu at rx
    cases rx with | ptr _ _ pl hp =>
    refine .of (s := Instr.fieldAt t (a.eval X) f) (by simp only [execOp, hop]) ⟨_, .ptr _ _ pl hp, fun w => ?_⟩
    rw [hcc]
    simp [Instr.fieldAt, run_underlying ht, hfd, Instr.sureAddr, fieldPlace, run_sizeOf_of hsz, Addr.add_mid, Nat.add_assoc]
  case field t X f =>
    split at hc
    case h_2 => cases hc
    rename_i fs x ht hx
    split at hc
    case h_2 => cases hc
    rename_i fd hfd
    have rx := opd_rel ok.gl hf hx
    have he : execOp a.eval o = (do pure (Next.value (← Instr.field t (a.eval X) f))) := by simp only [execOp, hop]
    generalize a.eval X = cu at rx he
    split at hc
    · rename_i n h1 h2
      cases hc
      simp only [pV] at hv
      split at hv
      case h_2 => cases hv
      rename_i l e
      rw [e] at rx
      cases rx with | agg _ cs hr =>
      split at hv
      case h_2 => cases hv
      rename_i r hr'
      cases hv
      obtain ⟨u, k1, k2⟩ := part_okn (P := P) h1 h2 hr hr'
      exact .of he ⟨u, k1, fun w => by simp [Instr.field, run_underlying ht, hfd, asAgg, k2]⟩
    · rename_i n h1 h2
      cases hc
      simp only [pV] at hv
      split at hv
      case h_2 => cases hv
      rename_i l e
      rw [e] at rx
      cases rx with | agg _ cs hr =>
      rw [getX_eq] at hv
      obtain ⟨u, k1, k2⟩ := part_ok1 (P := P) h1 hr hv
      exact .of he ⟨u, k1, fun w => by simp [Instr.field, run_underlying ht, hfd, asAgg, k2]⟩
    · cases hc
  case indexAddr t X I =>
    have he : execOp a.eval o = (do pure (Next.value (← Instr.indexAt t (a.eval X) (a.eval I)))) := by simp only [execOp, hop]
    split at hc
    · rename_i e x i ht hx hi
      split at hc
      case h_2 => cases hc
      rename_i sz hsz
      cases hc
      have rx := opd_rel ok.gl hf hx
      have ri := opd_rel ok.gl hf hi
      simp only [pV] at hv
      generalize a.eval X = cu at rx he
      generalize a.eval I = iu at ri he
      split at hv
      case h_2 => cases hv
      rename_i b of sz' len c ex ee
      rw [ee] at rx
      cases rx with | slice _ _ _ _ _ _ ad cc hp h1 h2 h3 =>
      split at hv
      case h_2 => cases hv
      rename_i n hn
      simp only [nblt_d, nbeq_d, Bool.cond_decide] at hv
      split at hv
      case isFalse => cases hv
      rename_i hlt
      split at hv
      case isFalse => cases hv
      rename_i esz
      subst esz
      cases hv
      obtain ⟨k, rfl⟩ := nat_rel hn ri
      obtain ⟨pl, p1, p2, p3⟩ := hp (by omega)
      refine .of he ⟨_, .ptr _ _ pl p1, fun w => ?_⟩
      have hb : (0 : Int) ≤ (n : Int) ∧ (n : Int) < (len : Int) := by omega
      simp only [Instr.indexAt, asIntOf, pure_bind, Sem.run_bind, run_underlying ht, Result.andThen_ok, Sem.run_pure, if_pos hb, run_sizeOf_of hsz, p2, Addr.add_mid, Int.toNat_natCast, Nat.add_assoc]
    · rename_i len e x i ht hx hi
      split at hc
      case h_2 => cases hc
      rename_i sz hsz
      cases hc
      have rx := opd_rel ok.gl hf hx
      have ri := opd_rel ok.gl hf hi
      simp only [pV] at hv
      generalize a.eval X = cu at rx he
      generalize a.eval I = iu at ri he
      split at hv
      case h_2 => cases hv
      rename_i b of ee
      rw [ee] at rx
      cases rx with | ptr _ _ pl p1 =>
      split at hv
      case h_2 => cases hv
      rename_i n hn
      simp only [nblt_d, Bool.cond_decide] at hv
      split at hv
      case isFalse => cases hv
      rename_i hlt
      cases hv
      obtain ⟨k, rfl⟩ := nat_rel hn ri
      refine .of he ⟨_, .ptr _ _ pl p1, fun w => ?_⟩
      have hb : (0 : Int) ≤ (n : Int) ∧ (n : Int) < (len : Int) := by omega
      simp only [Instr.indexAt, asIntOf, pure_bind, Sem.run_bind, run_underlying ht, Result.andThen_ok, Sem.run_pure, Instr.sureAddr, if_pos hb, run_sizeOf_of hsz, Addr.add_mid, Int.toNat_natCast, Nat.add_assoc]
    · cases hc
  case index t X I =>
    have he : execOp a.eval o = (do pure (Next.value (← Instr.index t (a.eval X) (a.eval I)))) := by simp only [execOp, hop]
    split at hc
    · rename_i x i ht hx hi
      cases hc
      have rx := opd_rel ok.gl hf hx
      have ri := opd_rel ok.gl hf hi
      simp only [pV] at hv
      generalize a.eval X = cu at rx he
      generalize a.eval I = iu at ri he
      split at hv
      case h_2 => cases hv
      rename_i l ee
      rw [ee] at rx
      cases rx with | str s =>
      split at hv
      case h_2 => cases hv
      rename_i n hn
      split at hv
      case h_2 => cases hv
      rename_i c hcx
      cases hv
      rw [getX_eq] at hcx
      obtain ⟨k, rfl⟩ := nat_rel hn ri
      have hlt : n < s.size := by
        have := (List.getElem?_eq_some_iff.1 hcx).1
        simpa using this
      have hcv : c = s[n].toNat := by
        have h1 : (s.data.toList.map UInt8.toNat)[n]? = some s[n].toNat := by
          simp only [List.getElem?_map]
          have : s.data.toList[n]? = some s[n] := by
            rw [Array.getElem?_toList]
            exact Array.getElem?_eq_getElem hlt
          rw [this]; rfl
        rw [h1] at hcx
        exact (Option.some.inj hcx).symm
      subst hcv
      refine .of he ⟨.int .u8 (s[n].toNat : Int), .int _ _, fun w => ?_⟩
      have : s[(n : Int).toNat]? = some s[n] := by rw [Int.toNat_natCast]; exact ByteArray.getElem?_lt' s n hlt
      simp only [Instr.index, asIntOf, pure_bind, Sem.run_bind, run_underlying ht, Result.andThen_ok, if_pos (Int.natCast_nonneg n), this, Sem.run_pure]
    · rename_i len e x i ht hx hi
      have rx := opd_rel ok.gl hf hx
      have ri := opd_rel ok.gl hf hi
      generalize a.eval X = cu at rx he
      generalize a.eval I = iu at ri he
      split at hc
      · rename_i n h1 h2
        cases hc
        simp only [pV] at hv
        split at hv
        case h_2 => cases hv
        rename_i l ee
        rw [ee] at rx
        cases rx with | agg _ cs hr =>
        split at hv
        case h_2 => cases hv
        rename_i m hm
        simp only [nblt_d, Bool.cond_decide] at hv
        split at hv
        case isFalse => cases hv
        rename_i hlt
        split at hv
        case h_2 => cases hv
        rename_i r hr'
        cases hv
        obtain ⟨k, rfl⟩ := nat_rel hm ri
        obtain ⟨u, k1, k2⟩ := part_okn (P := P) h1 h2 hr hr'
        have hb : (0 : Int) ≤ (m : Int) ∧ (m : Int) < (len : Int) := by omega
        refine .of he ⟨u, k1, fun w => ?_⟩
        simp only [Instr.index, asIntOf, pure_bind, Sem.run_bind, run_underlying ht, Result.andThen_ok, if_pos hb, run_sizeOf_of h2, Int.toNat_natCast, k2]
      · rename_i h1 h2
        cases hc
        simp only [pV] at hv
        split at hv
        case h_2 => cases hv
        rename_i l ee
        rw [ee] at rx
        cases rx with | agg _ cs hr =>
        split at hv
        case h_2 => cases hv
        rename_i m hm
        simp only [nblt_d, Bool.cond_decide] at hv
        split at hv
        case isFalse => cases hv
        rename_i hlt
        rw [getX_eq] at hv
        obtain ⟨k, rfl⟩ := nat_rel hm ri
        obtain ⟨u, k1, k2⟩ := part_ok1 (P := P) h1 hr hv
        have hb : (0 : Int) ≤ (m : Int) ∧ (m : Int) < (len : Int) := by omega
        refine .of he ⟨u, k1, fun w => ?_⟩
        simp only [Instr.index, asIntOf, pure_bind, Sem.run_bind, run_underlying ht, Result.andThen_ok, if_pos hb, run_sizeOf_of h2, Int.toNat_natCast, Nat.mul_one, k2]
      · cases hc
    · cases hc
  case lookup t m k b =>
    split at hc
    case h_2 => cases hc
    split at hc <;> cases hc
  case mapUpdate t m k x =>
    split at hc
    case h_2 => cases hc
    split at hc <;> cases hc
  case extract X i =>
    obtain ⟨y, hy, e⟩ := map_some hc
    cases e
    have rx := opd_rel ok.gl hf hy
    have he : execOp a.eval o = (do pure (Next.value (← Instr.extract (a.eval X) i))) := by simp only [execOp, hop]
    generalize a.eval X = cu at rx he
    simp only [pV] at hv
    split at hv
    case h_2 => cases hv
    rename_i l ee
    rw [ee] at rx
    cases rx with | tup _ cs hr =>
    rw [getX_eq] at hv
    obtain ⟨u, k1, k2⟩ := hr.get hv
    have k1' : cs[i]? = some u := by simpa using k1
    exact .of he ⟨u, k2, fun w => by simp [Instr.extract, k1']⟩
  case call c =>
    unfold cCall at hc
    split at hc
    · cases hc
    · rename_i args ha
      split at hc
      · rename_i b hb
        exact builtin_does ok hf hop hb ha hc hv
      · simp only [cond_eq_ite] at hc
        split at hc <;> cases hc
      · split at hc <;> cases hc
      · cases hc
  case panic x => cases hc

end Go.Vm
