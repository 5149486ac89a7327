/-
 Texts that the claim's last one rests on, joined.
-/
import Derived.Test.YtkgnhidkfdoimaaGreatBWorkFulla
import Derived.Laws.Append
import Derived.LoopN

section
namespace Go.Vm
variable {P : Program} {φ : Emb}
theorem map_some {α β : Type} {f : α → β} {x : Option α} {b : β} (h : x.map f = some b) : ∃ y, x = some y ∧ f y = b := by
 cases x with
 | none => cases h
 | some y => exact ⟨y, rfl, by simpa using h⟩
theorem slc_ok {t e : TypeId} (ht : P.underlying t = some (.slice e)) {sz : Nat} (hsz : szP P e = some sz) {x v : V} {u : Value} (hx : VR φ x u) {lo hi mx : Option V} {lo' hi' mx' : Option Value}
  (hl : OR φ lo lo') (hh : OR φ hi hi') (hm : OR φ mx mx') (h : slcV sz x lo hi mx = some v) : ∃ u', VR φ v u' ∧ ∀ w, (Instr.sliceAt t u lo' hi' mx').run P w = .ok u' w := by
 have hsl : ∀ w, (Instr.sliceAt t u lo' hi' mx').run P w = (Instr.slice t u lo' hi' mx').run P w := fun w => (by simp [Instr.sliceAt, run_underlying ht]);unfold slcV at h;split at h
 ·cases hx
  cases hn : needH hi mx with
  | false => rw [hn] at h; cases h
  | true =>
   rw [hn] at h;simp only [cond_true] at h
   cases h2 : boundM mx 0 true with
   | none => rw [h2] at h; cases h
   | some q =>
    obtain ⟨m, e1⟩ := q;rw [h2] at h;simp only at h
    cases h3 : boundH hi 0 m with
    | none => rw [h3] at h; cases h
    | some hh' =>
     rw [h3] at h;simp only at h
     cases h4 : boundL lo hh' with
     | none => rw [h4] at h; cases h
     | some l =>
      rw [h4] at h;simp only [Option.some.injEq] at h;subst h;obtain ⟨m', k1, k2, k3, k4, k5, k6⟩ := bounds_ok (P := P) (isS := true) hl hh hm (Nat.le_refl 0) hn h2 h3 h4 (Nat.le_refl 0)
      have hm0 : m = 0 := by
       cases mx with
       | none => exact (k5 rfl).2.1
       | some mv =>
        simp only [boundM] at h2
        cases hmn : natOf mv with
        | none => simp [hmn] at h2
        | some mn =>
         simp only [hmn, nble_d, Bool.cond_decide] at h2;split at h2
         ·simp at h2; omega
         ·cases h2
      have hm'0 : m' = 0 := by
       cases mx with
       | none => exact (k5 rfl).1
       | some mv => rw [(k6 (by simp)).1, hm0]
      refine ⟨_, .nilslice, fun w => ?_⟩;rw [hsl];simp only [Instr.slice, Sem.run_bind, run_underlying ht, Result.andThen_ok, k1, run_sizeOf_of hsz, Sem.run_pure];subst hm0; subst hm'0;have : hh' = 0 := (by omega);subst this;have : l = 0 := (by omega);subst this;simp
 ·rename_i b o sz' len c ex;simp only [nbeq_d, Bool.cond_decide] at h;split at h
  case isFalse => cases h
  rename_i esz;subst esz
  cases hn : needH hi mx with
  | false => rw [hn] at h; cases h
  | true =>
   rw [hn] at h;simp only [cond_true] at h
   cases h2 : boundM mx c ex with
   | none => rw [h2] at h; cases h
   | some q =>
    obtain ⟨m, e1⟩ := q;rw [h2] at h;simp only at h
    cases h3 : boundH hi len m with
    | none => rw [h3] at h; cases h
    | some hh' =>
     rw [h3] at h;simp only at h
     cases h4 : boundL lo hh' with
     | none => rw [h4] at h; cases h
     | some l =>
      rw [h4] at h;simp only [Option.some.injEq] at h;subst h
      cases hx with | slice _ _ _ _ _ _ ad cc hp hlen hcc hex =>
      obtain ⟨m', k1, k2, k3, k4, k5, k6⟩ := bounds_ok (P := P) (isS := true) hl hh hm hcc hn h2 h3 h4 hlen;refine ⟨.slice (some (if m' = l then ad else ad.add (l * sz))) (hh' - l) (m' - l), ?_, fun w => ?_⟩
      rotate_left
      ·rw [hsl];simp only [Instr.slice, Sem.run_bind, run_underlying ht, Result.andThen_ok, k1, run_sizeOf_of hsz, Sem.run_pure];split <;> rfl
      ·have hm'c : m' ≤ cc := by
        cases mx with
        | none => rw [(k5 rfl).1]; exact Nat.le_refl _
        | some mv =>
         rw [(k6 (by simp)).1];simp only [boundM] at h2
         cases hmn : natOf mv with
         | none => simp [hmn] at h2
         | some mn =>
          simp only [hmn, nble_d, Bool.cond_decide] at h2;split at h2
          ·simp at h2; omega
          ·cases h2
       refine .slice _ _ _ _ _ _ _ _ (fun hpos => ?_) (by omega) (by omega) (fun ee => ?_)
       ·obtain ⟨pl, p1, p2, p3⟩ := hp (by omega);refine ⟨pl, p1, ?_, fun ee => ?_⟩
        ·rw [if_neg (by omega), p2, Addr.add_mid]
         congr 1; omega
        ·cases mx with
         | none =>
          obtain ⟨q1, q2, q3⟩ := k5 rfl;subst q1;rw [← q3] at p3;have := p3 ee;rw [Nat.sub_mul];have : l * sz ≤ m' * sz := Nat.mul_le_mul_right _ (by omega);omega
         | some mv => rw [(k6 (by simp)).2] at ee; cases ee
       ·cases mx with
        | none =>
         obtain ⟨q1, q2, q3⟩ := k5 rfl;rw [q3] at ee;rw [q1, q2, hex ee]
        | some mv => rw [(k6 (by simp)).1]
 ·cases h
theorem sla_ok {t e : TypeId} {n : Nat} (ht : P.underlying t = some (.array n e)) {sz : Nat} (hsz : szP P e = some sz) {x v : V} {u : Value} (hx : VR φ x u) {lo hi mx : Option V} {lo' hi' mx' : Option Value}
  (hl : OR φ lo lo') (hh : OR φ hi hi') (hm : OR φ mx mx') (h : slaV n sz x lo hi mx = some v) : ∃ u', VR φ v u' ∧ ∀ w, (Instr.sliceAt t u lo' hi' mx').run P w = .ok u' w := by
 unfold slaV at h;split at h
 case h_2 => cases h
 rename_i b o
 cases hn : needH hi mx with
 | false => rw [hn] at h; cases h
 | true =>
  rw [hn] at h;simp only [cond_true] at h
  cases h2 : boundM mx n true with
  | none => rw [h2] at h; cases h
  | some q =>
   obtain ⟨m, e1⟩ := q;rw [h2] at h;simp only at h
   cases h3 : boundH hi n m with
   | none => rw [h3] at h; cases h
   | some hh' =>
    rw [h3] at h;simp only at h
    cases h4 : boundL lo hh' with
    | none => rw [h4] at h; cases h
    | some l =>
     rw [h4] at h;simp only [Option.some.injEq] at h;subst h
     cases hx with | ptr _ _ pl hp =>
     obtain ⟨m', k1, k2, k3, k4, k5, k6⟩ := bounds_ok (P := P) (isS := false) hl hh hm (Nat.le_refl n) hn h2 h3 h4 (Nat.le_refl n)
     have hmm : m' = m := by
      cases mx with
      | none => obtain ⟨q1, q2, _⟩ := k5 rfl; rw [q1, q2]
      | some mv => exact (k6 (by simp)).1
     subst hmm;refine ⟨.slice (some (if m' = l then ⟨pl.blk, pl.base + o, none⟩ else (⟨pl.blk, pl.base + o, none⟩ : Addr).add (l * sz))) (hh' - l) (m' - l), ?_, fun w => ?_⟩
     rotate_left
     ·simp only [Instr.sliceAt, Instr.sureAddr, Sem.run_bind, run_underlying ht, Result.andThen_ok, k1, run_sizeOf_of hsz, Sem.run_pure]
     ·refine .slice _ _ _ _ _ _ _ _ (fun hpos => ?_) (by omega) (Nat.le_refl _) (fun _ => rfl);refine ⟨pl, hp, ?_, fun ee => by cases ee⟩;rw [if_neg (by omega), Addr.add_mid]
      congr 1; omega
theorem ba_extract (s : ByteArray) (l h : Nat) : (s.extract l h).data.toList = (s.data.toList.take h).drop l := by
 rw [ByteArray.data_extract, Array.toList_extract];simp only [List.extract];rw [List.take_drop, List.drop_take]
 by_cases c : l ≤ h
 ·rw [show l + (h - l) = h by omega, ← List.drop_take]
 ·rw [show h - l = 0 by omega];simp;omega
theorem sls_ok {t : TypeId} (ht : P.underlying t = some .string) {x v : V} {u : Value} (hx : VR φ x u) {lo hi : Option V} {lo' hi' : Option Value}
  (hl : OR φ lo lo') (hh : OR φ hi hi') (h : slsV x lo hi = some v) : ∃ u', VR φ v u' ∧ ∀ w, (Instr.sliceAt t u lo' hi' none).run P w = .ok u' w := by
 have hsl : ∀ w, (Instr.sliceAt t u lo' hi' none).run P w = (Instr.slice t u lo' hi' none).run P w := fun w => (by simp [Instr.sliceAt, run_underlying ht]);unfold slsV at h;split at h
 case h_2 => cases h
 cases hx with | str s =>
 have hlen : (s.data.toList.map UInt8.toNat).length = s.size := (by simp);rw [hlen] at h
 cases h3 : boundH hi s.size s.size with
 | none => rw [h3] at h; cases h
 | some hh' =>
  rw [h3] at h;simp only at h
  cases h4 : boundL lo hh' with
  | none => rw [h4] at h; cases h
  | some l =>
   rw [h4] at h;simp only [Option.some.injEq] at h;subst h;obtain ⟨m', k1, k2, k3, k4, k5, k6⟩ := bounds_ok (P := P) (isS := false) (mx := none) (mx' := none) (ex := true) hl hh trivial (Nat.le_refl s.size) rfl rfl h3 h4 (Nat.le_refl s.size);refine ⟨.string (s.extract l hh'), ?_, fun w => ?_⟩
   ·have e : (s.extract l hh').data.toList.map UInt8.toNat = ((s.data.toList.map UInt8.toNat).take hh').drop l := by
     rw [ba_extract, List.map_drop, List.map_take]
    exact e ▸ .str (s.extract l hh')
   ·rw [hsl];simp only [Instr.slice, Sem.run_bind, run_underlying ht, Result.andThen_ok, Option.isSome_none, Bool.false_eq_true, if_false];simp [k1]
end Go.Vm
end

section
namespace Go.Vm
variable {P : Program} {φ : Emb}
structure EnvOk (P : Program) (φ : Emb) (env : Env) : Prop where
 sym : φ.symOk
 gl : φ.glOk P
 tab : TabOk P φ.sym env.tab
 ints : IntsOk P env.ints
theorem EnvOk.mono {ψ : Emb} {env : Env} (ok : EnvOk P φ env) (h : φ.Le ψ) : EnvOk P ψ env :=
 ⟨fun i => by rw [h.sym]; exact ok.sym i, fun g hg => let ⟨e, he⟩ := ok.gl g hg; ⟨e, h.at_ _ _ he⟩, by rw [h.sym]; exact ok.tab, ok.ints⟩
def Does (P : Program) (φ : Emb) (a : Act) (o : Oper) (v : V) : Prop := ∃ u, VR φ v u ∧ ∀ w, (execOp a.eval o).run P w = .ok (.value u) w
theorem Does.of {a : Act} {o : Oper} {v : V} {s : Sem Value} (he : execOp a.eval o = (do pure (Next.value (← s)))) (h : ∃ u, VR φ v u ∧ ∀ w, s.run P w = .ok u w) : Does P φ a o v := by
 obtain ⟨u, h1, h2⟩ := h;exact ⟨u, h1, fun w => by rw [he]; exact lift_ok (h2 w)⟩
theorem bin_does {env : Env} (ok : EnvOk P φ env) {fr : Fr} {a : Act} (hf : FR φ fr a) {o : Oper} {op : BinOp} {t yt : TypeId} {X Y : Operand} (hop : o.op = .binOp op t X Y yt) {x y : Opd}
  (hx : cOpd P X = some x) (hy : cOpd P Y = some y) {p : POp} (hc : cBin P op t x y (isConstOpd X || isConstOpd Y) = some p) {v : V} (hv : pV env fr p = some v) : Does P φ a o v := by
 have rx := opd_rel ok.gl hf hx;have ry := opd_rel ok.gl hf hy
 have he : execOp a.eval o = (do pure (Next.value (← (do eqGuard op t X Y (a.eval X) (a.eval Y); binOp op t (a.eval X) (a.eval Y) : Sem Value)))) := by simp only [execOp, hop]
 have hbin : ∀ v, binV env.tab op (ev fr x) (ev fr y) = some v → Does P φ a o v := fun v hv => by
  obtain ⟨u, h1, h2⟩ := bin_ok ok.tab rx ry hv;exact .of he ⟨u, h1, h2 t X Y⟩
 unfold cBin at hc;split at hc
 ·rename_i ms ht
  cases hq : isEqOp op with
  | false => simp [hq] at hc
  | true =>
   simp only [hq, cond_true, Option.some.injEq] at hc;subst hc;simp only [pV] at hv
   cases hr : eqiV env.ints (isConstOpd X || isConstOpd Y) (ev fr x) (ev fr y) with
   | none => simp [hr] at hv
   | some r =>
    simp only [hr, Option.some.injEq] at hv;subst hv
    have hl : (isConstOpd X || isConstOpd Y) = true → (∃ v, X = .const v) ∨ (∃ v, Y = .const v) := by
     intro h;rw [Bool.or_eq_true] at h;rcases h with h | h
     ·left; cases X <;> simp [isConstOpd] at h; exact ⟨_, rfl⟩
     ·right; cases Y <;> simp [isConstOpd] at h; exact ⟨_, rfl⟩
    cases op <;> simp [isEqOp] at hq
    ·exact .of he ⟨_, .bool _, fun w => eqi_ok ok.ints (neg := false) hr rx ry ht hl w⟩
    ·exact .of he ⟨_, .bool _, fun w => eqi_ok ok.ints (neg := true) hr rx ry ht hl w⟩
 ·cases hc; exact hbin v hv
 ·cases hc; exact hbin v hv
 ·rename_i h1 h2 h3
  cases hq : isEqOp op with
  | false => simp [hq] at hc
  | true =>
   cases hgt : P.eqGuardType P.depth t with
   | true => simp [hq, hgt] at hc
   | false =>
    simp only [hq, hgt, cond_true, cond_false] at hc
    cases hty : etyP P 3 t with
    | none => simp [hty] at hc
    | some e =>
     simp only [hty, Option.some.injEq] at hc;subst hc;simp only [pV] at hv;split at hv
     case h_2 => cases hv
     rename_i r hr;simp only [Option.some.injEq] at hv;subst hv;have hni : ∀ k, P.underlying t ≠ some (.int k) := fun k hk => h2 k hk;have hns : P.underlying t ≠ some .string := fun hk => h3 hk;cases op <;> simp [isEqOp] at hq
     ·exact .of he ⟨_, .bool _, fun w => eq_ok hty hgt hni hns hr rx ry false X Y w⟩
     ·exact .of he ⟨_, .bool _, fun w => eq_ok hty hgt hni hns hr rx ry true X Y w⟩
theorem valid_ascii (n : Nat) (h : n < 128) : Utf8.valid (n : Int) = true := by
 unfold Utf8.valid;rw [Bool.or_eq_true];left;rw [Bool.and_eq_true, decide_eq_true_iff, decide_eq_true_iff];refine ⟨Int.natCast_nonneg n, ?_⟩;have h1 : (n : Int) < 128 := (by omega);exact Int.lt_trans h1 (by decide)
theorem enc_ascii (n : Nat) (h : n < 128) : (Utf8.encode (Int.ofNat n)).data.toList.map UInt8.toNat = [n] := by
 have hc : (if Utf8.valid (Int.ofNat n) = true then (Int.ofNat n).toNat else Utf8.runeError) = n := by
  exact if_pos (valid_ascii n h)
 have : Utf8.encode (Int.ofNat n) = ⟨#[UInt8.ofNat n]⟩ := by
  unfold Utf8.encode;dsimp only;rw [hc, if_pos (show n < 0x80 from h)]
 rw [this];simp;omega
theorem conv_does {env : Env} (ok : EnvOk P φ env) {fr : Fr} {a : Act} (hf : FR φ fr a) {o : Oper} {s d : TypeId} {X : Operand} (hop : o.op = .convert s d X) {x : Opd}
  (hx : cOpd P X = some x) {p : POp} (hc : cConv P s d x = some (.p p)) {v : V} (hv : pV env fr p = some v) : Does P φ a o v := by
 have rx := opd_rel ok.gl hf hx;refine .of (s := convert s d (a.eval X)) (by simp only [execOp, hop]) ?_;generalize a.eval X = zu at rx ⊢;unfold cConv at hc;split at hc
 ·rename_i k1 k2 h1 h2;cases hc;simp only [pV] at hv;generalize ev fr x = z at hv rx;unfold convV at hv;split at hv
  all_goals first | (cases hv; done) | skip
  ·rename_i k0 k3 n h3;cases h3;cases hv;cases rx;exact ⟨_, .int _ _, fun w => by simp [convert, run_underlying h1, run_underlying h2, Conv.intToInt, wr_eq]⟩
  all_goals (rename_i h3; cases h3)
 ·rename_i h1 h2;cases hc;simp only [pV] at hv;generalize ev fr x = z at hv rx;unfold convV at hv;split at hv
  all_goals first | (cases hv; done) | skip
  all_goals (try (rename_i h3; cases h3; done))
  cases hv
  cases rx with | str s =>
  exact ⟨_, .str s, fun w => by simp [convert, run_underlying h1, run_underlying h2]⟩
 ·rename_i k1 h1 h2;cases hc;simp only [pV] at hv;generalize ev fr x = z at hv rx;unfold convV at hv;split at hv
  all_goals first | (cases hv; done) | skip
  all_goals (try (rename_i h3; cases h3; done))
  rename_i k0 n h3;simp only [nblt_d, Bool.cond_decide] at hv;split at hv
  case isFalse => cases hv
  rename_i hn;cases hv;cases rx
  have e : (Utf8.encode (Int.ofNat n)).data.toList.map UInt8.toNat = [n] := by
   exact enc_ascii n hn
  exact ⟨.string (Utf8.encode (Int.ofNat n)), e ▸ .str _, fun w => by simp [convert, run_underlying h1, run_underlying h2, Conv.intToString]⟩
 ·split at hc <;> cases hc
 ·split at hc <;> cases hc
 ·rename_i h1 h2;cases hb : Nat.beq s d <;> simp [hb] at hc;split at hc <;> cases hc
 ·cases hc
end Go.Vm
end

section
namespace Go.Vm
variable {P : Program} {φ : Emb}
theorem builtin_does {env : Env} (ok : EnvOk P φ env) {fr : Fr} {a : Act} (hf : FR φ fr a) {o : Oper} {c : Call} (hop : o.op = .call c) {b : Builtin} (hb : c.callee = .builtin b) {args : List Opd}
  (hx : cOpds P c.args.toList = some args) {p : POp} (hc : cBuiltin P b c.argTypes args = some (.p p)) {v : V} (hv : pV env fr p = some v) : Does P φ a o v := by
 have rx := opds_rel ok.gl hf hx
 have he : ∀ (s : Sem Value), (builtin b c.argTypes o.type (c.args.map fun | .const _ => true | _ => false) (c.args.map a.eval) = (do pure (Next.value (← s)))) → execOp a.eval o = (do pure (Next.value (← s))) := by
  intro s hs;simp only [execOp, hop, resolve, hb, pure_bind, invoke];exact hs
 have hargs : (c.args.map a.eval).toList = c.args.toList.map a.eval := (by simp);unfold cBuiltin at hc;split at hc
 ·
  rename_i x
  have h1 : ∃ u, VR φ (ev fr x) u ∧ c.args.map a.eval = #[u] := by
   simp only [evs] at rx;generalize hl : c.args.toList.map a.eval = us at rx hargs
   cases rx with | cons _ u _ _ r1 r2 =>
   cases r2;exact ⟨u, r1, by apply Array.ext'; rw [hargs]⟩
  obtain ⟨u, hu, hau⟩ := h1
  cases ht0 : c.argTypes[0]? with
  | none => simp [ht0] at hc
  | some t =>
   simp only [ht0, Option.bind_some] at hc
   have hlen : ∀ w, (Builtin.len_ c.argTypes o.type (c.args.map a.eval)).run P w = (Builtin.len_ #[t] o.type #[u]).run P w := by
    intro w;simp only [Builtin.len_, hau, ht0];rfl
   refine .of (he (Builtin.len_ c.argTypes o.type (c.args.map a.eval)) rfl) ?_;split at hc
   ·rename_i ht;cases hc;simp only [pV] at hv;split at hv
    case h_2 => cases hv
    rename_i l hl;cases hv;rw [hl] at hu
    cases hu with | str s =>
    refine ⟨.int .i64 (s.size : Int), ?_, fun w => by rw [hlen, run_len_string w t o.type s ht]; rfl⟩;have : (s.data.toList.map UInt8.toNat).length = s.size := (by simp);rw [this];exact .int _ _
   ·rename_i e ht;cases hc;simp only [pV] at hv;split at hv
    ·rename_i hl; cases hv; rw [hl] at hu; cases hu;exact ⟨_, .int _ _, fun w => by rw [hlen]; simp [Builtin.len_, run_underlying ht]; rfl⟩
    ·rename_i hl; cases hv; rw [hl] at hu; cases hu;exact ⟨_, .int _ _, fun w => by rw [hlen]; simp [Builtin.len_, run_underlying ht]; rfl⟩
    ·cases hv
   ·rename_i n e ht;cases hc;simp only [pV, Option.some.injEq] at hv;subst hv;exact ⟨_, .int _ _, fun w => by rw [hlen]; simp [Builtin.len_, run_underlying ht]; rfl⟩
   ·cases hc
   ·cases hc
 ·
  rename_i x
  have h1 : ∃ u, VR φ (ev fr x) u ∧ c.args.map a.eval = #[u] := by
   simp only [evs] at rx;generalize hl : c.args.toList.map a.eval = us at rx hargs
   cases rx with | cons _ u _ _ r1 r2 =>
   cases r2;exact ⟨u, r1, by apply Array.ext'; rw [hargs]⟩
  obtain ⟨u, hu, hau⟩ := h1
  cases ht0 : c.argTypes[0]? with
  | none => simp [ht0] at hc
  | some t =>
   simp only [ht0, Option.bind_some] at hc
   have hlen : ∀ w, (Builtin.cap_ c.argTypes o.type (c.args.map a.eval)).run P w = (Builtin.cap_ #[t] o.type #[u]).run P w := by
    intro w;simp only [Builtin.cap_, hau, ht0];rfl
   refine .of (he (Builtin.cap_ c.argTypes o.type (c.args.map a.eval)) rfl) ?_;split at hc
   ·rename_i e ht;cases hc;simp only [pV] at hv;split at hv
    ·rename_i hl; cases hv; rw [hl] at hu; cases hu;exact ⟨_, .int _ _, fun w => by rw [hlen]; simp [Builtin.cap_, run_underlying ht]; rfl⟩
    ·rename_i cc hl; cases hv; rw [hl] at hu
     cases hu with | slice _ _ _ _ _ _ ad cc2 hp h1 h2 h3 =>
     have := h3 rfl;subst this;exact ⟨_, .int _ _, fun w => by rw [hlen]; simp [Builtin.cap_, run_underlying ht]; rfl⟩
    ·cases hv
   ·cases hc
 ·
  cases hc;refine .of (he (Builtin.min_ c.argTypes o.type (c.args.map a.eval)) rfl) ?_;simp only [pV] at hv;simp only [Builtin.min_, hargs];generalize c.args.toList.map a.eval = us at rx;generalize evs fr args = vs at rx hv
  cases rx with
  | nil => cases hv
  | cons x u l r h1 h2 => exact fold_ok (min_ok ok.tab) l r x v u hv h1 h2
 ·
  cases hc;refine .of (he (Builtin.max_ c.argTypes o.type (c.args.map a.eval)) rfl) ?_;simp only [pV] at hv;simp only [Builtin.max_, hargs];generalize c.args.toList.map a.eval = us at rx;generalize evs fr args = vs at rx hv
  cases rx with
  | nil => cases hv
  | cons x u l r h1 h2 => exact fold_ok (max_ok ok.tab) l r x v u hv h1 h2
 all_goals (repeat (first | (cases hc; done) | split at hc))
 all_goals (try (rw [cond_eq_ite] at hc; split at hc))
 all_goals (try (repeat (first | (cases hc; done) | split at hc)))
 all_goals (cases hc)
theorem p_sim {env : Env} (ok : EnvOk P φ env) {fr : Fr} {a : Act} (hf : FR φ fr a) {o : Oper} {p : POp} (hc : cOp P o.op = some (.p p)) {v : V} (hv : pV env fr p = some v) : Does P φ a o v := by
 cases hop : o.op <;> rw [hop] at hc <;> simp only [cOp, reduceCtorEq] at hc
 case move x =>
  obtain ⟨y, hy, e⟩ := map_some hc;cases e;simp only [pV, Option.some.injEq] at hv;subst hv;exact ⟨_, opd_rel ok.gl hf hy, fun w => by simp [execOp, hop]⟩
 case assign x =>
  obtain ⟨y, hy, e⟩ := map_some hc;cases e;simp only [pV, Option.some.injEq] at hv;subst hv;exact ⟨_, opd_rel ok.gl hf hy, fun w => by simp [execOp, hop]⟩
 case pick c x y =>
  split at hc
  case h_2 => cases hc
  rename_i c' x' y' h1 h2 h3;cases hc;have rc := opd_rel ok.gl hf h1;simp only [pV] at hv;split at hv
  ·rename_i e;cases hv;rw [e] at rc;refine ⟨_, opd_rel ok.gl hf h2, fun w => ?_⟩;generalize hcc : a.eval c = cu at rc;cases rc;simp [execOp, hop, hcc, asBool]
  ·rename_i e;cases hv;rw [e] at rc;refine ⟨_, opd_rel ok.gl hf h3, fun w => ?_⟩;generalize hcc : a.eval c = cu at rc;cases rc;simp [execOp, hop, hcc, asBool]
  ·cases hv
 case alloc t => split at hc <;> cases hc
 case box t x => obtain ⟨y, hy, e⟩ := map_some hc; cases e
 case build t parts =>
  refine .of (s := Instr.build t (parts.map fun p => (p.1, a.eval p.2))) (by simp only [execOp, hop]) ?_;split at hc
  ·rename_i z fs hz ht;split at hc
   case h_2 => cases hc
   rename_i pl hpl;obtain ⟨pr, hpr, e⟩ := map_some hc;cases e;simp only [pV] at hv;split at hv
   case h_2 => cases hv
   rename_i c hfill;cases hv;obtain ⟨it, zu, hi, hz0, rz, rzc⟩ := zeroP_info ok.sym hz;obtain ⟨cs', k1, k2⟩ := fill_ok ok.sym ok.gl hf _ parts.toList hpr hfill rzc;refine ⟨.agg cs', .agg _ _ k2, fun w => run_build w t _ cs' ?_⟩;simp only [Program.built, hi, ht, hz0, places_ok hpl];simpa using k1
  ·rename_i z n e hz ht;split at hc
   case h_2 => cases hc
   rename_i sz hsz;obtain ⟨pr, hpr, e⟩ := map_some hc;cases e;simp only [pV] at hv;split at hv
   case h_2 => cases hv
   rename_i c hfill;cases hv;obtain ⟨it, zu, hi, hz0, rz, rzc⟩ := zeroP_info ok.sym hz;obtain ⟨ie, hie, rfl⟩ := szP_info hsz;obtain ⟨cs', k1, k2⟩ := fill_ok ok.sym ok.gl hf _ parts.toList hpr hfill rzc;refine ⟨.agg cs', .agg _ _ k2, fun w => run_build w t _ cs' ?_⟩;simp only [Program.built, hi, ht, hz0, hie];simpa using k1
  ·cases hc
 case buildSlice t len parts =>
  split at hc
  case h_2 => cases hc
  split at hc
  case h_2 => cases hc
  rw [cond_eq_ite] at hc; split at hc
  case isFalse => cases hc
  rw [cond_eq_ite] at hc; split at hc
  case isFalse => cases hc
  obtain ⟨y, hy, e⟩ := map_some hc; cases e
 case load t x => split at hc <;> cases hc
 case store t x y => split at hc <;> cases hc
 case nilCheck x =>
  obtain ⟨y, hy, e⟩ := map_some hc;cases e;have rx := opd_rel ok.gl hf hy;simp only [pV] at hv;split at hv
  ·rename_i e;cases hv;rw [e] at rx;refine ⟨_, rx, fun w => ?_⟩;generalize hcc : a.eval x = cu at rx;cases rx;simp [execOp, hop, hcc]
  ·rename_i e;cases hv;rw [e] at rx;refine ⟨_, rx, fun w => ?_⟩;generalize hcc : a.eval x = cu at rx;cases rx;simp [execOp, hop, hcc]
  ·cases hv
 case binOp op t X Y yt =>
  split at hc
  case h_2 => cases hc
  rename_i x y hx hy;obtain ⟨q, hq, e⟩ := map_some hc;cases e;exact bin_does ok hf hop hx hy hq hv
 case unOp op t X =>
  have he : execOp a.eval o = (do pure (Next.value (← Op.unary op (a.eval X)))) := by simp only [execOp, hop]
  split at hc
  all_goals first | (cases hc; done) | skip
  all_goals
   rename_i x hx;cases hc;have rx := opd_rel ok.gl hf hx;simp only [pV] at hv;split at hv
   case h_2 => cases hv
   rename_i e;cases hv;rw [e] at rx;generalize a.eval X = cu at rx he;cases rx
  ·exact .of he ⟨_, .int _ _, fun w => by simp [Op.unary, Op.intArith, wr_eq]; exact congrArg _ (by show -_ = 0 - _; omega)⟩
  ·exact .of he ⟨_, .bool _, fun w => by simp [Op.unary]⟩
  ·rename_i k n;refine .of he ⟨_, .int _ _, fun w => ?_⟩;simp only [Op.unary, Op.intBits, Sem.run_pure, wr_eq, Int.ofNat_eq_natCast]
   congr 3
   rw [toU_eq, BitVec.toNat_xor]
   congr 1
   cases k <;> rfl
 case convert s d X =>
  split at hc
  case h_2 => cases hc
  rename_i x hx;exact conv_does ok hf hop hx hc hv
 case makeInterface t X =>
  split at hc
  ·cases hc
  ·rename_i d h1 h2;obtain ⟨y, hy, e⟩ := map_some hc;cases e;simp only [pV, Option.some.injEq] at hv;subst hv;refine .of (s := Instr.makeInterface t (a.eval X)) (by simp only [execOp, hop]) ⟨_, .iface _ _ _ (opd_rel ok.gl hf hy), fun w => ?_⟩
   cases d <;> first | (exact (h1 _ rfl).elim) | simp [Instr.makeInterface, run_underlying h2]
  ·cases hc
 case makeFunc fn first captured =>
  cases fn <;> simp only [reduceCtorEq] at hc;rename_i f;split at hc
  case h_2 => cases hc
  rename_i x y hx hy;cases hc;simp only [pV, Option.some.injEq] at hv;subst hv;refine .of (s := Instr.makeFunc (.func f) (first.map a.eval) (captured.map a.eval)) (by simp only [execOp, hop]) ⟨.func (.func f) (first.map a.eval) (captured.map a.eval), .func _ _ _ _ _ ?_ ?_, fun w => by simp [Instr.makeFunc]⟩
  ·have := opds_rel ok.gl hf hx; simpa using this
  ·have := opds_rel ok.gl hf hy; simpa using this
 case makeMap t r =>
  cases r <;> simp only [reduceCtorEq] at hc;split at hc
  ·split at hc <;> cases hc
  ·cases hc
 case makeSlice t l c =>
  split at hc
  case h_2 => cases hc
  split at hc <;> cases hc
 case slice t X lo hi mx =>
  split at hc
  case h_2 => cases hc
  rename_i x lo' hi' mx' hx hlo hhi hmx;obtain ⟨q, hq, e⟩ := map_some hc;cases e;refine .of (s := Instr.sliceAt t (a.eval X) (lo.map a.eval) (hi.map a.eval) (mx.map a.eval)) (by simp only [execOp, hop]) ?_;have rx := opd_rel ok.gl hf hx;have rl := opt_rel ok.gl hf hlo;have rh := opt_rel ok.gl hf hhi;have rm := opt_rel ok.gl hf hmx;unfold cSlice at hq;split at hq
  ·rename_i ht;split at hq
   case h_2 => cases hq
   rename_i sz hsz;cases hq;exact sla_ok ht hsz rx rl rh rm hv
  ·rename_i ht;split at hq
   case h_2 => cases hq
   rename_i sz hsz;cases hq;exact slc_ok ht hsz rx rl rh rm hv
  ·rename_i ht;split at hq
   ·cases hq
    have : mx = none := by
     cases mx with
     | none => rfl
     | some m =>
      simp only [cOpt] at hmx;split at hmx <;> cases hmx
    subst this;exact sls_ok ht rx rl rh hv
   ·cases hq
  ·cases hq
 case fieldAddr t X f =>
  split at hc
  case h_2 => cases hc
  rename_i fs x ht hx;split at hc
  case h_2 => cases hc
  rename_i fd hfd;split at hc
  case h_2 => cases hc
  rename_i sz hsz;cases hc;have rx := opd_rel ok.gl hf hx;simp only [pV] at hv;split at hv
  case h_2 => cases hv
  rename_i b of e;cases hv;rw [e] at rx;generalize hcc : a.eval X = cu at rx
  cases rx with | ptr _ _ pl hp =>
  refine .of (s := Instr.fieldAt t (a.eval X) f) (by simp only [execOp, hop]) ⟨_, .ptr _ _ pl hp, fun w => ?_⟩;rw [hcc];simp [Instr.fieldAt, run_underlying ht, hfd, Instr.sureAddr, fieldPlace, run_sizeOf_of hsz, Addr.add_mid, Nat.add_assoc]
 case field t X f =>
  split at hc
  case h_2 => cases hc
  rename_i fs x ht hx;split at hc
  case h_2 => cases hc
  rename_i fd hfd;have rx := opd_rel ok.gl hf hx
  have he : execOp a.eval o = (do pure (Next.value (← Instr.field t (a.eval X) f))) := by simp only [execOp, hop]
  generalize a.eval X = cu at rx he;split at hc
  ·rename_i n h1 h2;cases hc;simp only [pV] at hv;split at hv
   case h_2 => cases hv
   rename_i l e;rw [e] at rx
   cases rx with | agg _ cs hr =>
   split at hv
   case h_2 => cases hv
   rename_i r hr';cases hv;obtain ⟨u, k1, k2⟩ := part_okn (P := P) h1 h2 hr hr';exact .of he ⟨u, k1, fun w => by simp [Instr.field, run_underlying ht, hfd, asAgg, k2]⟩
  ·rename_i n h1 h2;cases hc;simp only [pV] at hv;split at hv
   case h_2 => cases hv
   rename_i l e;rw [e] at rx
   cases rx with | agg _ cs hr =>
   rw [getX_eq] at hv;obtain ⟨u, k1, k2⟩ := part_ok1 (P := P) h1 hr hv;exact .of he ⟨u, k1, fun w => by simp [Instr.field, run_underlying ht, hfd, asAgg, k2]⟩
  ·cases hc
 case indexAddr t X I =>
  have he : execOp a.eval o = (do pure (Next.value (← Instr.indexAt t (a.eval X) (a.eval I)))) := by simp only [execOp, hop]
  split at hc
  ·rename_i e x i ht hx hi;split at hc
   case h_2 => cases hc
   rename_i sz hsz;cases hc;have rx := opd_rel ok.gl hf hx;have ri := opd_rel ok.gl hf hi;simp only [pV] at hv;generalize a.eval X = cu at rx he;generalize a.eval I = iu at ri he;split at hv
   case h_2 => cases hv
   rename_i b of sz' len c ex ee;rw [ee] at rx
   cases rx with | slice _ _ _ _ _ _ ad cc hp h1 h2 h3 =>
   split at hv
   case h_2 => cases hv
   rename_i n hn;simp only [nblt_d, nbeq_d, Bool.cond_decide] at hv;split at hv
   case isFalse => cases hv
   rename_i hlt;split at hv
   case isFalse => cases hv
   rename_i esz;subst esz;cases hv;obtain ⟨k, rfl⟩ := nat_rel hn ri;obtain ⟨pl, p1, p2, p3⟩ := hp (by omega);refine .of he ⟨_, .ptr _ _ pl p1, fun w => ?_⟩;have hb : (0 : Int) ≤ (n : Int) ∧ (n : Int) < (len : Int) := (by omega);simp only [Instr.indexAt, asIntOf, pure_bind, Sem.run_bind, run_underlying ht, Result.andThen_ok, Sem.run_pure, if_pos hb, run_sizeOf_of hsz, p2, Addr.add_mid, Int.toNat_natCast, Nat.add_assoc]
  ·rename_i len e x i ht hx hi;split at hc
   case h_2 => cases hc
   rename_i sz hsz;cases hc;have rx := opd_rel ok.gl hf hx;have ri := opd_rel ok.gl hf hi;simp only [pV] at hv;generalize a.eval X = cu at rx he;generalize a.eval I = iu at ri he;split at hv
   case h_2 => cases hv
   rename_i b of ee;rw [ee] at rx
   cases rx with | ptr _ _ pl p1 =>
   split at hv
   case h_2 => cases hv
   rename_i n hn;simp only [nblt_d, Bool.cond_decide] at hv;split at hv
   case isFalse => cases hv
   rename_i hlt;cases hv;obtain ⟨k, rfl⟩ := nat_rel hn ri;refine .of he ⟨_, .ptr _ _ pl p1, fun w => ?_⟩;have hb : (0 : Int) ≤ (n : Int) ∧ (n : Int) < (len : Int) := (by omega);simp only [Instr.indexAt, asIntOf, pure_bind, Sem.run_bind, run_underlying ht, Result.andThen_ok, Sem.run_pure, Instr.sureAddr, if_pos hb, run_sizeOf_of hsz, Addr.add_mid, Int.toNat_natCast, Nat.add_assoc]
  ·cases hc
 case index t X I =>
  have he : execOp a.eval o = (do pure (Next.value (← Instr.index t (a.eval X) (a.eval I)))) := by simp only [execOp, hop]
  split at hc
  ·rename_i x i ht hx hi;cases hc;have rx := opd_rel ok.gl hf hx;have ri := opd_rel ok.gl hf hi;simp only [pV] at hv;generalize a.eval X = cu at rx he;generalize a.eval I = iu at ri he;split at hv
   case h_2 => cases hv
   rename_i l ee;rw [ee] at rx
   cases rx with | str s =>
   split at hv
   case h_2 => cases hv
   rename_i n hn;split at hv
   case h_2 => cases hv
   rename_i c hcx;cases hv;rw [getX_eq] at hcx;obtain ⟨k, rfl⟩ := nat_rel hn ri
   have hlt : n < s.size := by
    have := (List.getElem?_eq_some_iff.1 hcx).1;simpa using this
   have hcv : c = s[n].toNat := by
    have h1 : (s.data.toList.map UInt8.toNat)[n]? = some s[n].toNat := by
     simp only [List.getElem?_map]
     have : s.data.toList[n]? = some s[n] := by
      rw [Array.getElem?_toList];exact Array.getElem?_eq_getElem hlt
     rw [this]; rfl
    rw [h1] at hcx;exact (Option.some.inj hcx).symm
   subst hcv;refine .of he ⟨.int .u8 (s[n].toNat : Int), .int _ _, fun w => ?_⟩;have : s[(n : Int).toNat]? = some s[n] := (by rw [Int.toNat_natCast]; exact ByteArray.getElem?_lt' s n hlt);simp only [Instr.index, asIntOf, pure_bind, Sem.run_bind, run_underlying ht, Result.andThen_ok, if_pos (Int.natCast_nonneg n), this, Sem.run_pure]
  ·rename_i len e x i ht hx hi;have rx := opd_rel ok.gl hf hx;have ri := opd_rel ok.gl hf hi;generalize a.eval X = cu at rx he;generalize a.eval I = iu at ri he;split at hc
   ·rename_i n h1 h2;cases hc;simp only [pV] at hv;split at hv
    case h_2 => cases hv
    rename_i l ee;rw [ee] at rx
    cases rx with | agg _ cs hr =>
    split at hv
    case h_2 => cases hv
    rename_i m hm;simp only [nblt_d, Bool.cond_decide] at hv;split at hv
    case isFalse => cases hv
    rename_i hlt;split at hv
    case h_2 => cases hv
    rename_i r hr';cases hv;obtain ⟨k, rfl⟩ := nat_rel hm ri;obtain ⟨u, k1, k2⟩ := part_okn (P := P) h1 h2 hr hr';have hb : (0 : Int) ≤ (m : Int) ∧ (m : Int) < (len : Int) := (by omega);refine .of he ⟨u, k1, fun w => ?_⟩;simp only [Instr.index, asIntOf, pure_bind, Sem.run_bind, run_underlying ht, Result.andThen_ok, if_pos hb, run_sizeOf_of h2, Int.toNat_natCast, k2]
   ·rename_i h1 h2;cases hc;simp only [pV] at hv;split at hv
    case h_2 => cases hv
    rename_i l ee;rw [ee] at rx
    cases rx with | agg _ cs hr =>
    split at hv
    case h_2 => cases hv
    rename_i m hm;simp only [nblt_d, Bool.cond_decide] at hv;split at hv
    case isFalse => cases hv
    rename_i hlt;rw [getX_eq] at hv;obtain ⟨k, rfl⟩ := nat_rel hm ri;obtain ⟨u, k1, k2⟩ := part_ok1 (P := P) h1 hr hv;have hb : (0 : Int) ≤ (m : Int) ∧ (m : Int) < (len : Int) := (by omega);refine .of he ⟨u, k1, fun w => ?_⟩;simp only [Instr.index, asIntOf, pure_bind, Sem.run_bind, run_underlying ht, Result.andThen_ok, if_pos hb, run_sizeOf_of h2, Int.toNat_natCast, Nat.mul_one, k2]
   ·cases hc
  ·cases hc
 case lookup t m k b =>
  split at hc
  case h_2 => cases hc
  split at hc <;> cases hc
 case mapUpdate t m k x =>
  split at hc
  case h_2 => cases hc
  split at hc <;> cases hc
 case extract X i =>
  obtain ⟨y, hy, e⟩ := map_some hc;cases e;have rx := opd_rel ok.gl hf hy
  have he : execOp a.eval o = (do pure (Next.value (← Instr.extract (a.eval X) i))) := by simp only [execOp, hop]
  generalize a.eval X = cu at rx he;simp only [pV] at hv;split at hv
  case h_2 => cases hv
  rename_i l ee;rw [ee] at rx
  cases rx with | tup _ cs hr =>
  rw [getX_eq] at hv;obtain ⟨u, k1, k2⟩ := hr.get hv;have k1' : cs[i]? = some u := (by simpa using k1);exact .of he ⟨u, k2, fun w => by simp [Instr.extract, k1']⟩
 case call c =>
  unfold cCall at hc;split at hc
  ·cases hc
  ·rename_i args ha;split at hc
   ·rename_i b hb;exact builtin_does ok hf hop hb ha hc hv
   ·simp only [cond_eq_ite] at hc;split at hc <;> cases hc
   ·split at hc <;> cases hc
   ·cases hc
 case panic x => cases hc
end Go.Vm
end

section
namespace Go.Vm
variable {P : Program} {φ : Emb}
theorem repX_length (z : List V) : ∀ n, (repX z n).length = n * z.length
 | 0 => by simp [repX]
 | n + 1 => by simp [repX, repX_length z n, Nat.add_mul]; omega
theorem repX_get (z : List V) (hz : 0 < z.length) : ∀ (n i : Nat), i < n * z.length → (repX z n)[i]? = z[i % z.length]?
 | 0, i, h => by simp at h
 | n + 1, i, h => by
  simp only [repX]
  by_cases c : i < z.length
  ·rw [List.getElem?_append_left c, Nat.mod_eq_of_lt c]
  ·rw [List.getElem?_append_right (by omega), repX_get z hz n (i - z.length) (by rw [Nat.add_mul] at h; omega)];rw [Nat.mod_eq_sub_mod (by omega : i ≥ z.length)]
theorem rep_rel {z : List V} {c : Array Value} (h : VRs φ z c.toList) (n m : Nat) (hm : m = n * z.length) : VRs φ (repX z n) ((Array.range m).map (c[· % c.size]!)).toList := by
 have hl : z.length = c.size := (by rw [h.length]; simp);refine VRs.of_get (by rw [repX_length]; simp [hm]) fun i v u h1 h2 => ?_
 have hi : i < m := by
  have := (List.getElem?_eq_some_iff.1 h2).1;simpa using this
 have hz : 0 < z.length := by
  rcases Nat.eq_zero_or_pos z.length with e | e
  ·rw [e] at hm; omega
  ·exact e
 rw [repX_get z hz n i (by omega)] at h1;obtain ⟨u', k1, k2⟩ := h.get h1;have hlt : i % z.length < c.size := (by rw [← hl]; exact Nat.mod_lt _ hz);rw [hl] at k1;rw [Array.getElem?_toList] at k1
 have e : u = c[i % c.size]! := by
  simp only [Array.toList_map, Array.toList_range, List.getElem?_map, List.getElem?_range hi, Option.map_some, Option.some.injEq] at h2;exact h2.symm
 rw [e];rw [hl] at hlt;rw [Array.getElem?_eq_getElem hlt] at k1;rw [getElem!_pos c (i % c.size) hlt];cases k1;exact k2
def Lays (P : Program) (φ : Emb) (a : Act) (o : Oper) (blk : Blk) (mk : Nat → V) : Prop :=
 ∀ w : World, ∃ u obj pl w1, (w1 = w ∨ w1 = w.drew) ∧ (execOp a.eval o).run P w = .ok (.value u) (w1.alloc obj) ∧ pl.blk = w.heap.size ∧
  (∀ ψ b, φ.Le ψ → ψ.at_ b = some pl → VR ψ (mk b) u) ∧ (∀ ψ w', φ.Le ψ → w'.heap[w.heap.size]? = some obj → BlkAt ψ w' pl blk)
theorem cells_lie {l : List V} {c : Array Value} {e : TypeId} (h : VRs φ l c.toList) (n : Nat) (ψ : Emb) (w' : World) (hle : φ.Le ψ) (hh : w'.heap[n]? = some (.cells c e)) (ro : Bool) :
  BlkAt ψ w' ⟨n, 0, l.length⟩ (.cells l ro) := by
 have hl := h.length
 have hat : CellsAt ψ w' ⟨n, 0, l.length⟩ l := by
  refine ⟨rfl, Nat.le_refl _, c, e, (0, 0), hh, by simp at hl ⊢; omega, .inl rfl, fun i v hi => ?_⟩;obtain ⟨u, h1, h2⟩ := h.get hi;exact ⟨u, by simpa using h1, h2.mono hle⟩
 cases ro with
 | false => exact hat
 | true => exact hat.ro
theorem run_newRow (w : World) (e : TypeId) (c : Array Value) : (newRow e c).run P w = .ok ⟨w.heap.size, 0, none⟩ (w.alloc (.cells c e)) := by
 simp [newRow]
theorem a_sim {env : Env} (ok : EnvOk P φ env) {fr : Fr} {a : Act} (hf : FR φ fr a) {o : Oper} {p : AOp} (hc : cOp P o.op = some (.a p)) {blk : Blk} {mk : Nat → V} (hv : aV fr p = some (blk, mk)) :
  Lays P φ a o blk mk := by
 intro w
 have box : ∀ {s : Sem Value} {c : Array Value} {e : TypeId} {l : List V}, execOp a.eval o = (do pure (Next.value (← s))) → VRs φ l c.toList → s.run P w = .ok (.pointer (some ⟨w.heap.size, 0, none⟩)) (w.alloc (.cells c e)) →
   ∃ u obj pl w1, (w1 = w ∨ w1 = w.drew) ∧ (execOp a.eval o).run P w = .ok (.value u) (w1.alloc obj) ∧ pl.blk = w.heap.size ∧
    (∀ ψ b, φ.Le ψ → ψ.at_ b = some pl → VR ψ (.ptr b 0) u) ∧ (∀ ψ w', φ.Le ψ → w'.heap[w.heap.size]? = some obj → BlkAt ψ w' pl (.cells l false)) := by
  intro s c e l he hr hs
  exact ⟨_, .cells c e, ⟨w.heap.size, 0, l.length⟩, w, .inl rfl, by rw [he]; exact lift_ok hs, rfl,
   fun ψ b _ hb => .ptr b 0 _ hb, fun ψ w' hle hh => cells_lie hr _ ψ w' hle hh false⟩
 cases hop : o.op <;> rw [hop] at hc <;> simp only [cOp, reduceCtorEq] at hc
 case move x => obtain ⟨y, hy, e⟩ := map_some hc; cases e
 case assign x => obtain ⟨y, hy, e⟩ := map_some hc; cases e
 case pick c x y => split at hc <;> cases hc
 case alloc t =>
  split at hc
  case h_2 => cases hc
  rename_i z hz;cases hc;simp only [aV] at hv;rw [cond_eq_ite] at hv; split at hv
  case isFalse => cases hv
  cases hv;obtain ⟨it, zu, hi, hz0, rz, rzc⟩ := zeroP_info (φ := φ) ok.sym hz;refine box (s := Instr.alloc t true (.tuple #[])) (c := zu.cells) (e := t) (by simp only [execOp, hop]) rzc ?_;simp [Instr.alloc, zeroValue, typeInfo, hi, hz0, newVar, run_newRow]
 case box t x =>
  obtain ⟨y, hy, e⟩ := map_some hc;cases e;simp only [aV] at hv;rw [cond_eq_ite] at hv; split at hv
  case isFalse => cases hv
  cases hv;have rx := opd_rel ok.gl hf hy;refine box (s := Instr.box t (a.eval x)) (c := (a.eval x).cells) (e := t) (by simp only [execOp, hop]) (rx.cells ok.sym) ?_;simp [Instr.box, newVar, run_newRow]
 case build t parts =>
  split at hc
  ·split at hc
   ·obtain ⟨y, hy, e⟩ := map_some hc; cases e
   ·cases hc
  ·split at hc
   ·obtain ⟨y, hy, e⟩ := map_some hc; cases e
   ·cases hc
  ·cases hc
 case buildSlice t len parts =>
  split at hc
  case h_2 => cases hc
  rename_i e ht;split at hc
  case h_2 => cases hc
  rename_i sz z hsz hz;rw [cond_eq_ite] at hc; split at hc
  case isFalse => cases hc
  rename_i hzl;rw [cond_eq_ite] at hc; split at hc
  case isFalse => cases hc
  rename_i hsm;obtain ⟨pr, hpr, e⟩ := map_some hc;cases e;simp only [aV] at hv;split at hv
  case h_2 => cases hv
  rename_i c hfill;rw [cond_eq_ite] at hv; split at hv
  case isFalse => cases hv
  rw [cond_eq_ite] at hv; split at hv
  case isFalse => cases hv
  rename_i hcl;cases hv;rw [nbeq] at hzl hcl;rw [nble] at hsm;obtain ⟨it, zu, hi, hz0, rz, rzc⟩ := zeroP_info (φ := φ) ok.sym hz;obtain ⟨it', hi', hsz'⟩ := szP_info hsz;rw [hi] at hi'; cases hi';obtain ⟨cs', k1, k2⟩ := fill_ok ok.sym ok.gl hf _ parts.toList hpr hfill (rep_rel rzc len (len * (sz + 1)) (by rw [hzl]));refine ⟨.slice (some ⟨w.heap.size, 0, none⟩) len len, .cells cs' e, ⟨w.heap.size, 0, c.length⟩, w, .inl rfl, ?_, rfl, fun ψ b hle hb => ?_, fun ψ w' hle hh => cells_lie k2 _ ψ w' hle hh false⟩
  ·have he : execOp a.eval o = (do pure (Next.value (← Instr.buildSlice t len (parts.map fun p => (p.1, a.eval p.2))))) := by simp only [execOp, hop]
   rw [he];refine lift_ok ?_;have hp' : (parts.map fun p => (p.1, a.eval p.2)).toList = parts.toList.map fun p => (p.1, a.eval p.2) := (by simp);have hsmall : ¬ len * (sz + 1) > 2 ^ 24 := (by simp; omega);have hf : Instr.fill (fun i => some (i * (sz + 1), sz + 1)) ((Array.range (len * (sz + 1))).map (zu.cells[· % zu.cells.size]!)) (parts.map fun p => (p.1, a.eval p.2)).toList = some cs' := (by rw [hp']; exact k1);simp only [Instr.buildSlice, Sem.run_bind, run_underlying ht, Result.andThen_ok, run_sizeOf_of hsz, Sem.run_ite, if_neg hsmall, Sem.run_pure]
   by_cases h0 : len * (sz + 1) = 0
   ·rw [if_pos h0];have hl0 : len = 0 := (Nat.mul_eq_zero.1 h0).resolve_right (by omega);subst hl0;have hr0 : Array.range (0 * (sz + 1)) = #[] := (by rw [Nat.zero_mul]; rfl);rw [hr0] at hf;simp only [hr0, Array.map_empty] at hf ⊢;simp only [Result.andThen_ok, hf, Sem.run_bind, run_newRow, Sem.run_pure]
   ·rw [if_neg h0];simp only [Sem.run_bind, zeroValue, typeInfo, run_program, Result.andThen_ok, hi, hz0, Sem.run_pure, hf, run_newRow]
  ·exact .slice _ _ _ _ _ _ _ _ (fun hpos => ⟨_, hb, rfl, fun ee => by cases ee⟩) (Nat.le_refl _) (Nat.le_refl _) (fun _ => rfl)
 case load t x => split at hc <;> cases hc
 case store t x y => split at hc <;> cases hc
 case nilCheck x => obtain ⟨y, hy, e⟩ := map_some hc; cases e
 case binOp op t X Y yt =>
  split at hc
  ·obtain ⟨y, hy, e⟩ := map_some hc; cases e
  ·cases hc
 case unOp op t X => split at hc <;> cases hc
 case convert s d X =>
  split at hc
  case h_2 => cases hc
  rename_i x hx;have rx := opd_rel ok.gl hf hx;unfold cConv at hc;split at hc
  ·cases hc
  ·cases hc
  ·cases hc
  ·rename_i e h1 h2;split at hc
   case h_2 => cases hc
   rename_i h3;cases hc;simp only [aV] at hv;split at hv
   case h_2 => cases hv
   rename_i l hl;cases hv
   have he : execOp a.eval o = (do pure (Next.value (← convert s d (a.eval X)))) := by simp only [execOp, hop]
   rw [hl] at rx;generalize a.eval X = cu at rx he
   cases rx with | str st =>
   have hcv : ∀ w, (convert s d (.string st)).run P w = (Conv.stringToBytes e st).run P w := fun w => by
    simp only [convert, Sem.run_bind, run_underlying h1, run_underlying h2, run_underlying h3, Result.andThen_ok]
   let cap := (Question.appendCap st.size 0 e).cut (w.tape w.drawn (.appendCap st.size 0 e))
   let cells : Array Value := st.data.map (fun b => Value.int .u8 b.toNat) ++ Array.replicate (cap - st.size) (.int .u8 0)
   have hcap : st.size ≤ cap := by simp only [cap, Question.cut]; omega
   have hsz : cells.size = cap := by
    have : st.data.size = st.size := rfl;simp only [cells, Array.size_append, Array.size_map, Array.size_replicate, this]; omega
   refine ⟨.slice (some ⟨w.heap.size, 0, none⟩) st.size cap, .cells cells e (cap, cap + 1), ⟨w.heap.size, 0, cap⟩, w.drew, .inr rfl, ?_, rfl, fun ψ b hle hb => ?_, fun ψ w' hle hh => ?_⟩
   ·rw [he];refine lift_ok ?_;rw [hcv];have hq : (Question.appendCap st.size 0 e).forced = false := rfl
    have hsh : (w.drew.alloc (.cells cells e)).shape? w.heap.size = some (e, cap) := by
     have := heap_alloc_new w.drew (.cells cells e);have hs : w.drew.heap.size = w.heap.size := rfl;rw [hs] at this;unfold World.shape?;rw [this];simp only [hsz]
    have hfz : (w.drew.alloc (.cells cells e)).freeze ⟨w.heap.size, cap, none⟩ 1 = w.drew.alloc (.cells cells e (cap, cap + 1)) := by
     simp only [World.freeze, World.alloc];rw [if_neg (by omega)]
     congr 1
     apply Array.ext_getElem?;intro i;rw [Array.getElem?_modify]
     by_cases ei : w.heap.size = i
     ·subst ei;rw [if_pos rfl];have hs : w.drew.heap = w.heap := rfl;rw [hs, Array.getElem?_push, if_pos rfl, Array.getElem?_push, if_pos rfl];simp
     ·rw [if_neg ei];have hs : w.drew.heap = w.heap := rfl;rw [hs, Array.getElem?_push, if_neg (by omega), Array.getElem?_push, if_neg (by omega)]
    simp only [Conv.stringToBytes, Sem.run_bind, run_choose, hq, Bool.false_eq_true, if_false, Result.andThen_ok];have e1 : ({ w with drawn := w.drawn + 1 } : World) = w.drew := rfl;simp only [e1, run_newRow, Result.andThen_ok, markStringish, Sem.run_bind, run_shape];have hs : w.drew.heap.size = w.heap.size := rfl;rw [hs, show st.data.map (fun b => Value.int IntKind.u8 b.toNat) ++ Array.replicate ((Question.appendCap st.size 0 e).cut (w.tape w.drawn (.appendCap st.size 0 e)) - st.size) (Value.int IntKind.u8 0) = cells from rfl, hsh];simp only [run_freeze, hfz, Result.andThen_ok, Sem.run_pure]
    rfl
   ·have hlen : (st.data.toList.map UInt8.toNat).length = st.size := (by simp);show VR ψ (.slice b 0 1 (st.data.toList.map UInt8.toNat).length (st.data.toList.map UInt8.toNat).length false) _;rw [hlen];exact .slice b 0 1 st.size st.size false _ cap (fun hpos => ⟨_, hb, rfl, fun ee => by show 0 + cap * 1 = cap; omega⟩) (Nat.le_refl _) hcap (fun ee => by cases ee)
   ·refine ⟨rfl, ?_, cells, e, (cap, cap + 1), hh, by simp [hsz], .inr (by simp [hsz]), fun i v hi => ?_⟩
    ·simp; exact hcap
    ·simp only [List.getElem?_map, Option.map_map] at hi
     cases hd : st.data.toList[i]? with
     | none => simp [hd] at hi
     | some bb =>
      simp [hd] at hi;subst hi;refine ⟨.int .u8 bb.toNat, ?_, .int _ _⟩
      have hlt : i < st.data.size := by
       have := (List.getElem?_eq_some_iff.1 hd).1;simpa using this
      simp only [Nat.zero_add, cells];rw [Array.getElem?_append_left (by simp; exact hlt)];rw [Array.getElem?_toList] at hd;simp [hd]
  ·split at hc <;> cases hc
  ·rw [cond_eq_ite] at hc;split at hc
   ·split at hc <;> cases hc
   ·cases hc
  ·cases hc
 case makeInterface t X =>
  split at hc
  ·cases hc
  ·obtain ⟨y, hy, e⟩ := map_some hc; cases e
  ·cases hc
 case makeFunc fn first captured =>
  cases fn <;> simp only [reduceCtorEq] at hc;split at hc <;> cases hc
 case makeMap t r =>
  cases r <;> simp only [reduceCtorEq] at hc;split at hc
  case h_2 => cases hc
  split at hc
  case h_3 => cases hc
  all_goals
   cases hc
  all_goals
   simp only [aV, Option.some.injEq, Prod.mk.injEq] at hv;obtain ⟨rfl, rfl⟩ := hv;refine ⟨.map (some w.heap.size), .map #[] 0, ⟨w.heap.size, 0, 0⟩, w, .inl rfl, ?_, rfl, fun ψ b hle hb => .map b ⟨w.heap.size, 0, 0⟩ hb, fun ψ w' hle hh => ?_⟩
   ·simp [execOp, hop, Instr.makeMap]
   ·exact ⟨#[], 0, hh, MapKept.stamped_empty 0, rfl, fun i p e h1 _ => by simp at h1⟩
 case makeSlice t l c =>
  split at hc
  case h_2 => cases hc
  rename_i e lo co ht hl hcc;split at hc
  case h_2 => cases hc
  rename_i sz bytes z hsz hby hz;cases hc;simp only [aV] at hv;split at hv
  case h_2 => cases hv
  rename_i n m hn hm;rw [cond_eq_ite] at hv; split at hv
  case isFalse => cases hv
  rename_i hnm;rw [cond_eq_ite] at hv; split at hv
  case isFalse => cases hv
  rename_i hb1;rw [cond_eq_ite] at hv; split at hv
  case isFalse => cases hv
  rename_i hb2;rw [cond_eq_ite] at hv; split at hv
  case isFalse => cases hv
  rw [cond_eq_ite] at hv; split at hv
  case isFalse => cases hv
  rename_i hzl;cases hv;rw [nble] at hnm hb1 hb2;rw [nbeq] at hzl;have rl := opd_rel ok.gl hf hl;have rc := opd_rel ok.gl hf hcc;obtain ⟨k1, e1⟩ := nat_rel hn rl;obtain ⟨k2, e2⟩ := nat_rel hm rc;obtain ⟨it, zu, hi, hz0, rz, rzc⟩ := zeroP_info (φ := φ) ok.sym hz;have hbb : it.bytes = bytes := (by unfold bytesP at hby; simp [hi] at hby; exact hby);have hrr := rep_rel rzc m (m * (sz + 1)) (by rw [hzl]);refine ⟨.slice (some ⟨w.heap.size, 0, none⟩) n m, .cells ((Array.range (m * (sz + 1))).map (zu.cells[· % zu.cells.size]!)) e, ⟨w.heap.size, 0, (repX z.cells m).length⟩, w, .inl rfl, ?_, rfl, fun ψ b hle hb => ?_, fun ψ w' hle hh => cells_lie hrr _ ψ w' hle hh false⟩
  ·have he : execOp a.eval o = (do pure (Next.value (← Instr.makeSlice t (a.eval l) (a.eval c)))) := by simp only [execOp, hop]
   rw [he];refine lift_ok ?_;rw [e1, e2];have w1 : IntKind.i64.wrap (n : Int) = n := wrap_id .i64 _ (by simp only [sgn, hiN, cond_true]; omega) (by simp only [hiN]; omega);have w2 : IntKind.i64.wrap (m : Int) = m := wrap_id .i64 _ (by simp only [sgn, hiN, cond_true]; omega) (by simp only [hiN]; omega)
   have hmul : ((bytes : Int) * (m : Int)) = ((bytes * m : Nat) : Int) := by simp
   have hc1 : (((decide ((m : Int) < 0) || decide ((bytes : Int) * (m : Int) > 2 ^ 48)) || decide ((n : Int) < 0) || decide ((n : Int) > (m : Int))) = true) = False := by
    rw [hmul];simp only [Bool.or_eq_true, decide_eq_true_eq, eq_iff_iff, iff_false];have : (2 : Int) ^ 48 = 281474976710656 := (by decide);omega
   simp only [Instr.makeSlice, Sem.run_bind, run_underlying ht, Result.andThen_ok, asInt, asIntOf, Sem.run_pure, typeInfo, run_program, hi, hbb, w1, w2, hc1, Sem.run_ite, if_false, run_askRoom, run_sizeOf_of hsz, Int.toNat_natCast]
   by_cases h0 : m * (sz + 1) = 0
   ·rw [if_pos h0, h0];have hr0 : Array.range 0 = #[] := rfl;simp only [Result.andThen_ok, run_newRow, hr0, Array.map_empty]
   ·rw [if_neg h0];simp only [Sem.run_bind, zeroValue, typeInfo, run_program, Result.andThen_ok, hi, hz0, Sem.run_pure, run_newRow]
  ·exact .slice _ _ _ _ _ _ _ _ (fun hpos => ⟨_, hb, rfl, fun ee => by cases ee⟩) hnm (Nat.le_refl _) (fun _ => rfl)
 case slice t X lo hi mx =>
  split at hc
  ·obtain ⟨y, hy, e⟩ := map_some hc; cases e
  ·cases hc
 case fieldAddr t X f =>
  split at hc
  ·split at hc
   ·split at hc <;> cases hc
   ·cases hc
  ·cases hc
 case field t X f =>
  split at hc
  ·split at hc
   ·split at hc <;> cases hc
   ·cases hc
  ·cases hc
 case indexAddr t X I =>
  split at hc
  ·split at hc <;> cases hc
  ·split at hc <;> cases hc
  ·cases hc
 case index t X I =>
  split at hc
  ·cases hc
  ·split at hc <;> cases hc
  ·cases hc
 case lookup t m k b =>
  split at hc
  case h_2 => cases hc
  split at hc <;> cases hc
 case mapUpdate t m k x =>
  split at hc
  case h_2 => cases hc
  split at hc <;> cases hc
 case extract X i => obtain ⟨y, hy, e⟩ := map_some hc; cases e
 case call c =>
  unfold cCall at hc;split at hc
  ·cases hc
  ·split at hc
   ·unfold cBuiltin at hc;split at hc
    all_goals (try (repeat (first | (cases hc; done) | split at hc)))
    all_goals (try (rw [cond_eq_ite] at hc; split at hc))
    all_goals (try (repeat (first | (cases hc; done) | split at hc)))
    all_goals (cases hc)
   ·simp only [cond_eq_ite] at hc;split at hc <;> cases hc
   ·split at hc <;> cases hc
   ·cases hc
 case panic x => cases hc
end Go.Vm
end

section
namespace Go.Vm
variable {P : Program} {φ : Emb}
def Src (P : Program) (ts : Array TypeId) (sz bytes : Nat) (zu : Value) (x : Value) (n : Nat) (new : Array Value) (w : World) : Prop :=
 (∃ d, (ts[1]?).bind P.underlying = some d ∧ (∀ k, d ≠ .int k) ∧ (Builtin.lenOf x).run P w = .ok n w ∧ ∀ w', w'.heap = w.heap → (Builtin.firstCells sz n x).run P w' = .ok new w') ∨
 (∃ k k', (ts[1]?).bind P.underlying = some (.int k) ∧ x = .int k' (n : Int) ∧ n ≤ 1099511627776 ∧ bytes * n ≤ 1099511627776 ∧ 0 < n * sz ∧ new = Builtin.zeroCells zu.cells n)
theorem run_loads (w w' : World) (h : w'.heap = w.heap) (a : Addr) : w'.cell? a = w.cell? a := by simp [World.cell?, h]
theorem append_in {ts : Array TypeId} {sT e ty : TypeId} {it : TypeInfo} {zu : Value} (h0 : ts[0]? = some sT) (ht : P.underlying sT = some (.slice e)) (hi : P.info? e = some it) (hz : it.zero = some zu)
  {base : Option Addr} {sLen sCap n : Nat} {x : Value} {new : Array Value} {w : World} (hs : Src P ts it.size it.bytes zu x n new w) (hle : sLen + n ≤ sCap) {w' : World}
  (hst : ∀ a, base = some a → (storeCells (a.add (sLen * it.size)) new.toList).run P w = .ok () w') (hnone : base = none → w' = w) :
  (Builtin.append_ ts ty #[.slice base sLen sCap, x]).run P w = .ok (.slice base (sLen + n) sCap) w' := by
 rcases hs with ⟨d, h1, hd, hl, hfc⟩ | ⟨k, k', h1, rfl, hn, hb, hpos, rfl⟩
 ·cases ht1 : ts[1]? with
  | none => simp [ht1] at h1
  | some xT =>
   simp only [ht1, Option.bind_some] at h1;simp only [Builtin.append_, h0, List.getElem?_toArray, List.getElem?_cons_zero, List.getElem?_cons_succ, Sem.run_bind, run_underlying ht, Result.andThen_ok, sizeOf, typeInfo, run_program, hi, Sem.run_pure, ht1, run_underlying h1, Bool.false_eq_true, if_false, hl, hle, if_true]
   cases base with
   | none => simp [hnone rfl, hfc w rfl]
   | some a => simp [hst a rfl, hfc w rfl]
 ·cases ht1 : ts[1]? with
  | none => simp [ht1] at h1
  | some xT =>
   simp only [ht1, Option.bind_some] at h1;have w1 : IntKind.i64.wrap (n : Int) = n := wrap_id .i64 _ (by simp only [sgn, hiN, cond_true]; omega) (by simp only [hiN]; omega)
   have hneg : ¬ ((n : Int) < 0) := by omega
   have hbig : ¬ ((n : Int) * (it.bytes : Int) > 2 ^ 48) := by
    have : ((n : Int) * (it.bytes : Int)) = ((it.bytes * n : Nat) : Int) := (by rw [Nat.mul_comm]; simp);rw [this];have : (2 : Int) ^ 48 = 281474976710656 := (by decide);omega
   have hnz : ¬ (n * it.size = 0) := by omega
   simp only [Builtin.append_, h0, List.getElem?_toArray, List.getElem?_cons_zero, List.getElem?_cons_succ, Sem.run_bind, run_underlying ht, Result.andThen_ok, sizeOf, typeInfo, run_program, hi, Sem.run_pure, ht1, run_underlying h1, if_true,
    asInt, asIntOf, w1, hneg, if_false, hbig, Int.toNat_natCast, hle, hnz, zeroValue, hz, Bool.not_true, Bool.false_eq_true]
   cases base with
   | none => simp [hnone rfl]
   | some a => simp [hst a rfl]
theorem append_out {ts : Array TypeId} {sT e ty : TypeId} {it : TypeInfo} {zu : Value} (h0 : ts[0]? = some sT) (ht : P.underlying sT = some (.slice e)) (hi : P.info? e = some it) (hz : it.zero = some zu)
  {base : Option Addr} {sLen sCap n : Nat} {x : Value} {old new : Array Value} {w : World} (hs : Src P ts it.size it.bytes zu x n new w) (hgt : sCap < sLen + n)
  (hold : ∀ w', w'.heap = w.heap → (Builtin.firstCells it.size sLen (.slice base sLen sCap)).run P w' = .ok old w') (hb1 : sLen + n ≤ 1099511627776) (hb2 : it.bytes * (sLen + n) ≤ 1099511627776) :
  ∃ cap, sLen + n ≤ cap ∧ (Builtin.append_ ts ty #[.slice base sLen sCap, x]).run P w =
   .ok (.slice (some ⟨w.heap.size, 0, none⟩) (sLen + n) cap) (w.drew.alloc (.cells (old ++ new ++ Builtin.zeroCells zu.cells (cap - (sLen + n))) e)) := by
 refine ⟨(Question.appendCap (sLen + n) sCap e).cut (w.tape w.drawn (.appendCap (sLen + n) sCap e)), by simp only [Question.cut]; omega, ?_⟩
 have hle : ¬ (sLen + n ≤ sCap) := by omega
 have h63 : ∀ q : Prop, ¬ (((sLen + n : Nat) : Int) > IntKind.i64.max ∧ q) := by
  intro q hh;rw [IntKind.max_i64] at hh;omega
 have h48 : ¬ (Builtin.nextslicecap (sLen + n) sCap * it.bytes > 2 ^ 48) := by
  have := growslice_fits (bytes := it.bytes) hgt (by rw [Nat.mul_comm]; omega);have e48 : (2 : Nat) ^ 48 = 281474976710656 := (by decide);omega
 have hq : (Question.appendCap (sLen + n) sCap e).forced = false := rfl;have hdr : ({ w with drawn := w.drawn + 1 } : World) = w.drew := rfl;have hdh : w.drew.heap = w.heap := rfl;have hds : w.drew.heap.size = w.heap.size := rfl;rcases hs with ⟨d, h1, hd, hl, hfc⟩ | ⟨k, k', h1, rfl, hn, hb, hpos, rfl⟩
 ·cases ht1 : ts[1]? with
  | none => simp [ht1] at h1
  | some xT =>
   simp only [ht1, Option.bind_some] at h1
   simp only [Builtin.append_, h0, List.getElem?_toArray, List.getElem?_cons_zero, List.getElem?_cons_succ, Sem.run_bind, run_underlying ht, Result.andThen_ok, sizeOf, typeInfo, run_program, hi, Sem.run_pure, ht1, run_underlying h1, Bool.false_eq_true, if_false, hl, hle,
    h63, h48, run_choose, hq, hdr, run_askRoom, hold _ hdh, hfc _ hdh, Bool.not_false, if_true, zeroValue, hz, run_newRow, hds, Sem.run_ite]
 ·cases ht1 : ts[1]? with
  | none => simp [ht1] at h1
  | some xT =>
   simp only [ht1, Option.bind_some] at h1;have w1 : IntKind.i64.wrap (n : Int) = n := wrap_id .i64 _ (by simp only [sgn, hiN, cond_true]; omega) (by simp only [hiN]; omega)
   have hneg : ¬ ((n : Int) < 0) := by omega
   have hbig : ¬ ((n : Int) * (it.bytes : Int) > 2 ^ 48) := by
    have : ((n : Int) * (it.bytes : Int)) = ((it.bytes * n : Nat) : Int) := (by rw [Nat.mul_comm]; simp);rw [this];have : (2 : Int) ^ 48 = 281474976710656 := (by decide);omega
   have hnz : ¬ (n * it.size = 0) := by omega
   simp only [Builtin.append_, h0, List.getElem?_toArray, List.getElem?_cons_zero, List.getElem?_cons_succ, Sem.run_bind, run_underlying ht, Result.andThen_ok, sizeOf, typeInfo, run_program, hi, Sem.run_pure, ht1, run_underlying h1, if_true,
    asInt, asIntOf, w1, hneg, if_false, hbig, Int.toNat_natCast, hle, hnz, zeroValue, hz, Bool.not_true, Bool.false_eq_true, h63, h48, run_choose, hq, hdr, run_askRoom, hold _ hdh, run_newRow, hds, Sem.run_ite]
end Go.Vm
end

section
namespace Go.Vm
variable {P : Program} {φ : Emb}
theorem St.of_gone {h h' : Hp} {w w' : World} {ψ : Emb} (b : Nat) (s : St φ (h.put b .gone) w ψ h' w') : St φ h w ψ h' w' where
 le := s.le
 new := s.new
 nx := s.nx
 os := s.os
 tape := s.tape
 output := s.output
 size := s.size
 kept k hk hn := s.kept k hk fun x pl ho hp => by
  rw [blk_put] at ho
  by_cases e : x = b
  ·rw [if_pos e] at ho; cases ho
  ·rw [if_neg e] at ho; exact hn x pl ho hp
 host x pl ho hp := by
  rcases s.host x pl ho hp with ⟨y, q, h1, h2, h3⟩ | h
  ·rw [blk_put] at h1
   by_cases e : y = b
   ·rw [if_pos e] at h1; cases h1
   ·rw [if_neg e] at h1; exact .inl ⟨y, q, h1, h2, h3⟩
  ·exact .inr h
 roof x pl ho hp := by
  rcases s.roof x pl ho hp with ⟨y, q, h1, h2, h3⟩ | h
  ·rw [blk_put] at h1
   by_cases e : y = b
   ·rw [if_pos e] at h1; cases h1
   ·rw [if_neg e] at h1; exact .inl ⟨y, q, h1, h2, h3⟩
  ·exact .inr h
 hr := s.hr
theorem HR.consume {h : Hp} {w : World} (hr : HR φ h w) {b : Nat} {l : List V} (hb : h.blk b = .cells l false) {pl : Place} (hp : φ.at_ b = some pl) (hfr : φ.at_ h.next = none)
  {o : Nat} (ho : o = 0) {old new : List V} {us : List Value} (hold : takeX old.length (l.drop o) = some old) (hnew : VRs φ new us) (hext : o + old.length + new.length ≤ pl.ext) :
  St φ h w ⟨fun x => if x = h.next then some ⟨pl.blk, pl.base + o, pl.ext - o⟩ else φ.at_ x, φ.sym⟩ ((h.put b .gone).new (.cells (old ++ new) false)) (w.setCells pl.blk (pl.base + (o + old.length)) us) := by
 have hle : φ.Le ⟨fun x => if x = h.next then some ⟨pl.blk, pl.base + o, pl.ext - o⟩ else φ.at_ x, φ.sym⟩ := ⟨fun x q e => by
  show (if x = h.next then some _ else φ.at_ x) = some q;split
  ·rename_i e'; rw [e', hfr] at e; cases e
  ·exact e, rfl⟩
 obtain ⟨pl', hpl', hat⟩ := hr.lies b (by rw [hb]; rfl);rw [hp] at hpl'; cases hpl'
 rw [hb] at hat
 obtain ⟨hb0, hl1, c, e, fz, hc, hs, hf, hcs⟩ := hat
 have hul := hnew.length;obtain ⟨c', g1, g2, g3⟩ := heap_setCells pl.blk us (pl.base + (o + old.length)) w c e fz hc (by omega);obtain ⟨r1, r2, r3⟩ := rest_setCells pl.blk us (pl.base + (o + old.length)) w;obtain ⟨hold1, hold2⟩ := takeX_eq hold
 have hnb : b ≠ h.next := fun e => by rw [e, hfr] at hp; cases hp
 have hblk : ∀ x, ((h.put b .gone).new (.cells (old ++ new) false)).blk x = if x = h.next then .cells (old ++ new) false else if x = b then .gone else h.blk x := by
  intro x;rw [blk_new];have : (h.put b .gone).next = h.next := rfl;rw [this, blk_put]
 refine ⟨hle, fun x hx => ?_, Nat.le_succ _, r1, r2, r3, by rw [size_setCells]; exact Nat.le_refl _, fun k hk hn => ?_, fun x q ho hq => ?_, fun x q ho hq => ?_, ?_⟩
 ·have : x ≠ h.next := by
   rcases hx with hx | hx
   ·omega
   ·have : h.next + 1 ≤ x := hx;omega
  show (if x = h.next then some _ else φ.at_ x) = _;rw [if_neg this]
 ·exact heap_setCells_other _ _ _ _ _ fun ek => hn b pl (by rw [hb]; rfl) hp ek.symm
 ·have hq' : (if x = h.next then some ⟨pl.blk, pl.base + o, pl.ext - o⟩ else φ.at_ x) = some q := hq;rw [hblk] at ho
  by_cases e1 : x = h.next
  ·rw [if_pos e1] at hq'; cases hq';exact .inl ⟨b, pl, by rw [hb]; rfl, hp, rfl⟩
  ·rw [if_neg e1] at hq' ho
   by_cases e2 : x = b
   ·rw [if_pos e2] at ho; cases ho
   ·rw [if_neg e2] at ho; exact .inl ⟨x, q, ho, hq', rfl⟩
 ·have hq' : (if x = h.next then some ⟨pl.blk, pl.base + o, pl.ext - o⟩ else φ.at_ x) = some q := hq;rw [hblk] at ho
  by_cases e1 : x = h.next
  ·rw [if_pos e1] at hq'; cases hq';exact .inl ⟨b, pl, by rw [hb]; rfl, hp, rfl⟩
  ·rw [if_neg e1] at hq' ho
   by_cases e2 : x = b
   ·rw [if_pos e2] at ho; cases ho
   ·rw [if_neg e2] at ho; exact .inl ⟨x, q, ho, hq', rfl⟩
 ·refine ⟨fun x hx => ?_, fun x x' q q' hx hx' ho hq hq' hne => ?_, fun x hx => ?_⟩
  ·rw [hblk] at hx ⊢
   by_cases e1 : x = h.next
   ·rw [if_pos e1];refine ⟨⟨pl.blk, pl.base + o, pl.ext - o⟩, ?_, ?_⟩
    ·show (if x = h.next then some _ else φ.at_ x) = _;rw [if_pos e1]
    ·refine ⟨by simp only; omega, by simp; omega, c', e, fz, g1, by simp only; omega, by rw [g2]; exact hf, fun i v hi => ?_⟩;show ∃ u, c'[pl.base + o + i]? = some u ∧ _;rw [g3]
     by_cases c1 : i < old.length
     ·rw [List.getElem?_append_left c1] at hi;rw [if_neg (by omega)];rw [hold1, List.getElem?_take, if_pos (by omega), List.getElem?_drop] at hi;obtain ⟨u, k1, k2⟩ := hcs _ _ hi;exact ⟨u, by rw [show pl.base + o + i = pl.base + (o + i) by omega]; exact k1, k2.mono hle⟩
     ·rw [List.getElem?_append_right (by omega)] at hi;have hlt := (List.getElem?_eq_some_iff.1 hi).1;rw [if_pos (by omega)];obtain ⟨u, k1, k2⟩ := hnew.get hi;exact ⟨u, by rw [show pl.base + o + i - (pl.base + (o + old.length)) = i - old.length by omega]; exact k1, k2.mono hle⟩
   ·rw [if_neg e1] at hx ⊢
    by_cases e2 : x = b
    ·rw [if_pos e2] at hx; cases hx
    ·rw [if_neg e2] at hx ⊢;obtain ⟨q, h1, h2⟩ := hr.lies x hx;refine ⟨q, ?_, h2.mono hle (heap_setCells_other _ _ _ _ _ (hr.apart x b q pl hx (by rw [hb]; rfl) (.inr (by rw [hb]; rfl)) h1 hp e2))⟩;show (if x = h.next then some _ else φ.at_ x) = _;rw [if_neg e1]; exact h1
  ·have hq : (if x = h.next then some ⟨pl.blk, pl.base + o, pl.ext - o⟩ else φ.at_ x) = some q := hq;have hq' : (if x' = h.next then some ⟨pl.blk, pl.base + o, pl.ext - o⟩ else φ.at_ x') = some q' := hq';rw [hblk] at hx hx';rw [hblk, hblk] at ho
   by_cases e1 : x = h.next
   ·have e1' : x' ≠ h.next := fun e => hne (e1.trans e.symm);rw [if_pos e1] at hq; cases hq;rw [if_neg e1'] at hq' hx'
    by_cases e2 : x' = b
    ·rw [if_pos e2] at hx'; cases hx'
    ·rw [if_neg e2] at hx';exact hr.apart b x' pl q' (by rw [hb]; rfl) hx' (.inl (by rw [hb]; rfl)) hp hq' (Ne.symm e2)
   ·rw [if_neg e1] at hq hx
    by_cases e2 : x = b
    ·rw [if_pos e2] at hx; cases hx
    ·rw [if_neg e2] at hx
     by_cases e1' : x' = h.next
     ·rw [if_pos e1'] at hq'; cases hq';exact hr.apart x b q pl hx (by rw [hb]; rfl) (.inr (by rw [hb]; rfl)) hq hp e2
     ·rw [if_neg e1'] at hq' hx'
      by_cases e2' : x' = b
      ·rw [if_pos e2'] at hx'; cases hx'
      ·rw [if_neg e2'] at hx';rw [if_neg e1, if_neg e2, if_neg e1', if_neg e2'] at ho;exact hr.apart x x' q q' hx hx' ho hq hq' hne
  ·rw [hblk];have : h.next + 1 ≤ x := hx;rw [if_neg (by omega)];split
   ·rfl
   ·exact hr.fresh x (by omega)
theorem all_one (hs : φ.symOk) : ∀ {l : List V} {r : List Value}, VRs φ l r → allFlat l = true → ∀ u ∈ r, u.oneCell' = true
 | [], r, h, _, u, hu => by cases h; cases hu
 | v :: l, r, h, hf, u, hu => by
  cases h with | cons _ u' _ r' h1 h2 =>
  simp only [allFlat] at hf
  cases hv : v.flat with
  | false => simp [hv] at hf
  | true =>
   rw [hv] at hf;rcases List.mem_cons.1 hu with e | e
   ·subst e; exact h1.one hs hv
   ·exact all_one hs h2 hf u e
theorem zeroCells_size (z : Array Value) (n : Nat) : (Builtin.zeroCells z n).size = n * z.size := by simp [Builtin.zeroCells]
theorem run_first0 (sz : Nat) (a : Addr) (len cc : Nat) (w : World) : (Builtin.firstCells sz 0 (.slice (some a) len cc)).run P w = .ok #[] w := by
 simp [Builtin.firstCells, loadCells, loadCellsFrom]
theorem run_first {w : World} {k o : Nat} {us : List Value} (h : w.rangeAt k o us) (sz n len cc : Nat) (hl : us.length = n * sz) (w' : World) (hw : w'.heap = w.heap) :
  (Builtin.firstCells sz n (.slice (some ⟨k, o, none⟩) len cc)).run P w' = .ok us.toArray w' := by
 refine run_firstCells_some w' sz n ⟨k, o, none⟩ len cc us hl fun j v hj => ?_;rw [Addr.add_mid, run_loads w w' hw];exact h j v hj
theorem grow_sim {h : Hp} {w : World} (hr : HR φ h w) (hfr : φ.at_ h.next = none) {l : List V} {c : Array Value} (hl : VRs φ l c.toList) {e : TypeId} {z : Array Value} {sz need cap : Nat} (hz : z.size = sz)
  (hlen : l.length = need * sz) (hcap : need ≤ cap) :
  ∃ ψ, VR ψ (.slice h.next 0 sz need need false) (.slice (some ⟨w.heap.size, 0, none⟩) need cap) ∧
   St φ h w ψ (h.new (.cells l false)) (w.drew.alloc (.cells (c ++ Builtin.zeroCells z (cap - need)) e)) := by
 have hcs : c.size = need * sz := by
  have := hl.length;simp at this; omega
 have hmul : need * sz + (cap - need) * sz = cap * sz := by rw [← Nat.add_mul]; congr 1; omega
 have hst := hr.drew.new (.cells l false) (.cells (c ++ Builtin.zeroCells z (cap - need)) e) ⟨w.heap.size, 0, cap * sz⟩ rfl hfr (fun ψ w' hle hh => by
  refine ⟨rfl, ?_, _, e, (0, 0), hh, ?_, .inl rfl, fun i v hi => ?_⟩
  ·rw [hlen]; exact Nat.mul_le_mul_right _ hcap
  ·simp only [Array.size_append, zeroCells_size, hz, hcs]; omega
  ·obtain ⟨u, k1, k2⟩ := hl.get hi;refine ⟨u, ?_, k2.mono hle⟩
   have : i < c.size := by
    have := (List.getElem?_eq_some_iff.1 hi).1;omega
   rw [Nat.zero_add, Array.getElem?_append_left this]
   simpa using k1)
 refine ⟨_, ?_, (St.drew hr).trans hst⟩;refine .slice _ _ _ _ _ _ _ _ (fun hpos => ⟨⟨w.heap.size, 0, cap * sz⟩, ?_, rfl, fun _ => by simp⟩) (Nat.le_refl _) hcap (fun ee => by cases ee);show (if h.next = h.next then some _ else _) = _;rw [if_pos rfl]
theorem roomy_iff {a b : Nat} : roomy a b = true ↔ a * b ≤ 1099511627776 ∧ b ≤ 1099511627776 := by
 unfold roomy;rw [cond_eq_ite, nble_d];simp only [decide_eq_true_eq];split
 ·rename_i h; rw [nble]; exact ⟨fun h2 => ⟨h, h2⟩, fun h2 => h2.2⟩
 ·rename_i h; simp; intro h2; exact absurd h2 h
theorem appC_sim (hsy : φ.symOk) {h h' : Hp} {w : World} (hr : HR φ h w) (hfr : h.next < h'.next → φ.at_ h.next = none) {ts : Array TypeId} {sT e ty : TypeId} {it : TypeInfo} {zu : Value} (h0 : ts[0]? = some sT)
  (ht : P.underlying sT = some (.slice e)) (hi : P.info? e = some it) (hz : it.zero = some zu) (hzs : zu.cells.size = it.size) (_hsz : 0 < it.size)
  {s v : V} {su xu : Value} (hs : VR φ s su) {n : Nat} (hn : 0 < n) {new : List V} {nu : Array Value} (hnew : VRs φ new nu.toList) (hlen : new.length = n * it.size) (hfl : allFlat new = true)
  (hsrc : Src P ts it.size it.bytes zu xu n nu w) (hv : appendC it.size it.bytes h s n new = some (v, h')) :
  ∃ u ψ w', VR ψ v u ∧ (Builtin.append_ ts ty #[su, xu]).run P w = .ok u w' ∧ St φ h w ψ h' w' := by
 unfold appendC at hv;split at hv
 ·
  rw [cond_eq_ite] at hv;split at hv
  case isFalse => cases hv
  rename_i hroom;rw [roomy_iff] at hroom;cases hv;cases hs;obtain ⟨cap, c1, c2⟩ := append_out (ty := ty) h0 ht hi hz hsrc (base := none) (sLen := 0) (sCap := 0) (old := #[]) (by omega) (fun w' _ => by simp [Builtin.firstCells]) (by omega) (by rw [Nat.zero_add]; exact hroom.1);obtain ⟨ψ, k1, k2⟩ := grow_sim hr (hfr (Nat.lt_succ_self _)) hnew (e := e) (z := zu.cells) hzs hlen (by omega : n ≤ cap);refine ⟨_, ψ, _, k1, ?_, k2⟩;rw [c2];simp only [Nat.zero_add, Array.empty_append]
 ·rename_i b o sz' len c ex;rw [cond_eq_ite] at hv;split at hv
  case isFalse => cases hv
  rename_i esz;rw [nbeq] at esz;subst esz
  cases hs with | slice _ _ _ _ _ _ ad cc hp hlc hcc hex =>
  rw [cond_eq_ite] at hv;split at hv
  ·
   rename_i hin;rw [nble] at hin;split at hv
   case h_2 => cases hv
   rename_i h1 hw;cases hv;obtain ⟨pl, p1, p2, _, p4⟩ := hr.store hnew hw;obtain ⟨pl', q1, q2, q3⟩ := hp (by omega);rw [p1] at q1; cases q1;subst q2;refine ⟨.slice (some ⟨pl.blk, pl.base + o, none⟩) (len + n) cc, φ, _, .slice _ _ _ _ _ _ _ _ (fun _ => ⟨pl, p1, rfl, q3⟩) hin hcc hex, ?_, p4⟩;refine append_in (ty := ty) h0 ht hi hz hsrc (by omega) (fun a ha => ?_) (fun ha => by cases ha);cases ha;rw [Addr.add_mid];have := run_storeCells_cells (P := P) pl.blk (pl.base + o + len * it.size) nu.toList 0 w (fun j hj => ?_) (fun j hj => ?_) (all_one hsy hnew hfl)
   ·rw [show pl.base + (o + len * it.size) = pl.base + o + len * it.size + 0 by omega]; exact this
   ·have := (p2 j hj).1; rwa [show pl.base + o + len * it.size + 0 + j = pl.base + (o + len * it.size) + j by omega]
   ·have := (p2 j hj).2; rwa [show pl.base + o + len * it.size + 0 + j = pl.base + (o + len * it.size) + j by omega]
  ·rename_i hout;rw [nble] at hout;rw [cond_eq_ite] at hv;split at hv
   case isFalse => cases hv
   rename_i hroom;rw [roomy_iff] at hroom;split at hv
   ·
    cases hex' : ex with
    | false => simp [hex'] at hv
    | true =>
     simp only [hex', cond_true] at hv;rw [cond_eq_ite] at hv;split at hv
     case isFalse => cases hv
     rename_i hl0;rw [nbeq] at hl0;subst hl0;cases hv;have ec := hex hex';obtain ⟨cap, c1, c2⟩ := append_out (ty := ty) h0 ht hi hz hsrc (base := some ad) (sLen := 0) (sCap := cc) (old := #[]) (by omega) (fun w' _ => run_first0 _ _ _ _ _) (by omega) hroom.1;obtain ⟨ψ, k1, k2⟩ := grow_sim hr (hfr (Nat.lt_succ_self _)) hnew (e := e) (z := zu.cells) hzs hlen (by omega : n ≤ cap);refine ⟨_, ψ, _, k1, ?_, k2⟩;rw [c2];simp only [Nat.zero_add, Array.empty_append]
   ·rename_i old hold;obtain ⟨pl, us, r1, r2, r3, r4⟩ := hr.read hold;have hus : us.length = len * it.size := (by rw [← r3.length, r2])
    have hlen2 : (old ++ new).length = (len + n) * it.size := by rw [List.length_append, r2, hlen, Nat.add_mul]
    have hfirst : ∀ w', w'.heap = w.heap → (Builtin.firstCells it.size len (.slice (some ad) len cc)).run P w' = .ok us.toArray w' := by
     intro w' hw';rcases Nat.eq_zero_or_pos len with e0 | e0
     ·subst e0;rw [run_first0];have : us = [] := List.length_eq_zero_iff.1 (by omega);rw [this]
     ·obtain ⟨pl', q1, q2, _⟩ := hp (by omega);rw [r1] at q1; cases q1;subst q2;exact run_first r4 _ _ _ _ hus _ hw'
    have hall : VRs φ (old ++ new) (us.toArray ++ nu).toList := by simpa using r3.append hnew
    cases hex' : ex with
    | true =>
     simp only [hex', cond_true, Option.some.injEq, Prod.mk.injEq] at hv;obtain ⟨rfl, rfl⟩ := hv;have ec := hex hex';obtain ⟨cap, c1, c2⟩ := append_out (ty := ty) h0 ht hi hz hsrc (base := some ad) (sLen := len) (sCap := cc) (old := us.toArray) (by omega) hfirst hroom.2 hroom.1;obtain ⟨ψ, k1, k2⟩ := grow_sim hr (hfr (Nat.lt_succ_self _)) hall (e := e) (z := zu.cells) hzs hlen2 c1;exact ⟨_, ψ, _, k1, c2, k2⟩
    | false =>
     simp only [hex', cond_false] at hv;rw [cond_eq_ite] at hv;split at hv
     case isFalse => cases hv
     rename_i ho0;rw [nbeq] at ho0;split at hv
     case h_2 => cases hv
     rename_i l hb;simp only [Option.some.injEq, Prod.mk.injEq] at hv;obtain ⟨rfl, rfl⟩ := hv
     by_cases hcc2 : len + n ≤ cc
     ·
      obtain ⟨pl', q1, q2, q3⟩ := hp (by omega);rw [r1] at q1; cases q1;subst q2;have hext := q3 hex'
      have hrd : takeX old.length (l.drop o) = some old := by
       unfold Hp.read at hold;rw [hb] at hold;rw [r2]; exact hold
      have hmul : (len + n) * it.size ≤ cc * it.size := Nat.mul_le_mul_right _ hcc2;have hst := hr.consume hb r1 (hfr (Nat.lt_succ_self _)) ho0 hrd hnew (by rw [r2, hlen]; rw [Nat.add_mul] at hmul; omega);refine ⟨.slice (some ⟨pl.blk, pl.base + o, none⟩) (len + n) cc, _, _, ?_, ?_, hst⟩
      ·refine .slice _ _ _ _ _ _ _ _ (fun _ => ⟨⟨pl.blk, pl.base + o, pl.ext - o⟩, ?_, rfl, fun _ => ?_⟩) (Nat.le_refl _) hcc2 (fun ee => by cases ee)
       ·show (if h.next = h.next then some _ else _) = _;rw [if_pos rfl]
       ·show 0 + cc * it.size = pl.ext - o;omega
      ·refine append_in (ty := ty) h0 ht hi hz hsrc hcc2 (fun a ha => ?_) (fun ha => by cases ha);cases ha;rw [Addr.add_mid];obtain ⟨pl2, s1, s2⟩ := hr.lies b (by rw [hb]; rfl);rw [r1] at s1; cases s1;rw [hb] at s2;obtain ⟨_, t1, cs, te, fz, t2, t3, t4, t5⟩ := s2;have hnl := hnew.length;rw [Nat.add_mul] at hmul;have hq : ∀ j, j < nu.toList.length → pl.base + o + len * it.size + 0 + j < cs.size := fun j hj => (by omega);have := run_storeCells_cells (P := P) pl.blk (pl.base + o + len * it.size) nu.toList 0 w (fun j hj => by rw [cell_of t2, Array.getElem?_eq_getElem (hq j hj)]; rfl) (fun j hj => frozen_of t2 t4 _ (hq j hj)) (all_one hsy hnew hfl)
       rw [r2, show pl.base + (o + len * it.size) = pl.base + o + len * it.size + 0 by omega]; exact this
     ·obtain ⟨cap, c1, c2⟩ := append_out (ty := ty) h0 ht hi hz hsrc (base := some ad) (sLen := len) (sCap := cc) (old := us.toArray) (by omega) hfirst hroom.2 hroom.1;obtain ⟨ψ, k1, k2⟩ := grow_sim (h := h.put b .gone) (hr.gone b) (hfr (Nat.lt_succ_self _)) hall (e := e) (z := zu.cells) hzs hlen2 c1;exact ⟨_, ψ, _, k1, c2, k2.of_gone b⟩
 ·cases hv
end Go.Vm
end

section
namespace Go.Vm
variable {P : Program} {φ : Emb}
def Acts (P : Program) (φ : Emb) (a : Act) (o : Oper) (h : Hp) (w : World) (v : V) (h' : Hp) : Prop :=
 ∃ nx u ψ w', (execOp a.eval o).run P w = .ok nx w' ∧ (nx = .value u ∨ (nx = .skip ∧ u = undef)) ∧ VR ψ v u ∧ St φ h w ψ h' w'
theorem Acts.of {a : Act} {o : Oper} {h h' : Hp} {w : World} {v : V} {s : Sem Value} (he : execOp a.eval o = (do pure (Next.value (← s)))) (hs : ∃ u ψ w', VR ψ v u ∧ s.run P w = .ok u w' ∧ St φ h w ψ h' w') :
  Acts P φ a o h w v h' := by
 obtain ⟨u, ψ, w', h1, h2, h3⟩ := hs;exact ⟨.value u, u, ψ, w', by rw [he]; exact lift_ok h2, .inl rfl, h1, h3⟩
theorem Acts.of_skip {a : Act} {o : Oper} {h h' : Hp} {w : World} {s : Sem Unit} (he : execOp a.eval o = (do s; pure Next.skip)) (hs : ∃ ψ w', s.run P w = .ok () w' ∧ St φ h w ψ h' w') :
  Acts P φ a o h w (.tup []) h' := by
 obtain ⟨ψ, w', h2, h3⟩ := hs;exact ⟨.skip, undef, ψ, w', by rw [he]; simp [h2], .inr ⟨rfl, rfl⟩, .tup _ _ .nil, h3⟩
theorem undef_rel : VR φ (.tup []) undef := .tup _ _ .nil
theorem store_run {w : World} {k o : Nat} {us : List Value} (ht : w.there k o us.length) (h1 : ∀ u ∈ us, u.oneCell' = true) : (storeCells ⟨k, o, none⟩ us).run P w = .ok () (w.setCells k o us) := by
 have := run_storeCells_cells (P := P) k o us 0 w (fun j hj => by simpa using (ht j hj).1) (fun j hj => by simpa using (ht j hj).2) h1;simpa using this
def KeyTy (kk : Option IntKind) (d : TypeDesc) : Prop := (∃ k, kk = some k ∧ ∃ j, d = .int j) ∨ (kk = none ∧ d = .string)
theorem key_now {kk : Option IntKind} {k1 k2 : V} {u1 u2 : Value} (ho1 : keyOk kk k1 = true) (ho2 : keyOk kk k2 = true) (h1 : VR φ k1 u1) (h2 : VR φ k2 u2) {d : TypeDesc} (hd : KeyTy kk d) :
  Instr.sameNow d u2 u1 = some (V.same k1 k2) := by
 cases kk with
 | none =>
  rcases hd with ⟨k, e, _⟩ | ⟨_, rfl⟩
  ·cases e
  ·cases k1 <;> simp [keyOk] at ho1;cases k2 <;> simp [keyOk] at ho2;cases h1; cases h2;simp only [Instr.sameNow, V.same, neqs_map, beq_toListBytes, str_eq, Option.some.injEq];rw [Bool.eq_iff_iff, beq_iff_eq, beq_iff_eq];exact eq_comm
 | some k =>
  rcases hd with ⟨k', e, j, rfl⟩ | ⟨e, _⟩
  ·cases k1 <;> simp only [keyOk, Bool.false_eq_true] at ho1;cases k2 <;> simp only [keyOk, Bool.false_eq_true] at ho2;have e1 := keq_iff.1 ho1;have e2 := keq_iff.1 ho2;subst e1; subst e2;cases h1; cases h2;simp only [Instr.sameNow, V.same, keq_iff.2 rfl, cond_true, ieq_d, if_true, Option.some.injEq];rw [Bool.eq_iff_iff, beq_iff_eq, beq_iff_eq];exact eq_comm
  ·cases e
theorem keyIs_ty {sk : Bool} {kk : Option IntKind} {v : V} (h : keyIs sk kk v = true) {d : TypeDesc} (hd : (sk = false ∧ ∃ k, d = .int k) ∨ (sk = true ∧ d = .string)) : keyOk kk v = true ∧ KeyTy kk d := by
 cases kk with
 | none =>
  simp only [keyIs] at h
  cases sk with
  | false => simp at h
  | true =>
   rcases hd with ⟨e, _⟩ | ⟨_, rfl⟩
   ·cases e
   ·exact ⟨by simpa using h, .inr ⟨rfl, rfl⟩⟩
 | some k =>
  simp only [keyIs] at h
  cases sk with
  | true => simp at h
  | false =>
   rcases hd with ⟨_, j, rfl⟩ | ⟨e, _⟩
   ·exact ⟨by simpa using h, .inl ⟨k, rfl, j, rfl⟩⟩
   ·cases e
def Ents (φ : Emb) (kk : Option IntKind) (l : List (V × V)) (es : List MapEntry) : Prop :=
 l.length = es.length ∧ ∀ (i : Nat) (p : V × V) (e : MapEntry), l[i]? = some p → es[i]? = some e → EntR φ kk p e
theorem Ents.tail {kk : Option IntKind} {p : V × V} {l : List (V × V)} {e : MapEntry} {es : List MapEntry} (h : Ents φ kk (p :: l) (e :: es)) : EntR φ kk p e ∧ Ents φ kk l es :=
 ⟨h.2 0 p e rfl rfl, by simpa using h.1, fun i q f h1 h2 => h.2 (i + 1) q f (by simpa using h1) (by simpa using h2)⟩
theorem find_ok {kk : Option IntKind} {d : TypeDesc} (hd : KeyTy kk d) {k : V} {ku : Value} (hk : keyOk kk k = true) (hr : VR φ k ku) :
  ∀ (l : List (V × V)) (es : List MapEntry) (i : Nat), Ents φ kk l es →
   (Instr.findNow d ku es i = some none ∧ mapFind k l = none ∧ mapDel k l = l ∧ ∀ x, mapSet k x l = l ++ [(k, x)]) ∨
   (∃ j p e, l[j]? = some p ∧ es[j]? = some e ∧ Instr.findNow d ku es i = some (some (i + j, e.val)) ∧ mapFind k l = some p.2 ∧ EntR φ kk p e ∧ p.1 = k ∧ mapDel k l = l.eraseIdx j ∧ ∀ x, mapSet k x l = l.set j (p.1, x))
 | [], [], i, _ => .inl ⟨rfl, rfl, rfl, fun _ => rfl⟩
 | [], _ :: _, i, h => by have := h.1; simp at this
 | _ :: _, [], i, h => by have := h.1; simp at this
 | (a, b) :: l, e :: es, i, h => by
  obtain ⟨he, ht⟩ := h.tail;have hs := key_now he.1 hk he.2.1 hr hd
  cases hsame : V.same a k with
  | true =>
   rw [hsame] at hs;refine .inr ⟨0, (a, b), e, rfl, rfl, by simp [Instr.findNow, hs], by simp [mapFind, hsame], he, same_eq hsame, by simp [mapDel, hsame], fun x => by simp [mapSet, hsame]⟩
  | false =>
   rw [hsame] at hs;rcases find_ok hd hk hr l es (i + 1) ht with ⟨h1, h2, h3, h4⟩ | ⟨j, p, f, h1, h2, h3, h4, h5, h6, h7, h8⟩
   ·exact .inl ⟨by simp [Instr.findNow, hs, h1], by simp [mapFind, hsame, h2], by simp [mapDel, hsame, h3], fun x => by simp [mapSet, hsame, h4]⟩
   ·refine .inr ⟨j + 1, p, f, by simpa using h1, by simpa using h2, by simp [Instr.findNow, hs, h3]; omega, by simp [mapFind, hsame, h4], h5, h6, by simp [mapDel, hsame, h7], fun x => by simp [mapSet, hsame, h8]⟩
theorem run_check {kt : TypeId} {d : TypeDesc} (hu : P.underlying kt = some d) (hd : (∃ k, d = .int k) ∨ d = .string) (e : Bool) (n : Nat) (k : Value) (w : World) : (Instr.checkKey e (n + 1) kt k).run P w = .ok () w := by
 unfold Instr.checkKey;rcases hd with ⟨j, rfl⟩ | rfl <;> simp [run_underlying hu]
theorem HR.setMap {h : Hp} {w : World} (hr : HR φ h w) {b : Nat} {kk : Option IntKind} {l l' : List (V × V)} (hb : h.blk b = .map kk l) {pl : Place} (hp : φ.at_ b = some pl) {es : Array MapEntry} {clock : Nat}
  (hes : Ents φ kk l' es.toList) (hst : MapKept.Stamped es clock) : St φ h w φ (h.put b (.map kk l')) { w with heap := w.heap.setIfInBounds pl.blk (.map es clock) } := by
 obtain ⟨pl', hpl', hat⟩ := hr.lies b (by rw [hb]; rfl);rw [hp] at hpl'; cases hpl'
 rw [hb] at hat
 obtain ⟨es0, clock0, hh, _, _, _⟩ := hat
 have hlt := (Array.getElem?_eq_some_iff.1 hh).1
 have hother : ∀ k, k ≠ pl.blk → (w.heap.setIfInBounds pl.blk (.map es clock))[k]? = w.heap[k]? := fun k hk => by
  rw [Array.getElem?_setIfInBounds, if_neg (Ne.symm hk)]
 have hkey : ∀ y, ((h.put b (.map kk l')).blk y).live = true → (h.blk y).live = true := fun y hy => by
  rw [blk_put] at hy
  by_cases ey : y = b
  ·rw [ey, hb]; rfl
  ·rwa [if_neg ey] at hy
 have hkeyO : ∀ y, ((h.put b (.map kk l')).blk y).open_ = true → (h.blk y).open_ = true := fun y hy => by
  rw [blk_put] at hy
  by_cases ey : y = b
  ·rw [ey, hb]; rfl
  ·rwa [if_neg ey] at hy
 refine ⟨.refl φ, fun _ _ => rfl, Nat.le_refl _, rfl, rfl, rfl, by simp, fun k hk hn => hother k fun ek => hn b pl (by rw [hb]; rfl) hp ek.symm, fun x q ho hq => ?_, fun x q ho hq => .inl ⟨x, q, hkey x ho, hq, rfl⟩, ?_⟩
 ·rw [blk_put] at ho
  by_cases ex : x = b
  ·subst ex; exact .inl ⟨x, q, by rw [hb]; rfl, hq, rfl⟩
  ·rw [if_neg ex] at ho; exact .inl ⟨x, q, ho, hq, rfl⟩
 ·refine ⟨fun x hx => ?_, fun x x' q q' hx hx' ho => hr.apart x x' q q' (hkey x hx) (hkey x' hx') (ho.imp (hkeyO x) (hkeyO x')), fun x hx => ?_⟩
  ·have hx0 := hkey x hx;rw [blk_put]
   by_cases ex : x = b
   ·rw [if_pos ex];subst ex;refine ⟨pl, hp, es, clock, ?_, hst, by simpa using hes.1, fun i p e h1 h2 => hes.2 i p e h1 (by simpa using h2)⟩;show (w.heap.setIfInBounds pl.blk (.map es clock))[pl.blk]? = _;rw [Array.getElem?_setIfInBounds, if_pos rfl, if_pos hlt]
   ·rw [if_neg ex];obtain ⟨q, h1, h2⟩ := hr.lies x hx0;exact ⟨q, h1, h2.mono (.refl φ) (hother _ (hr.apart x b q pl hx0 (by rw [hb]; rfl) (.inr (by rw [hb]; rfl)) h1 hp ex))⟩
  ·rw [blk_put];have : x ≠ b := fun e => (by have := hr.fresh x hx; rw [e, hb] at this; cases this);rw [if_neg this];exact hr.fresh x hx
theorem map_at {h : Hp} {w : World} (hr : HR φ h w) {b : Nat} {kk : Option IntKind} {l : List (V × V)} (hb : h.blk b = .map kk l) : ∃ pl es clock, φ.at_ b = some pl ∧ w.heap[pl.blk]? = some (.map es clock) ∧ Ents φ kk l es.toList ∧ MapKept.Stamped es clock := by
 obtain ⟨pl, hp, hat⟩ := hr.lies b (by rw [hb]; rfl)
 rw [hb] at hat
 obtain ⟨es, clock, hh, hst, h1, h2⟩ := hat
 exact ⟨pl, es, clock, hp, hh, ⟨by simpa using h1, fun i p e k1 k2 => h2 i p e k1 (by simpa using k2)⟩, hst⟩
theorem lookup_sim {h : Hp} {w : World} (hr : HR φ h w) {t kt e : TypeId} {dk : TypeDesc} (ht : P.underlying t = some (.map kt e)) (hk : P.underlying kt = some dk) {sk : Bool} (hd : (sk = false ∧ ∃ k, dk = .int k) ∨ (sk = true ∧ dk = .string))
  {z : V} {it : TypeInfo} {zu : Value} (hi : P.info? e = some it) (hz : it.zero = some zu) (rz : VR φ z zu) {m k : V} {mu ku : Value} (hm : VR φ m mu) (hkr : VR φ k ku) {ok : Bool} {v : V} {h' : Hp}
  (hv : (match (generalizing := false) m with
  | .nilmap => some (cond ok (.tup [z, .bool false]) z, h)
  | .map b => match h.blk b with
   | .map kk l => cond (keyIs sk kk k) (match mapFind k l with
    | some v => some (cond ok (.tup [v, .bool true]) v, h)
    | none => some (cond ok (.tup [z, .bool false]) z, h)) none
   | _ => none
  | _ => none) = some (v, h')) : h' = h ∧ ∃ u, VR φ v u ∧ (Instr.lookup t mu ku ok).run P w = .ok u w := by
 have hdk : (∃ k, dk = .int k) ∨ dk = .string := by rcases hd with ⟨_, h⟩ | ⟨_, h⟩ <;> simp [h]
 have hout : ∀ (x : V) (xu : Value) (q : Bool), VR φ x xu → VR φ (cond ok (.tup [x, .bool q]) x) (if ok = true then .tuple #[xu, .bool q] else xu) := by
  intro x xu q hx
  cases ok with
  | true => exact .tup _ _ (.cons _ _ _ _ hx (.cons _ _ _ _ (.bool q) .nil))
  | false => exact hx
 cases m <;> simp only [reduceCtorEq] at hv
 case nilmap =>
  cases hv;cases hm;refine ⟨rfl, _, hout z zu false rz, ?_⟩;simp only [Instr.lookup, Sem.run_bind, run_underlying ht, Result.andThen_ok, Sem.run_pure];rw [run_check hk hdk];simp [Instr.findKey, run_underlying hk, Instr.findNow, zeroValue, typeInfo, hi, hz]
 case map b =>
  cases hm with | map _ pl hp =>
  split at hv
  case h_2 => cases hv
  rename_i kk l hb;rw [cond_eq_ite] at hv;split at hv
  case isFalse => cases hv
  rename_i hkey;obtain ⟨hok, hty⟩ := keyIs_ty hkey hd;obtain ⟨pl', es, clock, p1, p2, p3, p4⟩ := map_at hr hb;rw [hp] at p1; cases p1;rcases find_ok hty hok hkr l es.toList 0 p3 with ⟨h1, h2, _⟩ | ⟨j, p, f, h1, h2, h3, h4, h5, _⟩
  ·rw [h2] at hv;cases hv;refine ⟨rfl, _, hout z zu false rz, ?_⟩;simp only [Instr.lookup, Sem.run_bind, run_underlying ht, Result.andThen_ok, MapKept.run_getObj_map p2, Sem.run_pure];rw [run_check hk hdk];simp [Instr.findKey, run_underlying hk, h1, zeroValue, typeInfo, hi, hz]
  ·rw [h4] at hv;cases hv;refine ⟨rfl, _, hout p.2 f.val true h5.2.2, ?_⟩;simp only [Instr.lookup, Sem.run_bind, run_underlying ht, Result.andThen_ok, MapKept.run_getObj_map p2, Sem.run_pure];rw [run_check hk hdk];simp [Instr.findKey, run_underlying hk, h3]
theorem same_bits {kk : Option IntKind} {k : V} {u1 u2 : Value} (ho : keyOk kk k = true) (h1 : VR φ k u1) (h2 : VR φ k u2) : Instr.sameBits 10000 u1 u2 = true := by
 cases k <;> cases kk <;> simp [keyOk] at ho
 ·cases h1; cases h2;unfold Instr.sameBits;simp
 ·rename_i l
  cases h1 with | str s1 =>
  generalize hl : s1.data.toList.map UInt8.toNat = l at h2
  cases h2 with | str s2 =>
  have := map_inj hl
  have e : s1 = s2 := by
   cases s1; cases s2;simp at this;simpa using this
  subst e;show (s1 == s1) = true;rw [beq_toListBytes];exact beq_self_eq_true _
theorem key_uniq {kk : Option IntKind} {k : V} {u1 u2 : Value} (ho : keyOk kk k = true) (h1 : VR φ k u1) (h2 : VR φ k u2) : u1 = u2 := by
 unfold keyOk at ho;split at ho
 ·cases h1; cases h2; rfl
 ·rename_i l
  cases h1 with | str s1 =>
  generalize hl : s1.data.toList.map UInt8.toNat = l at h2
  cases h2 with | str s2 =>
  have := map_inj hl
  have e : s1 = s2 := by
   cases s1; cases s2;simp at this;simpa using this
  rw [e]
 ·cases ho
theorem key_inj {kk : Option IntKind} {a b : V} {u : Value} (ha : keyOk kk a = true) (hb : keyOk kk b = true) (h1 : VR φ a u) (h2 : VR φ b u) : a = b := by
 unfold keyOk at ha hb;split at ha
 ·split at hb
  ·cases h1; cases h2; rfl
  ·cases h1; cases h2
  ·cases hb
 ·split at hb
  ·cases h1; cases h2
  ·cases h1; cases h2; rfl
  ·cases hb
 ·cases ha
theorem neqs_refl : ∀ l : List Nat, neqs l l = true
 | [] => rfl
 | a :: l => by
  simp only [neqs];rw [nbeq.2 rfl];exact neqs_refl l
theorem same_key {kk : Option IntKind} {k : V} (h : keyOk kk k = true) : V.same k k = true := by
 unfold keyOk at h;split at h
 ·simp only [V.same];rw [keq_iff.2 rfl, ieq_iff.2 rfl];rfl
 ·simp only [V.same]; exact neqs_refl _
 ·cases h
theorem mapFind_none {kk : Option IntKind} {k : V} (hk : keyOk kk k = true) : ∀ {l : List (V × V)}, mapFind k l = none → ∀ p, p ∈ l → p.1 ≠ k
 | [], _, p, hp => by cases hp
 | (a, v) :: l, h, p, hp => by
  simp only [mapFind] at h;rw [cond_eq_ite] at h; split at h
  ·cases h
  rename_i hs;rcases List.mem_cons.1 hp with rfl | hp
  ·rintro rfl;exact hs (same_key hk)
  ·exact mapFind_none hk h p hp
theorem mapput_sim {h h' : Hp} {w : World} (hr : HR φ h w) {t kt e : TypeId} {dk : TypeDesc} (ht : P.underlying t = some (.map kt e)) (hk : P.underlying kt = some dk) {sk : Bool} (hd : (sk = false ∧ ∃ k, dk = .int k) ∨ (sk = true ∧ dk = .string))
  {m k x : V} {mu ku xu : Value} (hm : VR φ m mu) (hkr : VR φ k ku) (hx : VR φ x xu) {v : V}
  (hv : (match (generalizing := false) m with
  | .map b => match h.blk b with
   | .map kk l => cond (keyIs sk kk k) (some (.tup [], h.put b (.map kk (mapSet k x l)))) none
   | _ => none
  | _ => none) = some (v, h')) : v = .tup [] ∧ ∃ w', (Instr.mapUpdate t mu ku xu).run P w = .ok () w' ∧ St φ h w φ h' w' := by
 have hdk : (∃ k, dk = .int k) ∨ dk = .string := (by rcases hd with ⟨_, h⟩ | ⟨_, h⟩ <;> simp [h]);cases m <;> simp only [reduceCtorEq] at hv;rename_i b
 cases hm with | map _ pl hp =>
 split at hv
 case h_2 => cases hv
 rename_i kk l hb;rw [cond_eq_ite] at hv;split at hv
 case isFalse => cases hv
 rename_i hkey;cases hv;obtain ⟨hok, hty⟩ := keyIs_ty hkey hd;obtain ⟨pl', es, clock, p1, p2, p3, p4⟩ := map_at hr hb;rw [hp] at p1; cases p1;rcases find_ok hty hok hkr l es.toList 0 p3 with ⟨h1, h2, _, h4⟩ | ⟨j, p, f, h1, h2, h3, h4, h5, h6, _, h8⟩
 ·refine ⟨rfl, _, ?_, HR.setMap hr hb hp (es := es.push { key := ku, val := xu, born := clock }) (clock := clock + 1) ?_ (MapKept.stamped_push p4 fun y hy e => ?_)⟩
  ·simp only [Instr.mapUpdate, Sem.run_bind, run_underlying ht, Result.andThen_ok, MapKept.run_getObj_map p2];rw [run_check hk hdk];simp [Instr.findKey, run_underlying hk, h1, MapKept.run_setObj_map _ p2]
  ·rw [h4];refine ⟨by simp [p3.1], fun i q g g1 g2 => ?_⟩;simp only [Array.toList_push] at g2
   by_cases c : i < l.length
   ·rw [List.getElem?_append_left c] at g1;rw [List.getElem?_append_left (by have := p3.1; omega)] at g2;exact p3.2 i q g g1 g2
   ·rw [List.getElem?_append_right (by omega)] at g1;rw [List.getElem?_append_right (by have := p3.1; omega)] at g2;have := p3.1;rw [← this] at g2
    cases hi : i - l.length with
    | zero =>
     rw [hi] at g1 g2;simp at g1 g2;subst g1; subst g2;exact ⟨hok, hkr, hx⟩
    | succ n => rw [hi] at g1; simp at g1
  ·obtain ⟨i, hi⟩ := List.mem_iff_getElem?.1 hy
   have hil : i < l.length := by
    have := (List.getElem?_eq_some_iff.1 hi).1;have := p3.1;omega
   obtain ⟨q1, q2, _⟩ := p3.2 i _ y (List.getElem?_eq_getElem hil) hi;rw [e] at q2;exact mapFind_none hok h2 _ (List.getElem_mem hil) (key_inj q1 hok q2 hkr)
 ·have hjl : j < es.size := by
   have := (List.getElem?_eq_some_iff.1 h2).1;simpa using this
  have hej : es[j]? = some f := (by simpa using h2);refine ⟨rfl, _, ?_, HR.setMap hr hb hp (es := es.modify j fun e => { e with key := ku, val := xu }) (clock := clock) ?_ (MapKept.stamped_modify p4 j _ (fun _ _ => rfl) fun y _ hy => ?_)⟩
  ·simp only [Instr.mapUpdate, Sem.run_bind, run_underlying ht, Result.andThen_ok, MapKept.run_getObj_map p2];rw [run_check hk hdk];have hsb : Instr.sameBits 10000 f.key ku = true := same_bits hok (h6 ▸ h5.2.1) hkr;simp only [Instr.findKey, Sem.run_bind, run_underlying hk, Result.andThen_ok, h3, Sem.run_pure, Nat.zero_add, hej, Option.map_some, Option.getD_some, Instr.keyThatStays, hsb, if_true];exact MapKept.run_setObj_map _ p2
  ·rw [h8];refine ⟨by simp [p3.1], fun i q g g1 g2 => ?_⟩;rw [Array.getElem?_toList, Array.getElem?_modify] at g2;rw [List.getElem?_set] at g1
   by_cases c : j = i
   ·subst c;rw [if_pos rfl] at g1 g2;rw [hej] at g2;simp at g2;split at g1
    ·simp at g1;subst g1; subst g2;exact ⟨h6 ▸ hok, h6 ▸ hkr, hx⟩
    ·cases g1
   ·rw [if_neg c] at g1 g2;exact p3.2 i q g g1 (by simpa using g2)
  ·rw [hej] at hy;cases hy;exact key_uniq hok hkr (h6 ▸ h5.2.1)
theorem delete_sim {h h' : Hp} {w : World} (hr : HR φ h w) {ts : Array TypeId} {t ty kt e : TypeId} {dk : TypeDesc} (h0 : ts[0]? = some t) (ht : P.underlying t = some (.map kt e)) (hk : P.underlying kt = some dk) {sk : Bool} (hd : (sk = false ∧ ∃ k, dk = .int k) ∨ (sk = true ∧ dk = .string))
  {m k : V} {mu ku : Value} (hm : VR φ m mu) (hkr : VR φ k ku) {v : V}
  (hv : (match (generalizing := false) m with
  | .nilmap => some (.tup [], h)
  | .map b => match h.blk b with
   | .map kk l => cond (keyIs sk kk k) (some (.tup [], h.put b (.map kk (mapDel k l)))) none
   | _ => none
  | _ => none) = some (v, h')) : v = .tup [] ∧ ∃ w', (Builtin.delete_ ts ty #[mu, ku]).run P w = .ok (.tuple #[]) w' ∧ St φ h w φ h' w' := by
 have hdk : (∃ k, dk = .int k) ∨ dk = .string := (by rcases hd with ⟨_, h⟩ | ⟨_, h⟩ <;> simp [h]);cases m <;> simp only [reduceCtorEq] at hv
 case nilmap =>
  cases hv;cases hm;refine ⟨rfl, w, ?_, .refl hr⟩;simp only [Builtin.delete_, h0, List.getElem?_toArray, List.getElem?_cons_zero, List.getElem?_cons_succ, Sem.run_bind, run_underlying ht, Result.andThen_ok];rw [run_check hk hdk];simp
 case map b =>
  cases hm with | map _ pl hp =>
  split at hv
  case h_2 => cases hv
  rename_i kk l hb;rw [cond_eq_ite] at hv;split at hv
  case isFalse => cases hv
  rename_i hkey;cases hv;obtain ⟨hok, hty⟩ := keyIs_ty hkey hd;obtain ⟨pl', es, clock, p1, p2, p3, p4⟩ := map_at hr hb;rw [hp] at p1; cases p1;rcases find_ok hty hok hkr l es.toList 0 p3 with ⟨h1, h2, h3, _⟩ | ⟨j, p, f, h1, h2, h3, h4, h5, h6, h7, _⟩
  ·refine ⟨rfl, _, ?_, HR.setMap hr hb hp (es := es) (clock := clock) ?_ p4⟩
   ·simp only [Builtin.delete_, h0, List.getElem?_toArray, List.getElem?_cons_zero, List.getElem?_cons_succ, Sem.run_bind, run_underlying ht, Result.andThen_ok, MapKept.run_getObj_map p2];rw [run_check hk hdk];simp [Instr.findKey, run_underlying hk, h1, MapKept.run_setObj_map _ p2]
   ·rw [h3]; exact p3
  ·have hjl : j < es.size := by
    have := (List.getElem?_eq_some_iff.1 h2).1;simpa using this
   refine ⟨rfl, _, ?_, HR.setMap hr hb hp (es := es.eraseIdxIfInBounds j) (clock := clock) ?_ (MapKept.stamped_erase p4 j)⟩
   ·simp only [Builtin.delete_, h0, List.getElem?_toArray, List.getElem?_cons_zero, List.getElem?_cons_succ, Sem.run_bind, run_underlying ht, Result.andThen_ok, MapKept.run_getObj_map p2];rw [run_check hk hdk];simp [Instr.findKey, run_underlying hk, h3, MapKept.run_setObj_map _ p2]
   ·rw [h7]
    have he : (es.eraseIdxIfInBounds j).toList = es.toList.eraseIdx j := by
     simp [Array.eraseIdxIfInBounds, hjl]
    rw [he];refine ⟨by simp [List.length_eraseIdx, p3.1], fun i q g g1 g2 => ?_⟩;rw [List.getElem?_eraseIdx] at g1 g2;split at g1
    ·rename_i c; rw [if_pos c] at g2; exact p3.2 i q g g1 g2
    ·rename_i c; rw [if_neg c] at g2; exact p3.2 (i + 1) q g g1 g2
end Go.Vm
end

section
namespace Go.Vm
variable {P : Program} {φ : Emb}
theorem range_add {w : World} {k o : Nat} {us : List Value} (h : w.rangeAt k o us) : ∀ j v, us[j]? = some v → w.cell? ((⟨k, o, none⟩ : Addr).add j) = some v := fun j v hj => by rw [Addr.add_mid]; exact h j v hj
theorem load_cells {w : World} {t : TypeId} {b : Bool} {n : Nat} (ha : aggP P t = some b) (hn : szP P t = some n) {k o : Nat} {us : List Value} (hr : w.rangeAt k o us) :
  (b = true → us.length = n → (loadVar t ⟨k, o, none⟩).run P w = .ok (.agg us.toArray) w) ∧ (b = false → ∀ u, us[0]? = some u → (loadVar t ⟨k, o, none⟩).run P w = .ok u w) := by
 refine ⟨fun hb hl => ?_, fun hb u hu => ?_⟩
 ·subst hb;have := run_loadCells_list (P := P) w ⟨k, o, none⟩ us (range_add hr);rw [hl] at this;simp [loadVar, run_isAgg_of ha, run_sizeOf_of hn, this]
 ·subst hb;have hc := hr 0 u hu;rw [Nat.add_zero] at hc;simp [loadVar, run_isAgg_of ha, run_load, hc]
theorem only_load {o : Oper} {m : MOp} (hc : cOp P o.op = some m) (hm : (∃ x, m = .load1 x) ∨ (∃ n x, m = .loadn n x)) : ∃ t X, o.op = .load t X := by
 have no : ∀ {f : Opd → MOp} {x : Option Opd}, (∀ y, (¬ ∃ z, f y = .load1 z) ∧ ¬ ∃ n z, f y = .loadn n z) → x.map f = some m → False := by
  intro f x hf h;obtain ⟨y, _, e⟩ := map_some h;subst e;rcases hm with hm | hm
  ·exact (hf y).1 hm
  ·exact (hf y).2 hm
 have nop : ∀ {x : Option POp}, x.map MOp.p = some m → False := by
  intro x h;obtain ⟨y, _, e⟩ := map_some h;subst e;rcases hm with ⟨_, hm⟩ | ⟨_, _, hm⟩ <;> cases hm
 have p : ∀ {x : POp}, MOp.p x = m → False := (by rintro x rfl; rcases hm with ⟨_, hm⟩ | ⟨_, _, hm⟩ <;> cases hm);have q : ∀ {x : AOp}, MOp.a x = m → False := (by rintro x rfl; rcases hm with ⟨_, hm⟩ | ⟨_, _, hm⟩ <;> cases hm);have r : ∀ {x : EOp}, MOp.e x = m → False := (by rintro x rfl; rcases hm with ⟨_, hm⟩ | ⟨_, _, hm⟩ <;> cases hm);cases hop : o.op <;> rw [hop] at hc <;> simp only [cOp, reduceCtorEq] at hc
 case load t X => exact ⟨t, X, rfl⟩
 all_goals exfalso
 case convert s d X =>
  split at hc
  ·unfold cConv at hc
   repeat' (first | (cases hc; done) | (exact p (Option.some.inj hc)) | (exact q (Option.some.inj hc)) | (exact r (Option.some.inj hc)) | (rw [cond_eq_ite] at hc; split at hc) | split at hc)
  ·cases hc
 case call c =>
  unfold cCall at hc
  repeat' (first | (cases hc; done) | (exact p (Option.some.inj hc)) | (exact q (Option.some.inj hc)) | (exact r (Option.some.inj hc)) | (unfold cBuiltin at hc) | (rw [cond_eq_ite] at hc; split at hc) | split at hc)
 case build t parts =>
  repeat' (first | (cases hc; done) | (obtain ⟨y, _, e⟩ := map_some hc; exact p e) | split at hc)
 case buildSlice t n parts =>
  repeat' (first | (cases hc; done) | (obtain ⟨y, _, e⟩ := map_some hc; exact q e) | (rw [cond_eq_ite] at hc; split at hc) | split at hc)
 case makeFunc fn x y =>
  cases fn <;> simp only [reduceCtorEq] at hc
  repeat' (first | (cases hc; done) | (exact p (Option.some.inj hc)) | split at hc)
 case makeMap t r' =>
  cases r' <;> simp only [reduceCtorEq] at hc
  repeat' (first | (cases hc; done) | (exact q (Option.some.inj hc)) | split at hc)
 case binOp => split at hc <;> first | (cases hc; done) | exact nop hc
 case slice => split at hc <;> first | (cases hc; done) | exact nop hc
 all_goals (repeat' (first | (cases hc; done) | (obtain ⟨y, _, e⟩ := map_some hc; first | exact p e | exact q e | exact r e) | (exact p (Option.some.inj hc)) | (exact q (Option.some.inj hc)) | (exact r (Option.some.inj hc)) | split at hc))
theorem load1_sim {env : Env} (ok : EnvOk P φ env) {fr : Fr} {a : Act} (hf : FR φ fr a) {o : Oper} {x : Opd} (hc : cOp P o.op = some (.load1 x)) {b q : Nat} (hx : ev fr x = .ptr b q) {pl : Place} (hp : φ.at_ b = some pl) {w : World}
  {us : List Value} (hr : w.rangeAt pl.blk (pl.base + q) us) {u : Value} (hu : us[0]? = some u) : (execOp a.eval o).run P w = .ok (.value u) w := by
 obtain ⟨t, X, hop⟩ := only_load hc (.inl ⟨x, rfl⟩);rw [hop] at hc;simp only [cOp] at hc;split at hc
 case h_1 => cases hc
 case h_3 => cases hc
 rename_i n x' h1 h2 h3;cases hc;have rx := opd_rel ok.gl hf h3;rw [hx] at rx
 have he : execOp a.eval o = (do pure (Next.value (← Instr.loadAt t (a.eval X)))) := by simp only [execOp, hop]
 rw [he];generalize a.eval X = xu at rx
 cases rx with | ptr _ _ pl' hp' =>
 rw [hp] at hp'; cases hp';refine lift_ok ?_;simp only [Instr.loadAt, Instr.sureAddr, pure_bind, (load_cells h1 h2 hr).2 rfl u hu]
theorem loadn_sim {env : Env} (ok : EnvOk P φ env) {fr : Fr} {a : Act} (hf : FR φ fr a) {o : Oper} {n : Nat} {x : Opd} (hc : cOp P o.op = some (.loadn n x)) {b q : Nat} (hx : ev fr x = .ptr b q) {pl : Place} (hp : φ.at_ b = some pl) {w : World}
  {us : List Value} (hr : w.rangeAt pl.blk (pl.base + q) us) (hl : us.length = n) : (execOp a.eval o).run P w = .ok (.value (.agg us.toArray)) w := by
 obtain ⟨t, X, hop⟩ := only_load hc (.inr ⟨n, x, rfl⟩);rw [hop] at hc;simp only [cOp] at hc;split at hc
 case h_2 => cases hc
 case h_3 => cases hc
 rename_i n' x' h1 h2 h3;cases hc;have rx := opd_rel ok.gl hf h3;rw [hx] at rx
 have he : execOp a.eval o = (do pure (Next.value (← Instr.loadAt t (a.eval X)))) := by simp only [execOp, hop]
 rw [he];generalize a.eval X = xu at rx
 cases rx with | ptr _ _ pl' hp' =>
 rw [hp] at hp'; cases hp';refine lift_ok ?_;simp only [Instr.loadAt, Instr.sureAddr, pure_bind, (load_cells h1 h2 hr).1 rfl hl]
theorem lenV_ok {x : V} {u : Value} (h : VR φ x u) {n : Nat} (hn : lenV x = some n) (w : World) : (Builtin.lenOf u).run P w = .ok n w := by
 cases x <;> simp only [lenV, reduceCtorEq, Option.some.injEq] at hn
 ·subst hn
  cases h with | str s =>
  simp [Builtin.lenOf]
 ·subst hn; cases h; simp [Builtin.lenOf]
 ·subst hn; cases h; simp [Builtin.lenOf]
theorem src_ok {h : Hp} {w : World} (hr : HR φ h w) {x : V} {u : Value} (hx : VR φ x u) {sz n : Nat} {l : List V} (hs : srcCells h sz n x = some l) :
  ∃ us : List Value, VRs φ l us ∧ l.length = n * sz ∧ ∀ w', w'.heap = w.heap → (Builtin.firstCells sz n u).run P w' = .ok us.toArray w' := by
 cases x <;> simp only [srcCells, reduceCtorEq] at hs
 case nilslice =>
  rw [cond_eq_ite] at hs;split at hs
  case isFalse => cases hs
  rename_i h0;rw [nbeq] at h0;subst h0;cases hs;cases hx;exact ⟨[], .nil, by simp, fun w' _ => by simp [Builtin.firstCells]⟩
 case slice b o sz' len c ex =>
  rw [cond_eq_ite] at hs;split at hs
  case isFalse => cases hs
  rename_i h0;rw [nbeq] at h0;subst h0;rw [cond_eq_ite] at hs;split at hs
  case isFalse => cases hs
  rename_i hle;rw [nble] at hle
  cases hx with | slice _ _ _ _ _ _ ad cc hp h1 h2 h3 =>
  obtain ⟨pl, us, r1, r2, r3, r4⟩ := hr.read hs;refine ⟨us, r3, r2, fun w' hw => ?_⟩;rcases Nat.eq_zero_or_pos n with e0 | e0
  ·subst e0;rw [run_first0];have : us = [] := List.length_eq_zero_iff.1 (by have := r3.length; omega);rw [this]
  ·obtain ⟨pl', q1, q2, _⟩ := hp (by omega);rw [r1] at q1; cases q1;subst q2;exact run_first r4 _ _ _ _ (by rw [← r3.length, r2]) _ hw
 case str l' =>
  rw [cond_eq_ite] at hs;split at hs
  case isFalse => cases hs
  rename_i h0;rw [nbeq] at h0;subst h0;rw [cond_eq_ite] at hs;split at hs
  case isFalse => cases hs
  rename_i hle;rw [nble] at hle;cases hs
  cases hx with | str s =>
  simp only [List.length_map, Array.length_toList] at hle;refine ⟨(s.data.toList.take n).map fun b => .int .u8 b.toNat, ?_, by simp; exact Nat.min_eq_left hle, fun w' _ => ?_⟩
  ·rw [← List.map_take, List.map_map];generalize s.data.toList.take n = q
   induction q with
   | nil => exact .nil
   | cons c q ih => exact .cons _ _ _ _ (.int _ _) ih
  ·simp only [Builtin.firstCells, Sem.run_pure]
   congr 1
   apply Array.ext';simp only [Array.toList_map];rw [show (s.extract 0 n).data.toList = s.data.toList.take n by rw [ba_extract]; simp]
end Go.Vm
end

section
namespace Go.Vm
variable {P : Program} {φ : Emb}
def EOp.isCall : EOp → Bool
 | .call _ _ | .callv _ _ | .extern _ _ => true
 | _ => false
theorem args2 {fr : Fr} {a : Act} {args : Array Operand} {x y : Opd} (h : VRs φ (evs fr [x, y]) (args.toList.map a.eval)) : ∃ u1 u2, VR φ (ev fr x) u1 ∧ VR φ (ev fr y) u2 ∧ args.map a.eval = #[u1, u2] := by
 have hargs : (args.map a.eval).toList = args.toList.map a.eval := (by simp);simp only [evs] at h;generalize args.toList.map a.eval = us at h hargs
 cases h with | cons _ u1 _ _ r1 h =>
 cases h with | cons _ u2 _ _ r2 h =>
 cases h;exact ⟨u1, u2, r1, r2, by apply Array.ext'; rw [hargs]⟩
theorem args1 {fr : Fr} {a : Act} {args : Array Operand} {x : Opd} (h : VRs φ (evs fr [x]) (args.toList.map a.eval)) : ∃ u1, VR φ (ev fr x) u1 ∧ args.map a.eval = #[u1] := by
 have hargs : (args.map a.eval).toList = args.toList.map a.eval := (by simp);simp only [evs] at h;generalize args.toList.map a.eval = us at h hargs
 cases h with | cons _ u1 _ _ r1 h =>
 cases h;exact ⟨u1, r1, by apply Array.ext'; rw [hargs]⟩
theorem append_nothing {ts : Array TypeId} {sT e ty : TypeId} {it : TypeInfo} (h0 : ts[0]? = some sT) (ht : P.underlying sT = some (.slice e)) (hi : P.info? e = some it)
  {base : Option Addr} {sLen sCap : Nat} {x : Value} {w : World} (hle : sLen ≤ sCap)
  (hs : (∃ d, (ts[1]?).bind P.underlying = some d ∧ (∀ k, d ≠ .int k) ∧ (Builtin.lenOf x).run P w = .ok 0 w ∧ (Builtin.firstCells it.size 0 x).run P w = .ok #[] w) ∨ (∃ k k', (ts[1]?).bind P.underlying = some (.int k) ∧ x = .int k' (0 : Int))) :
  (Builtin.append_ ts ty #[.slice base sLen sCap, x]).run P w = .ok (.slice base sLen sCap) w := by
 rcases hs with ⟨d, h1, hd, hl, hfc⟩ | ⟨k, k', h1, rfl⟩
 ·cases ht1 : ts[1]? with
  | none => simp [ht1] at h1
  | some xT =>
   simp only [ht1, Option.bind_some] at h1;simp only [Builtin.append_, h0, List.getElem?_toArray, List.getElem?_cons_zero, List.getElem?_cons_succ, Sem.run_bind, run_underlying ht, Result.andThen_ok, sizeOf, typeInfo, run_program, hi, Sem.run_pure, ht1, run_underlying h1, Bool.false_eq_true, if_false, hl, Nat.add_zero, hle, if_true]
   cases base with
   | none => simp [hfc]
   | some a => simp [hfc, storeCells]
 ·cases ht1 : ts[1]? with
  | none => simp [ht1] at h1
  | some xT =>
   simp only [ht1, Option.bind_some] at h1;have w1 : IntKind.i64.wrap (0 : Int) = 0 := wrap_id .i64 _ (by simp only [sgn, hiN, cond_true]; omega) (by simp only [hiN]; omega);simp only [Builtin.append_, h0, List.getElem?_toArray, List.getElem?_cons_zero, List.getElem?_cons_succ, Sem.run_bind, run_underlying ht, Result.andThen_ok, sizeOf, typeInfo, run_program, hi, Sem.run_pure, ht1, run_underlying h1, if_true, asInt, asIntOf, w1]
   cases base with
   | none => simp [hle, hi]
   | some a => simp [hle, storeCells, hi]
theorem append_sim {env : Env} (ok : EnvOk P φ env) {h h' : Hp} {w : World} (hr : HR φ h w) (hfr : h.next < h'.next → φ.at_ h.next = none) {ts : Array TypeId} {sT e ty : TypeId} {it : TypeInfo} {z : V} (h0 : ts[0]? = some sT)
  (ht : P.underlying sT = some (.slice e)) (hi : P.info? e = some it) (hz : zeroP P e = some z) (hzl : z.cells.length = it.size) (hsz : 0 < it.size) {s x v : V} {su xu : Value} (hs : VR φ s su) (hx : VR φ x xu)
  {d : TypeDesc} (hd : (ts[1]?).bind P.underlying = some d) (hdn : ∀ k, d ≠ .int k) (hv : appendV it.size it.bytes h s x = some (v, h')) :
  ∃ u ψ w', VR ψ v u ∧ (Builtin.append_ ts ty #[su, xu]).run P w = .ok u w' ∧ St φ h w ψ h' w' := by
 obtain ⟨it2, zu, hi2, hz0, rz, rzc⟩ := zeroP_info (φ := φ) ok.sym hz;rw [hi] at hi2; cases hi2;have hzs : zu.cells.size = it.size := (by have := rzc.length; simp at this; omega);unfold appendV at hv;split at hv
 ·cases hv
 rename_i n hn;have hlen := lenV_ok (P := P) hx hn w;split at hv
 ·
  have hfc : (Builtin.firstCells it.size 0 xu).run P w = .ok #[] w := by
   cases x <;> simp only [lenV, reduceCtorEq] at hn
   ·cases hx with | str s' =>
    simp [Builtin.firstCells]
   ·cases hx; simp [Builtin.firstCells]
   ·cases hx; exact run_first0 _ _ _ _ _
  split at hv
  ·cases hv;cases hs;exact ⟨_, φ, w, .nilslice, append_nothing h0 ht hi (Nat.le_refl 0) (.inl ⟨d, hd, hdn, hlen, hfc⟩), .refl hr⟩
  ·rename_i b o sz' len c ex;rw [cond_eq_ite] at hv;split at hv
   case isFalse => cases hv
   cases hv
   cases hs with | slice _ _ _ _ _ _ ad cc hp h1 h2 h3 =>
   exact ⟨_, φ, w, .slice _ _ _ _ _ _ _ _ hp h1 h2 h3, append_nothing h0 ht hi (by omega) (.inl ⟨d, hd, hdn, hlen, hfc⟩), .refl hr⟩
  ·cases hv
 ·rename_i n';split at hv
  ·cases hv
  rename_i new hnew;rw [cond_eq_ite] at hv;split at hv
  case isFalse => cases hv
  rename_i hfl;obtain ⟨us, r1, r2, r3⟩ := src_ok hr hx hnew;exact appC_sim (ty := ty) ok.sym hr hfr h0 ht hi hz0 hzs hsz hs (Nat.succ_pos n') (nu := us.toArray) (by simpa using r1) r2 hfl (.inl ⟨d, hd, hdn, hlen, r3⟩) hv
theorem zeroCells_rel {z : List V} {c : Array Value} (h : VRs φ z c.toList) (n : Nat) : VRs φ (repX z n) (Builtin.zeroCells c n).toList := by
 have hl : z.length = c.size := (by rw [h.length]; simp);exact rep_rel h n (n * c.size) (by rw [hl])
theorem appendz_sim {env : Env} (ok : EnvOk P φ env) {h h' : Hp} {w : World} (hr : HR φ h w) (hfr : h.next < h'.next → φ.at_ h.next = none) {ts : Array TypeId} {sT e ty : TypeId} {it : TypeInfo} {z : V} (h0 : ts[0]? = some sT)
  (ht : P.underlying sT = some (.slice e)) (hi : P.info? e = some it) (hz : zeroP P e = some z) (hzl : z.cells.length = it.size) (hsz : 0 < it.size) {s x v : V} {su xu : Value} (hs : VR φ s su) (hx : VR φ x xu)
  {k : IntKind} (hd : (ts[1]?).bind P.underlying = some (.int k)) (hv : appendZ z.cells it.size it.bytes h s x = some (v, h')) :
  ∃ u ψ w', VR ψ v u ∧ (Builtin.append_ ts ty #[su, xu]).run P w = .ok u w' ∧ St φ h w ψ h' w' := by
 obtain ⟨it2, zu, hi2, hz0, rz, rzc⟩ := zeroP_info (φ := φ) ok.sym hz;rw [hi] at hi2; cases hi2;have hzs : zu.cells.size = it.size := (by have := rzc.length; simp at this; omega);unfold appendZ at hv;split at hv
 ·cases hv
 rename_i n hn;obtain ⟨k', rfl⟩ := nat_rel hn hx;split at hv
 ·split at hv
  ·cases hv;cases hs;exact ⟨_, φ, w, .nilslice, append_nothing h0 ht hi (Nat.le_refl 0) (.inr ⟨k, k', hd, rfl⟩), .refl hr⟩
  ·rename_i b o sz' len c ex;rw [cond_eq_ite] at hv;split at hv
   case isFalse => cases hv
   cases hv
   cases hs with | slice _ _ _ _ _ _ ad cc hp h1 h2 h3 =>
   exact ⟨_, φ, w, .slice _ _ _ _ _ _ _ _ hp h1 h2 h3, append_nothing h0 ht hi (by omega) (.inr ⟨k, k', hd, rfl⟩), .refl hr⟩
  ·cases hv
 ·rename_i n'
  repeat' (rw [cond_eq_ite] at hv; split at hv)
  all_goals first | (cases hv; done) | skip
  rename_i h1 h2 h3;rw [roomy_iff] at h3
  have hflr : allFlat (repX z.cells (n' + 1)) = true := by
   generalize n' + 1 = m
   induction m with
   | zero => rfl
   | succ m ih =>
    simp only [repX]
    have app : ∀ (a b : List V), allFlat a = true → allFlat b = true → allFlat (a ++ b) = true := by
     intro a b ha hb
     induction a with
     | nil => exact hb
     | cons v a iha =>
      simp only [List.cons_append, allFlat] at ha ⊢
      cases hv : v.flat with
      | false => simp [hv] at ha
      | true => rw [hv] at ha; exact iha ha
    exact app _ _ h2 ih
  refine appC_sim (ty := ty) ok.sym hr hfr h0 ht hi hz0 hzs hsz hs (Nat.succ_pos n') (nu := Builtin.zeroCells zu.cells (n' + 1)) (zeroCells_rel rzc _) (by rw [repX_length, hzl]) hflr ?_ hv;exact .inr ⟨k, k', hd, by simp, h3.2, h3.1, Nat.mul_pos (Nat.succ_pos n') hsz, rfl⟩
theorem copy_sim {env : Env} (ok : EnvOk P φ env) {h h' : Hp} {w : World} (hr : HR φ h w) {ts : Array TypeId} {dT e ty : TypeId} {sz : Nat} (h0 : ts[0]? = some dT) (ht : P.underlying dT = some (.slice e)) (hsz : szP P e = some sz)
  {d s v : V} {du su : Value} (hd : VR φ d du) (hs : VR φ s su) (hv : (match (generalizing := false) lenV s, d with
  | some n, .slice b o sz' len _ _ => cond (Nat.beq sz sz') (match srcCells h sz (minN n len) s with
   | some new => match new with
    | [] => some (.int .i64 (.ofNat (minN n len)), h)
    | c :: r => match h.write b o (c :: r) with
     | some h' => some (.int .i64 (.ofNat (minN n len)), h')
     | none => none
   | none => none) none
  | some _, .nilslice => some (.int .i64 (.ofNat 0), h)
  | _, _ => none) = some (v, h')) : ∃ u ψ w', VR ψ v u ∧ (Builtin.copy_ ts ty #[du, su]).run P w = .ok u w' ∧ St φ h w ψ h' w' := by
 have hmin : ∀ a b, minN a b = Nat.min a b := fun a b => by unfold minN; rw [nble_d, Bool.cond_decide]; simp only [Nat.min_def]
 cases hn : lenV s with
 | none => rw [hn] at hv; cases d <;> cases hv
 | some n =>
  have hlen := lenV_ok (P := P) hs hn w;cases d <;> simp only [hn, reduceCtorEq] at hv
  case nilslice =>
   cases hv;cases hd
   have hfc : (Builtin.firstCells sz (Nat.min n 0) su).run P w = .ok #[] w := by
    rw [show Nat.min n 0 = 0 from Nat.min_zero n];cases s <;> simp only [lenV, reduceCtorEq] at hn
    ·cases hs; simp [Builtin.firstCells]
    ·cases hs; simp [Builtin.firstCells]
    ·cases hs; exact run_first0 _ _ _ _ _
   refine ⟨.int .i64 0, φ, w, .int _ _, ?_, .refl hr⟩;simp only [Builtin.copy_, h0, List.getElem?_toArray, List.getElem?_cons_zero, List.getElem?_cons_succ, Sem.run_bind, run_underlying ht, Result.andThen_ok, hlen, run_sizeOf_of hsz, hfc];rw [show Nat.min n 0 = 0 from Nat.min_zero n];rfl
  case slice b o sz' len c ex =>
   rw [cond_eq_ite] at hv;split at hv
   case isFalse => cases hv
   rename_i e0;rw [nbeq] at e0;subst e0;split at hv
   case h_2 => cases hv
   rename_i new hnew;obtain ⟨us, r1, r2, r3⟩ := src_ok (P := P) hr hs hnew
   cases hd with | slice _ _ _ _ _ _ ad cc hp h1 h2 h3 =>
   split at hv
   ·cases hv;have : us = [] := List.length_eq_zero_iff.1 (by have := r1.length; simp at this; omega);subst this;refine ⟨_, φ, w, .int _ _, ?_, .refl hr⟩;have hfc := r3 w rfl;rw [hmin] at hfc ⊢;simp only [Builtin.copy_, h0, List.getElem?_toArray, List.getElem?_cons_zero, List.getElem?_cons_succ, Sem.run_bind, run_underlying ht, Result.andThen_ok, hlen, run_sizeOf_of hsz, hfc, storeCells, Sem.run_pure];rfl
   ·rename_i c0 r0;split at hv
    case h_2 => cases hv
    rename_i h1' hw;cases hv;obtain ⟨pl, p1, p2, p3, p4⟩ := hr.store r1 hw
    have hpos : 0 < len := by
     rcases Nat.eq_zero_or_pos len with e0 | e0
     ·exfalso;subst e0;rw [hmin, show Nat.min n 0 = 0 from Nat.min_zero n] at r2;simp at r2
     ·exact e0
    obtain ⟨pl', q1, q2, _⟩ := hp (by omega);rw [p1] at q1; cases q1;subst q2;refine ⟨_, φ, _, .int _ _, ?_, p4⟩;have hfc := r3 w rfl;rw [hmin] at hfc ⊢;have hst := store_run (P := P) p2 (all_one ok.sym r1 p3);simp only [Builtin.copy_, h0, List.getElem?_toArray, List.getElem?_cons_zero, List.getElem?_cons_succ, Sem.run_bind, run_underlying ht, Result.andThen_ok, hlen, run_sizeOf_of hsz, hfc, hst, Sem.run_pure];rfl
theorem bytes_text : ∀ {l : List V} {us : List Value} {s : List Nat}, eV.bytesOf l = some s → VRs φ l us → ∃ ns : List Int, us = ns.map (Value.int .u8) ∧ ∀ r : ByteArray, (ns.foldl (fun r n => r.push (UInt8.ofNat n.toNat)) r).data.toList.map UInt8.toNat = r.data.toList.map UInt8.toNat ++ s
 | [], us, s, h, hr => by
  simp [eV.bytesOf] at h; subst h;cases hr;exact ⟨[], rfl, fun r => by simp⟩
 | x :: l, us, s, h, hr => by
  unfold eV.bytesOf at h;split at h
  ·rename_i e; cases e
  ·rename_i n l' e;cases e;rw [cond_eq_ite] at h;split at h
   case isFalse => cases h
   rename_i hn;rw [nblt] at hn;split at h
   case h_2 => cases h
   rename_i r hr';cases h
   cases hr with | cons _ u _ us' h1 h2 =>
   cases h1;obtain ⟨ns, e1, e2⟩ := bytes_text hr' h2;refine ⟨Int.ofNat n :: ns, by rw [e1]; rfl, fun q => ?_⟩;simp only [List.foldl_cons];rw [e2]
   have : (q.push (UInt8.ofNat (Int.ofNat n).toNat)).data.toList = q.data.toList ++ [UInt8.ofNat n] := by
    simp [ByteArray.push]
   rw [this];simp;omega
  ·cases h
theorem text_sim {h : Hp} {w : World} (hr : HR φ h w) {sT dT e : TypeId} (h1 : P.underlying sT = some (.slice e)) (h2 : P.underlying dT = some .string) (h3 : P.underlying e = some (.int .u8)) {x v : V} {xu : Value} (hx : VR φ x xu) {h' : Hp}
  (hv : (match (generalizing := false) x with
  | .nilslice => some (.str [], h)
  | .slice b o sz len _ _ => cond (Nat.beq sz 1) (match h.read b o len with
   | some l => match eV.bytesOf l with
    | some s => some (.str s, h)
    | none => none
   | none => none) none
  | _ => none) = some (v, h')) : h' = h ∧ ∃ u, VR φ v u ∧ (convert sT dT xu).run P w = .ok u w := by
 cases x <;> simp only [reduceCtorEq] at hv
 case nilslice =>
  cases hv;cases hx;refine ⟨rfl, .string .empty, .str ByteArray.empty, ?_⟩;rw [run_convert_bytes_string w sT dT e none 0 0 h1 h3 h2];simp [Conv.bytesToString]
 case slice b o sz len c ex =>
  rw [cond_eq_ite] at hv;split at hv
  case isFalse => cases hv
  rename_i e0;rw [nbeq] at e0;subst e0;split at hv
  case h_2 => cases hv
  rename_i l hl;split at hv
  case h_2 => cases hv
  rename_i s hs;cases hv
  cases hx with | slice _ _ _ _ _ _ ad cc hp k1 k2 k3 =>
  obtain ⟨pl, us, r1, r2, r3, r4⟩ := hr.read hl;obtain ⟨ns, e1, e2⟩ := bytes_text hs r3;refine ⟨rfl, .string (ns.foldl (fun r n => r.push (UInt8.ofNat n.toNat)) ByteArray.empty), ?_, ?_⟩
  ·have := e2 ByteArray.empty;have e3 : s = (ns.foldl (fun r n => r.push (UInt8.ofNat n.toNat)) ByteArray.empty).data.toList.map UInt8.toNat := (by rw [this]; simp);rw [e3];exact .str _
  ·rw [run_convert_bytes_string w sT dT e (some ad) len cc h1 h3 h2];refine run_bytesToString w ad len cc ns ?_;have hul := r3.length;rcases Nat.eq_zero_or_pos len with z | z
   ·subst z;have : us = [] := List.length_eq_zero_iff.1 (by omega);rw [← e1, this];simp [loadCells, loadCellsFrom]
   ·obtain ⟨pl', q1, q2, _⟩ := hp (by omega);rw [r1] at q1; cases q1;subst q2;have := run_loadCells_list (P := P) w ⟨pl.blk, pl.base + o, none⟩ us (range_add r4);rw [← e1, show len = us.length by omega];exact this
theorem mark_sim {h : Hp} {w : World} (hr : HR φ h w) {b : Nat} {l : List V} (hb : h.blk b = .cells l false) {pl : Place} (hp : φ.at_ b = some pl) {o : Nat} :
  ∃ w', (markStringish ⟨pl.blk, o, none⟩).run P w = .ok () w' ∧ St φ h w φ h w' := by
 obtain ⟨pl', hpl', hat⟩ := hr.lies b (by rw [hb]; rfl);rw [hp] at hpl'; cases hpl'
 rw [hb] at hat
 obtain ⟨hb0, hl1, c, e, fz, hc, hs, hf, hcs⟩ := hat
 have hlt := (Array.getElem?_eq_some_iff.1 hc).1;have hsh : w.shape? pl.blk = some (e, c.size) := (by unfold World.shape?; rw [hc]);obtain ⟨lo, hi⟩ := fz
 have hfz : ∃ fz', (w.freeze ⟨pl.blk, c.size, none⟩ 1).heap[pl.blk]? = some (.cells c e fz') ∧ (fz'.1 = fz'.2 ∨ c.size ≤ fz'.1) := by
  simp only [World.freeze];rw [if_neg (by omega)];simp only [Array.getElem?_modify, if_true, hc, Option.map_some];refine ⟨_, rfl, ?_⟩;split
  ·right; exact Nat.le_refl _
  ·rename_i hne;rcases hf with hf | hf
   ·simp at hf hne; exact absurd hf hne
   ·right;simp only at hf ⊢;omega
 obtain ⟨fz', g1, g2⟩ := hfz
 have hother : ∀ k, k ≠ pl.blk → (w.freeze ⟨pl.blk, c.size, none⟩ 1).heap[k]? = w.heap[k]? := fun k hk => by
  simp only [World.freeze];rw [if_neg (by omega)];simp only [Array.getElem?_modify];rw [if_neg (Ne.symm hk)]
 have hrest : (w.freeze ⟨pl.blk, c.size, none⟩ 1).os = w.os ∧ (w.freeze ⟨pl.blk, c.size, none⟩ 1).tape = w.tape ∧ (w.freeze ⟨pl.blk, c.size, none⟩ 1).output = w.output ∧ (w.freeze ⟨pl.blk, c.size, none⟩ 1).heap.size = w.heap.size := by
  simp only [World.freeze];rw [if_neg (by omega)];simp
 refine ⟨w.freeze ⟨pl.blk, c.size, none⟩ 1, by simp [markStringish, hsh], .refl φ, fun _ _ => rfl, Nat.le_refl _, hrest.1, hrest.2.1, hrest.2.2.1, by rw [hrest.2.2.2]; exact Nat.le_refl _,
  fun k hk hn => hother k fun ek => hn b pl (by rw [hb]; rfl) hp ek.symm, fun x q ho hq => .inl ⟨x, q, ho, hq, rfl⟩, fun x q ho hq => .inl ⟨x, q, ho, hq, rfl⟩, fun x hx => ?_, hr.apart, hr.fresh⟩
 by_cases ex : x = b
 ·subst ex;refine ⟨pl, hp, ?_⟩;rw [hb];exact ⟨hb0, hl1, c, e, fz', g1, hs, g2, hcs⟩
 ·obtain ⟨q, k1, k2⟩ := hr.lies x hx;exact ⟨q, k1, k2.mono (.refl φ) (hother _ (hr.apart x b q pl hx (by rw [hb]; rfl) (.inr (by rw [hb]; rfl)) k1 hp ex))⟩
end Go.Vm
end

section
namespace Go.Vm
variable {P : Program} {φ : Emb}
theorem e_sim {env : Env} (ok : EnvOk P φ env) {fr : Fr} {a : Act} (hf : FR φ fr a) {o : Oper} {p : EOp} (hc : cOp P o.op = some (.e p)) (hnc : p.isCall = false) {call : Nat → List V → Hp → Option (V × Hp)}
  {h h' : Hp} {w : World} (hr : HR φ h w) (hfr : h.next < h'.next → φ.at_ h.next = none) {v : V} (hv : eV call fr h p = some (v, h')) : Acts P φ a o h w v h' := by
 cases hop : o.op <;> rw [hop] at hc <;> simp only [cOp, reduceCtorEq] at hc
 case store t A X =>
  split at hc
  case h_2 => cases hc
  rename_i n x y h1 h2 h3;cases hc;have ra := opd_rel ok.gl hf h2;have rx := opd_rel ok.gl hf h3;simp only [eV] at hv;split at hv
  case h_2 => cases hv
  rename_i b of ea;rw [cond_eq_ite] at hv;split at hv
  case isFalse => cases hv
  rename_i hn;rw [nbeq] at hn;split at hv
  case h_2 => cases hv
  rename_i h1' hw;cases hv;rw [ea] at ra
  have he : execOp a.eval o = (do Instr.storeAt t (a.eval A) (a.eval X); pure Next.skip) := by simp only [execOp, hop]
  generalize a.eval A = au at ra he;generalize a.eval X = xu at rx he
  cases ra with | ptr _ _ pl hp =>
  have rc := rx.cells ok.sym;obtain ⟨pl', p1, p2, p3, p4⟩ := hr.store rc hw;rw [hp] at p1; cases p1;refine .of_skip he ⟨φ, _, ?_, p4⟩;have hsz : (xu.cells.size = n) := (by have := rc.length; simp at this; omega);have hst := store_run (P := P) p2 (all_one ok.sym rc p3);simp only [Instr.storeAt, Instr.sureAddr, pure_bind, storeVar, Sem.run_bind, run_sizeOf_of h1, Result.andThen_ok, Sem.run_ite];rw [if_neg (by simp [hsz]), show pl.base + of = pl.base + of from rfl];simpa using hst
 case convert s d X =>
  split at hc
  case h_2 => cases hc
  rename_i x hx;have rx := opd_rel ok.gl hf hx
  have he : execOp a.eval o = (do pure (Next.value (← convert s d (a.eval X)))) := by simp only [execOp, hop]
  generalize a.eval X = xu at rx he;unfold cConv at hc;split at hc
  ·cases hc
  ·cases hc
  ·cases hc
  ·split at hc <;> cases hc
  ·rename_i e h1 h2;split at hc
   case h_2 => cases hc
   rename_i h3;cases hc;simp only [eV] at hv;obtain ⟨rfl, u, k1, k2⟩ := text_sim (P := P) hr h1 h2 h3 rx hv;exact .of he ⟨u, φ, w, k1, k2, .refl hr⟩
  ·rename_i e0 e h1 h2;rw [cond_eq_ite] at hc;split at hc
   case isFalse => cases hc
   rename_i esd;rw [nbeq] at esd;split at hc
   case h_2 => cases hc
   rename_i h3;cases hc;simp only [eV] at hv;split at hv
   case h_2 => cases hv
   rename_i b of sz len c ex ex1;split at hv
   case h_2 => cases hv
   rename_i l hb;rw [cond_eq_ite] at hv;split at hv
   case isFalse => cases hv
   rename_i hpos;rw [nblt] at hpos;cases hv;rw [ex1] at rx
   cases rx with | slice _ _ _ _ _ _ ad cc hp k1 k2 k3 =>
   obtain ⟨pl, q1, q2, q3⟩ := hp (by omega);subst q2;obtain ⟨w', m1, m2⟩ := mark_sim (P := P) hr hb q1 (o := pl.base + of);refine .of he ⟨_, φ, w', .slice _ _ _ _ _ _ _ _ (fun _ => ⟨pl, q1, rfl, q3⟩) k1 k2 k3, ?_, m2⟩;subst esd;have h12 : e0 = e := (by rw [h1] at h2; cases h2; rfl);subst h12;simp only [convert, Sem.run_bind, run_underlying h1, Result.andThen_ok, run_underlying h3, beq_self_eq_true, m1, Sem.run_pure]
  ·cases hc
 case lookup t M K okb =>
  split at hc
  case h_2 => cases hc
  rename_i kt e m k ht hm hk;have rm := opd_rel ok.gl hf hm;have rk := opd_rel ok.gl hf hk
  have he : execOp a.eval o = (do pure (Next.value (← Instr.lookup t (a.eval M) (a.eval K) okb))) := by simp only [execOp, hop]
  split at hc
  ·rename_i j z h1 h2;cases hc;obtain ⟨it, zu, hi, hz0, rz, _⟩ := zeroP_info (φ := φ) ok.sym h2;simp only [eV] at hv;obtain ⟨rfl, u, k1, k2⟩ := lookup_sim (P := P) hr ht h1 (.inl ⟨rfl, j, rfl⟩) hi hz0 rz rm rk hv;exact .of he ⟨u, φ, w, k1, k2, .refl hr⟩
  ·rename_i z h1 h2;cases hc;obtain ⟨it, zu, hi, hz0, rz, _⟩ := zeroP_info (φ := φ) ok.sym h2;simp only [eV] at hv;obtain ⟨rfl, u, k1, k2⟩ := lookup_sim (P := P) hr ht h1 (.inr ⟨rfl, rfl⟩) hi hz0 rz rm rk hv;exact .of he ⟨u, φ, w, k1, k2, .refl hr⟩
  ·cases hc
 case mapUpdate t M K X =>
  split at hc
  case h_2 => cases hc
  rename_i kt e m k x ht hm hk hx;have rm := opd_rel ok.gl hf hm;have rk := opd_rel ok.gl hf hk;have rx := opd_rel ok.gl hf hx
  have he : execOp a.eval o = (do Instr.mapUpdate t (a.eval M) (a.eval K) (a.eval X); pure Next.skip) := by simp only [execOp, hop]
  split at hc
  ·rename_i j h1;cases hc;simp only [eV] at hv;obtain ⟨rfl, w', k1, k2⟩ := mapput_sim (P := P) hr ht h1 (.inl ⟨rfl, j, rfl⟩) rm rk rx hv;exact .of_skip he ⟨φ, w', k1, k2⟩
  ·rename_i h1;cases hc;simp only [eV] at hv;obtain ⟨rfl, w', k1, k2⟩ := mapput_sim (P := P) hr ht h1 (.inr ⟨rfl, rfl⟩) rm rk rx hv;exact .of_skip he ⟨φ, w', k1, k2⟩
  ·cases hc
 case call c =>
  unfold cCall at hc;split at hc
  ·cases hc
  rename_i args ha;have rargs := opds_rel ok.gl hf ha;split at hc
  ·rename_i b hb
   have he : ∀ (s : Sem Value), (builtin b c.argTypes o.type (c.args.map fun | .const _ => true | _ => false) (c.args.map a.eval) = (do pure (Next.value (← s)))) → execOp a.eval o = (do pure (Next.value (← s))) := by
    intro s hs;simp only [execOp, hop, resolve, hb, pure_bind, invoke];exact hs
   unfold cBuiltin at hc;split at hc
   ·
    rename_i x;obtain ⟨u, ru, hau⟩ := args1 rargs
    cases ht0 : c.argTypes[0]? with
    | none => simp [ht0] at hc
    | some t =>
     simp only [ht0, Option.bind_some] at hc;split at hc
     ·cases hc
     ·cases hc
     ·cases hc
     ·rename_i kt e ht;cases hc;refine .of (he (Builtin.len_ c.argTypes o.type (c.args.map a.eval)) rfl) ?_
      have hlen : ∀ w, (Builtin.len_ c.argTypes o.type (c.args.map a.eval)).run P w = (Builtin.len_ #[t] o.type #[u]).run P w := by
       intro w;simp only [Builtin.len_, hau, ht0];rfl
      simp only [eV] at hv;generalize ev fr x = xv at hv ru;cases xv <;> simp only [reduceCtorEq] at hv
      ·cases hv;cases ru;exact ⟨_, φ, w, .int _ _, by rw [hlen]; simp [Builtin.len_, run_underlying ht]; rfl, .refl hr⟩
      ·split at hv
       case h_2 => cases hv
       rename_i kk l hb;cases hv
       cases ru with | map _ pl hp =>
       obtain ⟨pl', es, clock, p1, p2, p3, _⟩ := map_at hr hb;rw [hp] at p1; cases p1;refine ⟨.int .i64 es.size, φ, w, ?_, by rw [hlen]; simp [Builtin.len_, run_underlying ht, MapKept.run_getObj_map p2]; rfl, .refl hr⟩;have : l.length = es.size := (by have := p3.1; simpa using this);rw [this];exact .int _ _
     ·cases hc
   ·
    split at hc <;> cases hc
   ·cases hc
   ·cases hc
   ·
    rename_i s x;obtain ⟨su, xu, rs, rx, hau⟩ := args2 rargs;refine .of (he (Builtin.append_ c.argTypes o.type (c.args.map a.eval)) rfl) ?_;rw [hau]
    cases ht0 : c.argTypes[0]? with
    | none => simp [ht0] at hc
    | some t =>
     simp only [ht0, Option.bind_some] at hc;split at hc
     case h_2 => cases hc
     rename_i e ht;split at hc
     case h_2 => cases hc
     rename_i sz bytes z hsz hby hz;rw [cond_eq_ite] at hc;split at hc
     case isFalse => cases hc
     rename_i hzl;rw [nbeq] at hzl;obtain ⟨it, hi, e1⟩ := szP_info hsz;have e1 : it.size = sz + 1 := e1;have e2 : it.bytes = bytes := (by unfold bytesP at hby; simp [hi] at hby; exact hby);split at hc
     ·rename_i k hd;cases hc;simp only [eV] at hv;rw [← e1, ← e2] at hv;exact appendz_sim ok hr hfr ht0 ht hi hz (by omega) (by omega) rs rx hd hv
     ·rename_i e' hd;cases hc;simp only [eV] at hv;rw [← e1, ← e2] at hv;exact append_sim ok hr hfr ht0 ht hi hz (by omega) (by omega) rs rx hd (fun k hk => by cases hk) hv
     ·rename_i hd;cases hc;simp only [eV] at hv;rw [← e1, ← e2] at hv;exact append_sim ok hr hfr ht0 ht hi hz (by omega) (by omega) rs rx hd (fun k hk => by cases hk) hv
     ·cases hc
   ·
    rename_i d s;obtain ⟨du, su, rd, rs, hau⟩ := args2 rargs;refine .of (he (Builtin.copy_ c.argTypes o.type (c.args.map a.eval)) rfl) ?_;rw [hau]
    cases ht0 : c.argTypes[0]? with
    | none => simp [ht0] at hc
    | some t =>
     simp only [ht0, Option.bind_some] at hc;split at hc
     case h_2 => cases hc
     rename_i e ht;split at hc
     case h_2 => cases hc
     rename_i sz hsz;cases hc;simp only [eV] at hv;exact copy_sim ok hr ht0 ht hsz rd rs hv
   ·
    rename_i x;obtain ⟨u, ru, hau⟩ := args1 rargs;refine .of (he (Builtin.clear_ c.argTypes o.type (c.args.map a.eval)) rfl) ?_;rw [hau]
    cases ht0 : c.argTypes[0]? with
    | none => simp [ht0] at hc
    | some t =>
     simp only [ht0, Option.bind_some] at hc;split at hc
     case h_2 => cases hc
     rename_i e ht;split at hc
     case h_2 => cases hc
     rename_i z hz;cases hc;obtain ⟨it, zu, hi, hz0, rz, rzc⟩ := zeroP_info (φ := φ) ok.sym hz;simp only [eV] at hv;generalize ev fr x = xv at hv ru;cases xv <;> (try simp only [reduceCtorEq] at hv)
     case nilslice =>
      cases hv;cases ru;exact ⟨_, φ, w, .tup _ _ .nil, by simp [Builtin.clear_, ht0, run_underlying ht], .refl hr⟩
     case slice b of sz len cc ex =>
      cases ru with | slice _ _ _ _ _ _ ad cc2 hp k1 k2 k3 =>
      cases len with
      | zero =>
       simp only [Option.some.injEq, Prod.mk.injEq] at hv;obtain ⟨rfl, rfl⟩ := hv;exact ⟨_, φ, w, .tup _ _ .nil, by simp [Builtin.clear_, ht0, run_underlying ht], .refl hr⟩
      | succ n =>
       simp only at hv;rw [cond_eq_ite] at hv;split at hv
       case isFalse => cases hv
       split at hv
       case h_2 => cases hv
       rename_i h1' hw;cases hv;obtain ⟨pl, p1, p2, p3, p4⟩ := hr.store (zeroCells_rel rzc (n + 1)) hw;obtain ⟨pl', q1, q2, _⟩ := hp (by omega);rw [p1] at q1; cases q1;subst q2;have hst := store_run (P := P) p2 (all_one ok.sym (zeroCells_rel rzc (n + 1)) p3);refine ⟨_, φ, _, .tup _ _ .nil, ?_, p4⟩;simp only [Builtin.clear_, ht0, List.getElem?_toArray, List.getElem?_cons_zero, Sem.run_bind, run_underlying ht, Result.andThen_ok, zeroValue, typeInfo, run_program, hi, hz0, Sem.run_pure, hst]
   ·
    rename_i m k;obtain ⟨mu, ku, rm, rk, hau⟩ := args2 rargs;refine .of (he (Builtin.delete_ c.argTypes o.type (c.args.map a.eval)) rfl) ?_;rw [hau]
    cases ht0 : c.argTypes[0]? with
    | none => simp [ht0] at hc
    | some t =>
     simp only [ht0, Option.bind_some] at hc;split at hc
     case h_2 => cases hc
     rename_i kt e ht;split at hc
     ·rename_i j h1;cases hc;simp only [eV] at hv;obtain ⟨rfl, w', k1, k2⟩ := delete_sim (P := P) (ty := o.type) hr ht0 ht h1 (.inl ⟨rfl, j, rfl⟩) rm rk hv;exact ⟨_, φ, w', .tup _ _ .nil, k1, k2⟩
     ·rename_i h1;cases hc;simp only [eV] at hv;obtain ⟨rfl, w', k1, k2⟩ := delete_sim (P := P) (ty := o.type) hr ht0 ht h1 (.inr ⟨rfl, rfl⟩) rm rk hv;exact ⟨_, φ, w', .tup _ _ .nil, k1, k2⟩
     ·cases hc
   ·cases hc
  ·rw [cond_eq_ite] at hc;split at hc <;> (cases hc; cases hnc)
  ·split at hc
   ·cases hc; cases hnc
   ·cases hc
  ·cases hc
 case panic x => cases hc; cases hv
 case makeFunc fn x y =>
  cases fn <;> simp only [reduceCtorEq] at hc;split at hc <;> cases hc
 case makeMap t r' =>
  cases r' <;> simp only [reduceCtorEq] at hc
  repeat' (first | (cases hc; done) | split at hc)
 all_goals (repeat' (first | (cases hc; done) | (obtain ⟨y, _, e⟩ := map_some hc; cases e; done) | (rw [cond_eq_ite] at hc; split at hc) | split at hc))
end Go.Vm
end

section
namespace Go.Vm
def Rises (call : Nat → List V → Hp → Option (V × Hp)) : Prop := ∀ f args h v h', call f args h = some (v, h') → h.next ≤ h'.next
theorem write_next {h h' : Hp} {b o : Nat} {vs : List V} (e : h.write b o vs = some h') : h'.next = h.next := by
 unfold Hp.write at e;split at e
 ·rw [cond_eq_ite] at e; split at e
  ·rw [cond_eq_ite] at e; split at e
   ·cases e; rfl
   ·cases e
  ·cases e
 ·cases e
theorem appendC_next {sz bytes : Nat} {h h' : Hp} {s v : V} {n : Nat} {new : List V} (e : appendC sz bytes h s n new = some (v, h')) : h.next ≤ h'.next := by
 unfold appendC at e
 repeat' (first | (cases e; done) | (rw [cond_eq_ite] at e; split at e) | split at e)
 all_goals first
  | (rename_i hw; cases e; rw [write_next hw]; exact Nat.le_refl _)
  | (cases e; exact Nat.le_succ _)
theorem eV_next {call : Nat → List V → Hp → Option (V × Hp)} (hc : Rises call) {fr : Fr} {h h' : Hp} {p : EOp} {v : V} (e : eV call fr h p = some (v, h')) : h.next ≤ h'.next := by
 cases p <;> simp only [eV] at e
 case call f args => exact hc _ _ _ _ _ e
 case extern f args => exact hc _ _ _ _ _ e
 case callv x args => split at e <;> first | (cases e; done) | exact hc _ _ _ _ _ e
 case append sz bytes s x =>
  unfold appendV at e
  repeat' (first | (cases e; done) | (rw [cond_eq_ite] at e; split at e) | split at e)
  all_goals first
   | exact appendC_next e
   | (cases e; exact Nat.le_refl _)
 case appendz z sz bytes s x =>
  unfold appendZ at e
  repeat' (first | (cases e; done) | (rw [cond_eq_ite] at e; split at e) | split at e)
  all_goals first
   | exact appendC_next e
   | (cases e; exact Nat.le_refl _)
 all_goals
  repeat' (first | (cases e; done) | (rw [cond_eq_ite] at e; split at e) | split at e)
  all_goals first
   | (rename_i hw; cases e; rw [write_next hw]; exact Nat.le_refl _)
   | (cases e; exact Nat.le_refl _)
theorem opV_next {env : Env} {call : Nat → List V → Hp → Option (V × Hp)} (hc : Rises call) {fr : Fr} {h h' : Hp} {m : MOp} {v : V} (e : opV env call fr h m = some (v, h')) : h.next ≤ h'.next := by
 cases m <;> simp only [opV] at e
 case e p => exact eV_next hc e
 all_goals
  repeat' (first | (cases e; done) | split at e)
  all_goals (cases e; first | exact Nat.le_refl _ | exact Nat.le_succ _)
theorem runOps_next {env : Env} {call : Nat → List V → Hp → Option (V × Hp)} (hc : Rises call) : ∀ {l : List MO} {fr fr' : Fr} {h h' : Hp}, runOps env call l fr h = some (fr', h') → h.next ≤ h'.next
 | [], fr, fr', h, h', e => by simp [runOps] at e; rw [e.2]; exact Nat.le_refl _
 | o :: l, fr, fr', h, h', e => by
  simp only [runOps] at e;split at e
  ·exact runOps_next hc e
  ·cases e
  ·split at e
   ·rename_i v h1 hv;exact Nat.le_trans (opV_next hc hv) (runOps_next hc e)
   ·cases e
theorem runD_next {env : Env} {call : Nat → List V → Hp → Option (V × Hp)} (hc : Rises call) : ∀ {l : List DO} {p : Nat} {fr fr' : Fr} {h h' : Hp} {st : List (Nat × Hp)} {rd : List Rd}, runD env call l p fr h st rd = some (fr', h') → h.next ≤ h'.next
 | [], p, fr, fr', h, h', st, rd, e => by
  simp only [runD] at e;rw [cond_eq_ite] at e; split at e
  ·cases e; exact Nat.le_refl _
  ·cases e
 | o :: l, p, fr, fr', h, h', st, rd, e => by
  simp only [runD] at e;split at e
  ·exact runD_next hc e
  ·cases e
  ·split at e
   ·rename_i v h1 hv;exact Nat.le_trans (opV_next hc hv) (runD_next hc e)
   ·cases e
def Res.rises (n : Nat) : Res → Prop
 | .fail => True
 | .ok _ h | .exit _ _ h | .ret _ h => n ≤ h.next
theorem callV_next {p : Prog} {ext : Ext} (hx : Rises ext) {ex : MCode → Fr → Hp → Res} (he : ∀ c fr h, (ex c fr h).rises h.next) : Rises (callV p ext ex) := by
 intro f args h v h' e;unfold callV at e;split at e
 ·rename_i r hr;cases e;exact hx _ _ _ _ _ hr
 split at e
 ·cases e
 ·rename_i fn hf;rw [cond_eq_ite] at e; split at e
  case isFalse => cases e
  have := he fn.body (argsFr args 0 .leaf) h
  have hres : ∀ fr h1, resP fr h1 fn.results = some (v, h') → h1 = h' := by
   intro fr h1 hr;unfold resP at hr;split at hr <;> cases hr;rfl
  split at e
  ·rename_i fr h1 h2;rw [h2] at this;exact hres _ _ e ▸ this
  ·rename_i fr h1 h2;rw [h2] at this;exact hres _ _ e ▸ this
  ·cases e
theorem exec_next {p : Prog} {ext : Ext} (hx : Rises ext) : ∀ (n : Nat) (c : MCode) (fr : Fr) (h : Hp), (exec p ext n c fr h).rises h.next
 | 0, c, fr, h => trivial
 | n + 1, c, fr, h => by
  have ih := exec_next (p := p) hx n;have hc : Rises (callV p ext (exec p ext n)) := callV_next hx ih;cases c <;> simp only [exec]
  case skip => exact Nat.le_refl _
  case region ops =>
   split
   ·rename_i e; exact runOps_next hc e
   ·trivial
  case dregion ops =>
   split
   ·rename_i e; exact runD_next hc e
   ·trivial
  case seq a b =>
   have h1 := ih a fr h;split
   ·rename_i fr' h' e;rw [e] at h1;have h2 := ih b fr' h'
    cases hb : exec p ext n b fr' h' <;> rw [hb] at h2 <;> first | trivial | exact Nat.le_trans h1 h2
   ·exact h1
  case cond c a b => split <;> first | exact ih _ _ _ | trivial
  case block id c =>
   have h1 := ih c fr h;split
   ·rename_i id' fr' h' e;rw [e] at h1;rw [cond_eq_ite]; split <;> exact h1
   ·exact h1
  case loop c =>
   have h1 := ih c fr h;split
   ·rename_i fr' h' e;rw [e] at h1;have h2 := ih (.loop c) fr' h'
    cases hb : exec p ext n (.loop c) fr' h' <;> rw [hb] at h2 <;> first | trivial | exact Nat.le_trans h1 h2
   ·exact h1
  case exit id => exact Nat.le_refl _
  case ret => exact Nat.le_refl _
end Go.Vm
end
