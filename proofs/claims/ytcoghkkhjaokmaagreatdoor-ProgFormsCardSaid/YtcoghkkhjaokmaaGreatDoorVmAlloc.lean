/-
  Vm, part 14: operations that lay a block.
-/
import Derived.Test.YtcoghkkhjaokmaaGreatDoorVmPure7
namespace Go.Vm

variable {P : Program} {φ : Emb}

theorem repX_length (z : List V) : ∀ n, (repX z n).length = n * z.length
  | 0 => by simp [repX]
  | n + 1 => by simp [repX, repX_length z n, Nat.add_mul]; omega

theorem repX_get (z : List V) (hz : 0 < z.length) : ∀ (n i : Nat), i < n * z.length → (repX z n)[i]? = z[i % z.length]?
  | 0, i, h => by simp at h
  | n + 1, i, h => by
    simp only [repX]
    by_cases c : i < z.length
    · rw [List.getElem?_append_left c, Nat.mod_eq_of_lt c]
    · rw [List.getElem?_append_right (by omega), repX_get z hz n (i - z.length) (by rw [Nat.add_mul] at h; omega)]
      rw [Nat.mod_eq_sub_mod (by omega : i ≥ z.length)]

theorem rep_rel {z : List V} {c : Array Value} (h : VRs φ z c.toList) (n m : Nat) (hm : m = n * z.length) : VRs φ (repX z n) ((Array.range m).map (c[· % c.size]!)).toList := by
  have hl : z.length = c.size := by rw [h.length]; simp
  refine VRs.of_get (by rw [repX_length]; simp [hm]) fun i v u h1 h2 => ?_
  have hi : i < m := by
    have := (List.getElem?_eq_some_iff.1 h2).1
    simpa using this
  have hz : 0 < z.length := by
    rcases Nat.eq_zero_or_pos z.length with e | e
    · rw [e] at hm; omega
    · exact e
  rw [repX_get z hz n i (by omega)] at h1
  obtain ⟨u', k1, k2⟩ := h.get h1
  have hlt : i % z.length < c.size := by rw [← hl]; exact Nat.mod_lt _ hz
  rw [hl] at k1
  rw [Array.getElem?_toList] at k1
  have e : u = c[i % c.size]! := by
    simp only [Array.toList_map, Array.toList_range, List.getElem?_map, List.getElem?_range hi, Option.map_some, Option.some.injEq] at h2
    exact h2.symm
  rw [e]
  rw [hl] at hlt
  rw [Array.getElem?_eq_getElem hlt] at k1
  rw [getElem!_pos c (i % c.size) hlt]
  cases k1
  exact k2

/-- What an operation comes to that lays a block: which block, and what leads to it. -/
def Lays (P : Program) (φ : Emb) (a : Act) (o : Oper) (blk : Blk) (mk : Nat → V) : Prop :=
  ∀ w : World, ∃ u obj pl w1, (w1 = w ∨ w1 = w.drew) ∧ (execOp a.eval o).run P w = .ok (.value u) (w1.alloc obj) ∧ pl.blk = w.heap.size ∧
    (∀ ψ b, φ.Le ψ → ψ.at_ b = some pl → VR ψ (mk b) u) ∧ (∀ ψ w', φ.Le ψ → w'.heap[w.heap.size]? = some obj → BlkAt ψ w' pl blk)

theorem cells_lie {l : List V} {c : Array Value} {e : TypeId} (h : VRs φ l c.toList) (n : Nat) (ψ : Emb) (w' : World) (hle : φ.Le ψ) (hh : w'.heap[n]? = some (.cells c e)) (ro : Bool) :
    BlkAt ψ w' ⟨n, 0, l.length⟩ (.cells l ro) := by
  have hl := h.length
  have hat : CellsAt ψ w' ⟨n, 0, l.length⟩ l := by
    refine ⟨rfl, Nat.le_refl _, c, e, (0, 0), hh, by simp at hl ⊢; omega, .inl rfl, fun i v hi => ?_⟩
    obtain ⟨u, h1, h2⟩ := h.get hi
    exact ⟨u, by simpa using h1, h2.mono hle⟩
  cases ro with
  | false => exact hat
  | true => exact hat.ro

theorem run_newRow (w : World) (e : TypeId) (c : Array Value) : (newRow e c).run P w = .ok ⟨w.heap.size, 0, none⟩ (w.alloc (.cells c e)) := by
  simp [newRow]

theorem a_sim {env : Env} (ok : EnvOk P φ env) {fr : Fr} {a : Act} (hf : FR φ fr a) {o : Oper} {p : AOp} (hc : cOp P o.op = some (.a p)) {blk : Blk} {mk : Nat → V} (hv : aV fr p = some (blk, mk)) :
    Lays P φ a o blk mk := by
  intro w
  have box : ∀ {s : Sem Value} {c : Array Value} {e : TypeId} {l : List V}, execOp a.eval o = (do pure (Next.value (← s))) → VRs φ l c.toList → s.run P w = .ok (.pointer (some ⟨w.heap.size, 0, none⟩)) (w.alloc (.cells c e)) →
      ∃ u obj pl w1, (w1 = w ∨ w1 = w.drew) ∧ (execOp a.eval o).run P w = .ok (.value u) (w1.alloc obj) ∧ pl.blk = w.heap.size ∧
        (∀ ψ b, φ.Le ψ → ψ.at_ b = some pl → VR ψ (.ptr b 0) u) ∧ (∀ ψ w', φ.Le ψ → w'.heap[w.heap.size]? = some obj → BlkAt ψ w' pl (.cells l false)) := by
    intro s c e l he hr hs
    exact ⟨_, .cells c e, ⟨w.heap.size, 0, l.length⟩, w, .inl rfl, by rw [he]; exact lift_ok hs, rfl,
      fun ψ b _ hb => .ptr b 0 _ hb, fun ψ w' hle hh => cells_lie hr _ ψ w' hle hh false⟩
  cases hop : o.op <;> rw [hop] at hc <;> simp only [cOp, reduceCtorEq] at hc
  case move x => obtain ⟨y, hy, e⟩ := map_some hc; cases e
  case assign x => obtain ⟨y, hy, e⟩ := map_some hc; cases e
  case pick c x y => split at hc <;> cases hc
  case alloc t =>
    split at hc
    case h_2 => cases hc
    rename_i z hz
    cases hc
    simp only [aV] at hv
    rw [cond_eq_ite] at hv; split at hv
    case isFalse => cases hv
    cases hv
    obtain ⟨it, zu, hi, hz0, rz, rzc⟩ := zeroP_info (φ := φ) ok.sym hz
    refine box (s := Instr.alloc t true (.tuple #[])) (c := zu.cells) (e := t) (by simp only [execOp, hop]) rzc ?_
    simp [Instr.alloc, zeroValue, typeInfo, hi, hz0, newVar, run_newRow]
  case box t x =>
    obtain ⟨y, hy, e⟩ := map_some hc
    cases e
    simp only [aV] at hv
    rw [cond_eq_ite] at hv; split at hv
    case isFalse => cases hv
    cases hv
    have rx := opd_rel ok.gl hf hy
    refine box (s := Instr.box t (a.eval x)) (c := (a.eval x).cells) (e := t) (by simp only [execOp, hop]) (rx.cells ok.sym) ?_
    simp [Instr.box, newVar, run_newRow]
  case build t parts =>
    split at hc
    · split at hc
      · obtain ⟨y, hy, e⟩ := map_some hc; cases e
      · cases hc
    · split at hc
      · obtain ⟨y, hy, e⟩ := map_some hc; cases e
      · cases hc
    · cases hc
  case buildSlice t len parts =>
    split at hc
    case h_2 => cases hc
    rename_i e ht
    split at hc
    case h_2 => cases hc
    rename_i sz z hsz hz
    rw [cond_eq_ite] at hc; split at hc
    case isFalse => cases hc
    rename_i hzl
    rw [cond_eq_ite] at hc; split at hc
    case isFalse => cases hc
    rename_i hsm
    obtain ⟨pr, hpr, e⟩ := map_some hc
    cases e
    simp only [aV] at hv
    split at hv
    case h_2 => cases hv
    rename_i c hfill
    rw [cond_eq_ite] at hv; split at hv
    case isFalse => cases hv
    rw [cond_eq_ite] at hv; split at hv
    case isFalse => cases hv
    rename_i hcl
    cases hv
    rw [nbeq] at hzl hcl
    rw [nble] at hsm
    obtain ⟨it, zu, hi, hz0, rz, rzc⟩ := zeroP_info (φ := φ) ok.sym hz
    obtain ⟨it', hi', hsz'⟩ := szP_info hsz
    rw [hi] at hi'; cases hi'
    obtain ⟨cs', k1, k2⟩ := fill_ok ok.sym ok.gl hf _ parts.toList hpr hfill (rep_rel rzc len (len * (sz + 1)) (by rw [hzl]))
    refine ⟨.slice (some ⟨w.heap.size, 0, none⟩) len len, .cells cs' e, ⟨w.heap.size, 0, c.length⟩, w, .inl rfl, ?_, rfl, fun ψ b hle hb => ?_, fun ψ w' hle hh => cells_lie k2 _ ψ w' hle hh false⟩
    · have he : execOp a.eval o = (do pure (Next.value (← Instr.buildSlice t len (parts.map fun p => (p.1, a.eval p.2))))) := by simp only [execOp, hop]
      rw [he]
      refine lift_ok ?_
      have hp' : (parts.map fun p => (p.1, a.eval p.2)).toList = parts.toList.map fun p => (p.1, a.eval p.2) := by simp
      have hsmall : ¬ len * (sz + 1) > 2 ^ 24 := by simp; omega
      have hf : Instr.fill (fun i => some (i * (sz + 1), sz + 1)) ((Array.range (len * (sz + 1))).map (zu.cells[· % zu.cells.size]!)) (parts.map fun p => (p.1, a.eval p.2)).toList = some cs' := by rw [hp']; exact k1
      simp only [Instr.buildSlice, Sem.run_bind, run_underlying ht, Result.andThen_ok, run_sizeOf_of hsz, Sem.run_ite, if_neg hsmall, Sem.run_pure]
      by_cases h0 : len * (sz + 1) = 0
      · rw [if_pos h0]
        have hl0 : len = 0 := (Nat.mul_eq_zero.1 h0).resolve_right (by omega)
        subst hl0
        have hr0 : Array.range (0 * (sz + 1)) = #[] := by rw [Nat.zero_mul]; rfl
        rw [hr0] at hf
        simp only [hr0, Array.map_empty] at hf ⊢
        simp only [Result.andThen_ok, hf, Sem.run_bind, run_newRow, Sem.run_pure]
      · rw [if_neg h0]
        simp only [Sem.run_bind, zeroValue, typeInfo, run_program, Result.andThen_ok, hi, hz0, Sem.run_pure, hf, run_newRow]
    · exact .slice _ _ _ _ _ _ _ _ (fun hpos => ⟨_, hb, rfl, fun ee => by cases ee⟩) (Nat.le_refl _) (Nat.le_refl _) (fun _ => rfl)
  case load t x => split at hc <;> cases hc
  case store t x y => split at hc <;> cases hc
  case nilCheck x => obtain ⟨y, hy, e⟩ := map_some hc; cases e
  case binOp op t X Y yt =>
    split at hc
    · obtain ⟨y, hy, e⟩ := map_some hc; cases e
    · cases hc
  case unOp op t X => split at hc <;> cases hc
  case convert s d X =>
    split at hc
    case h_2 => cases hc
    rename_i x hx
    have rx := opd_rel ok.gl hf hx
    unfold cConv at hc
    split at hc
    · cases hc
    · cases hc
    · cases hc
    · rename_i e h1 h2
      split at hc
      case h_2 => cases hc
      rename_i h3
      cases hc
      simp only [aV] at hv
      split at hv
      case h_2 => cases hv
      rename_i l hl
      cases hv
      have he : execOp a.eval o = (do pure (Next.value (← convert s d (a.eval X)))) := by simp only [execOp, hop]
      rw [hl] at rx
      generalize a.eval X = cu at rx he
      cases rx with | str st =>
      have hcv : ∀ w, (convert s d (.string st)).run P w = (Conv.stringToBytes e st).run P w := fun w => by
        simp only [convert, Sem.run_bind, run_underlying h1, run_underlying h2, run_underlying h3, Result.andThen_ok]
      let cap := (Question.appendCap st.size 0 e).cut (w.tape w.drawn (.appendCap st.size 0 e))
      let cells : Array Value := st.data.map (fun b => Value.int .u8 b.toNat) ++ Array.replicate (cap - st.size) (.int .u8 0)
      have hcap : st.size ≤ cap := by simp only [cap, Question.cut]; omega
      have hsz : cells.size = cap := by
        have : st.data.size = st.size := rfl
        simp only [cells, Array.size_append, Array.size_map, Array.size_replicate, this]; omega
      refine ⟨.slice (some ⟨w.heap.size, 0, none⟩) st.size cap, .cells cells e (cap, cap + 1), ⟨w.heap.size, 0, cap⟩, w.drew, .inr rfl, ?_, rfl, fun ψ b hle hb => ?_, fun ψ w' hle hh => ?_⟩
      · rw [he]
        refine lift_ok ?_
        rw [hcv]
        have hq : (Question.appendCap st.size 0 e).forced = false := rfl
        have hsh : (w.drew.alloc (.cells cells e)).shape? w.heap.size = some (e, cap) := by
          have := heap_alloc_new w.drew (.cells cells e)
          have hs : w.drew.heap.size = w.heap.size := rfl
          rw [hs] at this
          unfold World.shape?
          rw [this]
          simp only [hsz]
        have hfz : (w.drew.alloc (.cells cells e)).freeze ⟨w.heap.size, cap, none⟩ 1 = w.drew.alloc (.cells cells e (cap, cap + 1)) := by
          simp only [World.freeze, World.alloc]
          rw [if_neg (by omega)]
          congr 1
          apply Array.ext_getElem?
          intro i
          rw [Array.getElem?_modify]
          by_cases ei : w.heap.size = i
          · subst ei
            rw [if_pos rfl]
            have hs : w.drew.heap = w.heap := rfl
            rw [hs, Array.getElem?_push, if_pos rfl, Array.getElem?_push, if_pos rfl]
            simp
          · rw [if_neg ei]
            have hs : w.drew.heap = w.heap := rfl
            rw [hs, Array.getElem?_push, if_neg (by omega), Array.getElem?_push, if_neg (by omega)]
        simp only [Conv.stringToBytes, Sem.run_bind, run_choose, hq, Bool.false_eq_true, if_false, Result.andThen_ok]
        have e1 : ({ w with drawn := w.drawn + 1 } : World) = w.drew := rfl
        simp only [e1, run_newRow, Result.andThen_ok, markStringish, Sem.run_bind, run_shape]
        have hs : w.drew.heap.size = w.heap.size := rfl
        rw [hs, show st.data.map (fun b => Value.int IntKind.u8 b.toNat) ++ Array.replicate ((Question.appendCap st.size 0 e).cut (w.tape w.drawn (.appendCap st.size 0 e)) - st.size) (Value.int IntKind.u8 0) = cells from rfl, hsh]
        simp only [run_freeze, hfz, Result.andThen_ok, Sem.run_pure]
        rfl
      · have hlen : (st.data.toList.map UInt8.toNat).length = st.size := by simp
        show VR ψ (.slice b 0 1 (st.data.toList.map UInt8.toNat).length (st.data.toList.map UInt8.toNat).length false) _
        rw [hlen]
        exact .slice b 0 1 st.size st.size false _ cap (fun hpos => ⟨_, hb, rfl, fun ee => by show 0 + cap * 1 = cap; omega⟩) (Nat.le_refl _) hcap (fun ee => by cases ee)
      · refine ⟨rfl, ?_, cells, e, (cap, cap + 1), hh, by simp [hsz], .inr (by simp [hsz]), fun i v hi => ?_⟩
        · simp; exact hcap
        · simp only [List.getElem?_map, Option.map_map] at hi
          cases hd : st.data.toList[i]? with
          | none => simp [hd] at hi
          | some bb =>
            simp [hd] at hi
            subst hi
            refine ⟨.int .u8 bb.toNat, ?_, .int _ _⟩
            have hlt : i < st.data.size := by
              have := (List.getElem?_eq_some_iff.1 hd).1
              simpa using this
            simp only [Nat.zero_add, cells]
            rw [Array.getElem?_append_left (by simp; exact hlt)]
            rw [Array.getElem?_toList] at hd
            simp [hd]
    · split at hc <;> cases hc
    · rw [cond_eq_ite] at hc
      split at hc
      · split at hc <;> cases hc
      · cases hc
    · cases hc
  case makeInterface t X =>
    split at hc
    · cases hc
    · obtain ⟨y, hy, e⟩ := map_some hc; cases e
    · cases hc
  case makeFunc fn first captured =>
    cases fn <;> simp only [reduceCtorEq] at hc
    split at hc <;> cases hc
  case makeMap t r =>
    cases r <;> simp only [reduceCtorEq] at hc
    split at hc
    case h_2 => cases hc
    split at hc
    case h_3 => cases hc
    all_goals
      cases hc
    all_goals
      simp only [aV, Option.some.injEq, Prod.mk.injEq] at hv
      obtain ⟨rfl, rfl⟩ := hv
      refine ⟨.map (some w.heap.size), .map #[] 0, ⟨w.heap.size, 0, 0⟩, w, .inl rfl, ?_, rfl, fun ψ b hle hb => .map b ⟨w.heap.size, 0, 0⟩ hb, fun ψ w' hle hh => ?_⟩
      · simp [execOp, hop, Instr.makeMap]
      · exact ⟨#[], 0, hh, MapKept.stamped_empty 0, rfl, fun i p e h1 _ => by simp at h1⟩
  case makeSlice t l c =>
    split at hc
    case h_2 => cases hc
    rename_i e lo co ht hl hcc
    split at hc
    case h_2 => cases hc
    rename_i sz bytes z hsz hby hz
    cases hc
    simp only [aV] at hv
    split at hv
    case h_2 => cases hv
    rename_i n m hn hm
    rw [cond_eq_ite] at hv; split at hv
    case isFalse => cases hv
    rename_i hnm
    rw [cond_eq_ite] at hv; split at hv
    case isFalse => cases hv
    rename_i hb1
    rw [cond_eq_ite] at hv; split at hv
    case isFalse => cases hv
    rename_i hb2
    rw [cond_eq_ite] at hv; split at hv
    case isFalse => cases hv
    rw [cond_eq_ite] at hv; split at hv
    case isFalse => cases hv
    rename_i hzl
    cases hv
    rw [nble] at hnm hb1 hb2
    rw [nbeq] at hzl
    have rl := opd_rel ok.gl hf hl
    have rc := opd_rel ok.gl hf hcc
    obtain ⟨k1, e1⟩ := nat_rel hn rl
    obtain ⟨k2, e2⟩ := nat_rel hm rc
    obtain ⟨it, zu, hi, hz0, rz, rzc⟩ := zeroP_info (φ := φ) ok.sym hz
    have hbb : it.bytes = bytes := by unfold bytesP at hby; simp [hi] at hby; exact hby
    have hrr := rep_rel rzc m (m * (sz + 1)) (by rw [hzl])
    refine ⟨.slice (some ⟨w.heap.size, 0, none⟩) n m, .cells ((Array.range (m * (sz + 1))).map (zu.cells[· % zu.cells.size]!)) e, ⟨w.heap.size, 0, (repX z.cells m).length⟩, w, .inl rfl, ?_, rfl, fun ψ b hle hb => ?_, fun ψ w' hle hh => cells_lie hrr _ ψ w' hle hh false⟩
    · have he : execOp a.eval o = (do pure (Next.value (← Instr.makeSlice t (a.eval l) (a.eval c)))) := by simp only [execOp, hop]
      rw [he]
      refine lift_ok ?_
      rw [e1, e2]
      have w1 : IntKind.i64.wrap (n : Int) = n := wrap_id .i64 _ (by simp only [sgn, hiN, cond_true]; omega) (by simp only [hiN]; omega)
      have w2 : IntKind.i64.wrap (m : Int) = m := wrap_id .i64 _ (by simp only [sgn, hiN, cond_true]; omega) (by simp only [hiN]; omega)
      have hmul : ((bytes : Int) * (m : Int)) = ((bytes * m : Nat) : Int) := by simp
      have hc1 : (((decide ((m : Int) < 0) || decide ((bytes : Int) * (m : Int) > 2 ^ 48)) || decide ((n : Int) < 0) || decide ((n : Int) > (m : Int))) = true) = False := by
        rw [hmul]
        simp only [Bool.or_eq_true, decide_eq_true_eq, eq_iff_iff, iff_false]
        have : (2 : Int) ^ 48 = 281474976710656 := by decide
        omega
      simp only [Instr.makeSlice, Sem.run_bind, run_underlying ht, Result.andThen_ok, asInt, asIntOf, Sem.run_pure, typeInfo, run_program, hi, hbb, w1, w2, hc1, Sem.run_ite, if_false, run_askRoom, run_sizeOf_of hsz, Int.toNat_natCast]
      by_cases h0 : m * (sz + 1) = 0
      · rw [if_pos h0, h0]
        have hr0 : Array.range 0 = #[] := rfl
        simp only [Result.andThen_ok, run_newRow, hr0, Array.map_empty]
      · rw [if_neg h0]
        simp only [Sem.run_bind, zeroValue, typeInfo, run_program, Result.andThen_ok, hi, hz0, Sem.run_pure, run_newRow]
    · exact .slice _ _ _ _ _ _ _ _ (fun hpos => ⟨_, hb, rfl, fun ee => by cases ee⟩) hnm (Nat.le_refl _) (fun _ => rfl)
  case slice t X lo hi mx =>
    split at hc
    · obtain ⟨y, hy, e⟩ := map_some hc; cases e
    · cases hc
  case fieldAddr t X f =>
    split at hc
    · split at hc
      · split at hc <;> cases hc
      · cases hc
    · cases hc
  case field t X f =>
    split at hc
    · split at hc
      · split at hc <;> cases hc
      · cases hc
    · cases hc
  case indexAddr t X I =>
    split at hc
    · split at hc <;> cases hc
    · split at hc <;> cases hc
    · cases hc
  case index t X I =>
    split at hc
    · cases hc
    · split at hc <;> cases hc
    · cases hc
  case lookup t m k b =>
    split at hc
    case h_2 => cases hc
    split at hc <;> cases hc
  case mapUpdate t m k x =>
    split at hc
    case h_2 => cases hc
    split at hc <;> cases hc
  case extract X i => obtain ⟨y, hy, e⟩ := map_some hc; cases e
  case call c =>
    unfold cCall at hc
    split at hc
    · cases hc
    · split at hc
      · unfold cBuiltin at hc
        split at hc
        all_goals (try (repeat (first | (cases hc; done) | split at hc)))
        all_goals (try (rw [cond_eq_ite] at hc; split at hc))
        all_goals (try (repeat (first | (cases hc; done) | split at hc)))
        all_goals (cases hc)
      · simp only [cond_eq_ite] at hc
        split at hc <;> cases hc
      · split at hc <;> cases hc
      · cases hc
  case panic x => cases hc

end Go.Vm
