/-
  Vm, part 15: append.
-/
import Derived.Test.YtcoghkkhjaokmaaGreatDoorVmAlloc
import Derived.Laws.Append
namespace Go.Vm

variable {P : Program} {φ : Emb}

/-- What is appended: how many, and which cells. -/
def Src (P : Program) (ts : Array TypeId) (sz bytes : Nat) (zu : Value) (x : Value) (n : Nat) (new : Array Value) (w : World) : Prop :=
  (∃ d, (ts[1]?).bind P.underlying = some d ∧ (∀ k, d ≠ .int k) ∧ (Builtin.lenOf x).run P w = .ok n w ∧ ∀ w', w'.heap = w.heap → (Builtin.firstCells sz n x).run P w' = .ok new w') ∨
  (∃ k k', (ts[1]?).bind P.underlying = some (.int k) ∧ x = .int k' (n : Int) ∧ n ≤ 1099511627776 ∧ bytes * n ≤ 1099511627776 ∧ 0 < n * sz ∧ new = Builtin.zeroCells zu.cells n)

theorem run_loads (w w' : World) (h : w'.heap = w.heap) (a : Addr) : w'.cell? a = w.cell? a := by simp [World.cell?, h]

theorem append_in {ts : Array TypeId} {sT e ty : TypeId} {it : TypeInfo} {zu : Value} (h0 : ts[0]? = some sT) (ht : P.underlying sT = some (.slice e)) (hi : P.info? e = some it) (hz : it.zero = some zu)
    {base : Option Addr} {sLen sCap n : Nat} {x : Value} {new : Array Value} {w : World} (hs : Src P ts it.size it.bytes zu x n new w) (hle : sLen + n ≤ sCap) {w' : World}
    (hst : ∀ a, base = some a → (storeCells (a.add (sLen * it.size)) new.toList).run P w = .ok () w') (hnone : base = none → w' = w) :
    (Builtin.append_ ts ty #[.slice base sLen sCap, x]).run P w = .ok (.slice base (sLen + n) sCap) w' := by
  rcases hs with ⟨d, h1, hd, hl, hfc⟩ | ⟨k, k', h1, rfl, hn, hb, hpos, rfl⟩
  · cases ht1 : ts[1]? with
    | none => simp [ht1] at h1
    | some xT =>
      simp only [ht1, Option.bind_some] at h1
      simp only [Builtin.append_, h0, List.getElem?_toArray, List.getElem?_cons_zero, List.getElem?_cons_succ, Sem.run_bind, run_underlying ht, Result.andThen_ok, sizeOf, typeInfo, run_program, hi, Sem.run_pure, ht1, run_underlying h1, Bool.false_eq_true, if_false, hl, hle, if_true]
      cases base with
      | none => simp [hnone rfl, hfc w rfl]
      | some a => simp [hst a rfl, hfc w rfl]
  · cases ht1 : ts[1]? with
    | none => simp [ht1] at h1
    | some xT =>
      simp only [ht1, Option.bind_some] at h1
      have w1 : IntKind.i64.wrap (n : Int) = n := wrap_id .i64 _ (by simp only [sgn, hiN, cond_true]; omega) (by simp only [hiN]; omega)
      have hneg : ¬ ((n : Int) < 0) := by omega
      have hbig : ¬ ((n : Int) * (it.bytes : Int) > 2 ^ 48) := by
        have : ((n : Int) * (it.bytes : Int)) = ((it.bytes * n : Nat) : Int) := by rw [Nat.mul_comm]; simp
        rw [this]
        have : (2 : Int) ^ 48 = 281474976710656 := by decide
        omega
      have hnz : ¬ (n * it.size = 0) := by omega
      simp only [Builtin.append_, h0, List.getElem?_toArray, List.getElem?_cons_zero, List.getElem?_cons_succ, Sem.run_bind, run_underlying ht, Result.andThen_ok, sizeOf, typeInfo, run_program, hi, Sem.run_pure, ht1, run_underlying h1, if_true,
        asInt, asIntOf, w1, hneg, if_false, hbig, Int.toNat_natCast, hle, hnz, zeroValue, hz, Bool.not_true, Bool.false_eq_true]
      cases base with
      | none => simp [hnone rfl]
      | some a => simp [hst a rfl]

theorem append_out {ts : Array TypeId} {sT e ty : TypeId} {it : TypeInfo} {zu : Value} (h0 : ts[0]? = some sT) (ht : P.underlying sT = some (.slice e)) (hi : P.info? e = some it) (hz : it.zero = some zu)
    {base : Option Addr} {sLen sCap n : Nat} {x : Value} {old new : Array Value} {w : World} (hs : Src P ts it.size it.bytes zu x n new w) (hgt : sCap < sLen + n)
    (hold : ∀ w', w'.heap = w.heap → (Builtin.firstCells it.size sLen (.slice base sLen sCap)).run P w' = .ok old w') (hb1 : sLen + n ≤ 1099511627776) (hb2 : it.bytes * (sLen + n) ≤ 1099511627776) :
    ∃ cap, sLen + n ≤ cap ∧ (Builtin.append_ ts ty #[.slice base sLen sCap, x]).run P w =
      .ok (.slice (some ⟨w.heap.size, 0, none⟩) (sLen + n) cap) (w.drew.alloc (.cells (old ++ new ++ Builtin.zeroCells zu.cells (cap - (sLen + n))) e)) := by
  refine ⟨(Question.appendCap (sLen + n) sCap e).cut (w.tape w.drawn (.appendCap (sLen + n) sCap e)), by simp only [Question.cut]; omega, ?_⟩
  have hle : ¬ (sLen + n ≤ sCap) := by omega
  have h63 : ∀ q : Prop, ¬ (((sLen + n : Nat) : Int) > IntKind.i64.max ∧ q) := by
    intro q hh
    rw [IntKind.max_i64] at hh
    omega
  have h48 : ¬ (Builtin.nextslicecap (sLen + n) sCap * it.bytes > 2 ^ 48) := by
    have := growslice_fits (bytes := it.bytes) hgt (by rw [Nat.mul_comm]; omega)
    have e48 : (2 : Nat) ^ 48 = 281474976710656 := by decide
    omega
  have hq : (Question.appendCap (sLen + n) sCap e).forced = false := rfl
  have hdr : ({ w with drawn := w.drawn + 1 } : World) = w.drew := rfl
  have hdh : w.drew.heap = w.heap := rfl
  have hds : w.drew.heap.size = w.heap.size := rfl
  rcases hs with ⟨d, h1, hd, hl, hfc⟩ | ⟨k, k', h1, rfl, hn, hb, hpos, rfl⟩
  · cases ht1 : ts[1]? with
    | none => simp [ht1] at h1
    | some xT =>
      simp only [ht1, Option.bind_some] at h1
      simp only [Builtin.append_, h0, List.getElem?_toArray, List.getElem?_cons_zero, List.getElem?_cons_succ, Sem.run_bind, run_underlying ht, Result.andThen_ok, sizeOf, typeInfo, run_program, hi, Sem.run_pure, ht1, run_underlying h1, Bool.false_eq_true, if_false, hl, hle,
        h63, h48, run_choose, hq, hdr, run_askRoom, hold _ hdh, hfc _ hdh, Bool.not_false, if_true, zeroValue, hz, run_newRow, hds, Sem.run_ite]
  · cases ht1 : ts[1]? with
    | none => simp [ht1] at h1
    | some xT =>
      simp only [ht1, Option.bind_some] at h1
      have w1 : IntKind.i64.wrap (n : Int) = n := wrap_id .i64 _ (by simp only [sgn, hiN, cond_true]; omega) (by simp only [hiN]; omega)
      have hneg : ¬ ((n : Int) < 0) := by omega
      have hbig : ¬ ((n : Int) * (it.bytes : Int) > 2 ^ 48) := by
        have : ((n : Int) * (it.bytes : Int)) = ((it.bytes * n : Nat) : Int) := by rw [Nat.mul_comm]; simp
        rw [this]
        have : (2 : Int) ^ 48 = 281474976710656 := by decide
        omega
      have hnz : ¬ (n * it.size = 0) := by omega
      simp only [Builtin.append_, h0, List.getElem?_toArray, List.getElem?_cons_zero, List.getElem?_cons_succ, Sem.run_bind, run_underlying ht, Result.andThen_ok, sizeOf, typeInfo, run_program, hi, Sem.run_pure, ht1, run_underlying h1, if_true,
        asInt, asIntOf, w1, hneg, if_false, hbig, Int.toNat_natCast, hle, hnz, zeroValue, hz, Bool.not_true, Bool.false_eq_true, h63, h48, run_choose, hq, hdr, run_askRoom, hold _ hdh, run_newRow, hds, Sem.run_ite]

end Go.Vm
