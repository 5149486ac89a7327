/-
  'colonnade/colonnadelaw18.TxnsTimes' returns true whatever its script: proved for all, without a condition.
  The walk goes over the small machine: between two rounds the book holds some transactions, and its ticks are one less than what the law remembers.
-/
import Derived.Test.YtliaohleajdgiaaTx
import Derived.WalkKit
import Derived.ProofKit
import Derived.OpenShut
set_option maxRecDepth 10000
namespace Go.Proofs.Ytliaohleajdgiaa.txnsTimes
open Go.Vm

/-! ### TxnsTimes -/

theorem w11 {h : Hp} : Ret pr xt 11 [] h (.bool true) h := ⟨0, rfl⟩

theorem times {h : Hp} {s : V} {xs : List Int} (hs : IntsV h s xs) (hlt : ∀ x, s.hasB x → x < h.next) : WPc pr xt 3 [s] h fun v _ => v = .bool true := by
  refine enter rfl rfl rfl ?_
  have hsl : lenbV s = some (.int .i64 xs.length) := by
    rcases hs with ⟨h1, rfl⟩ | ⟨b, o, c, ex, l, ro, rfl, _⟩
    · simpa using h1
    · rfl
  simp [m3, w6.call, eqP, eqV]
  generalize hh0 : h.new (.cells [.int .i64 0, .nilslice] false) = h0
  have hb0 : Book h0 h.next 0 [] := hh0 ▸ book_new
  have hs0 : IntsV h0 s xs := by
    rcases hs with h1 | ⟨b, o, c, ex, l, ro, rfl, h2, h3⟩
    · exact .inl h1
    · have := hlt b rfl
      exact .inr ⟨b, o, c, ex, l, ro, rfl, by rw [← hh0, blk_new, if_neg (by omega), h2], h3⟩
  refine ws_loop (fun k fr h' => ∃ (i : Nat) (t : Int) (l : List Tx), k = 101 - i ∧ i ≤ 100 ∧ ev fr (.tmp 0) = s ∧ ev fr (.tmp 3) = .ptr h.next 0 ∧ ev fr (.tmp 4) = .int .i64 (t + 1) ∧ ev fr (.tmp 6) = .int .i64 i ∧ (∃ n, ev fr (.tmp 5) = .int .i64 n) ∧ 0 ≤ t ∧ t ≤ i ∧ l.length ≤ i ∧
    Book h' h.next t l ∧ IntsV h' s xs ∧ (∀ x, s.hasB x → ¬ BookF h' h.next x ∧ x < h'.next)) ?_ (k := 101) ?_
  · rintro k fr h' ⟨i, t, l, rfl, hi, e0, e3, e4, e6, ⟨n, e5⟩, ht0, ht1, hl, hb, hxs, hap⟩
    have e10 : Ret pr xt 10 [.ptr h.next 0] h' (.int .i64 (t + 1)) h' := by
      obtain ⟨⟨sb, q1, q2, q3, q4⟩, q5⟩ := hb
      exact w10 (h := h') (b := h.next) (o := 0) (t := t) (by rw [q1]; rfl) ht0 (by omega)
    by_cases c1 : i < xs.length
    case neg =>
      simp [e0, e6, hsl]
      rw [decide_eq_false c1]
      simp [e3, e4, e10.call, w11.call]
    case pos =>
      simp [e0, e6, hsl]
      rw [decide_eq_true c1]
      simp [e6]
      by_cases c2 : i < 100
      case neg =>
        rw [decide_eq_false (by omega : ¬ ((i : Int) < 100))]
        simp [e3, e4, e10.call, w11.call]
      case pos =>
        rw [decide_eq_true (by omega : ((i : Int) < 100))]
        obtain ⟨_, h1⟩ | ⟨ab, ao, ac, aex, al, aro, rfl, ha2, ha3⟩ := hxs
        · rw [h1] at c1; simp at c1
        have hcell := ha3 i xs[i] (by simp [c1])
        obtain ⟨q, hq1, hq2⟩ := and_range (a := xs[i]) (m := 3) (by omega)
        simp at hq1
        simp [e0, e6, c1, ha2, hcell, hq1]
        have hab := hap ab rfl
        -- a later heap in which the book has been turned
        have step : ∀ (h3 : Hp) (t' : Int) (l' : List Tx), Book h3 h.next t' l' → BookC h' h3 h.next → IntsV h3 (.slice ab ao 1 xs.length ac aex) xs ∧ ∀ x, (V.slice ab ao 1 xs.length ac aex).hasB x → ¬ BookF h3 h.next x ∧ x < h3.next := by
          intro h3 t' l' hb3 hc3
          refine ⟨.inr ⟨ab, ao, ac, aex, al, aro, rfl, by rw [hc3.kept ab hab.2 hab.1, ha2], ha3⟩, fun x hx => ?_⟩
          have : x = ab := hx
          subst this
          refine ⟨fun hf => ?_, Nat.lt_of_lt_of_le hab.2 hc3.next⟩
          rcases hc3.own x hf with e | e
          · exact hab.1 e
          · have := hab.2; omega
        refine condS_of (fun c3 => ?_) (fun c3 => ?_)
        · simp [e3]
          refine callS_of (w7 hb (by omega) ht0 (by omega) fun h2 hb2 hc2 => ?_)
          simp [e3]
          refine callS_of (w8 hb2 (by simp; omega) fun h3 s' hh hn3 hk3 hf3 => ?_)
          have hb3 : Book h3 h.next t (l ++ [⟨l.length + 1, 1, t + 1, 0⟩]) := hb2.keep hn3 fun x hx => hk3 x (hb2.below hx)
          have hF : ∀ x, BookF h3 h.next x → BookF h2 h.next x := fun x hx => by
            rcases hx with rfl | ⟨t2, s2, k1, k2⟩
            · exact .inl rfl
            · rw [hk3 _ hb2.lt] at k1
              exact .inr ⟨t2, s2, k1, k2⟩
          have hc3 : BookC h' h3 h.next := ⟨Nat.le_trans hc2.next hn3, fun x hx hnf => (hk3 x (Nat.lt_of_lt_of_le hx hc2.next)).trans (hc2.kept x hx hnf), fun x hx => hc2.own x (hF x hx)⟩
          obtain ⟨st1, st2⟩ := step h3 _ _ hb3 hc3
          rcases hh with ⟨_, k⟩ | ⟨sb, c, ex, rfl, g1, g2, g3⟩
          · simp at k
          have gl : (l ++ [(⟨l.length + 1, 1, t + 1, 0⟩ : Tx)]).length = l.length + 1 := by simp
          have gx : (l ++ [(⟨l.length + 1, 1, t + 1, 0⟩ : Tx)])[l.length]? = some ⟨l.length + 1, 1, t + 1, 0⟩ := by simp
          have r1 := encs_get (j := 1) gx (by omega)
          have r2 := encs_get (j := 2) gx (by omega)
          have r3 := encs_get (j := 3) gx (by omega)
          simp [Tx.enc] at r1 r2 r3
          have hw1 : wr .i64 ((l.length : Int) + 1 - 1) = (l.length : Int) := by rw [wr_of] <;> omega
          have hw2 : wr .i64 (l.length : Int) = (l.length : Int) := by rw [wr_of] <;> omega
          have hn1 : ¬ ((l.length : Int) + 1 < 1) := by omega
          have hw3 : wr .i64 ((i : Int) + 1) = (i : Int) + 1 := by rw [wr_of] <;> omega
          simp [gl, hn1, hw2, g2, r1, r2, r3, e4, e6, hw3]
          exact ⟨101 - (i + 1), by omega, i + 1, rfl, by omega, e0, e3, by omega, by omega, by omega, _, by simp; omega, hb3, st1, st2⟩
        · obtain ⟨q2, hr1, hr2⟩ := and_range (a := shrI .i64 xs[i] 2) (m := 15) (by omega)
          simp at hr1
          have hshr : binV pr.env.tab .shr (.int .i64 xs[i]) (.int .u64 2) = some (.int .i64 (shrI .i64 xs[i] 2)) := rfl
          simp [e3, e0, e6, c1, ha2, hcell, hshr, hr1]
          have hw3 : wr .i64 ((i : Int) + 1) = (i : Int) + 1 := by rw [wr_of] <;> omega
          refine callS_of (w9 (i := (q2 : Int)) hb (by omega) ht0 (by omega) (fun h3 hin hb3 hc3 => ?_) (fun h3 k x hin hx hb3 hc3 => ?_))
          · obtain ⟨st1, st2⟩ := step h3 _ _ hb3 hc3
            simp [e6, hw3]
            exact ⟨101 - (i + 1), by omega, i + 1, rfl, by omega, e0, e3, t, e4, by omega, ⟨n, e5⟩, by omega, by omega, l, by omega, hb3, st1, st2⟩
          · obtain ⟨st1, st2⟩ := step h3 _ _ hb3 hc3
            have f10 : Ret pr xt 10 [.ptr h.next 0] h3 (.int .i64 (t + 1 + 1)) h3 := by
              obtain ⟨⟨sb, q1, q2, q3, q4⟩, q5⟩ := hb3
              exact w10 (h := h3) (b := h.next) (o := 0) (t := t + 1) (by rw [q1]; rfl) (by omega) (by omega)
            have hle : ¬ (t + 2 ≤ t + 1) := by omega
            simp [e3, e4, hle, f10.call]
            rw [decide_eq_true (by omega : t + 2 = t + 1 + 1)]
            simp [e6, hw3]
            exact ⟨101 - (i + 1), by omega, i + 1, rfl, by omega, e0, e3, t + 1, by omega, by omega, ⟨n, e5⟩, by omega, by omega, _, by simp; omega, hb3, st1, st2⟩
  · refine ⟨0, 0, [], rfl, by omega, by simp, by simp, by simp, by simp, ⟨0, by simp⟩, by omega, by omega, by simp, hb0, hs0, fun x hx => ⟨fun hf => ?_, ?_⟩⟩
    · have := hlt x hx
      rcases hf with rfl | ⟨t', s', k1, k2⟩
      · omega
      · rw [← hh0, blk_new, if_pos rfl] at k1
        cases k1
        exact k2.elim
    · have := hlt x hx
      rw [← hh0, new_next]; omega

end Go.Proofs.Ytliaohleajdgiaa.txnsTimes

namespace Go.Proofs.Ytliaohleajdgiaa.txnsTimes
open Go.ChangeShapes Go.WideShapes Go.ChangeAt Go.RowKit Go.Vm
set_option linter.unusedVariables false

theorem own : ownKnob Try.prog.godebug = none := by kernel_rfl

theorem mixed : Try.prog.follows .mixedOrders = true := by kernel_rfl

theorem awake11 : runs (mach []) noExt 1000000 11 [] Try.prog.globals.size = true := by decide +kernel

theorem xt_ok {env : Env} : CallOk Try.prog env xt := constX_ok mixed (valid []) noExt_rises noExt_ok rfl intsOk (n := 1000000) fun f hf => by
  rcases List.mem_cons.1 hf with rfl | hf
  · exact ⟨by kernel_rfl, awake11⟩
  · cases hf

theorem walk {H : Type} {enc : TypeId × Value → H} {w : World} {a0 : Option Addr} {len cap : Nat} {d : DataW H} {ps : List MemPlace} (hd : DataW.Trod enc Try.prog w 0 (fun _ => true) true 22 (.slice a0 len cap) d ps) :
    Calls Try.prog 3 #[.slice a0 len cap] w fun e w' => e = .returned (.bool true) ∧ Below w.heap.size w w' :=
  top_ints (p := pr) mixed (valid []) (constX_rises _) xt_ok rfl intsOk (by kernel_rfl) (fun h s xs hs _ _ _ hlt => times hs hlt) Try.underlying22 Try.underlying3 (by kernel_rfl) hd

/-! ### The row's step: after the seat's shell -/
set_option maxRecDepth 100000 in
theorem lifted (os : Os) (started : os.Started) (H : Type) (enc : TypeId × Value → H) :
    ReturnsInHanded {} Try.checked os 3 .any (Rows.txnsTimesSpec.pre6 enc Try.prog Try.f3 Rows.txnsTimesRow.domain false) (Rows.txnsTimesSpec.post enc Try.prog Try.f3 false true false false) := by
  refine returnsInHanded_of_change (C := Try.checked) own started (by kernel_rfl) Try.func3
    (ChangeSpec.witness6 (enc := enc) (C := Try.checked) false ⟨#[], #[.slice none 0 0], []⟩ 8 (by kernel_rfl) (by kernel_rfl) (by kernel_rfl) (by kernel_rfl)) ?_
  intro W base args ds gs before hval0 hW hcnd _
  have hval : ∀ (j : Nat) t v, Try.f3.params[j]? = some t → args[j]? = some v → Value.okWide Try.prog W .any base t v := hval0
  have hW' := hW
  obtain ⟨p, q, hA0, hV, rfl, hfz, hnd⟩ := hW
  have hA : DataW.TrodAll enc Try.prog W 0 (fun _ => true) true Try.f3.params.toList args.toList ds p := hA0
  rw [Try.params3] at hA hval
  obtain ⟨v0, vs0, d0, ds0, p0, q0, hargs, rfl, rfl, h0, r0⟩ := trodAll_cons hA
  obtain ⟨rfl, rfl, rfl⟩ := trodAll_nil r0
  obtain rfl : args = #[v0] := by cases args; simp_all
  obtain ⟨rfl, rfl⟩ := trodVars_none hV
  obtain ⟨a0, len, cap, rfl⟩ := okWide_slice Try.underlying22 (hval 0 22 v0 rfl rfl)
  refine (walk h0).mono fun e W' ⟨he, hb⟩ => ?_
  subst he
  exact ⟨_, rfl, post_kept hW' rfl (by kernel_rfl) (fun t ht => by rw [Try.params3] at ht; simp at ht; subst ht; exact ⟨by kernel_rfl, of_decide_eq_true (by kernel_rfl)⟩) rfl rfl
    (fun _ _ _ => trodAll_cons_mk (shut_bool Try.underlying4 _) trodAll_mk0) hb (ok_one (by kernel_rfl) rfl (okWide_bool_mk Try.underlying4 _))⟩

theorem over : Rows.txnsTimesRow.holds Try.pinned (OpenSpec.ofChange Rows.txnsTimesSpec) :=
  OpenClaim.holds_of_wide 3 Try.f3 rfl rfl rfl rfl rfl rfl rfl ⟨rfl, rfl, rfl, rfl, rfl⟩ rfl rfl rfl rfl rfl (by kernel_rfl) Try.func3 (by kernel_rfl)
    (of_decide_eq_true (by kernel_rfl)) (by unfold Func.isWrapper; first | (rw [if_pos (by decide +kernel)]; kernel_rfl) | (rw [if_neg (by decide +kernel)]; exact ⟨rfl, rfl⟩))
    (fun os started H enc _ => lifted os started H enc)

theorem proved : Rows.TxnsTimesSaid :=
  over
#print axioms proved
end Go.Proofs.Ytliaohleajdgiaa.txnsTimes
