/-
  'colonnade/colonnadelaw18.TxnsOwn': true, whatever the number: the shell is the seat's (proof-skeleton.mjs); the walk is the small machine's run, one for each of the sixteen numbers that are left of it.
-/
import Derived.Test.YtliaohleajdgiaaM
import Derived.WalkKit
import Derived.ProofKit
import Derived.OpenShut
namespace Go.Proofs.Ytliaohleajdgiaa.txnsOwn
open Go.ChangeShapes Go.WideShapes Go.ChangeAt Go.RowKit Go.Vm
set_option linter.unusedVariables false

theorem own : ownKnob Try.prog.godebug = none := by kernel_rfl

theorem mixed : Try.prog.follows .mixedOrders = true := by kernel_rfl

/-- The sixteen runs. -/
theorem sixteen : ∀ r : Fin 16, runs (mach [(.and, .sym 0, .int .i64 (.ofNat 15), .int .i64 (.ofNat r.val))]) noExt 1000000 4 [.sym 0] Try.prog.globals.size = true := by decide +kernel

theorem walk (a0 : Int) (w0 : (Lit.int .i64 a0).wf = true) (w : World) :
    Calls Try.prog 4 #[.int .i64 a0] w fun e w' => e = .returned (.bool true) ∧ w.keptBut w' (fun _ => False) := by
  have hlt : Nat.land (toU .i64 a0) 15 < 16 := Nat.lt_of_le_of_lt Nat.and_le_right (by decide)
  have hb : binV [] .and (.int .i64 a0) (.int .i64 (.ofNat 15)) = some (.int .i64 (.ofNat (Nat.land (toU .i64 a0) 15))) := by
    generalize hq : Nat.land (toU .i64 a0) 15 = q at hlt
    have : binV [] .and (.int .i64 a0) (.int .i64 (.ofNat 15)) = some (.int .i64 (wr .i64 (.ofNat (Nat.land (toU .i64 a0) (toU .i64 (.ofNat 15)))))) := rfl
    rw [this, show toU .i64 (.ofNat 15) = 15 from rfl, hq]
    have key : ∀ r : Fin 16, wr .i64 (.ofNat r.val) = .ofNat r.val := by decide
    rw [key ⟨q, hlt⟩]
  have ht := tab_one (P := Try.prog) (op := .and) hb
  exact top mixed (valid _) noExt_rises noExt_ok _ (fun _ => ⟨_, _, rfl⟩) ht intsOk (f := 4) (by kernel_rfl) (sixteen ⟨_, hlt⟩) (.cons _ _ _ _ (.sym 0) .nil) w

/-! ### The row's step: the shell's -/
set_option maxRecDepth 100000 in
theorem lifted (os : Os) (started : os.Started) (H : Type) (enc : TypeId × Value → H) :
    ReturnsInHanded {} Try.checked os 4 .any (Rows.txnsOwnSpec.pre6 enc Try.prog Try.f4 Rows.txnsOwnRow.domain false) (Rows.txnsOwnSpec.post enc Try.prog Try.f4 false true false false) := by
  refine returnsInHanded_of_change (C := Try.checked) own started (by kernel_rfl) Try.func4
    (ChangeSpec.witness6 (enc := enc) (C := Try.checked) false ⟨#[], #[.int .i64 0], []⟩ 8 (by kernel_rfl) (by kernel_rfl) (by kernel_rfl) (by kernel_rfl)) ?_
  intro W base args ds gs before hval0 hW hcnd _
  have hval : ∀ (j : Nat) t v, Try.f4.params[j]? = some t → args[j]? = some v → Value.okWide Try.prog W .any base t v := hval0
  have hW' := hW
  obtain ⟨p, q, hA0, hV, rfl, hfz, hnd⟩ := hW
  have hA : DataW.TrodAll enc Try.prog W 0 (fun _ => true) true Try.f4.params.toList args.toList ds p := hA0
  rw [Try.params4] at hA hval
  obtain ⟨v0, vs0, d0, ds0, p0, q0, hargs, rfl, rfl, h0, r0⟩ := trodAll_cons hA
  obtain ⟨rfl, rfl, rfl⟩ := trodAll_nil r0
  obtain rfl : args = #[v0] := by cases args; simp_all
  obtain ⟨rfl, rfl⟩ := trodVars_none hV
  obtain ⟨a0, rfl, rfl, rfl, w0⟩ := open_int Try.underlying3 (hval 0 3 v0 rfl rfl) h0
  clear hA0 hval0
  simp only [List.append_nil] at hW'
  refine (walk a0 w0 W).mono fun e W' ⟨he, hg⟩ => ?_
  subst he
  exact ⟨_, rfl, post_plain hW' (fun _ _ _ => (trodAll_cons_mk (shut_bool Try.underlying4 _) trodAll_mk0)) (fun sp => (trodAll_cons_mk (shut_int Try.underlying3 w0) trodAll_mk0)) (fun _ => rfl)
    hg (ok_one (by kernel_rfl) rfl (okWide_bool_mk Try.underlying4 _))⟩

theorem over : Rows.txnsOwnRow.holds Try.pinned (OpenSpec.ofChange Rows.txnsOwnSpec) :=
  OpenClaim.holds_of_wide 4 Try.f4 rfl rfl rfl rfl rfl rfl rfl ⟨rfl, rfl, rfl, rfl, rfl⟩ rfl rfl rfl rfl rfl (by kernel_rfl) Try.func4 (by kernel_rfl)
    (of_decide_eq_true (by kernel_rfl)) (by unfold Func.isWrapper; first | (rw [if_pos (by decide +kernel)]; kernel_rfl) | (rw [if_neg (by decide +kernel)]; exact ⟨rfl, rfl⟩))
    (fun os started H enc _ => lifted os started H enc)

theorem proved : Rows.TxnsOwnSaid :=
  over
#print axioms proved
end Go.Proofs.Ytliaohleajdgiaa.txnsOwn
