/-
  'colonnade/colonnadelaw23.HistForms' returns true whatever its number: proved for every number, without a condition.
  The shell is the seat's (proof-skeleton.mjs); the walk is the small machine's run, once for each of the 15 rows that the number may pick.
-/
import Derived.Test.YtnbmmnjihipahaaM
import Derived.Test.YtnbmmnjihipahaaX
import Derived.Test.YtnbmmnjihipahaaHistFormsR0
import Derived.Test.YtnbmmnjihipahaaHistFormsR1
import Derived.Test.YtnbmmnjihipahaaHistFormsR2
import Derived.Test.YtnbmmnjihipahaaHistFormsR3
import Derived.WalkKit
import Derived.ProofKit
import Derived.OpenShut
namespace Go.Proofs.Ytnbmmnjihipahaa.histForms
open Go.ChangeShapes Go.WideShapes Go.ChangeAt Go.RowKit Go.Vm
set_option linter.unusedVariables false

theorem own : ownKnob Try.prog.godebug = none := by kernel_rfl

theorem mixed : Try.prog.follows .mixedOrders = true := by kernel_rfl

/-! ### The runs -/

theorem rows : ∀ r : Fin 15, runs (mach [(.and, .sym 0, .int .i64 (.ofNat 255), .sym 1), (.rem, .sym 1, .int .i64 (.ofNat 15), .int .i64 (.ofNat r.val))]) (extBy exts) 1000000 14 [.sym 0] Try.prog.globals.size = true
  | ⟨0, _⟩ => row0
  | ⟨1, _⟩ => row1
  | ⟨2, _⟩ => row2
  | ⟨3, _⟩ => row3
  | ⟨4, _⟩ => row4
  | ⟨5, _⟩ => row5
  | ⟨6, _⟩ => row6
  | ⟨7, _⟩ => row7
  | ⟨8, _⟩ => row8
  | ⟨9, _⟩ => row9
  | ⟨10, _⟩ => row10
  | ⟨11, _⟩ => row11
  | ⟨12, _⟩ => row12
  | ⟨13, _⟩ => row13
  | ⟨14, _⟩ => row14
  | ⟨k + 15, h⟩ => absurd h (Nat.not_lt.2 (Nat.le_add_left _ _))

theorem walk (a0 : Int) (w0 : (Lit.int .i64 a0).wf = true) (w : World) :
    Calls Try.prog 14 #[.int .i64 a0] w fun e w' => e = .returned (.bool true) ∧ w.keptBut w' (fun _ => False) :=
  forms mixed valid (fun _ => rfl) intsOk (extBy_rises _) (fun _ => extBy_ok extsOk) (by decide) (by decide) (by kernel_rfl) rows a0 w

/-! ### The row's step: the shell's -/
set_option maxRecDepth 100000 in
theorem lifted (os : Os) (started : os.Started) (H : Type) (enc : TypeId × Value → H) :
    ReturnsInHanded {} Try.checked os 14 .any (Rows.histFormsSpec.pre6 enc Try.prog Try.f14 Rows.histFormsRow.domain false) (Rows.histFormsSpec.post enc Try.prog Try.f14 false true false false) := by
  refine returnsInHanded_of_change (C := Try.checked) own started (by kernel_rfl) Try.func14
    (ChangeSpec.witness6 (enc := enc) (C := Try.checked) false ⟨#[], #[.int .i64 0], []⟩ 8 (by kernel_rfl) (by kernel_rfl) (by kernel_rfl) (by kernel_rfl)) ?_
  intro W base args ds gs before hval0 hW hcnd _
  have hval : ∀ (j : Nat) t v, Try.f14.params[j]? = some t → args[j]? = some v → Value.okWide Try.prog W .any base t v := hval0
  have hW' := hW
  obtain ⟨p, q, hA0, hV, rfl, hfz, hnd⟩ := hW
  have hA : DataW.TrodAll enc Try.prog W 0 (fun _ => true) true Try.f14.params.toList args.toList ds p := hA0
  rw [Try.params14] at hA hval
  obtain ⟨v0, vs0, d0, ds0, p0, q0, hargs, rfl, rfl, h0, r0⟩ := trodAll_cons hA
  obtain ⟨rfl, rfl, rfl⟩ := trodAll_nil r0
  obtain rfl : args = #[v0] := by cases args; simp_all
  obtain ⟨rfl, rfl⟩ := trodVars_none hV
  obtain ⟨a0, rfl, rfl, rfl, w0⟩ := open_int Try.underlying3 (hval 0 3 v0 rfl rfl) h0
  clear hA0 hval0
  simp only [List.append_nil] at hW'
  refine (walk a0 w0 W).mono fun e W' ⟨he, hg⟩ => ?_
  subst he
  exact ⟨_, rfl, post_plain hW' (fun _ _ _ => (trodAll_cons_mk (shut_bool Try.underlying4 _) trodAll_mk0)) (fun sp => (trodAll_cons_mk (shut_int Try.underlying3 w0) trodAll_mk0)) (fun _ => rfl)
    hg (ok_one (by kernel_rfl) rfl (okWide_bool_mk Try.underlying4 _))⟩

theorem over : Rows.histFormsRow.holds Try.pinned (OpenSpec.ofChange Rows.histFormsSpec) :=
  OpenClaim.holds_of_wide 14 Try.f14 rfl rfl rfl rfl rfl rfl rfl ⟨rfl, rfl, rfl, rfl, rfl⟩ rfl rfl rfl rfl rfl (by kernel_rfl) Try.func14 (by kernel_rfl)
    (of_decide_eq_true (by kernel_rfl)) (by unfold Func.isWrapper; first | (rw [if_pos (by decide +kernel)]; kernel_rfl) | (rw [if_neg (by decide +kernel)]; exact ⟨rfl, rfl⟩))
    (fun os started H enc _ => lifted os started H enc)

theorem proved : Rows.HistFormsSaid :=
  over
#print axioms proved
end Go.Proofs.Ytnbmmnjihipahaa.histForms
