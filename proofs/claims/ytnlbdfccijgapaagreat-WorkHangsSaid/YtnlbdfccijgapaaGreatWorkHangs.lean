/-
  'colonnade/colonnadelaw20.WorkHangs' returns true whatever its arguments: proved for all, without a condition.
  The shell is the seat's (proof-skeleton.mjs); the walk is the small machine's run, once for each of the 16 cases that its arguments come to.
-/
import Derived.Test.YtnlbdfccijgapaaGreatWorkHangsR0
import Derived.Test.YtnlbdfccijgapaaGreatWorkHangsR1
import Derived.Test.YtnlbdfccijgapaaGreatWorkHangsR2
import Derived.Test.YtnlbdfccijgapaaGreatWorkHangsR3
import Derived.WalkKit
import Derived.ProofKit
import Derived.OpenShut
namespace Go.Proofs.YtnlbdfccijgapaaGreat.workHangs
open Go.ChangeShapes Go.WideShapes Go.ChangeAt Go.RowKit Go.Vm
set_option linter.unusedVariables false

theorem own : ownKnob Tryz.prog.godebug = none := by kernel_rfl

theorem rows (v0 : Bool) (v1 : Nat) (h1 : v1 < 8) : runs (mach [(.and, .sym 0, .int .i64 (.ofNat 7), .int .i64 (.ofNat v1))]) ext1 1000000 8 [.bool v0, .sym 0] Tryz.prog.globals.size = true := by
  cases v0 with
  | false =>
    obtain rfl | rfl | rfl | rfl | rfl | rfl | rfl | rfl : v1 = 0 ∨ v1 = 1 ∨ v1 = 2 ∨ v1 = 3 ∨ v1 = 4 ∨ v1 = 5 ∨ v1 = 6 ∨ v1 = 7 := by omega
    · exact row0_0
    · exact row0_1
    · exact row0_2
    · exact row0_3
    · exact row0_4
    · exact row0_5
    · exact row0_6
    · exact row0_7
  | true =>
    obtain rfl | rfl | rfl | rfl | rfl | rfl | rfl | rfl : v1 = 0 ∨ v1 = 1 ∨ v1 = 2 ∨ v1 = 3 ∨ v1 = 4 ∨ v1 = 5 ∨ v1 = 6 ∨ v1 = 7 := by omega
    · exact row1_0
    · exact row1_1
    · exact row1_2
    · exact row1_3
    · exact row1_4
    · exact row1_5
    · exact row1_6
    · exact row1_7

theorem walk (a0 : Bool) (a1 : Int) (w1 : (Lit.int .i64 a1).wf = true) (w : World) :
    Calls Tryz.prog 8 #[.bool a0, .int .i64 a1] w fun e w' => e = .returned (.bool true) ∧ w.keptBut w' (fun _ => False) := by
  have b1 := and_small (a0 := a1) (m := 7) (by decide)
  have q1 : Nat.land (toU .i64 a1) 7 < 8 := Nat.lt_of_le_of_lt Nat.and_le_right (by decide)
  have ht : TabOk Tryz.prog (fun i => match i with | 0 => .int .i64 a1 | _ => .int .i64 0) [(.and, .sym 0, .int .i64 (.ofNat 7), .int .i64 (.ofNat (Nat.land (toU .i64 a1) 7)))] := tab_of fun e hmem => by
    rcases List.mem_cons.1 hmem with rfl | hmem
    · exact ⟨_, _, _, _, _, _, rfl, rfl, b1, rfl⟩
    cases hmem
  exact top mixed (valid _) ext1_rises ext1_ok (fun i => match i with | 0 => .int .i64 a1 | _ => .int .i64 0) (fun i => by split <;> exact ⟨_, _, rfl⟩) ht intsOk (f := 8) (by kernel_rfl) (rows a0 _ q1) (.cons _ _ _ _ (.bool _) (.cons _ _ _ _ (.sym 0) .nil)) w


/-! ### The row's step: the shell's -/
set_option maxRecDepth 100000 in
theorem lifted (os : Os) (started : os.Started) (H : Type) (enc : TypeId × Value → H) :
    ReturnsInHanded {} Tryz.checked os 8 .any (Rows.workHangsSpec.pre6 enc Tryz.prog Tryz.f8 Rows.workHangsRow.domain false) (Rows.workHangsSpec.post enc Tryz.prog Tryz.f8 false true false false) := by
  refine returnsInHanded_of_change (C := Tryz.checked) own started (by kernel_rfl) Tryz.func8
    (ChangeSpec.witness6 (enc := enc) (C := Tryz.checked) false ⟨#[], #[.bool false, .int .i64 0], []⟩ 8 (by kernel_rfl) (by kernel_rfl) (by kernel_rfl) (by kernel_rfl)) ?_
  intro W base args ds gs before hval0 hW hcnd _
  have hval : ∀ (j : Nat) t v, Tryz.f8.params[j]? = some t → args[j]? = some v → Value.okWide Tryz.prog W .any base t v := hval0
  have hW' := hW
  obtain ⟨p, q, hA0, hV, rfl, hfz, hnd⟩ := hW
  have hA : DataW.TrodAll enc Tryz.prog W 0 (fun _ => true) true Tryz.f8.params.toList args.toList ds p := hA0
  rw [Tryz.params8] at hA hval
  obtain ⟨v0, vs0, d0, ds0, p0, q0, hargs, rfl, rfl, h0, r0⟩ := trodAll_cons hA
  obtain ⟨v1, vs1, d1, ds1, p1, q1, rfl, rfl, rfl, h1, r1⟩ := trodAll_cons r0
  obtain ⟨rfl, rfl, rfl⟩ := trodAll_nil r1
  obtain rfl : args = #[v0, v1] := by cases args; simp_all
  obtain ⟨rfl, rfl⟩ := trodVars_none hV
  obtain ⟨a0, rfl, rfl, rfl⟩ := open_bool Tryz.underlying4 (hval 0 4 v0 rfl rfl) h0
  obtain ⟨a1, rfl, rfl, rfl, w1⟩ := open_int Tryz.underlying3 (hval 1 3 v1 rfl rfl) h1
  clear hA0 hval0
  simp only [List.append_nil] at hW'
  refine (walk a0 a1 w1 W).mono fun e W' ⟨he, hg⟩ => ?_
  subst he
  exact ⟨_, rfl, post_plain hW' (fun _ _ _ => (trodAll_cons_mk (shut_bool Tryz.underlying4 _) trodAll_mk0)) (fun sp => (trodAll_cons_mk (shut_bool Tryz.underlying4 _) (trodAll_cons_mk (shut_int Tryz.underlying3 w1) trodAll_mk0))) (fun _ => rfl)
    hg (ok_one (by kernel_rfl) rfl (okWide_bool_mk Tryz.underlying4 _))⟩

set_option maxRecDepth 100000 in
set_option maxHeartbeats 8000000 in
theorem closed : joinedFacts Tryz.prog 8 Tryz.f8 Rows.workHangsSpec Rows.workHangsRow = true := by
  unfold joinedFacts
  simp only [Bool.and_eq_true]
  repeat' (with_reducible apply And.intro)
  all_goals (as_aux_lemma => kernel_rfl)

theorem over : Rows.workHangsRow.holds Tryz.pinned (OpenSpec.ofChange Rows.workHangsSpec) :=
  OpenClaim.holds_of_wide 8 Tryz.f8 rfl rfl rfl rfl rfl rfl rfl ⟨rfl, rfl, rfl, rfl, rfl⟩ rfl rfl rfl rfl rfl (by kernel_rfl) Tryz.func8 closed
    (of_decide_eq_true (by kernel_rfl)) (by unfold Func.isWrapper; first | (rw [if_pos (by decide +kernel)]; kernel_rfl) | (rw [if_neg (by decide +kernel)]; exact ⟨rfl, rfl⟩))
    (fun os started H enc _ => lifted os started H enc)

theorem proved : Rows.WorkHangsSaid :=
  over
#print axioms proved
end Go.Proofs.YtnlbdfccijgapaaGreat.workHangs
