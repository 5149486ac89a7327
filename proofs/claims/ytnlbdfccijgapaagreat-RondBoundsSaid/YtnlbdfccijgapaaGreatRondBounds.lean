/-
  'colonnade/colonnadelaw24.RondBounds' returns true whatever its arguments: proved for all, without a condition.
  The shell is the seat's (proof-skeleton.mjs); the walk is the small machine's run, once for each of the 15 cases that its arguments come to: of an unknown number only what it is held against is told.
-/
import Derived.Test.YtnlbdfccijgapaaGreatRondBoundsR0
import Derived.WalkKit
import Derived.ProofKit
import Derived.OpenShut
namespace Go.Proofs.YtnlbdfccijgapaaGreat.rondBounds
open Go.ChangeShapes Go.WideShapes Go.ChangeAt Go.RowKit Go.Vm
set_option linter.unusedVariables false

theorem own : ownKnob Tryz.prog.godebug = none := by kernel_rfl

/-- The unknowns. -/
def un (a0 : Int) (a1 : Int) : Nat → Value := fun i => match i with | 0 => .int .i64 a0 | 1 => .int .i64 a1 | 2 => .int .i64 (2 * a0) | 3 => .int .i64 (20 + 2 * a0) | _ => .int .i64 0

theorem told_lss {k : IntKind} {a b : Int} : binV [] .lss (.int k a) (.int k b) = some (.bool (decide (a < b))) := by
  have : keq k k = true := by cases k <;> rfl
  simp only [binV, this, cond_true, arith, ilt_d]
theorem told_geq {k : IntKind} {a b : Int} : binV [] .geq (.int k a) (.int k b) = some (.bool (!decide (a < b))) := by
  have : keq k k = true := by cases k <;> rfl
  simp only [binV, this, cond_true, arith, ilt_d]
theorem told_eql {k : IntKind} {a b : Int} : binV [] .eql (.int k a) (.int k b) = some (.bool (a == b)) := by
  have : keq k k = true := by cases k <;> rfl
  simp only [binV, this, cond_true, arith, ieq_d]
theorem told_neq {k : IntKind} {a b : Int} : binV [] .neq (.int k a) (.int k b) = some (.bool (!(a == b))) := by
  have : keq k k = true := by cases k <;> rfl
  simp only [binV, this, cond_true, arith, ieq_d]
theorem told_mul {k : IntKind} {a b : Int} : binV [] .mul (.int k a) (.int k b) = some (.int k (wr k (a * b))) := by
  have : keq k k = true := by cases k <;> rfl
  simp only [binV, this, cond_true, arith]; rfl
theorem told_add {k : IntKind} {a b : Int} : binV [] .add (.int k a) (.int k b) = some (.int k (wr k (a + b))) := by
  have : keq k k = true := by cases k <;> rfl
  simp only [binV, this, cond_true, arith]; rfl
theorem wr_in {n : Int} (h1 : -9223372036854775808 ≤ n) (h2 : n < 9223372036854775808) : wr .i64 n = n := by
  rw [wr_eq]
  exact wrap_id _ _ h1 h2

theorem told0_0 (a0 : Int) (a1 : Int) (h : a0 < 0) : ∀ e, e ∈ ([(.lss, .sym 0, .int .i64 (.ofNat 0), .bool true)] : Tab) → Go.Vm.Told (un a0 a1) e := by
  intro e he
  rcases List.mem_cons.1 he with rfl | he
  · exact ⟨_, _, _, _, _, rfl, rfl, fun _ => rfl, told_lss, .inr ⟨_, rfl, by first | (simp [Go.Vm.numOf]; omega) | simp [Go.Vm.numOf]⟩⟩
  cases he

theorem told0_1 (a0 : Int) (a1 : Int) (h : 0 ≤ a0 ∧ a0 ≤ 10000) : ∀ e, e ∈ ([(.lss, .sym 0, .int .i64 (.ofNat 0), .bool false), (.lss, .int .i64 (.ofNat 10000), .sym 0, .bool false), (.mul, .int .i64 (.ofNat 2), .sym 0, .sym 2), (.add, .int .i64 (.ofNat 20), .sym 2, .sym 3), (.eql, .sym 3, .sym 3, .bool true)] : Tab) → Go.Vm.Told (un a0 a1) e := by
  intro e he
  rcases List.mem_cons.1 he with rfl | he
  · exact ⟨_, _, _, _, _, rfl, rfl, fun _ => rfl, told_lss, .inr ⟨_, rfl, by first | (simp [Go.Vm.numOf]; omega) | simp [Go.Vm.numOf]⟩⟩
  rcases List.mem_cons.1 he with rfl | he
  · exact ⟨_, _, _, _, _, rfl, rfl, fun _ => rfl, told_lss, .inr ⟨_, rfl, by first | (simp [Go.Vm.numOf]; omega) | simp [Go.Vm.numOf]⟩⟩
  rcases List.mem_cons.1 he with rfl | he
  · exact ⟨_, _, _, _, _, rfl, rfl, fun e => (by cases e), told_mul, .inl ⟨_, _, rfl, by rw [wr_in] <;> first | rfl | (simp; omega) | omega⟩⟩
  rcases List.mem_cons.1 he with rfl | he
  · exact ⟨_, _, _, _, _, rfl, rfl, fun e => (by cases e), told_add, .inl ⟨_, _, rfl, by rw [wr_in] <;> first | rfl | (simp; omega) | omega⟩⟩
  rcases List.mem_cons.1 he with rfl | he
  · exact ⟨_, _, _, _, _, rfl, rfl, fun _ => rfl, told_eql, .inr ⟨_, rfl, by first | (simp [Go.Vm.numOf]; omega) | simp [Go.Vm.numOf]⟩⟩
  cases he

theorem told0_2 (a0 : Int) (a1 : Int) (h : 10000 < a0) : ∀ e, e ∈ ([(.lss, .sym 0, .int .i64 (.ofNat 0), .bool false), (.lss, .int .i64 (.ofNat 10000), .sym 0, .bool true)] : Tab) → Go.Vm.Told (un a0 a1) e := by
  intro e he
  rcases List.mem_cons.1 he with rfl | he
  · exact ⟨_, _, _, _, _, rfl, rfl, fun _ => rfl, told_lss, .inr ⟨_, rfl, by first | (simp [Go.Vm.numOf]; omega) | simp [Go.Vm.numOf]⟩⟩
  rcases List.mem_cons.1 he with rfl | he
  · exact ⟨_, _, _, _, _, rfl, rfl, fun _ => rfl, told_lss, .inr ⟨_, rfl, by first | (simp [Go.Vm.numOf]; omega) | simp [Go.Vm.numOf]⟩⟩
  cases he

theorem told1_0 (a0 : Int) (a1 : Int) (h : a1 < 0) : ∀ e, e ∈ ([(.lss, .sym 1, .int .i64 (.ofNat 0), .bool true)] : Tab) → Go.Vm.Told (un a0 a1) e := by
  intro e he
  rcases List.mem_cons.1 he with rfl | he
  · exact ⟨_, _, _, _, _, rfl, rfl, fun _ => rfl, told_lss, .inr ⟨_, rfl, by first | (simp [Go.Vm.numOf]; omega) | simp [Go.Vm.numOf]⟩⟩
  cases he

theorem told1_1 (a0 : Int) (a1 : Int) (h : a1 = 0) : ∀ e, e ∈ ([(.lss, .sym 1, .int .i64 (.ofNat 0), .bool false), (.lss, .int .i64 (.ofNat 100000), .sym 1, .bool false), (.lss, .int .i64 (.ofNat 10000), .sym 1, .bool false), (.lss, .int .i64 (.ofNat 0), .sym 1, .bool false)] : Tab) → Go.Vm.Told (un a0 a1) e := by
  intro e he
  rcases List.mem_cons.1 he with rfl | he
  · exact ⟨_, _, _, _, _, rfl, rfl, fun _ => rfl, told_lss, .inr ⟨_, rfl, by first | (simp [Go.Vm.numOf]; omega) | simp [Go.Vm.numOf]⟩⟩
  rcases List.mem_cons.1 he with rfl | he
  · exact ⟨_, _, _, _, _, rfl, rfl, fun _ => rfl, told_lss, .inr ⟨_, rfl, by first | (simp [Go.Vm.numOf]; omega) | simp [Go.Vm.numOf]⟩⟩
  rcases List.mem_cons.1 he with rfl | he
  · exact ⟨_, _, _, _, _, rfl, rfl, fun _ => rfl, told_lss, .inr ⟨_, rfl, by first | (simp [Go.Vm.numOf]; omega) | simp [Go.Vm.numOf]⟩⟩
  rcases List.mem_cons.1 he with rfl | he
  · exact ⟨_, _, _, _, _, rfl, rfl, fun _ => rfl, told_lss, .inr ⟨_, rfl, by first | (simp [Go.Vm.numOf]; omega) | simp [Go.Vm.numOf]⟩⟩
  cases he

theorem told1_2 (a0 : Int) (a1 : Int) (h : 1 ≤ a1 ∧ a1 ≤ 10000) : ∀ e, e ∈ ([(.lss, .sym 1, .int .i64 (.ofNat 0), .bool false), (.lss, .int .i64 (.ofNat 100000), .sym 1, .bool false), (.lss, .int .i64 (.ofNat 10000), .sym 1, .bool false), (.lss, .int .i64 (.ofNat 0), .sym 1, .bool true)] : Tab) → Go.Vm.Told (un a0 a1) e := by
  intro e he
  rcases List.mem_cons.1 he with rfl | he
  · exact ⟨_, _, _, _, _, rfl, rfl, fun _ => rfl, told_lss, .inr ⟨_, rfl, by first | (simp [Go.Vm.numOf]; omega) | simp [Go.Vm.numOf]⟩⟩
  rcases List.mem_cons.1 he with rfl | he
  · exact ⟨_, _, _, _, _, rfl, rfl, fun _ => rfl, told_lss, .inr ⟨_, rfl, by first | (simp [Go.Vm.numOf]; omega) | simp [Go.Vm.numOf]⟩⟩
  rcases List.mem_cons.1 he with rfl | he
  · exact ⟨_, _, _, _, _, rfl, rfl, fun _ => rfl, told_lss, .inr ⟨_, rfl, by first | (simp [Go.Vm.numOf]; omega) | simp [Go.Vm.numOf]⟩⟩
  rcases List.mem_cons.1 he with rfl | he
  · exact ⟨_, _, _, _, _, rfl, rfl, fun _ => rfl, told_lss, .inr ⟨_, rfl, by first | (simp [Go.Vm.numOf]; omega) | simp [Go.Vm.numOf]⟩⟩
  cases he

theorem told1_3 (a0 : Int) (a1 : Int) (h : 10000 < a1 ∧ a1 ≤ 100000) : ∀ e, e ∈ ([(.lss, .sym 1, .int .i64 (.ofNat 0), .bool false), (.lss, .int .i64 (.ofNat 100000), .sym 1, .bool false), (.lss, .int .i64 (.ofNat 10000), .sym 1, .bool true), (.lss, .int .i64 (.ofNat 0), .sym 1, .bool true)] : Tab) → Go.Vm.Told (un a0 a1) e := by
  intro e he
  rcases List.mem_cons.1 he with rfl | he
  · exact ⟨_, _, _, _, _, rfl, rfl, fun _ => rfl, told_lss, .inr ⟨_, rfl, by first | (simp [Go.Vm.numOf]; omega) | simp [Go.Vm.numOf]⟩⟩
  rcases List.mem_cons.1 he with rfl | he
  · exact ⟨_, _, _, _, _, rfl, rfl, fun _ => rfl, told_lss, .inr ⟨_, rfl, by first | (simp [Go.Vm.numOf]; omega) | simp [Go.Vm.numOf]⟩⟩
  rcases List.mem_cons.1 he with rfl | he
  · exact ⟨_, _, _, _, _, rfl, rfl, fun _ => rfl, told_lss, .inr ⟨_, rfl, by first | (simp [Go.Vm.numOf]; omega) | simp [Go.Vm.numOf]⟩⟩
  rcases List.mem_cons.1 he with rfl | he
  · exact ⟨_, _, _, _, _, rfl, rfl, fun _ => rfl, told_lss, .inr ⟨_, rfl, by first | (simp [Go.Vm.numOf]; omega) | simp [Go.Vm.numOf]⟩⟩
  cases he

theorem told1_4 (a0 : Int) (a1 : Int) (h : 100000 < a1) : ∀ e, e ∈ ([(.lss, .sym 1, .int .i64 (.ofNat 0), .bool false), (.lss, .int .i64 (.ofNat 100000), .sym 1, .bool true), (.lss, .int .i64 (.ofNat 10000), .sym 1, .bool true), (.lss, .int .i64 (.ofNat 0), .sym 1, .bool true)] : Tab) → Go.Vm.Told (un a0 a1) e := by
  intro e he
  rcases List.mem_cons.1 he with rfl | he
  · exact ⟨_, _, _, _, _, rfl, rfl, fun _ => rfl, told_lss, .inr ⟨_, rfl, by first | (simp [Go.Vm.numOf]; omega) | simp [Go.Vm.numOf]⟩⟩
  rcases List.mem_cons.1 he with rfl | he
  · exact ⟨_, _, _, _, _, rfl, rfl, fun _ => rfl, told_lss, .inr ⟨_, rfl, by first | (simp [Go.Vm.numOf]; omega) | simp [Go.Vm.numOf]⟩⟩
  rcases List.mem_cons.1 he with rfl | he
  · exact ⟨_, _, _, _, _, rfl, rfl, fun _ => rfl, told_lss, .inr ⟨_, rfl, by first | (simp [Go.Vm.numOf]; omega) | simp [Go.Vm.numOf]⟩⟩
  rcases List.mem_cons.1 he with rfl | he
  · exact ⟨_, _, _, _, _, rfl, rfl, fun _ => rfl, told_lss, .inr ⟨_, rfl, by first | (simp [Go.Vm.numOf]; omega) | simp [Go.Vm.numOf]⟩⟩
  cases he

theorem app_told {σ : Nat → Value} {a b : Tab} (ha : ∀ e, e ∈ a → Go.Vm.Told σ e) (hb : ∀ e, e ∈ b → Go.Vm.Told σ e) : ∀ e, e ∈ a ++ b → Go.Vm.Told σ e := fun e he => (List.mem_append.1 he).elim (ha e) (hb e)

theorem walk (a0 : Int) (a1 : Int) (w0 : (Lit.int .i64 a0).wf = true) (w1 : (Lit.int .i64 a1).wf = true) (w : World) :
    Calls Tryz.prog 11 #[.int .i64 a0, .int .i64 a1] w fun e w' => e = .returned (.bool true) ∧ w.keptBut w' (fun _ => False) := by
  have go : ∀ (tab : Tab) (args : List V), (∀ e, e ∈ tab → Go.Vm.Told (un a0 a1) e) → runs (mach tab) ext1 1000000 11 args Tryz.prog.globals.size = true → VRs (emb0 Tryz.prog (un a0 a1)) args [.int .i64 a0, .int .i64 a1] →
      Calls Tryz.prog 11 #[.int .i64 a0, .int .i64 a1] w fun e w' => e = .returned (.bool true) ∧ w.keptBut w' (fun _ => False) := fun tab args h1 h2 h3 =>
    top mixed (valid _) ext1_rises ext1_ok (un a0 a1) (fun i => by unfold un; split <;> exact ⟨_, _, rfl⟩) (tab_of h1) intsOk (f := 11) (by kernel_rfl) h2 h3 w
  have no : ∀ e, e ∈ ([] : Tab) → Go.Vm.Told (un a0 a1) e := fun e he => by cases he
  obtain c0 | c0 | c0 : (a0 < 0) ∨ (0 ≤ a0 ∧ a0 ≤ 10000) ∨ (10000 < a0) := by omega
  · obtain c1 | c1 | c1 | c1 | c1 : (a1 < 0) ∨ (a1 = 0) ∨ (1 ≤ a1 ∧ a1 ≤ 10000) ∨ (10000 < a1 ∧ a1 ≤ 100000) ∨ (100000 < a1) := by omega
    · exact go _ _ (app_told (told0_0 a0 a1 c0) (told1_0 a0 a1 c1)) row0_0 (.cons _ _ _ _ (.sym 0) (.cons _ _ _ _ (.sym 1) .nil))
    · exact go _ _ (app_told (told0_0 a0 a1 c0) (told1_1 a0 a1 c1)) row0_1 (.cons _ _ _ _ (.sym 0) (.cons _ _ _ _ (.sym 1) .nil))
    · exact go _ _ (app_told (told0_0 a0 a1 c0) (told1_2 a0 a1 c1)) row0_2 (.cons _ _ _ _ (.sym 0) (.cons _ _ _ _ (.sym 1) .nil))
    · exact go _ _ (app_told (told0_0 a0 a1 c0) (told1_3 a0 a1 c1)) row0_3 (.cons _ _ _ _ (.sym 0) (.cons _ _ _ _ (.sym 1) .nil))
    · exact go _ _ (app_told (told0_0 a0 a1 c0) (told1_4 a0 a1 c1)) row0_4 (.cons _ _ _ _ (.sym 0) (.cons _ _ _ _ (.sym 1) .nil))
  · obtain c1 | c1 | c1 | c1 | c1 : (a1 < 0) ∨ (a1 = 0) ∨ (1 ≤ a1 ∧ a1 ≤ 10000) ∨ (10000 < a1 ∧ a1 ≤ 100000) ∨ (100000 < a1) := by omega
    · exact go _ _ (app_told (told0_1 a0 a1 c0) (told1_0 a0 a1 c1)) row1_0 (.cons _ _ _ _ (.sym 0) (.cons _ _ _ _ (.sym 1) .nil))
    · exact go _ _ (app_told (told0_1 a0 a1 c0) (told1_1 a0 a1 c1)) row1_1 (.cons _ _ _ _ (.sym 0) (.cons _ _ _ _ (.sym 1) .nil))
    · exact go _ _ (app_told (told0_1 a0 a1 c0) (told1_2 a0 a1 c1)) row1_2 (.cons _ _ _ _ (.sym 0) (.cons _ _ _ _ (.sym 1) .nil))
    · exact go _ _ (app_told (told0_1 a0 a1 c0) (told1_3 a0 a1 c1)) row1_3 (.cons _ _ _ _ (.sym 0) (.cons _ _ _ _ (.sym 1) .nil))
    · exact go _ _ (app_told (told0_1 a0 a1 c0) (told1_4 a0 a1 c1)) row1_4 (.cons _ _ _ _ (.sym 0) (.cons _ _ _ _ (.sym 1) .nil))
  · obtain c1 | c1 | c1 | c1 | c1 : (a1 < 0) ∨ (a1 = 0) ∨ (1 ≤ a1 ∧ a1 ≤ 10000) ∨ (10000 < a1 ∧ a1 ≤ 100000) ∨ (100000 < a1) := by omega
    · exact go _ _ (app_told (told0_2 a0 a1 c0) (told1_0 a0 a1 c1)) row2_0 (.cons _ _ _ _ (.sym 0) (.cons _ _ _ _ (.sym 1) .nil))
    · exact go _ _ (app_told (told0_2 a0 a1 c0) (told1_1 a0 a1 c1)) row2_1 (.cons _ _ _ _ (.sym 0) (.cons _ _ _ _ (.sym 1) .nil))
    · exact go _ _ (app_told (told0_2 a0 a1 c0) (told1_2 a0 a1 c1)) row2_2 (.cons _ _ _ _ (.sym 0) (.cons _ _ _ _ (.sym 1) .nil))
    · exact go _ _ (app_told (told0_2 a0 a1 c0) (told1_3 a0 a1 c1)) row2_3 (.cons _ _ _ _ (.sym 0) (.cons _ _ _ _ (.sym 1) .nil))
    · exact go _ _ (app_told (told0_2 a0 a1 c0) (told1_4 a0 a1 c1)) row2_4 (.cons _ _ _ _ (.sym 0) (.cons _ _ _ _ (.sym 1) .nil))

/-! ### The row's step: the shell's -/
set_option maxRecDepth 100000 in
theorem lifted (os : Os) (started : os.Started) (H : Type) (enc : TypeId × Value → H) :
    ReturnsInHanded {} Tryz.checked os 11 .any (Rows.rondBoundsSpec.pre6 enc Tryz.prog Tryz.f11 Rows.rondBoundsRow.domain false) (Rows.rondBoundsSpec.post enc Tryz.prog Tryz.f11 false true false false) := by
  refine returnsInHanded_of_change (C := Tryz.checked) own started (by kernel_rfl) Tryz.func11
    (ChangeSpec.witness6 (enc := enc) (C := Tryz.checked) false ⟨#[], #[.int .i64 0, .int .i64 0], []⟩ 8 (by kernel_rfl) (by kernel_rfl) (by kernel_rfl) (by kernel_rfl)) ?_
  intro W base args ds gs before hval0 hW hcnd _
  have hval : ∀ (j : Nat) t v, Tryz.f11.params[j]? = some t → args[j]? = some v → Value.okWide Tryz.prog W .any base t v := hval0
  have hW' := hW
  obtain ⟨p, q, hA0, hV, rfl, hfz, hnd⟩ := hW
  have hA : DataW.TrodAll enc Tryz.prog W 0 (fun _ => true) true Tryz.f11.params.toList args.toList ds p := hA0
  rw [Tryz.params11] at hA hval
  obtain ⟨v0, vs0, d0, ds0, p0, q0, hargs, rfl, rfl, h0, r0⟩ := trodAll_cons hA
  obtain ⟨v1, vs1, d1, ds1, p1, q1, rfl, rfl, rfl, h1, r1⟩ := trodAll_cons r0
  obtain ⟨rfl, rfl, rfl⟩ := trodAll_nil r1
  obtain rfl : args = #[v0, v1] := by cases args; simp_all
  obtain ⟨rfl, rfl⟩ := trodVars_none hV
  obtain ⟨a0, rfl, rfl, rfl, w0⟩ := open_int Tryz.underlying3 (hval 0 3 v0 rfl rfl) h0
  obtain ⟨a1, rfl, rfl, rfl, w1⟩ := open_int Tryz.underlying3 (hval 1 3 v1 rfl rfl) h1
  clear hA0 hval0
  simp only [List.append_nil] at hW'
  refine (walk a0 a1 w0 w1 W).mono fun e W' ⟨he, hg⟩ => ?_
  subst he
  exact ⟨_, rfl, post_plain hW' (fun _ _ _ => (trodAll_cons_mk (shut_bool Tryz.underlying4 _) trodAll_mk0)) (fun sp => (trodAll_cons_mk (shut_int Tryz.underlying3 w0) (trodAll_cons_mk (shut_int Tryz.underlying3 w1) trodAll_mk0))) (fun _ => rfl)
    hg (ok_one (by kernel_rfl) rfl (okWide_bool_mk Tryz.underlying4 _))⟩

set_option maxRecDepth 100000 in
set_option maxHeartbeats 8000000 in
theorem closed : joinedFacts Tryz.prog 11 Tryz.f11 Rows.rondBoundsSpec Rows.rondBoundsRow = true := by
  unfold joinedFacts
  simp only [Bool.and_eq_true]
  repeat' (with_reducible apply And.intro)
  all_goals (as_aux_lemma => kernel_rfl)

theorem over : Rows.rondBoundsRow.holds Tryz.pinned (OpenSpec.ofChange Rows.rondBoundsSpec) :=
  OpenClaim.holds_of_wide 11 Tryz.f11 rfl rfl rfl rfl rfl rfl rfl ⟨rfl, rfl, rfl, rfl, rfl⟩ rfl rfl rfl rfl rfl (by kernel_rfl) Tryz.func11 closed
    (of_decide_eq_true (by kernel_rfl)) (by unfold Func.isWrapper; first | (rw [if_pos (by decide +kernel)]; kernel_rfl) | (rw [if_neg (by decide +kernel)]; exact ⟨rfl, rfl⟩))
    (fun os started H enc _ => lifted os started H enc)

theorem proved : Rows.RondBoundsSaid :=
  over
#print axioms proved
end Go.Proofs.YtnlbdfccijgapaaGreat.rondBounds
