/-
  'colonnade/colonnadelaw22.EngnLimits' returns true whatever its arguments: proved for all, without a condition.
  The shell is the seat's (proof-skeleton.mjs); the walk is the small machine's run, once for each of the 360 cases that its arguments come to: of an unknown number only what it is held against is told.
-/
import Derived.Test.YtnlbdfccijgapaaGreatEngnLimitsR0
import Derived.Test.YtnlbdfccijgapaaGreatEngnLimitsR1
import Derived.Test.YtnlbdfccijgapaaGreatEngnLimitsR2
import Derived.Test.YtnlbdfccijgapaaGreatEngnLimitsR3
import Derived.Test.YtnlbdfccijgapaaGreatEngnLimitsR4
import Derived.Test.YtnlbdfccijgapaaGreatEngnLimitsR5
import Derived.Test.YtnlbdfccijgapaaGreatEngnLimitsR6
import Derived.Test.YtnlbdfccijgapaaGreatEngnLimitsR7
import Derived.Test.YtnlbdfccijgapaaGreatEngnLimitsR8
import Derived.WalkKit
import Derived.ProofKit
import Derived.OpenShut
namespace Go.Proofs.YtnlbdfccijgapaaGreat.engnLimits
open Go.ChangeShapes Go.WideShapes Go.ChangeAt Go.RowKit Go.Vm
set_option linter.unusedVariables false

theorem own : ownKnob Tryz.prog.godebug = none := by kernel_rfl

/-- The unknowns. -/
def un (a0 : Int) (a1 : Int) (a2 : Int) (a3 : Int) : Nat → Value := fun i => match i with | 0 => .int .i64 a0 | 1 => .int .i64 a1 | 2 => .int .i64 a2 | 3 => .int .i64 a3 | _ => .int .i64 0

theorem told_lss {k : IntKind} {a b : Int} : binV [] .lss (.int k a) (.int k b) = some (.bool (decide (a < b))) := by
  have : keq k k = true := by cases k <;> rfl
  simp only [binV, this, cond_true, arith, ilt_d]
theorem told_geq {k : IntKind} {a b : Int} : binV [] .geq (.int k a) (.int k b) = some (.bool (!decide (a < b))) := by
  have : keq k k = true := by cases k <;> rfl
  simp only [binV, this, cond_true, arith, ilt_d]
theorem told_eql {k : IntKind} {a b : Int} : binV [] .eql (.int k a) (.int k b) = some (.bool (a == b)) := by
  have : keq k k = true := by cases k <;> rfl
  simp only [binV, this, cond_true, arith, ieq_d]
theorem told_neq {k : IntKind} {a b : Int} : binV [] .neq (.int k a) (.int k b) = some (.bool (!(a == b))) := by
  have : keq k k = true := by cases k <;> rfl
  simp only [binV, this, cond_true, arith, ieq_d]
theorem told_mul {k : IntKind} {a b : Int} : binV [] .mul (.int k a) (.int k b) = some (.int k (wr k (a * b))) := by
  have : keq k k = true := by cases k <;> rfl
  simp only [binV, this, cond_true, arith]; rfl
theorem told_add {k : IntKind} {a b : Int} : binV [] .add (.int k a) (.int k b) = some (.int k (wr k (a + b))) := by
  have : keq k k = true := by cases k <;> rfl
  simp only [binV, this, cond_true, arith]; rfl
theorem wr_in {n : Int} (h1 : -9223372036854775808 ≤ n) (h2 : n < 9223372036854775808) : wr .i64 n = n := by
  rw [wr_eq]
  exact wrap_id _ _ h1 h2

theorem told0_0 (a0 : Int) (a1 : Int) (a2 : Int) (a3 : Int) (h : a0 < 1) : ∀ e, e ∈ ([(.neq, .sym 0, .sym 0, .bool false), (.lss, .sym 0, .int .i64 (.ofNat 1), .bool true)] : Tab) → Go.Vm.Told (un a0 a1 a2 a3) e := by
  intro e he
  rcases List.mem_cons.1 he with rfl | he
  · exact ⟨_, _, _, _, _, rfl, rfl, fun _ => rfl, told_neq, .inr ⟨_, rfl, by first | (simp [Go.Vm.numOf]; omega) | simp [Go.Vm.numOf]⟩⟩
  rcases List.mem_cons.1 he with rfl | he
  · exact ⟨_, _, _, _, _, rfl, rfl, fun _ => rfl, told_lss, .inr ⟨_, rfl, by first | (simp [Go.Vm.numOf]; omega) | simp [Go.Vm.numOf]⟩⟩
  cases he

theorem told0_1 (a0 : Int) (a1 : Int) (a2 : Int) (a3 : Int) (h : 1 ≤ a0 ∧ a0 ≤ 1000) : ∀ e, e ∈ ([(.neq, .sym 0, .sym 0, .bool false), (.lss, .sym 0, .int .i64 (.ofNat 1), .bool false), (.lss, .int .i64 (.ofNat 1000), .sym 0, .bool false)] : Tab) → Go.Vm.Told (un a0 a1 a2 a3) e := by
  intro e he
  rcases List.mem_cons.1 he with rfl | he
  · exact ⟨_, _, _, _, _, rfl, rfl, fun _ => rfl, told_neq, .inr ⟨_, rfl, by first | (simp [Go.Vm.numOf]; omega) | simp [Go.Vm.numOf]⟩⟩
  rcases List.mem_cons.1 he with rfl | he
  · exact ⟨_, _, _, _, _, rfl, rfl, fun _ => rfl, told_lss, .inr ⟨_, rfl, by first | (simp [Go.Vm.numOf]; omega) | simp [Go.Vm.numOf]⟩⟩
  rcases List.mem_cons.1 he with rfl | he
  · exact ⟨_, _, _, _, _, rfl, rfl, fun _ => rfl, told_lss, .inr ⟨_, rfl, by first | (simp [Go.Vm.numOf]; omega) | simp [Go.Vm.numOf]⟩⟩
  cases he

theorem told0_2 (a0 : Int) (a1 : Int) (a2 : Int) (a3 : Int) (h : 1000 < a0) : ∀ e, e ∈ ([(.neq, .sym 0, .sym 0, .bool false), (.lss, .sym 0, .int .i64 (.ofNat 1), .bool false), (.lss, .int .i64 (.ofNat 1000), .sym 0, .bool true)] : Tab) → Go.Vm.Told (un a0 a1 a2 a3) e := by
  intro e he
  rcases List.mem_cons.1 he with rfl | he
  · exact ⟨_, _, _, _, _, rfl, rfl, fun _ => rfl, told_neq, .inr ⟨_, rfl, by first | (simp [Go.Vm.numOf]; omega) | simp [Go.Vm.numOf]⟩⟩
  rcases List.mem_cons.1 he with rfl | he
  · exact ⟨_, _, _, _, _, rfl, rfl, fun _ => rfl, told_lss, .inr ⟨_, rfl, by first | (simp [Go.Vm.numOf]; omega) | simp [Go.Vm.numOf]⟩⟩
  rcases List.mem_cons.1 he with rfl | he
  · exact ⟨_, _, _, _, _, rfl, rfl, fun _ => rfl, told_lss, .inr ⟨_, rfl, by first | (simp [Go.Vm.numOf]; omega) | simp [Go.Vm.numOf]⟩⟩
  cases he

theorem told1_0 (a0 : Int) (a1 : Int) (a2 : Int) (a3 : Int) (h : a1 < 0) : ∀ e, e ∈ ([(.neq, .sym 1, .sym 1, .bool false), (.lss, .sym 1, .int .i64 (.ofNat 0), .bool true)] : Tab) → Go.Vm.Told (un a0 a1 a2 a3) e := by
  intro e he
  rcases List.mem_cons.1 he with rfl | he
  · exact ⟨_, _, _, _, _, rfl, rfl, fun _ => rfl, told_neq, .inr ⟨_, rfl, by first | (simp [Go.Vm.numOf]; omega) | simp [Go.Vm.numOf]⟩⟩
  rcases List.mem_cons.1 he with rfl | he
  · exact ⟨_, _, _, _, _, rfl, rfl, fun _ => rfl, told_lss, .inr ⟨_, rfl, by first | (simp [Go.Vm.numOf]; omega) | simp [Go.Vm.numOf]⟩⟩
  cases he

theorem told1_1 (a0 : Int) (a1 : Int) (a2 : Int) (a3 : Int) (h : 0 ≤ a1 ∧ a1 ≤ 100) : ∀ e, e ∈ ([(.neq, .sym 1, .sym 1, .bool false), (.lss, .sym 1, .int .i64 (.ofNat 0), .bool false), (.lss, .int .i64 (.ofNat 100), .sym 1, .bool false)] : Tab) → Go.Vm.Told (un a0 a1 a2 a3) e := by
  intro e he
  rcases List.mem_cons.1 he with rfl | he
  · exact ⟨_, _, _, _, _, rfl, rfl, fun _ => rfl, told_neq, .inr ⟨_, rfl, by first | (simp [Go.Vm.numOf]; omega) | simp [Go.Vm.numOf]⟩⟩
  rcases List.mem_cons.1 he with rfl | he
  · exact ⟨_, _, _, _, _, rfl, rfl, fun _ => rfl, told_lss, .inr ⟨_, rfl, by first | (simp [Go.Vm.numOf]; omega) | simp [Go.Vm.numOf]⟩⟩
  rcases List.mem_cons.1 he with rfl | he
  · exact ⟨_, _, _, _, _, rfl, rfl, fun _ => rfl, told_lss, .inr ⟨_, rfl, by first | (simp [Go.Vm.numOf]; omega) | simp [Go.Vm.numOf]⟩⟩
  cases he

theorem told1_2 (a0 : Int) (a1 : Int) (a2 : Int) (a3 : Int) (h : 100 < a1) : ∀ e, e ∈ ([(.neq, .sym 1, .sym 1, .bool false), (.lss, .sym 1, .int .i64 (.ofNat 0), .bool false), (.lss, .int .i64 (.ofNat 100), .sym 1, .bool true)] : Tab) → Go.Vm.Told (un a0 a1 a2 a3) e := by
  intro e he
  rcases List.mem_cons.1 he with rfl | he
  · exact ⟨_, _, _, _, _, rfl, rfl, fun _ => rfl, told_neq, .inr ⟨_, rfl, by first | (simp [Go.Vm.numOf]; omega) | simp [Go.Vm.numOf]⟩⟩
  rcases List.mem_cons.1 he with rfl | he
  · exact ⟨_, _, _, _, _, rfl, rfl, fun _ => rfl, told_lss, .inr ⟨_, rfl, by first | (simp [Go.Vm.numOf]; omega) | simp [Go.Vm.numOf]⟩⟩
  rcases List.mem_cons.1 he with rfl | he
  · exact ⟨_, _, _, _, _, rfl, rfl, fun _ => rfl, told_lss, .inr ⟨_, rfl, by first | (simp [Go.Vm.numOf]; omega) | simp [Go.Vm.numOf]⟩⟩
  cases he

theorem told2_8 (a0 : Int) (a1 : Int) (a2 : Int) (a3 : Int) (h : a2 < 0) : ∀ e, e ∈ ([(.geq, .sym 2, .int .i64 (.ofNat 0), .bool false), (.lss, .sym 2, .int .i64 (.ofNat 0), .bool true)] : Tab) → Go.Vm.Told (un a0 a1 a2 a3) e := by
  intro e he
  rcases List.mem_cons.1 he with rfl | he
  · exact ⟨_, _, _, _, _, rfl, rfl, fun _ => rfl, told_geq, .inr ⟨_, rfl, by first | (simp [Go.Vm.numOf]; omega) | simp [Go.Vm.numOf]⟩⟩
  rcases List.mem_cons.1 he with rfl | he
  · exact ⟨_, _, _, _, _, rfl, rfl, fun _ => rfl, told_lss, .inr ⟨_, rfl, by first | (simp [Go.Vm.numOf]; omega) | simp [Go.Vm.numOf]⟩⟩
  cases he

theorem told2_9 (a0 : Int) (a1 : Int) (a2 : Int) (a3 : Int) (h : 8 ≤ a2) : ∀ e, e ∈ ([(.geq, .sym 2, .int .i64 (.ofNat 0), .bool true), (.lss, .sym 2, .int .i64 (.ofNat 0), .bool false), (.lss, .sym 2, .int .i64 (.ofNat 8), .bool false), (.geq, .sym 2, .int .i64 (.ofNat 8), .bool true)] : Tab) → Go.Vm.Told (un a0 a1 a2 a3) e := by
  intro e he
  rcases List.mem_cons.1 he with rfl | he
  · exact ⟨_, _, _, _, _, rfl, rfl, fun _ => rfl, told_geq, .inr ⟨_, rfl, by first | (simp [Go.Vm.numOf]; omega) | simp [Go.Vm.numOf]⟩⟩
  rcases List.mem_cons.1 he with rfl | he
  · exact ⟨_, _, _, _, _, rfl, rfl, fun _ => rfl, told_lss, .inr ⟨_, rfl, by first | (simp [Go.Vm.numOf]; omega) | simp [Go.Vm.numOf]⟩⟩
  rcases List.mem_cons.1 he with rfl | he
  · exact ⟨_, _, _, _, _, rfl, rfl, fun _ => rfl, told_lss, .inr ⟨_, rfl, by first | (simp [Go.Vm.numOf]; omega) | simp [Go.Vm.numOf]⟩⟩
  rcases List.mem_cons.1 he with rfl | he
  · exact ⟨_, _, _, _, _, rfl, rfl, fun _ => rfl, told_geq, .inr ⟨_, rfl, by first | (simp [Go.Vm.numOf]; omega) | simp [Go.Vm.numOf]⟩⟩
  cases he

theorem told3_3 (a0 : Int) (a1 : Int) (a2 : Int) (a3 : Int) (h : a3 ≠ 1 ∧ a3 ≠ 2 ∧ a3 ≠ 3) : ∀ e, e ∈ ([(.eql, .sym 3, .int .i64 (.ofNat 1), .bool false), (.eql, .sym 3, .int .i64 (.ofNat 2), .bool false), (.eql, .sym 3, .int .i64 (.ofNat 3), .bool false)] : Tab) → Go.Vm.Told (un a0 a1 a2 a3) e := by
  intro e he
  rcases List.mem_cons.1 he with rfl | he
  · exact ⟨_, _, _, _, _, rfl, rfl, fun _ => rfl, told_eql, .inr ⟨_, rfl, by first | (simp [Go.Vm.numOf]; omega) | simp [Go.Vm.numOf]⟩⟩
  rcases List.mem_cons.1 he with rfl | he
  · exact ⟨_, _, _, _, _, rfl, rfl, fun _ => rfl, told_eql, .inr ⟨_, rfl, by first | (simp [Go.Vm.numOf]; omega) | simp [Go.Vm.numOf]⟩⟩
  rcases List.mem_cons.1 he with rfl | he
  · exact ⟨_, _, _, _, _, rfl, rfl, fun _ => rfl, told_eql, .inr ⟨_, rfl, by first | (simp [Go.Vm.numOf]; omega) | simp [Go.Vm.numOf]⟩⟩
  cases he

theorem app_told {σ : Nat → Value} {a b : Tab} (ha : ∀ e, e ∈ a → Go.Vm.Told σ e) (hb : ∀ e, e ∈ b → Go.Vm.Told σ e) : ∀ e, e ∈ a ++ b → Go.Vm.Told σ e := fun e he => (List.mem_append.1 he).elim (ha e) (hb e)

theorem walk (a0 : Int) (a1 : Int) (a2 : Int) (a3 : Int) (w0 : (Lit.int .i64 a0).wf = true) (w1 : (Lit.int .i64 a1).wf = true) (w2 : (Lit.int .i64 a2).wf = true) (w3 : (Lit.int .i64 a3).wf = true) (w : World) :
    Calls Tryz.prog 10 #[.int .i64 a0, .int .i64 a1, .int .i64 a2, .int .i64 a3] w fun e w' => e = .returned (.bool true) ∧ w.keptBut w' (fun _ => False) := by
  have go : ∀ (tab : Tab) (args : List V), (∀ e, e ∈ tab → Go.Vm.Told (un a0 a1 a2 a3) e) → runs (mach tab) ext1 1000000 10 args Tryz.prog.globals.size = true → VRs (emb0 Tryz.prog (un a0 a1 a2 a3)) args [.int .i64 a0, .int .i64 a1, .int .i64 a2, .int .i64 a3] →
      Calls Tryz.prog 10 #[.int .i64 a0, .int .i64 a1, .int .i64 a2, .int .i64 a3] w fun e w' => e = .returned (.bool true) ∧ w.keptBut w' (fun _ => False) := fun tab args h1 h2 h3 =>
    top mixed (valid _) ext1_rises ext1_ok (un a0 a1 a2 a3) (fun i => by unfold un; split <;> exact ⟨_, _, rfl⟩) (tab_of h1) intsOk (f := 10) (by kernel_rfl) h2 h3 w
  have no : ∀ e, e ∈ ([] : Tab) → Go.Vm.Told (un a0 a1 a2 a3) e := fun e he => by cases he
  obtain c0 | c0 | c0 : (a0 < 1) ∨ (1 ≤ a0 ∧ a0 ≤ 1000) ∨ (1000 < a0) := by omega
  · obtain c1 | c1 | c1 : (a1 < 0) ∨ (0 ≤ a1 ∧ a1 ≤ 100) ∨ (100 < a1) := by omega
    · obtain c2 | c2 | c2 | c2 | c2 | c2 | c2 | c2 | c2 | c2 : (a2 = 0) ∨ (a2 = 1) ∨ (a2 = 2) ∨ (a2 = 3) ∨ (a2 = 4) ∨ (a2 = 5) ∨ (a2 = 6) ∨ (a2 = 7) ∨ (a2 < 0) ∨ (8 ≤ a2) := by omega
      · obtain c3 | c3 | c3 | c3 : (a3 = 1) ∨ (a3 = 2) ∨ (a3 = 3) ∨ (a3 ≠ 1 ∧ a3 ≠ 2 ∧ a3 ≠ 3) := by omega
        · exact go _ _ (app_told (told0_0 a0 a1 a2 a3 c0) (told1_0 a0 a1 a2 a3 c1)) row0_0_0_0 (.cons _ _ _ _ (.sym 0) (.cons _ _ _ _ (.sym 1) (.cons _ _ _ _ (by rw [c2]; exact .int _ _) (.cons _ _ _ _ (by rw [c3]; exact .int _ _) .nil))))
        · exact go _ _ (app_told (told0_0 a0 a1 a2 a3 c0) (told1_0 a0 a1 a2 a3 c1)) row0_0_0_1 (.cons _ _ _ _ (.sym 0) (.cons _ _ _ _ (.sym 1) (.cons _ _ _ _ (by rw [c2]; exact .int _ _) (.cons _ _ _ _ (by rw [c3]; exact .int _ _) .nil))))
        · exact go _ _ (app_told (told0_0 a0 a1 a2 a3 c0) (told1_0 a0 a1 a2 a3 c1)) row0_0_0_2 (.cons _ _ _ _ (.sym 0) (.cons _ _ _ _ (.sym 1) (.cons _ _ _ _ (by rw [c2]; exact .int _ _) (.cons _ _ _ _ (by rw [c3]; exact .int _ _) .nil))))
        · exact go _ _ (app_told (told0_0 a0 a1 a2 a3 c0) (app_told (told1_0 a0 a1 a2 a3 c1) (told3_3 a0 a1 a2 a3 c3))) row0_0_0_3 (.cons _ _ _ _ (.sym 0) (.cons _ _ _ _ (.sym 1) (.cons _ _ _ _ (by rw [c2]; exact .int _ _) (.cons _ _ _ _ (.sym 3) .nil))))
      · obtain c3 | c3 | c3 | c3 : (a3 = 1) ∨ (a3 = 2) ∨ (a3 = 3) ∨ (a3 ≠ 1 ∧ a3 ≠ 2 ∧ a3 ≠ 3) := by omega
        · exact go _ _ (app_told (told0_0 a0 a1 a2 a3 c0) (told1_0 a0 a1 a2 a3 c1)) row0_0_1_0 (.cons _ _ _ _ (.sym 0) (.cons _ _ _ _ (.sym 1) (.cons _ _ _ _ (by rw [c2]; exact .int _ _) (.cons _ _ _ _ (by rw [c3]; exact .int _ _) .nil))))
        · exact go _ _ (app_told (told0_0 a0 a1 a2 a3 c0) (told1_0 a0 a1 a2 a3 c1)) row0_0_1_1 (.cons _ _ _ _ (.sym 0) (.cons _ _ _ _ (.sym 1) (.cons _ _ _ _ (by rw [c2]; exact .int _ _) (.cons _ _ _ _ (by rw [c3]; exact .int _ _) .nil))))
        · exact go _ _ (app_told (told0_0 a0 a1 a2 a3 c0) (told1_0 a0 a1 a2 a3 c1)) row0_0_1_2 (.cons _ _ _ _ (.sym 0) (.cons _ _ _ _ (.sym 1) (.cons _ _ _ _ (by rw [c2]; exact .int _ _) (.cons _ _ _ _ (by rw [c3]; exact .int _ _) .nil))))
        · exact go _ _ (app_told (told0_0 a0 a1 a2 a3 c0) (app_told (told1_0 a0 a1 a2 a3 c1) (told3_3 a0 a1 a2 a3 c3))) row0_0_1_3 (.cons _ _ _ _ (.sym 0) (.cons _ _ _ _ (.sym 1) (.cons _ _ _ _ (by rw [c2]; exact .int _ _) (.cons _ _ _ _ (.sym 3) .nil))))
      · obtain c3 | c3 | c3 | c3 : (a3 = 1) ∨ (a3 = 2) ∨ (a3 = 3) ∨ (a3 ≠ 1 ∧ a3 ≠ 2 ∧ a3 ≠ 3) := by omega
        · exact go _ _ (app_told (told0_0 a0 a1 a2 a3 c0) (told1_0 a0 a1 a2 a3 c1)) row0_0_2_0 (.cons _ _ _ _ (.sym 0) (.cons _ _ _ _ (.sym 1) (.cons _ _ _ _ (by rw [c2]; exact .int _ _) (.cons _ _ _ _ (by rw [c3]; exact .int _ _) .nil))))
        · exact go _ _ (app_told (told0_0 a0 a1 a2 a3 c0) (told1_0 a0 a1 a2 a3 c1)) row0_0_2_1 (.cons _ _ _ _ (.sym 0) (.cons _ _ _ _ (.sym 1) (.cons _ _ _ _ (by rw [c2]; exact .int _ _) (.cons _ _ _ _ (by rw [c3]; exact .int _ _) .nil))))
        · exact go _ _ (app_told (told0_0 a0 a1 a2 a3 c0) (told1_0 a0 a1 a2 a3 c1)) row0_0_2_2 (.cons _ _ _ _ (.sym 0) (.cons _ _ _ _ (.sym 1) (.cons _ _ _ _ (by rw [c2]; exact .int _ _) (.cons _ _ _ _ (by rw [c3]; exact .int _ _) .nil))))
        · exact go _ _ (app_told (told0_0 a0 a1 a2 a3 c0) (app_told (told1_0 a0 a1 a2 a3 c1) (told3_3 a0 a1 a2 a3 c3))) row0_0_2_3 (.cons _ _ _ _ (.sym 0) (.cons _ _ _ _ (.sym 1) (.cons _ _ _ _ (by rw [c2]; exact .int _ _) (.cons _ _ _ _ (.sym 3) .nil))))
      · obtain c3 | c3 | c3 | c3 : (a3 = 1) ∨ (a3 = 2) ∨ (a3 = 3) ∨ (a3 ≠ 1 ∧ a3 ≠ 2 ∧ a3 ≠ 3) := by omega
        · exact go _ _ (app_told (told0_0 a0 a1 a2 a3 c0) (told1_0 a0 a1 a2 a3 c1)) row0_0_3_0 (.cons _ _ _ _ (.sym 0) (.cons _ _ _ _ (.sym 1) (.cons _ _ _ _ (by rw [c2]; exact .int _ _) (.cons _ _ _ _ (by rw [c3]; exact .int _ _) .nil))))
        · exact go _ _ (app_told (told0_0 a0 a1 a2 a3 c0) (told1_0 a0 a1 a2 a3 c1)) row0_0_3_1 (.cons _ _ _ _ (.sym 0) (.cons _ _ _ _ (.sym 1) (.cons _ _ _ _ (by rw [c2]; exact .int _ _) (.cons _ _ _ _ (by rw [c3]; exact .int _ _) .nil))))
        · exact go _ _ (app_told (told0_0 a0 a1 a2 a3 c0) (told1_0 a0 a1 a2 a3 c1)) row0_0_3_2 (.cons _ _ _ _ (.sym 0) (.cons _ _ _ _ (.sym 1) (.cons _ _ _ _ (by rw [c2]; exact .int _ _) (.cons _ _ _ _ (by rw [c3]; exact .int _ _) .nil))))
        · exact go _ _ (app_told (told0_0 a0 a1 a2 a3 c0) (app_told (told1_0 a0 a1 a2 a3 c1) (told3_3 a0 a1 a2 a3 c3))) row0_0_3_3 (.cons _ _ _ _ (.sym 0) (.cons _ _ _ _ (.sym 1) (.cons _ _ _ _ (by rw [c2]; exact .int _ _) (.cons _ _ _ _ (.sym 3) .nil))))
      · obtain c3 | c3 | c3 | c3 : (a3 = 1) ∨ (a3 = 2) ∨ (a3 = 3) ∨ (a3 ≠ 1 ∧ a3 ≠ 2 ∧ a3 ≠ 3) := by omega
        · exact go _ _ (app_told (told0_0 a0 a1 a2 a3 c0) (told1_0 a0 a1 a2 a3 c1)) row0_0_4_0 (.cons _ _ _ _ (.sym 0) (.cons _ _ _ _ (.sym 1) (.cons _ _ _ _ (by rw [c2]; exact .int _ _) (.cons _ _ _ _ (by rw [c3]; exact .int _ _) .nil))))
        · exact go _ _ (app_told (told0_0 a0 a1 a2 a3 c0) (told1_0 a0 a1 a2 a3 c1)) row0_0_4_1 (.cons _ _ _ _ (.sym 0) (.cons _ _ _ _ (.sym 1) (.cons _ _ _ _ (by rw [c2]; exact .int _ _) (.cons _ _ _ _ (by rw [c3]; exact .int _ _) .nil))))
        · exact go _ _ (app_told (told0_0 a0 a1 a2 a3 c0) (told1_0 a0 a1 a2 a3 c1)) row0_0_4_2 (.cons _ _ _ _ (.sym 0) (.cons _ _ _ _ (.sym 1) (.cons _ _ _ _ (by rw [c2]; exact .int _ _) (.cons _ _ _ _ (by rw [c3]; exact .int _ _) .nil))))
        · exact go _ _ (app_told (told0_0 a0 a1 a2 a3 c0) (app_told (told1_0 a0 a1 a2 a3 c1) (told3_3 a0 a1 a2 a3 c3))) row0_0_4_3 (.cons _ _ _ _ (.sym 0) (.cons _ _ _ _ (.sym 1) (.cons _ _ _ _ (by rw [c2]; exact .int _ _) (.cons _ _ _ _ (.sym 3) .nil))))
      · obtain c3 | c3 | c3 | c3 : (a3 = 1) ∨ (a3 = 2) ∨ (a3 = 3) ∨ (a3 ≠ 1 ∧ a3 ≠ 2 ∧ a3 ≠ 3) := by omega
        · exact go _ _ (app_told (told0_0 a0 a1 a2 a3 c0) (told1_0 a0 a1 a2 a3 c1)) row0_0_5_0 (.cons _ _ _ _ (.sym 0) (.cons _ _ _ _ (.sym 1) (.cons _ _ _ _ (by rw [c2]; exact .int _ _) (.cons _ _ _ _ (by rw [c3]; exact .int _ _) .nil))))
        · exact go _ _ (app_told (told0_0 a0 a1 a2 a3 c0) (told1_0 a0 a1 a2 a3 c1)) row0_0_5_1 (.cons _ _ _ _ (.sym 0) (.cons _ _ _ _ (.sym 1) (.cons _ _ _ _ (by rw [c2]; exact .int _ _) (.cons _ _ _ _ (by rw [c3]; exact .int _ _) .nil))))
        · exact go _ _ (app_told (told0_0 a0 a1 a2 a3 c0) (told1_0 a0 a1 a2 a3 c1)) row0_0_5_2 (.cons _ _ _ _ (.sym 0) (.cons _ _ _ _ (.sym 1) (.cons _ _ _ _ (by rw [c2]; exact .int _ _) (.cons _ _ _ _ (by rw [c3]; exact .int _ _) .nil))))
        · exact go _ _ (app_told (told0_0 a0 a1 a2 a3 c0) (app_told (told1_0 a0 a1 a2 a3 c1) (told3_3 a0 a1 a2 a3 c3))) row0_0_5_3 (.cons _ _ _ _ (.sym 0) (.cons _ _ _ _ (.sym 1) (.cons _ _ _ _ (by rw [c2]; exact .int _ _) (.cons _ _ _ _ (.sym 3) .nil))))
      · obtain c3 | c3 | c3 | c3 : (a3 = 1) ∨ (a3 = 2) ∨ (a3 = 3) ∨ (a3 ≠ 1 ∧ a3 ≠ 2 ∧ a3 ≠ 3) := by omega
        · exact go _ _ (app_told (told0_0 a0 a1 a2 a3 c0) (told1_0 a0 a1 a2 a3 c1)) row0_0_6_0 (.cons _ _ _ _ (.sym 0) (.cons _ _ _ _ (.sym 1) (.cons _ _ _ _ (by rw [c2]; exact .int _ _) (.cons _ _ _ _ (by rw [c3]; exact .int _ _) .nil))))
        · exact go _ _ (app_told (told0_0 a0 a1 a2 a3 c0) (told1_0 a0 a1 a2 a3 c1)) row0_0_6_1 (.cons _ _ _ _ (.sym 0) (.cons _ _ _ _ (.sym 1) (.cons _ _ _ _ (by rw [c2]; exact .int _ _) (.cons _ _ _ _ (by rw [c3]; exact .int _ _) .nil))))
        · exact go _ _ (app_told (told0_0 a0 a1 a2 a3 c0) (told1_0 a0 a1 a2 a3 c1)) row0_0_6_2 (.cons _ _ _ _ (.sym 0) (.cons _ _ _ _ (.sym 1) (.cons _ _ _ _ (by rw [c2]; exact .int _ _) (.cons _ _ _ _ (by rw [c3]; exact .int _ _) .nil))))
        · exact go _ _ (app_told (told0_0 a0 a1 a2 a3 c0) (app_told (told1_0 a0 a1 a2 a3 c1) (told3_3 a0 a1 a2 a3 c3))) row0_0_6_3 (.cons _ _ _ _ (.sym 0) (.cons _ _ _ _ (.sym 1) (.cons _ _ _ _ (by rw [c2]; exact .int _ _) (.cons _ _ _ _ (.sym 3) .nil))))
      · obtain c3 | c3 | c3 | c3 : (a3 = 1) ∨ (a3 = 2) ∨ (a3 = 3) ∨ (a3 ≠ 1 ∧ a3 ≠ 2 ∧ a3 ≠ 3) := by omega
        · exact go _ _ (app_told (told0_0 a0 a1 a2 a3 c0) (told1_0 a0 a1 a2 a3 c1)) row0_0_7_0 (.cons _ _ _ _ (.sym 0) (.cons _ _ _ _ (.sym 1) (.cons _ _ _ _ (by rw [c2]; exact .int _ _) (.cons _ _ _ _ (by rw [c3]; exact .int _ _) .nil))))
        · exact go _ _ (app_told (told0_0 a0 a1 a2 a3 c0) (told1_0 a0 a1 a2 a3 c1)) row0_0_7_1 (.cons _ _ _ _ (.sym 0) (.cons _ _ _ _ (.sym 1) (.cons _ _ _ _ (by rw [c2]; exact .int _ _) (.cons _ _ _ _ (by rw [c3]; exact .int _ _) .nil))))
        · exact go _ _ (app_told (told0_0 a0 a1 a2 a3 c0) (told1_0 a0 a1 a2 a3 c1)) row0_0_7_2 (.cons _ _ _ _ (.sym 0) (.cons _ _ _ _ (.sym 1) (.cons _ _ _ _ (by rw [c2]; exact .int _ _) (.cons _ _ _ _ (by rw [c3]; exact .int _ _) .nil))))
        · exact go _ _ (app_told (told0_0 a0 a1 a2 a3 c0) (app_told (told1_0 a0 a1 a2 a3 c1) (told3_3 a0 a1 a2 a3 c3))) row0_0_7_3 (.cons _ _ _ _ (.sym 0) (.cons _ _ _ _ (.sym 1) (.cons _ _ _ _ (by rw [c2]; exact .int _ _) (.cons _ _ _ _ (.sym 3) .nil))))
      · obtain c3 | c3 | c3 | c3 : (a3 = 1) ∨ (a3 = 2) ∨ (a3 = 3) ∨ (a3 ≠ 1 ∧ a3 ≠ 2 ∧ a3 ≠ 3) := by omega
        · exact go _ _ (app_told (told0_0 a0 a1 a2 a3 c0) (app_told (told1_0 a0 a1 a2 a3 c1) (told2_8 a0 a1 a2 a3 c2))) row0_0_8_0 (.cons _ _ _ _ (.sym 0) (.cons _ _ _ _ (.sym 1) (.cons _ _ _ _ (.sym 2) (.cons _ _ _ _ (by rw [c3]; exact .int _ _) .nil))))
        · exact go _ _ (app_told (told0_0 a0 a1 a2 a3 c0) (app_told (told1_0 a0 a1 a2 a3 c1) (told2_8 a0 a1 a2 a3 c2))) row0_0_8_1 (.cons _ _ _ _ (.sym 0) (.cons _ _ _ _ (.sym 1) (.cons _ _ _ _ (.sym 2) (.cons _ _ _ _ (by rw [c3]; exact .int _ _) .nil))))
        · exact go _ _ (app_told (told0_0 a0 a1 a2 a3 c0) (app_told (told1_0 a0 a1 a2 a3 c1) (told2_8 a0 a1 a2 a3 c2))) row0_0_8_2 (.cons _ _ _ _ (.sym 0) (.cons _ _ _ _ (.sym 1) (.cons _ _ _ _ (.sym 2) (.cons _ _ _ _ (by rw [c3]; exact .int _ _) .nil))))
        · exact go _ _ (app_told (told0_0 a0 a1 a2 a3 c0) (app_told (told1_0 a0 a1 a2 a3 c1) (app_told (told2_8 a0 a1 a2 a3 c2) (told3_3 a0 a1 a2 a3 c3)))) row0_0_8_3 (.cons _ _ _ _ (.sym 0) (.cons _ _ _ _ (.sym 1) (.cons _ _ _ _ (.sym 2) (.cons _ _ _ _ (.sym 3) .nil))))
      · obtain c3 | c3 | c3 | c3 : (a3 = 1) ∨ (a3 = 2) ∨ (a3 = 3) ∨ (a3 ≠ 1 ∧ a3 ≠ 2 ∧ a3 ≠ 3) := by omega
        · exact go _ _ (app_told (told0_0 a0 a1 a2 a3 c0) (app_told (told1_0 a0 a1 a2 a3 c1) (told2_9 a0 a1 a2 a3 c2))) row0_0_9_0 (.cons _ _ _ _ (.sym 0) (.cons _ _ _ _ (.sym 1) (.cons _ _ _ _ (.sym 2) (.cons _ _ _ _ (by rw [c3]; exact .int _ _) .nil))))
        · exact go _ _ (app_told (told0_0 a0 a1 a2 a3 c0) (app_told (told1_0 a0 a1 a2 a3 c1) (told2_9 a0 a1 a2 a3 c2))) row0_0_9_1 (.cons _ _ _ _ (.sym 0) (.cons _ _ _ _ (.sym 1) (.cons _ _ _ _ (.sym 2) (.cons _ _ _ _ (by rw [c3]; exact .int _ _) .nil))))
        · exact go _ _ (app_told (told0_0 a0 a1 a2 a3 c0) (app_told (told1_0 a0 a1 a2 a3 c1) (told2_9 a0 a1 a2 a3 c2))) row0_0_9_2 (.cons _ _ _ _ (.sym 0) (.cons _ _ _ _ (.sym 1) (.cons _ _ _ _ (.sym 2) (.cons _ _ _ _ (by rw [c3]; exact .int _ _) .nil))))
        · exact go _ _ (app_told (told0_0 a0 a1 a2 a3 c0) (app_told (told1_0 a0 a1 a2 a3 c1) (app_told (told2_9 a0 a1 a2 a3 c2) (told3_3 a0 a1 a2 a3 c3)))) row0_0_9_3 (.cons _ _ _ _ (.sym 0) (.cons _ _ _ _ (.sym 1) (.cons _ _ _ _ (.sym 2) (.cons _ _ _ _ (.sym 3) .nil))))
    · obtain c2 | c2 | c2 | c2 | c2 | c2 | c2 | c2 | c2 | c2 : (a2 = 0) ∨ (a2 = 1) ∨ (a2 = 2) ∨ (a2 = 3) ∨ (a2 = 4) ∨ (a2 = 5) ∨ (a2 = 6) ∨ (a2 = 7) ∨ (a2 < 0) ∨ (8 ≤ a2) := by omega
      · obtain c3 | c3 | c3 | c3 : (a3 = 1) ∨ (a3 = 2) ∨ (a3 = 3) ∨ (a3 ≠ 1 ∧ a3 ≠ 2 ∧ a3 ≠ 3) := by omega
        · exact go _ _ (app_told (told0_0 a0 a1 a2 a3 c0) (told1_1 a0 a1 a2 a3 c1)) row0_1_0_0 (.cons _ _ _ _ (.sym 0) (.cons _ _ _ _ (.sym 1) (.cons _ _ _ _ (by rw [c2]; exact .int _ _) (.cons _ _ _ _ (by rw [c3]; exact .int _ _) .nil))))
        · exact go _ _ (app_told (told0_0 a0 a1 a2 a3 c0) (told1_1 a0 a1 a2 a3 c1)) row0_1_0_1 (.cons _ _ _ _ (.sym 0) (.cons _ _ _ _ (.sym 1) (.cons _ _ _ _ (by rw [c2]; exact .int _ _) (.cons _ _ _ _ (by rw [c3]; exact .int _ _) .nil))))
        · exact go _ _ (app_told (told0_0 a0 a1 a2 a3 c0) (told1_1 a0 a1 a2 a3 c1)) row0_1_0_2 (.cons _ _ _ _ (.sym 0) (.cons _ _ _ _ (.sym 1) (.cons _ _ _ _ (by rw [c2]; exact .int _ _) (.cons _ _ _ _ (by rw [c3]; exact .int _ _) .nil))))
        · exact go _ _ (app_told (told0_0 a0 a1 a2 a3 c0) (app_told (told1_1 a0 a1 a2 a3 c1) (told3_3 a0 a1 a2 a3 c3))) row0_1_0_3 (.cons _ _ _ _ (.sym 0) (.cons _ _ _ _ (.sym 1) (.cons _ _ _ _ (by rw [c2]; exact .int _ _) (.cons _ _ _ _ (.sym 3) .nil))))
      · obtain c3 | c3 | c3 | c3 : (a3 = 1) ∨ (a3 = 2) ∨ (a3 = 3) ∨ (a3 ≠ 1 ∧ a3 ≠ 2 ∧ a3 ≠ 3) := by omega
        · exact go _ _ (app_told (told0_0 a0 a1 a2 a3 c0) (told1_1 a0 a1 a2 a3 c1)) row0_1_1_0 (.cons _ _ _ _ (.sym 0) (.cons _ _ _ _ (.sym 1) (.cons _ _ _ _ (by rw [c2]; exact .int _ _) (.cons _ _ _ _ (by rw [c3]; exact .int _ _) .nil))))
        · exact go _ _ (app_told (told0_0 a0 a1 a2 a3 c0) (told1_1 a0 a1 a2 a3 c1)) row0_1_1_1 (.cons _ _ _ _ (.sym 0) (.cons _ _ _ _ (.sym 1) (.cons _ _ _ _ (by rw [c2]; exact .int _ _) (.cons _ _ _ _ (by rw [c3]; exact .int _ _) .nil))))
        · exact go _ _ (app_told (told0_0 a0 a1 a2 a3 c0) (told1_1 a0 a1 a2 a3 c1)) row0_1_1_2 (.cons _ _ _ _ (.sym 0) (.cons _ _ _ _ (.sym 1) (.cons _ _ _ _ (by rw [c2]; exact .int _ _) (.cons _ _ _ _ (by rw [c3]; exact .int _ _) .nil))))
        · exact go _ _ (app_told (told0_0 a0 a1 a2 a3 c0) (app_told (told1_1 a0 a1 a2 a3 c1) (told3_3 a0 a1 a2 a3 c3))) row0_1_1_3 (.cons _ _ _ _ (.sym 0) (.cons _ _ _ _ (.sym 1) (.cons _ _ _ _ (by rw [c2]; exact .int _ _) (.cons _ _ _ _ (.sym 3) .nil))))
      · obtain c3 | c3 | c3 | c3 : (a3 = 1) ∨ (a3 = 2) ∨ (a3 = 3) ∨ (a3 ≠ 1 ∧ a3 ≠ 2 ∧ a3 ≠ 3) := by omega
        · exact go _ _ (app_told (told0_0 a0 a1 a2 a3 c0) (told1_1 a0 a1 a2 a3 c1)) row0_1_2_0 (.cons _ _ _ _ (.sym 0) (.cons _ _ _ _ (.sym 1) (.cons _ _ _ _ (by rw [c2]; exact .int _ _) (.cons _ _ _ _ (by rw [c3]; exact .int _ _) .nil))))
        · exact go _ _ (app_told (told0_0 a0 a1 a2 a3 c0) (told1_1 a0 a1 a2 a3 c1)) row0_1_2_1 (.cons _ _ _ _ (.sym 0) (.cons _ _ _ _ (.sym 1) (.cons _ _ _ _ (by rw [c2]; exact .int _ _) (.cons _ _ _ _ (by rw [c3]; exact .int _ _) .nil))))
        · exact go _ _ (app_told (told0_0 a0 a1 a2 a3 c0) (told1_1 a0 a1 a2 a3 c1)) row0_1_2_2 (.cons _ _ _ _ (.sym 0) (.cons _ _ _ _ (.sym 1) (.cons _ _ _ _ (by rw [c2]; exact .int _ _) (.cons _ _ _ _ (by rw [c3]; exact .int _ _) .nil))))
        · exact go _ _ (app_told (told0_0 a0 a1 a2 a3 c0) (app_told (told1_1 a0 a1 a2 a3 c1) (told3_3 a0 a1 a2 a3 c3))) row0_1_2_3 (.cons _ _ _ _ (.sym 0) (.cons _ _ _ _ (.sym 1) (.cons _ _ _ _ (by rw [c2]; exact .int _ _) (.cons _ _ _ _ (.sym 3) .nil))))
      · obtain c3 | c3 | c3 | c3 : (a3 = 1) ∨ (a3 = 2) ∨ (a3 = 3) ∨ (a3 ≠ 1 ∧ a3 ≠ 2 ∧ a3 ≠ 3) := by omega
        · exact go _ _ (app_told (told0_0 a0 a1 a2 a3 c0) (told1_1 a0 a1 a2 a3 c1)) row0_1_3_0 (.cons _ _ _ _ (.sym 0) (.cons _ _ _ _ (.sym 1) (.cons _ _ _ _ (by rw [c2]; exact .int _ _) (.cons _ _ _ _ (by rw [c3]; exact .int _ _) .nil))))
        · exact go _ _ (app_told (told0_0 a0 a1 a2 a3 c0) (told1_1 a0 a1 a2 a3 c1)) row0_1_3_1 (.cons _ _ _ _ (.sym 0) (.cons _ _ _ _ (.sym 1) (.cons _ _ _ _ (by rw [c2]; exact .int _ _) (.cons _ _ _ _ (by rw [c3]; exact .int _ _) .nil))))
        · exact go _ _ (app_told (told0_0 a0 a1 a2 a3 c0) (told1_1 a0 a1 a2 a3 c1)) row0_1_3_2 (.cons _ _ _ _ (.sym 0) (.cons _ _ _ _ (.sym 1) (.cons _ _ _ _ (by rw [c2]; exact .int _ _) (.cons _ _ _ _ (by rw [c3]; exact .int _ _) .nil))))
        · exact go _ _ (app_told (told0_0 a0 a1 a2 a3 c0) (app_told (told1_1 a0 a1 a2 a3 c1) (told3_3 a0 a1 a2 a3 c3))) row0_1_3_3 (.cons _ _ _ _ (.sym 0) (.cons _ _ _ _ (.sym 1) (.cons _ _ _ _ (by rw [c2]; exact .int _ _) (.cons _ _ _ _ (.sym 3) .nil))))
      · obtain c3 | c3 | c3 | c3 : (a3 = 1) ∨ (a3 = 2) ∨ (a3 = 3) ∨ (a3 ≠ 1 ∧ a3 ≠ 2 ∧ a3 ≠ 3) := by omega
        · exact go _ _ (app_told (told0_0 a0 a1 a2 a3 c0) (told1_1 a0 a1 a2 a3 c1)) row0_1_4_0 (.cons _ _ _ _ (.sym 0) (.cons _ _ _ _ (.sym 1) (.cons _ _ _ _ (by rw [c2]; exact .int _ _) (.cons _ _ _ _ (by rw [c3]; exact .int _ _) .nil))))
        · exact go _ _ (app_told (told0_0 a0 a1 a2 a3 c0) (told1_1 a0 a1 a2 a3 c1)) row0_1_4_1 (.cons _ _ _ _ (.sym 0) (.cons _ _ _ _ (.sym 1) (.cons _ _ _ _ (by rw [c2]; exact .int _ _) (.cons _ _ _ _ (by rw [c3]; exact .int _ _) .nil))))
        · exact go _ _ (app_told (told0_0 a0 a1 a2 a3 c0) (told1_1 a0 a1 a2 a3 c1)) row0_1_4_2 (.cons _ _ _ _ (.sym 0) (.cons _ _ _ _ (.sym 1) (.cons _ _ _ _ (by rw [c2]; exact .int _ _) (.cons _ _ _ _ (by rw [c3]; exact .int _ _) .nil))))
        · exact go _ _ (app_told (told0_0 a0 a1 a2 a3 c0) (app_told (told1_1 a0 a1 a2 a3 c1) (told3_3 a0 a1 a2 a3 c3))) row0_1_4_3 (.cons _ _ _ _ (.sym 0) (.cons _ _ _ _ (.sym 1) (.cons _ _ _ _ (by rw [c2]; exact .int _ _) (.cons _ _ _ _ (.sym 3) .nil))))
      · obtain c3 | c3 | c3 | c3 : (a3 = 1) ∨ (a3 = 2) ∨ (a3 = 3) ∨ (a3 ≠ 1 ∧ a3 ≠ 2 ∧ a3 ≠ 3) := by omega
        · exact go _ _ (app_told (told0_0 a0 a1 a2 a3 c0) (told1_1 a0 a1 a2 a3 c1)) row0_1_5_0 (.cons _ _ _ _ (.sym 0) (.cons _ _ _ _ (.sym 1) (.cons _ _ _ _ (by rw [c2]; exact .int _ _) (.cons _ _ _ _ (by rw [c3]; exact .int _ _) .nil))))
        · exact go _ _ (app_told (told0_0 a0 a1 a2 a3 c0) (told1_1 a0 a1 a2 a3 c1)) row0_1_5_1 (.cons _ _ _ _ (.sym 0) (.cons _ _ _ _ (.sym 1) (.cons _ _ _ _ (by rw [c2]; exact .int _ _) (.cons _ _ _ _ (by rw [c3]; exact .int _ _) .nil))))
        · exact go _ _ (app_told (told0_0 a0 a1 a2 a3 c0) (told1_1 a0 a1 a2 a3 c1)) row0_1_5_2 (.cons _ _ _ _ (.sym 0) (.cons _ _ _ _ (.sym 1) (.cons _ _ _ _ (by rw [c2]; exact .int _ _) (.cons _ _ _ _ (by rw [c3]; exact .int _ _) .nil))))
        · exact go _ _ (app_told (told0_0 a0 a1 a2 a3 c0) (app_told (told1_1 a0 a1 a2 a3 c1) (told3_3 a0 a1 a2 a3 c3))) row0_1_5_3 (.cons _ _ _ _ (.sym 0) (.cons _ _ _ _ (.sym 1) (.cons _ _ _ _ (by rw [c2]; exact .int _ _) (.cons _ _ _ _ (.sym 3) .nil))))
      · obtain c3 | c3 | c3 | c3 : (a3 = 1) ∨ (a3 = 2) ∨ (a3 = 3) ∨ (a3 ≠ 1 ∧ a3 ≠ 2 ∧ a3 ≠ 3) := by omega
        · exact go _ _ (app_told (told0_0 a0 a1 a2 a3 c0) (told1_1 a0 a1 a2 a3 c1)) row0_1_6_0 (.cons _ _ _ _ (.sym 0) (.cons _ _ _ _ (.sym 1) (.cons _ _ _ _ (by rw [c2]; exact .int _ _) (.cons _ _ _ _ (by rw [c3]; exact .int _ _) .nil))))
        · exact go _ _ (app_told (told0_0 a0 a1 a2 a3 c0) (told1_1 a0 a1 a2 a3 c1)) row0_1_6_1 (.cons _ _ _ _ (.sym 0) (.cons _ _ _ _ (.sym 1) (.cons _ _ _ _ (by rw [c2]; exact .int _ _) (.cons _ _ _ _ (by rw [c3]; exact .int _ _) .nil))))
        · exact go _ _ (app_told (told0_0 a0 a1 a2 a3 c0) (told1_1 a0 a1 a2 a3 c1)) row0_1_6_2 (.cons _ _ _ _ (.sym 0) (.cons _ _ _ _ (.sym 1) (.cons _ _ _ _ (by rw [c2]; exact .int _ _) (.cons _ _ _ _ (by rw [c3]; exact .int _ _) .nil))))
        · exact go _ _ (app_told (told0_0 a0 a1 a2 a3 c0) (app_told (told1_1 a0 a1 a2 a3 c1) (told3_3 a0 a1 a2 a3 c3))) row0_1_6_3 (.cons _ _ _ _ (.sym 0) (.cons _ _ _ _ (.sym 1) (.cons _ _ _ _ (by rw [c2]; exact .int _ _) (.cons _ _ _ _ (.sym 3) .nil))))
      · obtain c3 | c3 | c3 | c3 : (a3 = 1) ∨ (a3 = 2) ∨ (a3 = 3) ∨ (a3 ≠ 1 ∧ a3 ≠ 2 ∧ a3 ≠ 3) := by omega
        · exact go _ _ (app_told (told0_0 a0 a1 a2 a3 c0) (told1_1 a0 a1 a2 a3 c1)) row0_1_7_0 (.cons _ _ _ _ (.sym 0) (.cons _ _ _ _ (.sym 1) (.cons _ _ _ _ (by rw [c2]; exact .int _ _) (.cons _ _ _ _ (by rw [c3]; exact .int _ _) .nil))))
        · exact go _ _ (app_told (told0_0 a0 a1 a2 a3 c0) (told1_1 a0 a1 a2 a3 c1)) row0_1_7_1 (.cons _ _ _ _ (.sym 0) (.cons _ _ _ _ (.sym 1) (.cons _ _ _ _ (by rw [c2]; exact .int _ _) (.cons _ _ _ _ (by rw [c3]; exact .int _ _) .nil))))
        · exact go _ _ (app_told (told0_0 a0 a1 a2 a3 c0) (told1_1 a0 a1 a2 a3 c1)) row0_1_7_2 (.cons _ _ _ _ (.sym 0) (.cons _ _ _ _ (.sym 1) (.cons _ _ _ _ (by rw [c2]; exact .int _ _) (.cons _ _ _ _ (by rw [c3]; exact .int _ _) .nil))))
        · exact go _ _ (app_told (told0_0 a0 a1 a2 a3 c0) (app_told (told1_1 a0 a1 a2 a3 c1) (told3_3 a0 a1 a2 a3 c3))) row0_1_7_3 (.cons _ _ _ _ (.sym 0) (.cons _ _ _ _ (.sym 1) (.cons _ _ _ _ (by rw [c2]; exact .int _ _) (.cons _ _ _ _ (.sym 3) .nil))))
      · obtain c3 | c3 | c3 | c3 : (a3 = 1) ∨ (a3 = 2) ∨ (a3 = 3) ∨ (a3 ≠ 1 ∧ a3 ≠ 2 ∧ a3 ≠ 3) := by omega
        · exact go _ _ (app_told (told0_0 a0 a1 a2 a3 c0) (app_told (told1_1 a0 a1 a2 a3 c1) (told2_8 a0 a1 a2 a3 c2))) row0_1_8_0 (.cons _ _ _ _ (.sym 0) (.cons _ _ _ _ (.sym 1) (.cons _ _ _ _ (.sym 2) (.cons _ _ _ _ (by rw [c3]; exact .int _ _) .nil))))
        · exact go _ _ (app_told (told0_0 a0 a1 a2 a3 c0) (app_told (told1_1 a0 a1 a2 a3 c1) (told2_8 a0 a1 a2 a3 c2))) row0_1_8_1 (.cons _ _ _ _ (.sym 0) (.cons _ _ _ _ (.sym 1) (.cons _ _ _ _ (.sym 2) (.cons _ _ _ _ (by rw [c3]; exact .int _ _) .nil))))
        · exact go _ _ (app_told (told0_0 a0 a1 a2 a3 c0) (app_told (told1_1 a0 a1 a2 a3 c1) (told2_8 a0 a1 a2 a3 c2))) row0_1_8_2 (.cons _ _ _ _ (.sym 0) (.cons _ _ _ _ (.sym 1) (.cons _ _ _ _ (.sym 2) (.cons _ _ _ _ (by rw [c3]; exact .int _ _) .nil))))
        · exact go _ _ (app_told (told0_0 a0 a1 a2 a3 c0) (app_told (told1_1 a0 a1 a2 a3 c1) (app_told (told2_8 a0 a1 a2 a3 c2) (told3_3 a0 a1 a2 a3 c3)))) row0_1_8_3 (.cons _ _ _ _ (.sym 0) (.cons _ _ _ _ (.sym 1) (.cons _ _ _ _ (.sym 2) (.cons _ _ _ _ (.sym 3) .nil))))
      · obtain c3 | c3 | c3 | c3 : (a3 = 1) ∨ (a3 = 2) ∨ (a3 = 3) ∨ (a3 ≠ 1 ∧ a3 ≠ 2 ∧ a3 ≠ 3) := by omega
        · exact go _ _ (app_told (told0_0 a0 a1 a2 a3 c0) (app_told (told1_1 a0 a1 a2 a3 c1) (told2_9 a0 a1 a2 a3 c2))) row0_1_9_0 (.cons _ _ _ _ (.sym 0) (.cons _ _ _ _ (.sym 1) (.cons _ _ _ _ (.sym 2) (.cons _ _ _ _ (by rw [c3]; exact .int _ _) .nil))))
        · exact go _ _ (app_told (told0_0 a0 a1 a2 a3 c0) (app_told (told1_1 a0 a1 a2 a3 c1) (told2_9 a0 a1 a2 a3 c2))) row0_1_9_1 (.cons _ _ _ _ (.sym 0) (.cons _ _ _ _ (.sym 1) (.cons _ _ _ _ (.sym 2) (.cons _ _ _ _ (by rw [c3]; exact .int _ _) .nil))))
        · exact go _ _ (app_told (told0_0 a0 a1 a2 a3 c0) (app_told (told1_1 a0 a1 a2 a3 c1) (told2_9 a0 a1 a2 a3 c2))) row0_1_9_2 (.cons _ _ _ _ (.sym 0) (.cons _ _ _ _ (.sym 1) (.cons _ _ _ _ (.sym 2) (.cons _ _ _ _ (by rw [c3]; exact .int _ _) .nil))))
        · exact go _ _ (app_told (told0_0 a0 a1 a2 a3 c0) (app_told (told1_1 a0 a1 a2 a3 c1) (app_told (told2_9 a0 a1 a2 a3 c2) (told3_3 a0 a1 a2 a3 c3)))) row0_1_9_3 (.cons _ _ _ _ (.sym 0) (.cons _ _ _ _ (.sym 1) (.cons _ _ _ _ (.sym 2) (.cons _ _ _ _ (.sym 3) .nil))))
    · obtain c2 | c2 | c2 | c2 | c2 | c2 | c2 | c2 | c2 | c2 : (a2 = 0) ∨ (a2 = 1) ∨ (a2 = 2) ∨ (a2 = 3) ∨ (a2 = 4) ∨ (a2 = 5) ∨ (a2 = 6) ∨ (a2 = 7) ∨ (a2 < 0) ∨ (8 ≤ a2) := by omega
      · obtain c3 | c3 | c3 | c3 : (a3 = 1) ∨ (a3 = 2) ∨ (a3 = 3) ∨ (a3 ≠ 1 ∧ a3 ≠ 2 ∧ a3 ≠ 3) := by omega
        · exact go _ _ (app_told (told0_0 a0 a1 a2 a3 c0) (told1_2 a0 a1 a2 a3 c1)) row0_2_0_0 (.cons _ _ _ _ (.sym 0) (.cons _ _ _ _ (.sym 1) (.cons _ _ _ _ (by rw [c2]; exact .int _ _) (.cons _ _ _ _ (by rw [c3]; exact .int _ _) .nil))))
        · exact go _ _ (app_told (told0_0 a0 a1 a2 a3 c0) (told1_2 a0 a1 a2 a3 c1)) row0_2_0_1 (.cons _ _ _ _ (.sym 0) (.cons _ _ _ _ (.sym 1) (.cons _ _ _ _ (by rw [c2]; exact .int _ _) (.cons _ _ _ _ (by rw [c3]; exact .int _ _) .nil))))
        · exact go _ _ (app_told (told0_0 a0 a1 a2 a3 c0) (told1_2 a0 a1 a2 a3 c1)) row0_2_0_2 (.cons _ _ _ _ (.sym 0) (.cons _ _ _ _ (.sym 1) (.cons _ _ _ _ (by rw [c2]; exact .int _ _) (.cons _ _ _ _ (by rw [c3]; exact .int _ _) .nil))))
        · exact go _ _ (app_told (told0_0 a0 a1 a2 a3 c0) (app_told (told1_2 a0 a1 a2 a3 c1) (told3_3 a0 a1 a2 a3 c3))) row0_2_0_3 (.cons _ _ _ _ (.sym 0) (.cons _ _ _ _ (.sym 1) (.cons _ _ _ _ (by rw [c2]; exact .int _ _) (.cons _ _ _ _ (.sym 3) .nil))))
      · obtain c3 | c3 | c3 | c3 : (a3 = 1) ∨ (a3 = 2) ∨ (a3 = 3) ∨ (a3 ≠ 1 ∧ a3 ≠ 2 ∧ a3 ≠ 3) := by omega
        · exact go _ _ (app_told (told0_0 a0 a1 a2 a3 c0) (told1_2 a0 a1 a2 a3 c1)) row0_2_1_0 (.cons _ _ _ _ (.sym 0) (.cons _ _ _ _ (.sym 1) (.cons _ _ _ _ (by rw [c2]; exact .int _ _) (.cons _ _ _ _ (by rw [c3]; exact .int _ _) .nil))))
        · exact go _ _ (app_told (told0_0 a0 a1 a2 a3 c0) (told1_2 a0 a1 a2 a3 c1)) row0_2_1_1 (.cons _ _ _ _ (.sym 0) (.cons _ _ _ _ (.sym 1) (.cons _ _ _ _ (by rw [c2]; exact .int _ _) (.cons _ _ _ _ (by rw [c3]; exact .int _ _) .nil))))
        · exact go _ _ (app_told (told0_0 a0 a1 a2 a3 c0) (told1_2 a0 a1 a2 a3 c1)) row0_2_1_2 (.cons _ _ _ _ (.sym 0) (.cons _ _ _ _ (.sym 1) (.cons _ _ _ _ (by rw [c2]; exact .int _ _) (.cons _ _ _ _ (by rw [c3]; exact .int _ _) .nil))))
        · exact go _ _ (app_told (told0_0 a0 a1 a2 a3 c0) (app_told (told1_2 a0 a1 a2 a3 c1) (told3_3 a0 a1 a2 a3 c3))) row0_2_1_3 (.cons _ _ _ _ (.sym 0) (.cons _ _ _ _ (.sym 1) (.cons _ _ _ _ (by rw [c2]; exact .int _ _) (.cons _ _ _ _ (.sym 3) .nil))))
      · obtain c3 | c3 | c3 | c3 : (a3 = 1) ∨ (a3 = 2) ∨ (a3 = 3) ∨ (a3 ≠ 1 ∧ a3 ≠ 2 ∧ a3 ≠ 3) := by omega
        · exact go _ _ (app_told (told0_0 a0 a1 a2 a3 c0) (told1_2 a0 a1 a2 a3 c1)) row0_2_2_0 (.cons _ _ _ _ (.sym 0) (.cons _ _ _ _ (.sym 1) (.cons _ _ _ _ (by rw [c2]; exact .int _ _) (.cons _ _ _ _ (by rw [c3]; exact .int _ _) .nil))))
        · exact go _ _ (app_told (told0_0 a0 a1 a2 a3 c0) (told1_2 a0 a1 a2 a3 c1)) row0_2_2_1 (.cons _ _ _ _ (.sym 0) (.cons _ _ _ _ (.sym 1) (.cons _ _ _ _ (by rw [c2]; exact .int _ _) (.cons _ _ _ _ (by rw [c3]; exact .int _ _) .nil))))
        · exact go _ _ (app_told (told0_0 a0 a1 a2 a3 c0) (told1_2 a0 a1 a2 a3 c1)) row0_2_2_2 (.cons _ _ _ _ (.sym 0) (.cons _ _ _ _ (.sym 1) (.cons _ _ _ _ (by rw [c2]; exact .int _ _) (.cons _ _ _ _ (by rw [c3]; exact .int _ _) .nil))))
        · exact go _ _ (app_told (told0_0 a0 a1 a2 a3 c0) (app_told (told1_2 a0 a1 a2 a3 c1) (told3_3 a0 a1 a2 a3 c3))) row0_2_2_3 (.cons _ _ _ _ (.sym 0) (.cons _ _ _ _ (.sym 1) (.cons _ _ _ _ (by rw [c2]; exact .int _ _) (.cons _ _ _ _ (.sym 3) .nil))))
      · obtain c3 | c3 | c3 | c3 : (a3 = 1) ∨ (a3 = 2) ∨ (a3 = 3) ∨ (a3 ≠ 1 ∧ a3 ≠ 2 ∧ a3 ≠ 3) := by omega
        · exact go _ _ (app_told (told0_0 a0 a1 a2 a3 c0) (told1_2 a0 a1 a2 a3 c1)) row0_2_3_0 (.cons _ _ _ _ (.sym 0) (.cons _ _ _ _ (.sym 1) (.cons _ _ _ _ (by rw [c2]; exact .int _ _) (.cons _ _ _ _ (by rw [c3]; exact .int _ _) .nil))))
        · exact go _ _ (app_told (told0_0 a0 a1 a2 a3 c0) (told1_2 a0 a1 a2 a3 c1)) row0_2_3_1 (.cons _ _ _ _ (.sym 0) (.cons _ _ _ _ (.sym 1) (.cons _ _ _ _ (by rw [c2]; exact .int _ _) (.cons _ _ _ _ (by rw [c3]; exact .int _ _) .nil))))
        · exact go _ _ (app_told (told0_0 a0 a1 a2 a3 c0) (told1_2 a0 a1 a2 a3 c1)) row0_2_3_2 (.cons _ _ _ _ (.sym 0) (.cons _ _ _ _ (.sym 1) (.cons _ _ _ _ (by rw [c2]; exact .int _ _) (.cons _ _ _ _ (by rw [c3]; exact .int _ _) .nil))))
        · exact go _ _ (app_told (told0_0 a0 a1 a2 a3 c0) (app_told (told1_2 a0 a1 a2 a3 c1) (told3_3 a0 a1 a2 a3 c3))) row0_2_3_3 (.cons _ _ _ _ (.sym 0) (.cons _ _ _ _ (.sym 1) (.cons _ _ _ _ (by rw [c2]; exact .int _ _) (.cons _ _ _ _ (.sym 3) .nil))))
      · obtain c3 | c3 | c3 | c3 : (a3 = 1) ∨ (a3 = 2) ∨ (a3 = 3) ∨ (a3 ≠ 1 ∧ a3 ≠ 2 ∧ a3 ≠ 3) := by omega
        · exact go _ _ (app_told (told0_0 a0 a1 a2 a3 c0) (told1_2 a0 a1 a2 a3 c1)) row0_2_4_0 (.cons _ _ _ _ (.sym 0) (.cons _ _ _ _ (.sym 1) (.cons _ _ _ _ (by rw [c2]; exact .int _ _) (.cons _ _ _ _ (by rw [c3]; exact .int _ _) .nil))))
        · exact go _ _ (app_told (told0_0 a0 a1 a2 a3 c0) (told1_2 a0 a1 a2 a3 c1)) row0_2_4_1 (.cons _ _ _ _ (.sym 0) (.cons _ _ _ _ (.sym 1) (.cons _ _ _ _ (by rw [c2]; exact .int _ _) (.cons _ _ _ _ (by rw [c3]; exact .int _ _) .nil))))
        · exact go _ _ (app_told (told0_0 a0 a1 a2 a3 c0) (told1_2 a0 a1 a2 a3 c1)) row0_2_4_2 (.cons _ _ _ _ (.sym 0) (.cons _ _ _ _ (.sym 1) (.cons _ _ _ _ (by rw [c2]; exact .int _ _) (.cons _ _ _ _ (by rw [c3]; exact .int _ _) .nil))))
        · exact go _ _ (app_told (told0_0 a0 a1 a2 a3 c0) (app_told (told1_2 a0 a1 a2 a3 c1) (told3_3 a0 a1 a2 a3 c3))) row0_2_4_3 (.cons _ _ _ _ (.sym 0) (.cons _ _ _ _ (.sym 1) (.cons _ _ _ _ (by rw [c2]; exact .int _ _) (.cons _ _ _ _ (.sym 3) .nil))))
      · obtain c3 | c3 | c3 | c3 : (a3 = 1) ∨ (a3 = 2) ∨ (a3 = 3) ∨ (a3 ≠ 1 ∧ a3 ≠ 2 ∧ a3 ≠ 3) := by omega
        · exact go _ _ (app_told (told0_0 a0 a1 a2 a3 c0) (told1_2 a0 a1 a2 a3 c1)) row0_2_5_0 (.cons _ _ _ _ (.sym 0) (.cons _ _ _ _ (.sym 1) (.cons _ _ _ _ (by rw [c2]; exact .int _ _) (.cons _ _ _ _ (by rw [c3]; exact .int _ _) .nil))))
        · exact go _ _ (app_told (told0_0 a0 a1 a2 a3 c0) (told1_2 a0 a1 a2 a3 c1)) row0_2_5_1 (.cons _ _ _ _ (.sym 0) (.cons _ _ _ _ (.sym 1) (.cons _ _ _ _ (by rw [c2]; exact .int _ _) (.cons _ _ _ _ (by rw [c3]; exact .int _ _) .nil))))
        · exact go _ _ (app_told (told0_0 a0 a1 a2 a3 c0) (told1_2 a0 a1 a2 a3 c1)) row0_2_5_2 (.cons _ _ _ _ (.sym 0) (.cons _ _ _ _ (.sym 1) (.cons _ _ _ _ (by rw [c2]; exact .int _ _) (.cons _ _ _ _ (by rw [c3]; exact .int _ _) .nil))))
        · exact go _ _ (app_told (told0_0 a0 a1 a2 a3 c0) (app_told (told1_2 a0 a1 a2 a3 c1) (told3_3 a0 a1 a2 a3 c3))) row0_2_5_3 (.cons _ _ _ _ (.sym 0) (.cons _ _ _ _ (.sym 1) (.cons _ _ _ _ (by rw [c2]; exact .int _ _) (.cons _ _ _ _ (.sym 3) .nil))))
      · obtain c3 | c3 | c3 | c3 : (a3 = 1) ∨ (a3 = 2) ∨ (a3 = 3) ∨ (a3 ≠ 1 ∧ a3 ≠ 2 ∧ a3 ≠ 3) := by omega
        · exact go _ _ (app_told (told0_0 a0 a1 a2 a3 c0) (told1_2 a0 a1 a2 a3 c1)) row0_2_6_0 (.cons _ _ _ _ (.sym 0) (.cons _ _ _ _ (.sym 1) (.cons _ _ _ _ (by rw [c2]; exact .int _ _) (.cons _ _ _ _ (by rw [c3]; exact .int _ _) .nil))))
        · exact go _ _ (app_told (told0_0 a0 a1 a2 a3 c0) (told1_2 a0 a1 a2 a3 c1)) row0_2_6_1 (.cons _ _ _ _ (.sym 0) (.cons _ _ _ _ (.sym 1) (.cons _ _ _ _ (by rw [c2]; exact .int _ _) (.cons _ _ _ _ (by rw [c3]; exact .int _ _) .nil))))
        · exact go _ _ (app_told (told0_0 a0 a1 a2 a3 c0) (told1_2 a0 a1 a2 a3 c1)) row0_2_6_2 (.cons _ _ _ _ (.sym 0) (.cons _ _ _ _ (.sym 1) (.cons _ _ _ _ (by rw [c2]; exact .int _ _) (.cons _ _ _ _ (by rw [c3]; exact .int _ _) .nil))))
        · exact go _ _ (app_told (told0_0 a0 a1 a2 a3 c0) (app_told (told1_2 a0 a1 a2 a3 c1) (told3_3 a0 a1 a2 a3 c3))) row0_2_6_3 (.cons _ _ _ _ (.sym 0) (.cons _ _ _ _ (.sym 1) (.cons _ _ _ _ (by rw [c2]; exact .int _ _) (.cons _ _ _ _ (.sym 3) .nil))))
      · obtain c3 | c3 | c3 | c3 : (a3 = 1) ∨ (a3 = 2) ∨ (a3 = 3) ∨ (a3 ≠ 1 ∧ a3 ≠ 2 ∧ a3 ≠ 3) := by omega
        · exact go _ _ (app_told (told0_0 a0 a1 a2 a3 c0) (told1_2 a0 a1 a2 a3 c1)) row0_2_7_0 (.cons _ _ _ _ (.sym 0) (.cons _ _ _ _ (.sym 1) (.cons _ _ _ _ (by rw [c2]; exact .int _ _) (.cons _ _ _ _ (by rw [c3]; exact .int _ _) .nil))))
        · exact go _ _ (app_told (told0_0 a0 a1 a2 a3 c0) (told1_2 a0 a1 a2 a3 c1)) row0_2_7_1 (.cons _ _ _ _ (.sym 0) (.cons _ _ _ _ (.sym 1) (.cons _ _ _ _ (by rw [c2]; exact .int _ _) (.cons _ _ _ _ (by rw [c3]; exact .int _ _) .nil))))
        · exact go _ _ (app_told (told0_0 a0 a1 a2 a3 c0) (told1_2 a0 a1 a2 a3 c1)) row0_2_7_2 (.cons _ _ _ _ (.sym 0) (.cons _ _ _ _ (.sym 1) (.cons _ _ _ _ (by rw [c2]; exact .int _ _) (.cons _ _ _ _ (by rw [c3]; exact .int _ _) .nil))))
        · exact go _ _ (app_told (told0_0 a0 a1 a2 a3 c0) (app_told (told1_2 a0 a1 a2 a3 c1) (told3_3 a0 a1 a2 a3 c3))) row0_2_7_3 (.cons _ _ _ _ (.sym 0) (.cons _ _ _ _ (.sym 1) (.cons _ _ _ _ (by rw [c2]; exact .int _ _) (.cons _ _ _ _ (.sym 3) .nil))))
      · obtain c3 | c3 | c3 | c3 : (a3 = 1) ∨ (a3 = 2) ∨ (a3 = 3) ∨ (a3 ≠ 1 ∧ a3 ≠ 2 ∧ a3 ≠ 3) := by omega
        · exact go _ _ (app_told (told0_0 a0 a1 a2 a3 c0) (app_told (told1_2 a0 a1 a2 a3 c1) (told2_8 a0 a1 a2 a3 c2))) row0_2_8_0 (.cons _ _ _ _ (.sym 0) (.cons _ _ _ _ (.sym 1) (.cons _ _ _ _ (.sym 2) (.cons _ _ _ _ (by rw [c3]; exact .int _ _) .nil))))
        · exact go _ _ (app_told (told0_0 a0 a1 a2 a3 c0) (app_told (told1_2 a0 a1 a2 a3 c1) (told2_8 a0 a1 a2 a3 c2))) row0_2_8_1 (.cons _ _ _ _ (.sym 0) (.cons _ _ _ _ (.sym 1) (.cons _ _ _ _ (.sym 2) (.cons _ _ _ _ (by rw [c3]; exact .int _ _) .nil))))
        · exact go _ _ (app_told (told0_0 a0 a1 a2 a3 c0) (app_told (told1_2 a0 a1 a2 a3 c1) (told2_8 a0 a1 a2 a3 c2))) row0_2_8_2 (.cons _ _ _ _ (.sym 0) (.cons _ _ _ _ (.sym 1) (.cons _ _ _ _ (.sym 2) (.cons _ _ _ _ (by rw [c3]; exact .int _ _) .nil))))
        · exact go _ _ (app_told (told0_0 a0 a1 a2 a3 c0) (app_told (told1_2 a0 a1 a2 a3 c1) (app_told (told2_8 a0 a1 a2 a3 c2) (told3_3 a0 a1 a2 a3 c3)))) row0_2_8_3 (.cons _ _ _ _ (.sym 0) (.cons _ _ _ _ (.sym 1) (.cons _ _ _ _ (.sym 2) (.cons _ _ _ _ (.sym 3) .nil))))
      · obtain c3 | c3 | c3 | c3 : (a3 = 1) ∨ (a3 = 2) ∨ (a3 = 3) ∨ (a3 ≠ 1 ∧ a3 ≠ 2 ∧ a3 ≠ 3) := by omega
        · exact go _ _ (app_told (told0_0 a0 a1 a2 a3 c0) (app_told (told1_2 a0 a1 a2 a3 c1) (told2_9 a0 a1 a2 a3 c2))) row0_2_9_0 (.cons _ _ _ _ (.sym 0) (.cons _ _ _ _ (.sym 1) (.cons _ _ _ _ (.sym 2) (.cons _ _ _ _ (by rw [c3]; exact .int _ _) .nil))))
        · exact go _ _ (app_told (told0_0 a0 a1 a2 a3 c0) (app_told (told1_2 a0 a1 a2 a3 c1) (told2_9 a0 a1 a2 a3 c2))) row0_2_9_1 (.cons _ _ _ _ (.sym 0) (.cons _ _ _ _ (.sym 1) (.cons _ _ _ _ (.sym 2) (.cons _ _ _ _ (by rw [c3]; exact .int _ _) .nil))))
        · exact go _ _ (app_told (told0_0 a0 a1 a2 a3 c0) (app_told (told1_2 a0 a1 a2 a3 c1) (told2_9 a0 a1 a2 a3 c2))) row0_2_9_2 (.cons _ _ _ _ (.sym 0) (.cons _ _ _ _ (.sym 1) (.cons _ _ _ _ (.sym 2) (.cons _ _ _ _ (by rw [c3]; exact .int _ _) .nil))))
        · exact go _ _ (app_told (told0_0 a0 a1 a2 a3 c0) (app_told (told1_2 a0 a1 a2 a3 c1) (app_told (told2_9 a0 a1 a2 a3 c2) (told3_3 a0 a1 a2 a3 c3)))) row0_2_9_3 (.cons _ _ _ _ (.sym 0) (.cons _ _ _ _ (.sym 1) (.cons _ _ _ _ (.sym 2) (.cons _ _ _ _ (.sym 3) .nil))))
  · obtain c1 | c1 | c1 : (a1 < 0) ∨ (0 ≤ a1 ∧ a1 ≤ 100) ∨ (100 < a1) := by omega
    · obtain c2 | c2 | c2 | c2 | c2 | c2 | c2 | c2 | c2 | c2 : (a2 = 0) ∨ (a2 = 1) ∨ (a2 = 2) ∨ (a2 = 3) ∨ (a2 = 4) ∨ (a2 = 5) ∨ (a2 = 6) ∨ (a2 = 7) ∨ (a2 < 0) ∨ (8 ≤ a2) := by omega
      · obtain c3 | c3 | c3 | c3 : (a3 = 1) ∨ (a3 = 2) ∨ (a3 = 3) ∨ (a3 ≠ 1 ∧ a3 ≠ 2 ∧ a3 ≠ 3) := by omega
        · exact go _ _ (app_told (told0_1 a0 a1 a2 a3 c0) (told1_0 a0 a1 a2 a3 c1)) row1_0_0_0 (.cons _ _ _ _ (.sym 0) (.cons _ _ _ _ (.sym 1) (.cons _ _ _ _ (by rw [c2]; exact .int _ _) (.cons _ _ _ _ (by rw [c3]; exact .int _ _) .nil))))
        · exact go _ _ (app_told (told0_1 a0 a1 a2 a3 c0) (told1_0 a0 a1 a2 a3 c1)) row1_0_0_1 (.cons _ _ _ _ (.sym 0) (.cons _ _ _ _ (.sym 1) (.cons _ _ _ _ (by rw [c2]; exact .int _ _) (.cons _ _ _ _ (by rw [c3]; exact .int _ _) .nil))))
        · exact go _ _ (app_told (told0_1 a0 a1 a2 a3 c0) (told1_0 a0 a1 a2 a3 c1)) row1_0_0_2 (.cons _ _ _ _ (.sym 0) (.cons _ _ _ _ (.sym 1) (.cons _ _ _ _ (by rw [c2]; exact .int _ _) (.cons _ _ _ _ (by rw [c3]; exact .int _ _) .nil))))
        · exact go _ _ (app_told (told0_1 a0 a1 a2 a3 c0) (app_told (told1_0 a0 a1 a2 a3 c1) (told3_3 a0 a1 a2 a3 c3))) row1_0_0_3 (.cons _ _ _ _ (.sym 0) (.cons _ _ _ _ (.sym 1) (.cons _ _ _ _ (by rw [c2]; exact .int _ _) (.cons _ _ _ _ (.sym 3) .nil))))
      · obtain c3 | c3 | c3 | c3 : (a3 = 1) ∨ (a3 = 2) ∨ (a3 = 3) ∨ (a3 ≠ 1 ∧ a3 ≠ 2 ∧ a3 ≠ 3) := by omega
        · exact go _ _ (app_told (told0_1 a0 a1 a2 a3 c0) (told1_0 a0 a1 a2 a3 c1)) row1_0_1_0 (.cons _ _ _ _ (.sym 0) (.cons _ _ _ _ (.sym 1) (.cons _ _ _ _ (by rw [c2]; exact .int _ _) (.cons _ _ _ _ (by rw [c3]; exact .int _ _) .nil))))
        · exact go _ _ (app_told (told0_1 a0 a1 a2 a3 c0) (told1_0 a0 a1 a2 a3 c1)) row1_0_1_1 (.cons _ _ _ _ (.sym 0) (.cons _ _ _ _ (.sym 1) (.cons _ _ _ _ (by rw [c2]; exact .int _ _) (.cons _ _ _ _ (by rw [c3]; exact .int _ _) .nil))))
        · exact go _ _ (app_told (told0_1 a0 a1 a2 a3 c0) (told1_0 a0 a1 a2 a3 c1)) row1_0_1_2 (.cons _ _ _ _ (.sym 0) (.cons _ _ _ _ (.sym 1) (.cons _ _ _ _ (by rw [c2]; exact .int _ _) (.cons _ _ _ _ (by rw [c3]; exact .int _ _) .nil))))
        · exact go _ _ (app_told (told0_1 a0 a1 a2 a3 c0) (app_told (told1_0 a0 a1 a2 a3 c1) (told3_3 a0 a1 a2 a3 c3))) row1_0_1_3 (.cons _ _ _ _ (.sym 0) (.cons _ _ _ _ (.sym 1) (.cons _ _ _ _ (by rw [c2]; exact .int _ _) (.cons _ _ _ _ (.sym 3) .nil))))
      · obtain c3 | c3 | c3 | c3 : (a3 = 1) ∨ (a3 = 2) ∨ (a3 = 3) ∨ (a3 ≠ 1 ∧ a3 ≠ 2 ∧ a3 ≠ 3) := by omega
        · exact go _ _ (app_told (told0_1 a0 a1 a2 a3 c0) (told1_0 a0 a1 a2 a3 c1)) row1_0_2_0 (.cons _ _ _ _ (.sym 0) (.cons _ _ _ _ (.sym 1) (.cons _ _ _ _ (by rw [c2]; exact .int _ _) (.cons _ _ _ _ (by rw [c3]; exact .int _ _) .nil))))
        · exact go _ _ (app_told (told0_1 a0 a1 a2 a3 c0) (told1_0 a0 a1 a2 a3 c1)) row1_0_2_1 (.cons _ _ _ _ (.sym 0) (.cons _ _ _ _ (.sym 1) (.cons _ _ _ _ (by rw [c2]; exact .int _ _) (.cons _ _ _ _ (by rw [c3]; exact .int _ _) .nil))))
        · exact go _ _ (app_told (told0_1 a0 a1 a2 a3 c0) (told1_0 a0 a1 a2 a3 c1)) row1_0_2_2 (.cons _ _ _ _ (.sym 0) (.cons _ _ _ _ (.sym 1) (.cons _ _ _ _ (by rw [c2]; exact .int _ _) (.cons _ _ _ _ (by rw [c3]; exact .int _ _) .nil))))
        · exact go _ _ (app_told (told0_1 a0 a1 a2 a3 c0) (app_told (told1_0 a0 a1 a2 a3 c1) (told3_3 a0 a1 a2 a3 c3))) row1_0_2_3 (.cons _ _ _ _ (.sym 0) (.cons _ _ _ _ (.sym 1) (.cons _ _ _ _ (by rw [c2]; exact .int _ _) (.cons _ _ _ _ (.sym 3) .nil))))
      · obtain c3 | c3 | c3 | c3 : (a3 = 1) ∨ (a3 = 2) ∨ (a3 = 3) ∨ (a3 ≠ 1 ∧ a3 ≠ 2 ∧ a3 ≠ 3) := by omega
        · exact go _ _ (app_told (told0_1 a0 a1 a2 a3 c0) (told1_0 a0 a1 a2 a3 c1)) row1_0_3_0 (.cons _ _ _ _ (.sym 0) (.cons _ _ _ _ (.sym 1) (.cons _ _ _ _ (by rw [c2]; exact .int _ _) (.cons _ _ _ _ (by rw [c3]; exact .int _ _) .nil))))
        · exact go _ _ (app_told (told0_1 a0 a1 a2 a3 c0) (told1_0 a0 a1 a2 a3 c1)) row1_0_3_1 (.cons _ _ _ _ (.sym 0) (.cons _ _ _ _ (.sym 1) (.cons _ _ _ _ (by rw [c2]; exact .int _ _) (.cons _ _ _ _ (by rw [c3]; exact .int _ _) .nil))))
        · exact go _ _ (app_told (told0_1 a0 a1 a2 a3 c0) (told1_0 a0 a1 a2 a3 c1)) row1_0_3_2 (.cons _ _ _ _ (.sym 0) (.cons _ _ _ _ (.sym 1) (.cons _ _ _ _ (by rw [c2]; exact .int _ _) (.cons _ _ _ _ (by rw [c3]; exact .int _ _) .nil))))
        · exact go _ _ (app_told (told0_1 a0 a1 a2 a3 c0) (app_told (told1_0 a0 a1 a2 a3 c1) (told3_3 a0 a1 a2 a3 c3))) row1_0_3_3 (.cons _ _ _ _ (.sym 0) (.cons _ _ _ _ (.sym 1) (.cons _ _ _ _ (by rw [c2]; exact .int _ _) (.cons _ _ _ _ (.sym 3) .nil))))
      · obtain c3 | c3 | c3 | c3 : (a3 = 1) ∨ (a3 = 2) ∨ (a3 = 3) ∨ (a3 ≠ 1 ∧ a3 ≠ 2 ∧ a3 ≠ 3) := by omega
        · exact go _ _ (app_told (told0_1 a0 a1 a2 a3 c0) (told1_0 a0 a1 a2 a3 c1)) row1_0_4_0 (.cons _ _ _ _ (.sym 0) (.cons _ _ _ _ (.sym 1) (.cons _ _ _ _ (by rw [c2]; exact .int _ _) (.cons _ _ _ _ (by rw [c3]; exact .int _ _) .nil))))
        · exact go _ _ (app_told (told0_1 a0 a1 a2 a3 c0) (told1_0 a0 a1 a2 a3 c1)) row1_0_4_1 (.cons _ _ _ _ (.sym 0) (.cons _ _ _ _ (.sym 1) (.cons _ _ _ _ (by rw [c2]; exact .int _ _) (.cons _ _ _ _ (by rw [c3]; exact .int _ _) .nil))))
        · exact go _ _ (app_told (told0_1 a0 a1 a2 a3 c0) (told1_0 a0 a1 a2 a3 c1)) row1_0_4_2 (.cons _ _ _ _ (.sym 0) (.cons _ _ _ _ (.sym 1) (.cons _ _ _ _ (by rw [c2]; exact .int _ _) (.cons _ _ _ _ (by rw [c3]; exact .int _ _) .nil))))
        · exact go _ _ (app_told (told0_1 a0 a1 a2 a3 c0) (app_told (told1_0 a0 a1 a2 a3 c1) (told3_3 a0 a1 a2 a3 c3))) row1_0_4_3 (.cons _ _ _ _ (.sym 0) (.cons _ _ _ _ (.sym 1) (.cons _ _ _ _ (by rw [c2]; exact .int _ _) (.cons _ _ _ _ (.sym 3) .nil))))
      · obtain c3 | c3 | c3 | c3 : (a3 = 1) ∨ (a3 = 2) ∨ (a3 = 3) ∨ (a3 ≠ 1 ∧ a3 ≠ 2 ∧ a3 ≠ 3) := by omega
        · exact go _ _ (app_told (told0_1 a0 a1 a2 a3 c0) (told1_0 a0 a1 a2 a3 c1)) row1_0_5_0 (.cons _ _ _ _ (.sym 0) (.cons _ _ _ _ (.sym 1) (.cons _ _ _ _ (by rw [c2]; exact .int _ _) (.cons _ _ _ _ (by rw [c3]; exact .int _ _) .nil))))
        · exact go _ _ (app_told (told0_1 a0 a1 a2 a3 c0) (told1_0 a0 a1 a2 a3 c1)) row1_0_5_1 (.cons _ _ _ _ (.sym 0) (.cons _ _ _ _ (.sym 1) (.cons _ _ _ _ (by rw [c2]; exact .int _ _) (.cons _ _ _ _ (by rw [c3]; exact .int _ _) .nil))))
        · exact go _ _ (app_told (told0_1 a0 a1 a2 a3 c0) (told1_0 a0 a1 a2 a3 c1)) row1_0_5_2 (.cons _ _ _ _ (.sym 0) (.cons _ _ _ _ (.sym 1) (.cons _ _ _ _ (by rw [c2]; exact .int _ _) (.cons _ _ _ _ (by rw [c3]; exact .int _ _) .nil))))
        · exact go _ _ (app_told (told0_1 a0 a1 a2 a3 c0) (app_told (told1_0 a0 a1 a2 a3 c1) (told3_3 a0 a1 a2 a3 c3))) row1_0_5_3 (.cons _ _ _ _ (.sym 0) (.cons _ _ _ _ (.sym 1) (.cons _ _ _ _ (by rw [c2]; exact .int _ _) (.cons _ _ _ _ (.sym 3) .nil))))
      · obtain c3 | c3 | c3 | c3 : (a3 = 1) ∨ (a3 = 2) ∨ (a3 = 3) ∨ (a3 ≠ 1 ∧ a3 ≠ 2 ∧ a3 ≠ 3) := by omega
        · exact go _ _ (app_told (told0_1 a0 a1 a2 a3 c0) (told1_0 a0 a1 a2 a3 c1)) row1_0_6_0 (.cons _ _ _ _ (.sym 0) (.cons _ _ _ _ (.sym 1) (.cons _ _ _ _ (by rw [c2]; exact .int _ _) (.cons _ _ _ _ (by rw [c3]; exact .int _ _) .nil))))
        · exact go _ _ (app_told (told0_1 a0 a1 a2 a3 c0) (told1_0 a0 a1 a2 a3 c1)) row1_0_6_1 (.cons _ _ _ _ (.sym 0) (.cons _ _ _ _ (.sym 1) (.cons _ _ _ _ (by rw [c2]; exact .int _ _) (.cons _ _ _ _ (by rw [c3]; exact .int _ _) .nil))))
        · exact go _ _ (app_told (told0_1 a0 a1 a2 a3 c0) (told1_0 a0 a1 a2 a3 c1)) row1_0_6_2 (.cons _ _ _ _ (.sym 0) (.cons _ _ _ _ (.sym 1) (.cons _ _ _ _ (by rw [c2]; exact .int _ _) (.cons _ _ _ _ (by rw [c3]; exact .int _ _) .nil))))
        · exact go _ _ (app_told (told0_1 a0 a1 a2 a3 c0) (app_told (told1_0 a0 a1 a2 a3 c1) (told3_3 a0 a1 a2 a3 c3))) row1_0_6_3 (.cons _ _ _ _ (.sym 0) (.cons _ _ _ _ (.sym 1) (.cons _ _ _ _ (by rw [c2]; exact .int _ _) (.cons _ _ _ _ (.sym 3) .nil))))
      · obtain c3 | c3 | c3 | c3 : (a3 = 1) ∨ (a3 = 2) ∨ (a3 = 3) ∨ (a3 ≠ 1 ∧ a3 ≠ 2 ∧ a3 ≠ 3) := by omega
        · exact go _ _ (app_told (told0_1 a0 a1 a2 a3 c0) (told1_0 a0 a1 a2 a3 c1)) row1_0_7_0 (.cons _ _ _ _ (.sym 0) (.cons _ _ _ _ (.sym 1) (.cons _ _ _ _ (by rw [c2]; exact .int _ _) (.cons _ _ _ _ (by rw [c3]; exact .int _ _) .nil))))
        · exact go _ _ (app_told (told0_1 a0 a1 a2 a3 c0) (told1_0 a0 a1 a2 a3 c1)) row1_0_7_1 (.cons _ _ _ _ (.sym 0) (.cons _ _ _ _ (.sym 1) (.cons _ _ _ _ (by rw [c2]; exact .int _ _) (.cons _ _ _ _ (by rw [c3]; exact .int _ _) .nil))))
        · exact go _ _ (app_told (told0_1 a0 a1 a2 a3 c0) (told1_0 a0 a1 a2 a3 c1)) row1_0_7_2 (.cons _ _ _ _ (.sym 0) (.cons _ _ _ _ (.sym 1) (.cons _ _ _ _ (by rw [c2]; exact .int _ _) (.cons _ _ _ _ (by rw [c3]; exact .int _ _) .nil))))
        · exact go _ _ (app_told (told0_1 a0 a1 a2 a3 c0) (app_told (told1_0 a0 a1 a2 a3 c1) (told3_3 a0 a1 a2 a3 c3))) row1_0_7_3 (.cons _ _ _ _ (.sym 0) (.cons _ _ _ _ (.sym 1) (.cons _ _ _ _ (by rw [c2]; exact .int _ _) (.cons _ _ _ _ (.sym 3) .nil))))
      · obtain c3 | c3 | c3 | c3 : (a3 = 1) ∨ (a3 = 2) ∨ (a3 = 3) ∨ (a3 ≠ 1 ∧ a3 ≠ 2 ∧ a3 ≠ 3) := by omega
        · exact go _ _ (app_told (told0_1 a0 a1 a2 a3 c0) (app_told (told1_0 a0 a1 a2 a3 c1) (told2_8 a0 a1 a2 a3 c2))) row1_0_8_0 (.cons _ _ _ _ (.sym 0) (.cons _ _ _ _ (.sym 1) (.cons _ _ _ _ (.sym 2) (.cons _ _ _ _ (by rw [c3]; exact .int _ _) .nil))))
        · exact go _ _ (app_told (told0_1 a0 a1 a2 a3 c0) (app_told (told1_0 a0 a1 a2 a3 c1) (told2_8 a0 a1 a2 a3 c2))) row1_0_8_1 (.cons _ _ _ _ (.sym 0) (.cons _ _ _ _ (.sym 1) (.cons _ _ _ _ (.sym 2) (.cons _ _ _ _ (by rw [c3]; exact .int _ _) .nil))))
        · exact go _ _ (app_told (told0_1 a0 a1 a2 a3 c0) (app_told (told1_0 a0 a1 a2 a3 c1) (told2_8 a0 a1 a2 a3 c2))) row1_0_8_2 (.cons _ _ _ _ (.sym 0) (.cons _ _ _ _ (.sym 1) (.cons _ _ _ _ (.sym 2) (.cons _ _ _ _ (by rw [c3]; exact .int _ _) .nil))))
        · exact go _ _ (app_told (told0_1 a0 a1 a2 a3 c0) (app_told (told1_0 a0 a1 a2 a3 c1) (app_told (told2_8 a0 a1 a2 a3 c2) (told3_3 a0 a1 a2 a3 c3)))) row1_0_8_3 (.cons _ _ _ _ (.sym 0) (.cons _ _ _ _ (.sym 1) (.cons _ _ _ _ (.sym 2) (.cons _ _ _ _ (.sym 3) .nil))))
      · obtain c3 | c3 | c3 | c3 : (a3 = 1) ∨ (a3 = 2) ∨ (a3 = 3) ∨ (a3 ≠ 1 ∧ a3 ≠ 2 ∧ a3 ≠ 3) := by omega
        · exact go _ _ (app_told (told0_1 a0 a1 a2 a3 c0) (app_told (told1_0 a0 a1 a2 a3 c1) (told2_9 a0 a1 a2 a3 c2))) row1_0_9_0 (.cons _ _ _ _ (.sym 0) (.cons _ _ _ _ (.sym 1) (.cons _ _ _ _ (.sym 2) (.cons _ _ _ _ (by rw [c3]; exact .int _ _) .nil))))
        · exact go _ _ (app_told (told0_1 a0 a1 a2 a3 c0) (app_told (told1_0 a0 a1 a2 a3 c1) (told2_9 a0 a1 a2 a3 c2))) row1_0_9_1 (.cons _ _ _ _ (.sym 0) (.cons _ _ _ _ (.sym 1) (.cons _ _ _ _ (.sym 2) (.cons _ _ _ _ (by rw [c3]; exact .int _ _) .nil))))
        · exact go _ _ (app_told (told0_1 a0 a1 a2 a3 c0) (app_told (told1_0 a0 a1 a2 a3 c1) (told2_9 a0 a1 a2 a3 c2))) row1_0_9_2 (.cons _ _ _ _ (.sym 0) (.cons _ _ _ _ (.sym 1) (.cons _ _ _ _ (.sym 2) (.cons _ _ _ _ (by rw [c3]; exact .int _ _) .nil))))
        · exact go _ _ (app_told (told0_1 a0 a1 a2 a3 c0) (app_told (told1_0 a0 a1 a2 a3 c1) (app_told (told2_9 a0 a1 a2 a3 c2) (told3_3 a0 a1 a2 a3 c3)))) row1_0_9_3 (.cons _ _ _ _ (.sym 0) (.cons _ _ _ _ (.sym 1) (.cons _ _ _ _ (.sym 2) (.cons _ _ _ _ (.sym 3) .nil))))
    · obtain c2 | c2 | c2 | c2 | c2 | c2 | c2 | c2 | c2 | c2 : (a2 = 0) ∨ (a2 = 1) ∨ (a2 = 2) ∨ (a2 = 3) ∨ (a2 = 4) ∨ (a2 = 5) ∨ (a2 = 6) ∨ (a2 = 7) ∨ (a2 < 0) ∨ (8 ≤ a2) := by omega
      · obtain c3 | c3 | c3 | c3 : (a3 = 1) ∨ (a3 = 2) ∨ (a3 = 3) ∨ (a3 ≠ 1 ∧ a3 ≠ 2 ∧ a3 ≠ 3) := by omega
        · exact go _ _ (app_told (told0_1 a0 a1 a2 a3 c0) (told1_1 a0 a1 a2 a3 c1)) row1_1_0_0 (.cons _ _ _ _ (.sym 0) (.cons _ _ _ _ (.sym 1) (.cons _ _ _ _ (by rw [c2]; exact .int _ _) (.cons _ _ _ _ (by rw [c3]; exact .int _ _) .nil))))
        · exact go _ _ (app_told (told0_1 a0 a1 a2 a3 c0) (told1_1 a0 a1 a2 a3 c1)) row1_1_0_1 (.cons _ _ _ _ (.sym 0) (.cons _ _ _ _ (.sym 1) (.cons _ _ _ _ (by rw [c2]; exact .int _ _) (.cons _ _ _ _ (by rw [c3]; exact .int _ _) .nil))))
        · exact go _ _ (app_told (told0_1 a0 a1 a2 a3 c0) (told1_1 a0 a1 a2 a3 c1)) row1_1_0_2 (.cons _ _ _ _ (.sym 0) (.cons _ _ _ _ (.sym 1) (.cons _ _ _ _ (by rw [c2]; exact .int _ _) (.cons _ _ _ _ (by rw [c3]; exact .int _ _) .nil))))
        · exact go _ _ (app_told (told0_1 a0 a1 a2 a3 c0) (app_told (told1_1 a0 a1 a2 a3 c1) (told3_3 a0 a1 a2 a3 c3))) row1_1_0_3 (.cons _ _ _ _ (.sym 0) (.cons _ _ _ _ (.sym 1) (.cons _ _ _ _ (by rw [c2]; exact .int _ _) (.cons _ _ _ _ (.sym 3) .nil))))
      · obtain c3 | c3 | c3 | c3 : (a3 = 1) ∨ (a3 = 2) ∨ (a3 = 3) ∨ (a3 ≠ 1 ∧ a3 ≠ 2 ∧ a3 ≠ 3) := by omega
        · exact go _ _ (app_told (told0_1 a0 a1 a2 a3 c0) (told1_1 a0 a1 a2 a3 c1)) row1_1_1_0 (.cons _ _ _ _ (.sym 0) (.cons _ _ _ _ (.sym 1) (.cons _ _ _ _ (by rw [c2]; exact .int _ _) (.cons _ _ _ _ (by rw [c3]; exact .int _ _) .nil))))
        · exact go _ _ (app_told (told0_1 a0 a1 a2 a3 c0) (told1_1 a0 a1 a2 a3 c1)) row1_1_1_1 (.cons _ _ _ _ (.sym 0) (.cons _ _ _ _ (.sym 1) (.cons _ _ _ _ (by rw [c2]; exact .int _ _) (.cons _ _ _ _ (by rw [c3]; exact .int _ _) .nil))))
        · exact go _ _ (app_told (told0_1 a0 a1 a2 a3 c0) (told1_1 a0 a1 a2 a3 c1)) row1_1_1_2 (.cons _ _ _ _ (.sym 0) (.cons _ _ _ _ (.sym 1) (.cons _ _ _ _ (by rw [c2]; exact .int _ _) (.cons _ _ _ _ (by rw [c3]; exact .int _ _) .nil))))
        · exact go _ _ (app_told (told0_1 a0 a1 a2 a3 c0) (app_told (told1_1 a0 a1 a2 a3 c1) (told3_3 a0 a1 a2 a3 c3))) row1_1_1_3 (.cons _ _ _ _ (.sym 0) (.cons _ _ _ _ (.sym 1) (.cons _ _ _ _ (by rw [c2]; exact .int _ _) (.cons _ _ _ _ (.sym 3) .nil))))
      · obtain c3 | c3 | c3 | c3 : (a3 = 1) ∨ (a3 = 2) ∨ (a3 = 3) ∨ (a3 ≠ 1 ∧ a3 ≠ 2 ∧ a3 ≠ 3) := by omega
        · exact go _ _ (app_told (told0_1 a0 a1 a2 a3 c0) (told1_1 a0 a1 a2 a3 c1)) row1_1_2_0 (.cons _ _ _ _ (.sym 0) (.cons _ _ _ _ (.sym 1) (.cons _ _ _ _ (by rw [c2]; exact .int _ _) (.cons _ _ _ _ (by rw [c3]; exact .int _ _) .nil))))
        · exact go _ _ (app_told (told0_1 a0 a1 a2 a3 c0) (told1_1 a0 a1 a2 a3 c1)) row1_1_2_1 (.cons _ _ _ _ (.sym 0) (.cons _ _ _ _ (.sym 1) (.cons _ _ _ _ (by rw [c2]; exact .int _ _) (.cons _ _ _ _ (by rw [c3]; exact .int _ _) .nil))))
        · exact go _ _ (app_told (told0_1 a0 a1 a2 a3 c0) (told1_1 a0 a1 a2 a3 c1)) row1_1_2_2 (.cons _ _ _ _ (.sym 0) (.cons _ _ _ _ (.sym 1) (.cons _ _ _ _ (by rw [c2]; exact .int _ _) (.cons _ _ _ _ (by rw [c3]; exact .int _ _) .nil))))
        · exact go _ _ (app_told (told0_1 a0 a1 a2 a3 c0) (app_told (told1_1 a0 a1 a2 a3 c1) (told3_3 a0 a1 a2 a3 c3))) row1_1_2_3 (.cons _ _ _ _ (.sym 0) (.cons _ _ _ _ (.sym 1) (.cons _ _ _ _ (by rw [c2]; exact .int _ _) (.cons _ _ _ _ (.sym 3) .nil))))
      · obtain c3 | c3 | c3 | c3 : (a3 = 1) ∨ (a3 = 2) ∨ (a3 = 3) ∨ (a3 ≠ 1 ∧ a3 ≠ 2 ∧ a3 ≠ 3) := by omega
        · exact go _ _ (app_told (told0_1 a0 a1 a2 a3 c0) (told1_1 a0 a1 a2 a3 c1)) row1_1_3_0 (.cons _ _ _ _ (.sym 0) (.cons _ _ _ _ (.sym 1) (.cons _ _ _ _ (by rw [c2]; exact .int _ _) (.cons _ _ _ _ (by rw [c3]; exact .int _ _) .nil))))
        · exact go _ _ (app_told (told0_1 a0 a1 a2 a3 c0) (told1_1 a0 a1 a2 a3 c1)) row1_1_3_1 (.cons _ _ _ _ (.sym 0) (.cons _ _ _ _ (.sym 1) (.cons _ _ _ _ (by rw [c2]; exact .int _ _) (.cons _ _ _ _ (by rw [c3]; exact .int _ _) .nil))))
        · exact go _ _ (app_told (told0_1 a0 a1 a2 a3 c0) (told1_1 a0 a1 a2 a3 c1)) row1_1_3_2 (.cons _ _ _ _ (.sym 0) (.cons _ _ _ _ (.sym 1) (.cons _ _ _ _ (by rw [c2]; exact .int _ _) (.cons _ _ _ _ (by rw [c3]; exact .int _ _) .nil))))
        · exact go _ _ (app_told (told0_1 a0 a1 a2 a3 c0) (app_told (told1_1 a0 a1 a2 a3 c1) (told3_3 a0 a1 a2 a3 c3))) row1_1_3_3 (.cons _ _ _ _ (.sym 0) (.cons _ _ _ _ (.sym 1) (.cons _ _ _ _ (by rw [c2]; exact .int _ _) (.cons _ _ _ _ (.sym 3) .nil))))
      · obtain c3 | c3 | c3 | c3 : (a3 = 1) ∨ (a3 = 2) ∨ (a3 = 3) ∨ (a3 ≠ 1 ∧ a3 ≠ 2 ∧ a3 ≠ 3) := by omega
        · exact go _ _ (app_told (told0_1 a0 a1 a2 a3 c0) (told1_1 a0 a1 a2 a3 c1)) row1_1_4_0 (.cons _ _ _ _ (.sym 0) (.cons _ _ _ _ (.sym 1) (.cons _ _ _ _ (by rw [c2]; exact .int _ _) (.cons _ _ _ _ (by rw [c3]; exact .int _ _) .nil))))
        · exact go _ _ (app_told (told0_1 a0 a1 a2 a3 c0) (told1_1 a0 a1 a2 a3 c1)) row1_1_4_1 (.cons _ _ _ _ (.sym 0) (.cons _ _ _ _ (.sym 1) (.cons _ _ _ _ (by rw [c2]; exact .int _ _) (.cons _ _ _ _ (by rw [c3]; exact .int _ _) .nil))))
        · exact go _ _ (app_told (told0_1 a0 a1 a2 a3 c0) (told1_1 a0 a1 a2 a3 c1)) row1_1_4_2 (.cons _ _ _ _ (.sym 0) (.cons _ _ _ _ (.sym 1) (.cons _ _ _ _ (by rw [c2]; exact .int _ _) (.cons _ _ _ _ (by rw [c3]; exact .int _ _) .nil))))
        · exact go _ _ (app_told (told0_1 a0 a1 a2 a3 c0) (app_told (told1_1 a0 a1 a2 a3 c1) (told3_3 a0 a1 a2 a3 c3))) row1_1_4_3 (.cons _ _ _ _ (.sym 0) (.cons _ _ _ _ (.sym 1) (.cons _ _ _ _ (by rw [c2]; exact .int _ _) (.cons _ _ _ _ (.sym 3) .nil))))
      · obtain c3 | c3 | c3 | c3 : (a3 = 1) ∨ (a3 = 2) ∨ (a3 = 3) ∨ (a3 ≠ 1 ∧ a3 ≠ 2 ∧ a3 ≠ 3) := by omega
        · exact go _ _ (app_told (told0_1 a0 a1 a2 a3 c0) (told1_1 a0 a1 a2 a3 c1)) row1_1_5_0 (.cons _ _ _ _ (.sym 0) (.cons _ _ _ _ (.sym 1) (.cons _ _ _ _ (by rw [c2]; exact .int _ _) (.cons _ _ _ _ (by rw [c3]; exact .int _ _) .nil))))
        · exact go _ _ (app_told (told0_1 a0 a1 a2 a3 c0) (told1_1 a0 a1 a2 a3 c1)) row1_1_5_1 (.cons _ _ _ _ (.sym 0) (.cons _ _ _ _ (.sym 1) (.cons _ _ _ _ (by rw [c2]; exact .int _ _) (.cons _ _ _ _ (by rw [c3]; exact .int _ _) .nil))))
        · exact go _ _ (app_told (told0_1 a0 a1 a2 a3 c0) (told1_1 a0 a1 a2 a3 c1)) row1_1_5_2 (.cons _ _ _ _ (.sym 0) (.cons _ _ _ _ (.sym 1) (.cons _ _ _ _ (by rw [c2]; exact .int _ _) (.cons _ _ _ _ (by rw [c3]; exact .int _ _) .nil))))
        · exact go _ _ (app_told (told0_1 a0 a1 a2 a3 c0) (app_told (told1_1 a0 a1 a2 a3 c1) (told3_3 a0 a1 a2 a3 c3))) row1_1_5_3 (.cons _ _ _ _ (.sym 0) (.cons _ _ _ _ (.sym 1) (.cons _ _ _ _ (by rw [c2]; exact .int _ _) (.cons _ _ _ _ (.sym 3) .nil))))
      · obtain c3 | c3 | c3 | c3 : (a3 = 1) ∨ (a3 = 2) ∨ (a3 = 3) ∨ (a3 ≠ 1 ∧ a3 ≠ 2 ∧ a3 ≠ 3) := by omega
        · exact go _ _ (app_told (told0_1 a0 a1 a2 a3 c0) (told1_1 a0 a1 a2 a3 c1)) row1_1_6_0 (.cons _ _ _ _ (.sym 0) (.cons _ _ _ _ (.sym 1) (.cons _ _ _ _ (by rw [c2]; exact .int _ _) (.cons _ _ _ _ (by rw [c3]; exact .int _ _) .nil))))
        · exact go _ _ (app_told (told0_1 a0 a1 a2 a3 c0) (told1_1 a0 a1 a2 a3 c1)) row1_1_6_1 (.cons _ _ _ _ (.sym 0) (.cons _ _ _ _ (.sym 1) (.cons _ _ _ _ (by rw [c2]; exact .int _ _) (.cons _ _ _ _ (by rw [c3]; exact .int _ _) .nil))))
        · exact go _ _ (app_told (told0_1 a0 a1 a2 a3 c0) (told1_1 a0 a1 a2 a3 c1)) row1_1_6_2 (.cons _ _ _ _ (.sym 0) (.cons _ _ _ _ (.sym 1) (.cons _ _ _ _ (by rw [c2]; exact .int _ _) (.cons _ _ _ _ (by rw [c3]; exact .int _ _) .nil))))
        · exact go _ _ (app_told (told0_1 a0 a1 a2 a3 c0) (app_told (told1_1 a0 a1 a2 a3 c1) (told3_3 a0 a1 a2 a3 c3))) row1_1_6_3 (.cons _ _ _ _ (.sym 0) (.cons _ _ _ _ (.sym 1) (.cons _ _ _ _ (by rw [c2]; exact .int _ _) (.cons _ _ _ _ (.sym 3) .nil))))
      · obtain c3 | c3 | c3 | c3 : (a3 = 1) ∨ (a3 = 2) ∨ (a3 = 3) ∨ (a3 ≠ 1 ∧ a3 ≠ 2 ∧ a3 ≠ 3) := by omega
        · exact go _ _ (app_told (told0_1 a0 a1 a2 a3 c0) (told1_1 a0 a1 a2 a3 c1)) row1_1_7_0 (.cons _ _ _ _ (.sym 0) (.cons _ _ _ _ (.sym 1) (.cons _ _ _ _ (by rw [c2]; exact .int _ _) (.cons _ _ _ _ (by rw [c3]; exact .int _ _) .nil))))
        · exact go _ _ (app_told (told0_1 a0 a1 a2 a3 c0) (told1_1 a0 a1 a2 a3 c1)) row1_1_7_1 (.cons _ _ _ _ (.sym 0) (.cons _ _ _ _ (.sym 1) (.cons _ _ _ _ (by rw [c2]; exact .int _ _) (.cons _ _ _ _ (by rw [c3]; exact .int _ _) .nil))))
        · exact go _ _ (app_told (told0_1 a0 a1 a2 a3 c0) (told1_1 a0 a1 a2 a3 c1)) row1_1_7_2 (.cons _ _ _ _ (.sym 0) (.cons _ _ _ _ (.sym 1) (.cons _ _ _ _ (by rw [c2]; exact .int _ _) (.cons _ _ _ _ (by rw [c3]; exact .int _ _) .nil))))
        · exact go _ _ (app_told (told0_1 a0 a1 a2 a3 c0) (app_told (told1_1 a0 a1 a2 a3 c1) (told3_3 a0 a1 a2 a3 c3))) row1_1_7_3 (.cons _ _ _ _ (.sym 0) (.cons _ _ _ _ (.sym 1) (.cons _ _ _ _ (by rw [c2]; exact .int _ _) (.cons _ _ _ _ (.sym 3) .nil))))
      · obtain c3 | c3 | c3 | c3 : (a3 = 1) ∨ (a3 = 2) ∨ (a3 = 3) ∨ (a3 ≠ 1 ∧ a3 ≠ 2 ∧ a3 ≠ 3) := by omega
        · exact go _ _ (app_told (told0_1 a0 a1 a2 a3 c0) (app_told (told1_1 a0 a1 a2 a3 c1) (told2_8 a0 a1 a2 a3 c2))) row1_1_8_0 (.cons _ _ _ _ (.sym 0) (.cons _ _ _ _ (.sym 1) (.cons _ _ _ _ (.sym 2) (.cons _ _ _ _ (by rw [c3]; exact .int _ _) .nil))))
        · exact go _ _ (app_told (told0_1 a0 a1 a2 a3 c0) (app_told (told1_1 a0 a1 a2 a3 c1) (told2_8 a0 a1 a2 a3 c2))) row1_1_8_1 (.cons _ _ _ _ (.sym 0) (.cons _ _ _ _ (.sym 1) (.cons _ _ _ _ (.sym 2) (.cons _ _ _ _ (by rw [c3]; exact .int _ _) .nil))))
        · exact go _ _ (app_told (told0_1 a0 a1 a2 a3 c0) (app_told (told1_1 a0 a1 a2 a3 c1) (told2_8 a0 a1 a2 a3 c2))) row1_1_8_2 (.cons _ _ _ _ (.sym 0) (.cons _ _ _ _ (.sym 1) (.cons _ _ _ _ (.sym 2) (.cons _ _ _ _ (by rw [c3]; exact .int _ _) .nil))))
        · exact go _ _ (app_told (told0_1 a0 a1 a2 a3 c0) (app_told (told1_1 a0 a1 a2 a3 c1) (app_told (told2_8 a0 a1 a2 a3 c2) (told3_3 a0 a1 a2 a3 c3)))) row1_1_8_3 (.cons _ _ _ _ (.sym 0) (.cons _ _ _ _ (.sym 1) (.cons _ _ _ _ (.sym 2) (.cons _ _ _ _ (.sym 3) .nil))))
      · obtain c3 | c3 | c3 | c3 : (a3 = 1) ∨ (a3 = 2) ∨ (a3 = 3) ∨ (a3 ≠ 1 ∧ a3 ≠ 2 ∧ a3 ≠ 3) := by omega
        · exact go _ _ (app_told (told0_1 a0 a1 a2 a3 c0) (app_told (told1_1 a0 a1 a2 a3 c1) (told2_9 a0 a1 a2 a3 c2))) row1_1_9_0 (.cons _ _ _ _ (.sym 0) (.cons _ _ _ _ (.sym 1) (.cons _ _ _ _ (.sym 2) (.cons _ _ _ _ (by rw [c3]; exact .int _ _) .nil))))
        · exact go _ _ (app_told (told0_1 a0 a1 a2 a3 c0) (app_told (told1_1 a0 a1 a2 a3 c1) (told2_9 a0 a1 a2 a3 c2))) row1_1_9_1 (.cons _ _ _ _ (.sym 0) (.cons _ _ _ _ (.sym 1) (.cons _ _ _ _ (.sym 2) (.cons _ _ _ _ (by rw [c3]; exact .int _ _) .nil))))
        · exact go _ _ (app_told (told0_1 a0 a1 a2 a3 c0) (app_told (told1_1 a0 a1 a2 a3 c1) (told2_9 a0 a1 a2 a3 c2))) row1_1_9_2 (.cons _ _ _ _ (.sym 0) (.cons _ _ _ _ (.sym 1) (.cons _ _ _ _ (.sym 2) (.cons _ _ _ _ (by rw [c3]; exact .int _ _) .nil))))
        · exact go _ _ (app_told (told0_1 a0 a1 a2 a3 c0) (app_told (told1_1 a0 a1 a2 a3 c1) (app_told (told2_9 a0 a1 a2 a3 c2) (told3_3 a0 a1 a2 a3 c3)))) row1_1_9_3 (.cons _ _ _ _ (.sym 0) (.cons _ _ _ _ (.sym 1) (.cons _ _ _ _ (.sym 2) (.cons _ _ _ _ (.sym 3) .nil))))
    · obtain c2 | c2 | c2 | c2 | c2 | c2 | c2 | c2 | c2 | c2 : (a2 = 0) ∨ (a2 = 1) ∨ (a2 = 2) ∨ (a2 = 3) ∨ (a2 = 4) ∨ (a2 = 5) ∨ (a2 = 6) ∨ (a2 = 7) ∨ (a2 < 0) ∨ (8 ≤ a2) := by omega
      · obtain c3 | c3 | c3 | c3 : (a3 = 1) ∨ (a3 = 2) ∨ (a3 = 3) ∨ (a3 ≠ 1 ∧ a3 ≠ 2 ∧ a3 ≠ 3) := by omega
        · exact go _ _ (app_told (told0_1 a0 a1 a2 a3 c0) (told1_2 a0 a1 a2 a3 c1)) row1_2_0_0 (.cons _ _ _ _ (.sym 0) (.cons _ _ _ _ (.sym 1) (.cons _ _ _ _ (by rw [c2]; exact .int _ _) (.cons _ _ _ _ (by rw [c3]; exact .int _ _) .nil))))
        · exact go _ _ (app_told (told0_1 a0 a1 a2 a3 c0) (told1_2 a0 a1 a2 a3 c1)) row1_2_0_1 (.cons _ _ _ _ (.sym 0) (.cons _ _ _ _ (.sym 1) (.cons _ _ _ _ (by rw [c2]; exact .int _ _) (.cons _ _ _ _ (by rw [c3]; exact .int _ _) .nil))))
        · exact go _ _ (app_told (told0_1 a0 a1 a2 a3 c0) (told1_2 a0 a1 a2 a3 c1)) row1_2_0_2 (.cons _ _ _ _ (.sym 0) (.cons _ _ _ _ (.sym 1) (.cons _ _ _ _ (by rw [c2]; exact .int _ _) (.cons _ _ _ _ (by rw [c3]; exact .int _ _) .nil))))
        · exact go _ _ (app_told (told0_1 a0 a1 a2 a3 c0) (app_told (told1_2 a0 a1 a2 a3 c1) (told3_3 a0 a1 a2 a3 c3))) row1_2_0_3 (.cons _ _ _ _ (.sym 0) (.cons _ _ _ _ (.sym 1) (.cons _ _ _ _ (by rw [c2]; exact .int _ _) (.cons _ _ _ _ (.sym 3) .nil))))
      · obtain c3 | c3 | c3 | c3 : (a3 = 1) ∨ (a3 = 2) ∨ (a3 = 3) ∨ (a3 ≠ 1 ∧ a3 ≠ 2 ∧ a3 ≠ 3) := by omega
        · exact go _ _ (app_told (told0_1 a0 a1 a2 a3 c0) (told1_2 a0 a1 a2 a3 c1)) row1_2_1_0 (.cons _ _ _ _ (.sym 0) (.cons _ _ _ _ (.sym 1) (.cons _ _ _ _ (by rw [c2]; exact .int _ _) (.cons _ _ _ _ (by rw [c3]; exact .int _ _) .nil))))
        · exact go _ _ (app_told (told0_1 a0 a1 a2 a3 c0) (told1_2 a0 a1 a2 a3 c1)) row1_2_1_1 (.cons _ _ _ _ (.sym 0) (.cons _ _ _ _ (.sym 1) (.cons _ _ _ _ (by rw [c2]; exact .int _ _) (.cons _ _ _ _ (by rw [c3]; exact .int _ _) .nil))))
        · exact go _ _ (app_told (told0_1 a0 a1 a2 a3 c0) (told1_2 a0 a1 a2 a3 c1)) row1_2_1_2 (.cons _ _ _ _ (.sym 0) (.cons _ _ _ _ (.sym 1) (.cons _ _ _ _ (by rw [c2]; exact .int _ _) (.cons _ _ _ _ (by rw [c3]; exact .int _ _) .nil))))
        · exact go _ _ (app_told (told0_1 a0 a1 a2 a3 c0) (app_told (told1_2 a0 a1 a2 a3 c1) (told3_3 a0 a1 a2 a3 c3))) row1_2_1_3 (.cons _ _ _ _ (.sym 0) (.cons _ _ _ _ (.sym 1) (.cons _ _ _ _ (by rw [c2]; exact .int _ _) (.cons _ _ _ _ (.sym 3) .nil))))
      · obtain c3 | c3 | c3 | c3 : (a3 = 1) ∨ (a3 = 2) ∨ (a3 = 3) ∨ (a3 ≠ 1 ∧ a3 ≠ 2 ∧ a3 ≠ 3) := by omega
        · exact go _ _ (app_told (told0_1 a0 a1 a2 a3 c0) (told1_2 a0 a1 a2 a3 c1)) row1_2_2_0 (.cons _ _ _ _ (.sym 0) (.cons _ _ _ _ (.sym 1) (.cons _ _ _ _ (by rw [c2]; exact .int _ _) (.cons _ _ _ _ (by rw [c3]; exact .int _ _) .nil))))
        · exact go _ _ (app_told (told0_1 a0 a1 a2 a3 c0) (told1_2 a0 a1 a2 a3 c1)) row1_2_2_1 (.cons _ _ _ _ (.sym 0) (.cons _ _ _ _ (.sym 1) (.cons _ _ _ _ (by rw [c2]; exact .int _ _) (.cons _ _ _ _ (by rw [c3]; exact .int _ _) .nil))))
        · exact go _ _ (app_told (told0_1 a0 a1 a2 a3 c0) (told1_2 a0 a1 a2 a3 c1)) row1_2_2_2 (.cons _ _ _ _ (.sym 0) (.cons _ _ _ _ (.sym 1) (.cons _ _ _ _ (by rw [c2]; exact .int _ _) (.cons _ _ _ _ (by rw [c3]; exact .int _ _) .nil))))
        · exact go _ _ (app_told (told0_1 a0 a1 a2 a3 c0) (app_told (told1_2 a0 a1 a2 a3 c1) (told3_3 a0 a1 a2 a3 c3))) row1_2_2_3 (.cons _ _ _ _ (.sym 0) (.cons _ _ _ _ (.sym 1) (.cons _ _ _ _ (by rw [c2]; exact .int _ _) (.cons _ _ _ _ (.sym 3) .nil))))
      · obtain c3 | c3 | c3 | c3 : (a3 = 1) ∨ (a3 = 2) ∨ (a3 = 3) ∨ (a3 ≠ 1 ∧ a3 ≠ 2 ∧ a3 ≠ 3) := by omega
        · exact go _ _ (app_told (told0_1 a0 a1 a2 a3 c0) (told1_2 a0 a1 a2 a3 c1)) row1_2_3_0 (.cons _ _ _ _ (.sym 0) (.cons _ _ _ _ (.sym 1) (.cons _ _ _ _ (by rw [c2]; exact .int _ _) (.cons _ _ _ _ (by rw [c3]; exact .int _ _) .nil))))
        · exact go _ _ (app_told (told0_1 a0 a1 a2 a3 c0) (told1_2 a0 a1 a2 a3 c1)) row1_2_3_1 (.cons _ _ _ _ (.sym 0) (.cons _ _ _ _ (.sym 1) (.cons _ _ _ _ (by rw [c2]; exact .int _ _) (.cons _ _ _ _ (by rw [c3]; exact .int _ _) .nil))))
        · exact go _ _ (app_told (told0_1 a0 a1 a2 a3 c0) (told1_2 a0 a1 a2 a3 c1)) row1_2_3_2 (.cons _ _ _ _ (.sym 0) (.cons _ _ _ _ (.sym 1) (.cons _ _ _ _ (by rw [c2]; exact .int _ _) (.cons _ _ _ _ (by rw [c3]; exact .int _ _) .nil))))
        · exact go _ _ (app_told (told0_1 a0 a1 a2 a3 c0) (app_told (told1_2 a0 a1 a2 a3 c1) (told3_3 a0 a1 a2 a3 c3))) row1_2_3_3 (.cons _ _ _ _ (.sym 0) (.cons _ _ _ _ (.sym 1) (.cons _ _ _ _ (by rw [c2]; exact .int _ _) (.cons _ _ _ _ (.sym 3) .nil))))
      · obtain c3 | c3 | c3 | c3 : (a3 = 1) ∨ (a3 = 2) ∨ (a3 = 3) ∨ (a3 ≠ 1 ∧ a3 ≠ 2 ∧ a3 ≠ 3) := by omega
        · exact go _ _ (app_told (told0_1 a0 a1 a2 a3 c0) (told1_2 a0 a1 a2 a3 c1)) row1_2_4_0 (.cons _ _ _ _ (.sym 0) (.cons _ _ _ _ (.sym 1) (.cons _ _ _ _ (by rw [c2]; exact .int _ _) (.cons _ _ _ _ (by rw [c3]; exact .int _ _) .nil))))
        · exact go _ _ (app_told (told0_1 a0 a1 a2 a3 c0) (told1_2 a0 a1 a2 a3 c1)) row1_2_4_1 (.cons _ _ _ _ (.sym 0) (.cons _ _ _ _ (.sym 1) (.cons _ _ _ _ (by rw [c2]; exact .int _ _) (.cons _ _ _ _ (by rw [c3]; exact .int _ _) .nil))))
        · exact go _ _ (app_told (told0_1 a0 a1 a2 a3 c0) (told1_2 a0 a1 a2 a3 c1)) row1_2_4_2 (.cons _ _ _ _ (.sym 0) (.cons _ _ _ _ (.sym 1) (.cons _ _ _ _ (by rw [c2]; exact .int _ _) (.cons _ _ _ _ (by rw [c3]; exact .int _ _) .nil))))
        · exact go _ _ (app_told (told0_1 a0 a1 a2 a3 c0) (app_told (told1_2 a0 a1 a2 a3 c1) (told3_3 a0 a1 a2 a3 c3))) row1_2_4_3 (.cons _ _ _ _ (.sym 0) (.cons _ _ _ _ (.sym 1) (.cons _ _ _ _ (by rw [c2]; exact .int _ _) (.cons _ _ _ _ (.sym 3) .nil))))
      · obtain c3 | c3 | c3 | c3 : (a3 = 1) ∨ (a3 = 2) ∨ (a3 = 3) ∨ (a3 ≠ 1 ∧ a3 ≠ 2 ∧ a3 ≠ 3) := by omega
        · exact go _ _ (app_told (told0_1 a0 a1 a2 a3 c0) (told1_2 a0 a1 a2 a3 c1)) row1_2_5_0 (.cons _ _ _ _ (.sym 0) (.cons _ _ _ _ (.sym 1) (.cons _ _ _ _ (by rw [c2]; exact .int _ _) (.cons _ _ _ _ (by rw [c3]; exact .int _ _) .nil))))
        · exact go _ _ (app_told (told0_1 a0 a1 a2 a3 c0) (told1_2 a0 a1 a2 a3 c1)) row1_2_5_1 (.cons _ _ _ _ (.sym 0) (.cons _ _ _ _ (.sym 1) (.cons _ _ _ _ (by rw [c2]; exact .int _ _) (.cons _ _ _ _ (by rw [c3]; exact .int _ _) .nil))))
        · exact go _ _ (app_told (told0_1 a0 a1 a2 a3 c0) (told1_2 a0 a1 a2 a3 c1)) row1_2_5_2 (.cons _ _ _ _ (.sym 0) (.cons _ _ _ _ (.sym 1) (.cons _ _ _ _ (by rw [c2]; exact .int _ _) (.cons _ _ _ _ (by rw [c3]; exact .int _ _) .nil))))
        · exact go _ _ (app_told (told0_1 a0 a1 a2 a3 c0) (app_told (told1_2 a0 a1 a2 a3 c1) (told3_3 a0 a1 a2 a3 c3))) row1_2_5_3 (.cons _ _ _ _ (.sym 0) (.cons _ _ _ _ (.sym 1) (.cons _ _ _ _ (by rw [c2]; exact .int _ _) (.cons _ _ _ _ (.sym 3) .nil))))
      · obtain c3 | c3 | c3 | c3 : (a3 = 1) ∨ (a3 = 2) ∨ (a3 = 3) ∨ (a3 ≠ 1 ∧ a3 ≠ 2 ∧ a3 ≠ 3) := by omega
        · exact go _ _ (app_told (told0_1 a0 a1 a2 a3 c0) (told1_2 a0 a1 a2 a3 c1)) row1_2_6_0 (.cons _ _ _ _ (.sym 0) (.cons _ _ _ _ (.sym 1) (.cons _ _ _ _ (by rw [c2]; exact .int _ _) (.cons _ _ _ _ (by rw [c3]; exact .int _ _) .nil))))
        · exact go _ _ (app_told (told0_1 a0 a1 a2 a3 c0) (told1_2 a0 a1 a2 a3 c1)) row1_2_6_1 (.cons _ _ _ _ (.sym 0) (.cons _ _ _ _ (.sym 1) (.cons _ _ _ _ (by rw [c2]; exact .int _ _) (.cons _ _ _ _ (by rw [c3]; exact .int _ _) .nil))))
        · exact go _ _ (app_told (told0_1 a0 a1 a2 a3 c0) (told1_2 a0 a1 a2 a3 c1)) row1_2_6_2 (.cons _ _ _ _ (.sym 0) (.cons _ _ _ _ (.sym 1) (.cons _ _ _ _ (by rw [c2]; exact .int _ _) (.cons _ _ _ _ (by rw [c3]; exact .int _ _) .nil))))
        · exact go _ _ (app_told (told0_1 a0 a1 a2 a3 c0) (app_told (told1_2 a0 a1 a2 a3 c1) (told3_3 a0 a1 a2 a3 c3))) row1_2_6_3 (.cons _ _ _ _ (.sym 0) (.cons _ _ _ _ (.sym 1) (.cons _ _ _ _ (by rw [c2]; exact .int _ _) (.cons _ _ _ _ (.sym 3) .nil))))
      · obtain c3 | c3 | c3 | c3 : (a3 = 1) ∨ (a3 = 2) ∨ (a3 = 3) ∨ (a3 ≠ 1 ∧ a3 ≠ 2 ∧ a3 ≠ 3) := by omega
        · exact go _ _ (app_told (told0_1 a0 a1 a2 a3 c0) (told1_2 a0 a1 a2 a3 c1)) row1_2_7_0 (.cons _ _ _ _ (.sym 0) (.cons _ _ _ _ (.sym 1) (.cons _ _ _ _ (by rw [c2]; exact .int _ _) (.cons _ _ _ _ (by rw [c3]; exact .int _ _) .nil))))
        · exact go _ _ (app_told (told0_1 a0 a1 a2 a3 c0) (told1_2 a0 a1 a2 a3 c1)) row1_2_7_1 (.cons _ _ _ _ (.sym 0) (.cons _ _ _ _ (.sym 1) (.cons _ _ _ _ (by rw [c2]; exact .int _ _) (.cons _ _ _ _ (by rw [c3]; exact .int _ _) .nil))))
        · exact go _ _ (app_told (told0_1 a0 a1 a2 a3 c0) (told1_2 a0 a1 a2 a3 c1)) row1_2_7_2 (.cons _ _ _ _ (.sym 0) (.cons _ _ _ _ (.sym 1) (.cons _ _ _ _ (by rw [c2]; exact .int _ _) (.cons _ _ _ _ (by rw [c3]; exact .int _ _) .nil))))
        · exact go _ _ (app_told (told0_1 a0 a1 a2 a3 c0) (app_told (told1_2 a0 a1 a2 a3 c1) (told3_3 a0 a1 a2 a3 c3))) row1_2_7_3 (.cons _ _ _ _ (.sym 0) (.cons _ _ _ _ (.sym 1) (.cons _ _ _ _ (by rw [c2]; exact .int _ _) (.cons _ _ _ _ (.sym 3) .nil))))
      · obtain c3 | c3 | c3 | c3 : (a3 = 1) ∨ (a3 = 2) ∨ (a3 = 3) ∨ (a3 ≠ 1 ∧ a3 ≠ 2 ∧ a3 ≠ 3) := by omega
        · exact go _ _ (app_told (told0_1 a0 a1 a2 a3 c0) (app_told (told1_2 a0 a1 a2 a3 c1) (told2_8 a0 a1 a2 a3 c2))) row1_2_8_0 (.cons _ _ _ _ (.sym 0) (.cons _ _ _ _ (.sym 1) (.cons _ _ _ _ (.sym 2) (.cons _ _ _ _ (by rw [c3]; exact .int _ _) .nil))))
        · exact go _ _ (app_told (told0_1 a0 a1 a2 a3 c0) (app_told (told1_2 a0 a1 a2 a3 c1) (told2_8 a0 a1 a2 a3 c2))) row1_2_8_1 (.cons _ _ _ _ (.sym 0) (.cons _ _ _ _ (.sym 1) (.cons _ _ _ _ (.sym 2) (.cons _ _ _ _ (by rw [c3]; exact .int _ _) .nil))))
        · exact go _ _ (app_told (told0_1 a0 a1 a2 a3 c0) (app_told (told1_2 a0 a1 a2 a3 c1) (told2_8 a0 a1 a2 a3 c2))) row1_2_8_2 (.cons _ _ _ _ (.sym 0) (.cons _ _ _ _ (.sym 1) (.cons _ _ _ _ (.sym 2) (.cons _ _ _ _ (by rw [c3]; exact .int _ _) .nil))))
        · exact go _ _ (app_told (told0_1 a0 a1 a2 a3 c0) (app_told (told1_2 a0 a1 a2 a3 c1) (app_told (told2_8 a0 a1 a2 a3 c2) (told3_3 a0 a1 a2 a3 c3)))) row1_2_8_3 (.cons _ _ _ _ (.sym 0) (.cons _ _ _ _ (.sym 1) (.cons _ _ _ _ (.sym 2) (.cons _ _ _ _ (.sym 3) .nil))))
      · obtain c3 | c3 | c3 | c3 : (a3 = 1) ∨ (a3 = 2) ∨ (a3 = 3) ∨ (a3 ≠ 1 ∧ a3 ≠ 2 ∧ a3 ≠ 3) := by omega
        · exact go _ _ (app_told (told0_1 a0 a1 a2 a3 c0) (app_told (told1_2 a0 a1 a2 a3 c1) (told2_9 a0 a1 a2 a3 c2))) row1_2_9_0 (.cons _ _ _ _ (.sym 0) (.cons _ _ _ _ (.sym 1) (.cons _ _ _ _ (.sym 2) (.cons _ _ _ _ (by rw [c3]; exact .int _ _) .nil))))
        · exact go _ _ (app_told (told0_1 a0 a1 a2 a3 c0) (app_told (told1_2 a0 a1 a2 a3 c1) (told2_9 a0 a1 a2 a3 c2))) row1_2_9_1 (.cons _ _ _ _ (.sym 0) (.cons _ _ _ _ (.sym 1) (.cons _ _ _ _ (.sym 2) (.cons _ _ _ _ (by rw [c3]; exact .int _ _) .nil))))
        · exact go _ _ (app_told (told0_1 a0 a1 a2 a3 c0) (app_told (told1_2 a0 a1 a2 a3 c1) (told2_9 a0 a1 a2 a3 c2))) row1_2_9_2 (.cons _ _ _ _ (.sym 0) (.cons _ _ _ _ (.sym 1) (.cons _ _ _ _ (.sym 2) (.cons _ _ _ _ (by rw [c3]; exact .int _ _) .nil))))
        · exact go _ _ (app_told (told0_1 a0 a1 a2 a3 c0) (app_told (told1_2 a0 a1 a2 a3 c1) (app_told (told2_9 a0 a1 a2 a3 c2) (told3_3 a0 a1 a2 a3 c3)))) row1_2_9_3 (.cons _ _ _ _ (.sym 0) (.cons _ _ _ _ (.sym 1) (.cons _ _ _ _ (.sym 2) (.cons _ _ _ _ (.sym 3) .nil))))
  · obtain c1 | c1 | c1 : (a1 < 0) ∨ (0 ≤ a1 ∧ a1 ≤ 100) ∨ (100 < a1) := by omega
    · obtain c2 | c2 | c2 | c2 | c2 | c2 | c2 | c2 | c2 | c2 : (a2 = 0) ∨ (a2 = 1) ∨ (a2 = 2) ∨ (a2 = 3) ∨ (a2 = 4) ∨ (a2 = 5) ∨ (a2 = 6) ∨ (a2 = 7) ∨ (a2 < 0) ∨ (8 ≤ a2) := by omega
      · obtain c3 | c3 | c3 | c3 : (a3 = 1) ∨ (a3 = 2) ∨ (a3 = 3) ∨ (a3 ≠ 1 ∧ a3 ≠ 2 ∧ a3 ≠ 3) := by omega
        · exact go _ _ (app_told (told0_2 a0 a1 a2 a3 c0) (told1_0 a0 a1 a2 a3 c1)) row2_0_0_0 (.cons _ _ _ _ (.sym 0) (.cons _ _ _ _ (.sym 1) (.cons _ _ _ _ (by rw [c2]; exact .int _ _) (.cons _ _ _ _ (by rw [c3]; exact .int _ _) .nil))))
        · exact go _ _ (app_told (told0_2 a0 a1 a2 a3 c0) (told1_0 a0 a1 a2 a3 c1)) row2_0_0_1 (.cons _ _ _ _ (.sym 0) (.cons _ _ _ _ (.sym 1) (.cons _ _ _ _ (by rw [c2]; exact .int _ _) (.cons _ _ _ _ (by rw [c3]; exact .int _ _) .nil))))
        · exact go _ _ (app_told (told0_2 a0 a1 a2 a3 c0) (told1_0 a0 a1 a2 a3 c1)) row2_0_0_2 (.cons _ _ _ _ (.sym 0) (.cons _ _ _ _ (.sym 1) (.cons _ _ _ _ (by rw [c2]; exact .int _ _) (.cons _ _ _ _ (by rw [c3]; exact .int _ _) .nil))))
        · exact go _ _ (app_told (told0_2 a0 a1 a2 a3 c0) (app_told (told1_0 a0 a1 a2 a3 c1) (told3_3 a0 a1 a2 a3 c3))) row2_0_0_3 (.cons _ _ _ _ (.sym 0) (.cons _ _ _ _ (.sym 1) (.cons _ _ _ _ (by rw [c2]; exact .int _ _) (.cons _ _ _ _ (.sym 3) .nil))))
      · obtain c3 | c3 | c3 | c3 : (a3 = 1) ∨ (a3 = 2) ∨ (a3 = 3) ∨ (a3 ≠ 1 ∧ a3 ≠ 2 ∧ a3 ≠ 3) := by omega
        · exact go _ _ (app_told (told0_2 a0 a1 a2 a3 c0) (told1_0 a0 a1 a2 a3 c1)) row2_0_1_0 (.cons _ _ _ _ (.sym 0) (.cons _ _ _ _ (.sym 1) (.cons _ _ _ _ (by rw [c2]; exact .int _ _) (.cons _ _ _ _ (by rw [c3]; exact .int _ _) .nil))))
        · exact go _ _ (app_told (told0_2 a0 a1 a2 a3 c0) (told1_0 a0 a1 a2 a3 c1)) row2_0_1_1 (.cons _ _ _ _ (.sym 0) (.cons _ _ _ _ (.sym 1) (.cons _ _ _ _ (by rw [c2]; exact .int _ _) (.cons _ _ _ _ (by rw [c3]; exact .int _ _) .nil))))
        · exact go _ _ (app_told (told0_2 a0 a1 a2 a3 c0) (told1_0 a0 a1 a2 a3 c1)) row2_0_1_2 (.cons _ _ _ _ (.sym 0) (.cons _ _ _ _ (.sym 1) (.cons _ _ _ _ (by rw [c2]; exact .int _ _) (.cons _ _ _ _ (by rw [c3]; exact .int _ _) .nil))))
        · exact go _ _ (app_told (told0_2 a0 a1 a2 a3 c0) (app_told (told1_0 a0 a1 a2 a3 c1) (told3_3 a0 a1 a2 a3 c3))) row2_0_1_3 (.cons _ _ _ _ (.sym 0) (.cons _ _ _ _ (.sym 1) (.cons _ _ _ _ (by rw [c2]; exact .int _ _) (.cons _ _ _ _ (.sym 3) .nil))))
      · obtain c3 | c3 | c3 | c3 : (a3 = 1) ∨ (a3 = 2) ∨ (a3 = 3) ∨ (a3 ≠ 1 ∧ a3 ≠ 2 ∧ a3 ≠ 3) := by omega
        · exact go _ _ (app_told (told0_2 a0 a1 a2 a3 c0) (told1_0 a0 a1 a2 a3 c1)) row2_0_2_0 (.cons _ _ _ _ (.sym 0) (.cons _ _ _ _ (.sym 1) (.cons _ _ _ _ (by rw [c2]; exact .int _ _) (.cons _ _ _ _ (by rw [c3]; exact .int _ _) .nil))))
        · exact go _ _ (app_told (told0_2 a0 a1 a2 a3 c0) (told1_0 a0 a1 a2 a3 c1)) row2_0_2_1 (.cons _ _ _ _ (.sym 0) (.cons _ _ _ _ (.sym 1) (.cons _ _ _ _ (by rw [c2]; exact .int _ _) (.cons _ _ _ _ (by rw [c3]; exact .int _ _) .nil))))
        · exact go _ _ (app_told (told0_2 a0 a1 a2 a3 c0) (told1_0 a0 a1 a2 a3 c1)) row2_0_2_2 (.cons _ _ _ _ (.sym 0) (.cons _ _ _ _ (.sym 1) (.cons _ _ _ _ (by rw [c2]; exact .int _ _) (.cons _ _ _ _ (by rw [c3]; exact .int _ _) .nil))))
        · exact go _ _ (app_told (told0_2 a0 a1 a2 a3 c0) (app_told (told1_0 a0 a1 a2 a3 c1) (told3_3 a0 a1 a2 a3 c3))) row2_0_2_3 (.cons _ _ _ _ (.sym 0) (.cons _ _ _ _ (.sym 1) (.cons _ _ _ _ (by rw [c2]; exact .int _ _) (.cons _ _ _ _ (.sym 3) .nil))))
      · obtain c3 | c3 | c3 | c3 : (a3 = 1) ∨ (a3 = 2) ∨ (a3 = 3) ∨ (a3 ≠ 1 ∧ a3 ≠ 2 ∧ a3 ≠ 3) := by omega
        · exact go _ _ (app_told (told0_2 a0 a1 a2 a3 c0) (told1_0 a0 a1 a2 a3 c1)) row2_0_3_0 (.cons _ _ _ _ (.sym 0) (.cons _ _ _ _ (.sym 1) (.cons _ _ _ _ (by rw [c2]; exact .int _ _) (.cons _ _ _ _ (by rw [c3]; exact .int _ _) .nil))))
        · exact go _ _ (app_told (told0_2 a0 a1 a2 a3 c0) (told1_0 a0 a1 a2 a3 c1)) row2_0_3_1 (.cons _ _ _ _ (.sym 0) (.cons _ _ _ _ (.sym 1) (.cons _ _ _ _ (by rw [c2]; exact .int _ _) (.cons _ _ _ _ (by rw [c3]; exact .int _ _) .nil))))
        · exact go _ _ (app_told (told0_2 a0 a1 a2 a3 c0) (told1_0 a0 a1 a2 a3 c1)) row2_0_3_2 (.cons _ _ _ _ (.sym 0) (.cons _ _ _ _ (.sym 1) (.cons _ _ _ _ (by rw [c2]; exact .int _ _) (.cons _ _ _ _ (by rw [c3]; exact .int _ _) .nil))))
        · exact go _ _ (app_told (told0_2 a0 a1 a2 a3 c0) (app_told (told1_0 a0 a1 a2 a3 c1) (told3_3 a0 a1 a2 a3 c3))) row2_0_3_3 (.cons _ _ _ _ (.sym 0) (.cons _ _ _ _ (.sym 1) (.cons _ _ _ _ (by rw [c2]; exact .int _ _) (.cons _ _ _ _ (.sym 3) .nil))))
      · obtain c3 | c3 | c3 | c3 : (a3 = 1) ∨ (a3 = 2) ∨ (a3 = 3) ∨ (a3 ≠ 1 ∧ a3 ≠ 2 ∧ a3 ≠ 3) := by omega
        · exact go _ _ (app_told (told0_2 a0 a1 a2 a3 c0) (told1_0 a0 a1 a2 a3 c1)) row2_0_4_0 (.cons _ _ _ _ (.sym 0) (.cons _ _ _ _ (.sym 1) (.cons _ _ _ _ (by rw [c2]; exact .int _ _) (.cons _ _ _ _ (by rw [c3]; exact .int _ _) .nil))))
        · exact go _ _ (app_told (told0_2 a0 a1 a2 a3 c0) (told1_0 a0 a1 a2 a3 c1)) row2_0_4_1 (.cons _ _ _ _ (.sym 0) (.cons _ _ _ _ (.sym 1) (.cons _ _ _ _ (by rw [c2]; exact .int _ _) (.cons _ _ _ _ (by rw [c3]; exact .int _ _) .nil))))
        · exact go _ _ (app_told (told0_2 a0 a1 a2 a3 c0) (told1_0 a0 a1 a2 a3 c1)) row2_0_4_2 (.cons _ _ _ _ (.sym 0) (.cons _ _ _ _ (.sym 1) (.cons _ _ _ _ (by rw [c2]; exact .int _ _) (.cons _ _ _ _ (by rw [c3]; exact .int _ _) .nil))))
        · exact go _ _ (app_told (told0_2 a0 a1 a2 a3 c0) (app_told (told1_0 a0 a1 a2 a3 c1) (told3_3 a0 a1 a2 a3 c3))) row2_0_4_3 (.cons _ _ _ _ (.sym 0) (.cons _ _ _ _ (.sym 1) (.cons _ _ _ _ (by rw [c2]; exact .int _ _) (.cons _ _ _ _ (.sym 3) .nil))))
      · obtain c3 | c3 | c3 | c3 : (a3 = 1) ∨ (a3 = 2) ∨ (a3 = 3) ∨ (a3 ≠ 1 ∧ a3 ≠ 2 ∧ a3 ≠ 3) := by omega
        · exact go _ _ (app_told (told0_2 a0 a1 a2 a3 c0) (told1_0 a0 a1 a2 a3 c1)) row2_0_5_0 (.cons _ _ _ _ (.sym 0) (.cons _ _ _ _ (.sym 1) (.cons _ _ _ _ (by rw [c2]; exact .int _ _) (.cons _ _ _ _ (by rw [c3]; exact .int _ _) .nil))))
        · exact go _ _ (app_told (told0_2 a0 a1 a2 a3 c0) (told1_0 a0 a1 a2 a3 c1)) row2_0_5_1 (.cons _ _ _ _ (.sym 0) (.cons _ _ _ _ (.sym 1) (.cons _ _ _ _ (by rw [c2]; exact .int _ _) (.cons _ _ _ _ (by rw [c3]; exact .int _ _) .nil))))
        · exact go _ _ (app_told (told0_2 a0 a1 a2 a3 c0) (told1_0 a0 a1 a2 a3 c1)) row2_0_5_2 (.cons _ _ _ _ (.sym 0) (.cons _ _ _ _ (.sym 1) (.cons _ _ _ _ (by rw [c2]; exact .int _ _) (.cons _ _ _ _ (by rw [c3]; exact .int _ _) .nil))))
        · exact go _ _ (app_told (told0_2 a0 a1 a2 a3 c0) (app_told (told1_0 a0 a1 a2 a3 c1) (told3_3 a0 a1 a2 a3 c3))) row2_0_5_3 (.cons _ _ _ _ (.sym 0) (.cons _ _ _ _ (.sym 1) (.cons _ _ _ _ (by rw [c2]; exact .int _ _) (.cons _ _ _ _ (.sym 3) .nil))))
      · obtain c3 | c3 | c3 | c3 : (a3 = 1) ∨ (a3 = 2) ∨ (a3 = 3) ∨ (a3 ≠ 1 ∧ a3 ≠ 2 ∧ a3 ≠ 3) := by omega
        · exact go _ _ (app_told (told0_2 a0 a1 a2 a3 c0) (told1_0 a0 a1 a2 a3 c1)) row2_0_6_0 (.cons _ _ _ _ (.sym 0) (.cons _ _ _ _ (.sym 1) (.cons _ _ _ _ (by rw [c2]; exact .int _ _) (.cons _ _ _ _ (by rw [c3]; exact .int _ _) .nil))))
        · exact go _ _ (app_told (told0_2 a0 a1 a2 a3 c0) (told1_0 a0 a1 a2 a3 c1)) row2_0_6_1 (.cons _ _ _ _ (.sym 0) (.cons _ _ _ _ (.sym 1) (.cons _ _ _ _ (by rw [c2]; exact .int _ _) (.cons _ _ _ _ (by rw [c3]; exact .int _ _) .nil))))
        · exact go _ _ (app_told (told0_2 a0 a1 a2 a3 c0) (told1_0 a0 a1 a2 a3 c1)) row2_0_6_2 (.cons _ _ _ _ (.sym 0) (.cons _ _ _ _ (.sym 1) (.cons _ _ _ _ (by rw [c2]; exact .int _ _) (.cons _ _ _ _ (by rw [c3]; exact .int _ _) .nil))))
        · exact go _ _ (app_told (told0_2 a0 a1 a2 a3 c0) (app_told (told1_0 a0 a1 a2 a3 c1) (told3_3 a0 a1 a2 a3 c3))) row2_0_6_3 (.cons _ _ _ _ (.sym 0) (.cons _ _ _ _ (.sym 1) (.cons _ _ _ _ (by rw [c2]; exact .int _ _) (.cons _ _ _ _ (.sym 3) .nil))))
      · obtain c3 | c3 | c3 | c3 : (a3 = 1) ∨ (a3 = 2) ∨ (a3 = 3) ∨ (a3 ≠ 1 ∧ a3 ≠ 2 ∧ a3 ≠ 3) := by omega
        · exact go _ _ (app_told (told0_2 a0 a1 a2 a3 c0) (told1_0 a0 a1 a2 a3 c1)) row2_0_7_0 (.cons _ _ _ _ (.sym 0) (.cons _ _ _ _ (.sym 1) (.cons _ _ _ _ (by rw [c2]; exact .int _ _) (.cons _ _ _ _ (by rw [c3]; exact .int _ _) .nil))))
        · exact go _ _ (app_told (told0_2 a0 a1 a2 a3 c0) (told1_0 a0 a1 a2 a3 c1)) row2_0_7_1 (.cons _ _ _ _ (.sym 0) (.cons _ _ _ _ (.sym 1) (.cons _ _ _ _ (by rw [c2]; exact .int _ _) (.cons _ _ _ _ (by rw [c3]; exact .int _ _) .nil))))
        · exact go _ _ (app_told (told0_2 a0 a1 a2 a3 c0) (told1_0 a0 a1 a2 a3 c1)) row2_0_7_2 (.cons _ _ _ _ (.sym 0) (.cons _ _ _ _ (.sym 1) (.cons _ _ _ _ (by rw [c2]; exact .int _ _) (.cons _ _ _ _ (by rw [c3]; exact .int _ _) .nil))))
        · exact go _ _ (app_told (told0_2 a0 a1 a2 a3 c0) (app_told (told1_0 a0 a1 a2 a3 c1) (told3_3 a0 a1 a2 a3 c3))) row2_0_7_3 (.cons _ _ _ _ (.sym 0) (.cons _ _ _ _ (.sym 1) (.cons _ _ _ _ (by rw [c2]; exact .int _ _) (.cons _ _ _ _ (.sym 3) .nil))))
      · obtain c3 | c3 | c3 | c3 : (a3 = 1) ∨ (a3 = 2) ∨ (a3 = 3) ∨ (a3 ≠ 1 ∧ a3 ≠ 2 ∧ a3 ≠ 3) := by omega
        · exact go _ _ (app_told (told0_2 a0 a1 a2 a3 c0) (app_told (told1_0 a0 a1 a2 a3 c1) (told2_8 a0 a1 a2 a3 c2))) row2_0_8_0 (.cons _ _ _ _ (.sym 0) (.cons _ _ _ _ (.sym 1) (.cons _ _ _ _ (.sym 2) (.cons _ _ _ _ (by rw [c3]; exact .int _ _) .nil))))
        · exact go _ _ (app_told (told0_2 a0 a1 a2 a3 c0) (app_told (told1_0 a0 a1 a2 a3 c1) (told2_8 a0 a1 a2 a3 c2))) row2_0_8_1 (.cons _ _ _ _ (.sym 0) (.cons _ _ _ _ (.sym 1) (.cons _ _ _ _ (.sym 2) (.cons _ _ _ _ (by rw [c3]; exact .int _ _) .nil))))
        · exact go _ _ (app_told (told0_2 a0 a1 a2 a3 c0) (app_told (told1_0 a0 a1 a2 a3 c1) (told2_8 a0 a1 a2 a3 c2))) row2_0_8_2 (.cons _ _ _ _ (.sym 0) (.cons _ _ _ _ (.sym 1) (.cons _ _ _ _ (.sym 2) (.cons _ _ _ _ (by rw [c3]; exact .int _ _) .nil))))
        · exact go _ _ (app_told (told0_2 a0 a1 a2 a3 c0) (app_told (told1_0 a0 a1 a2 a3 c1) (app_told (told2_8 a0 a1 a2 a3 c2) (told3_3 a0 a1 a2 a3 c3)))) row2_0_8_3 (.cons _ _ _ _ (.sym 0) (.cons _ _ _ _ (.sym 1) (.cons _ _ _ _ (.sym 2) (.cons _ _ _ _ (.sym 3) .nil))))
      · obtain c3 | c3 | c3 | c3 : (a3 = 1) ∨ (a3 = 2) ∨ (a3 = 3) ∨ (a3 ≠ 1 ∧ a3 ≠ 2 ∧ a3 ≠ 3) := by omega
        · exact go _ _ (app_told (told0_2 a0 a1 a2 a3 c0) (app_told (told1_0 a0 a1 a2 a3 c1) (told2_9 a0 a1 a2 a3 c2))) row2_0_9_0 (.cons _ _ _ _ (.sym 0) (.cons _ _ _ _ (.sym 1) (.cons _ _ _ _ (.sym 2) (.cons _ _ _ _ (by rw [c3]; exact .int _ _) .nil))))
        · exact go _ _ (app_told (told0_2 a0 a1 a2 a3 c0) (app_told (told1_0 a0 a1 a2 a3 c1) (told2_9 a0 a1 a2 a3 c2))) row2_0_9_1 (.cons _ _ _ _ (.sym 0) (.cons _ _ _ _ (.sym 1) (.cons _ _ _ _ (.sym 2) (.cons _ _ _ _ (by rw [c3]; exact .int _ _) .nil))))
        · exact go _ _ (app_told (told0_2 a0 a1 a2 a3 c0) (app_told (told1_0 a0 a1 a2 a3 c1) (told2_9 a0 a1 a2 a3 c2))) row2_0_9_2 (.cons _ _ _ _ (.sym 0) (.cons _ _ _ _ (.sym 1) (.cons _ _ _ _ (.sym 2) (.cons _ _ _ _ (by rw [c3]; exact .int _ _) .nil))))
        · exact go _ _ (app_told (told0_2 a0 a1 a2 a3 c0) (app_told (told1_0 a0 a1 a2 a3 c1) (app_told (told2_9 a0 a1 a2 a3 c2) (told3_3 a0 a1 a2 a3 c3)))) row2_0_9_3 (.cons _ _ _ _ (.sym 0) (.cons _ _ _ _ (.sym 1) (.cons _ _ _ _ (.sym 2) (.cons _ _ _ _ (.sym 3) .nil))))
    · obtain c2 | c2 | c2 | c2 | c2 | c2 | c2 | c2 | c2 | c2 : (a2 = 0) ∨ (a2 = 1) ∨ (a2 = 2) ∨ (a2 = 3) ∨ (a2 = 4) ∨ (a2 = 5) ∨ (a2 = 6) ∨ (a2 = 7) ∨ (a2 < 0) ∨ (8 ≤ a2) := by omega
      · obtain c3 | c3 | c3 | c3 : (a3 = 1) ∨ (a3 = 2) ∨ (a3 = 3) ∨ (a3 ≠ 1 ∧ a3 ≠ 2 ∧ a3 ≠ 3) := by omega
        · exact go _ _ (app_told (told0_2 a0 a1 a2 a3 c0) (told1_1 a0 a1 a2 a3 c1)) row2_1_0_0 (.cons _ _ _ _ (.sym 0) (.cons _ _ _ _ (.sym 1) (.cons _ _ _ _ (by rw [c2]; exact .int _ _) (.cons _ _ _ _ (by rw [c3]; exact .int _ _) .nil))))
        · exact go _ _ (app_told (told0_2 a0 a1 a2 a3 c0) (told1_1 a0 a1 a2 a3 c1)) row2_1_0_1 (.cons _ _ _ _ (.sym 0) (.cons _ _ _ _ (.sym 1) (.cons _ _ _ _ (by rw [c2]; exact .int _ _) (.cons _ _ _ _ (by rw [c3]; exact .int _ _) .nil))))
        · exact go _ _ (app_told (told0_2 a0 a1 a2 a3 c0) (told1_1 a0 a1 a2 a3 c1)) row2_1_0_2 (.cons _ _ _ _ (.sym 0) (.cons _ _ _ _ (.sym 1) (.cons _ _ _ _ (by rw [c2]; exact .int _ _) (.cons _ _ _ _ (by rw [c3]; exact .int _ _) .nil))))
        · exact go _ _ (app_told (told0_2 a0 a1 a2 a3 c0) (app_told (told1_1 a0 a1 a2 a3 c1) (told3_3 a0 a1 a2 a3 c3))) row2_1_0_3 (.cons _ _ _ _ (.sym 0) (.cons _ _ _ _ (.sym 1) (.cons _ _ _ _ (by rw [c2]; exact .int _ _) (.cons _ _ _ _ (.sym 3) .nil))))
      · obtain c3 | c3 | c3 | c3 : (a3 = 1) ∨ (a3 = 2) ∨ (a3 = 3) ∨ (a3 ≠ 1 ∧ a3 ≠ 2 ∧ a3 ≠ 3) := by omega
        · exact go _ _ (app_told (told0_2 a0 a1 a2 a3 c0) (told1_1 a0 a1 a2 a3 c1)) row2_1_1_0 (.cons _ _ _ _ (.sym 0) (.cons _ _ _ _ (.sym 1) (.cons _ _ _ _ (by rw [c2]; exact .int _ _) (.cons _ _ _ _ (by rw [c3]; exact .int _ _) .nil))))
        · exact go _ _ (app_told (told0_2 a0 a1 a2 a3 c0) (told1_1 a0 a1 a2 a3 c1)) row2_1_1_1 (.cons _ _ _ _ (.sym 0) (.cons _ _ _ _ (.sym 1) (.cons _ _ _ _ (by rw [c2]; exact .int _ _) (.cons _ _ _ _ (by rw [c3]; exact .int _ _) .nil))))
        · exact go _ _ (app_told (told0_2 a0 a1 a2 a3 c0) (told1_1 a0 a1 a2 a3 c1)) row2_1_1_2 (.cons _ _ _ _ (.sym 0) (.cons _ _ _ _ (.sym 1) (.cons _ _ _ _ (by rw [c2]; exact .int _ _) (.cons _ _ _ _ (by rw [c3]; exact .int _ _) .nil))))
        · exact go _ _ (app_told (told0_2 a0 a1 a2 a3 c0) (app_told (told1_1 a0 a1 a2 a3 c1) (told3_3 a0 a1 a2 a3 c3))) row2_1_1_3 (.cons _ _ _ _ (.sym 0) (.cons _ _ _ _ (.sym 1) (.cons _ _ _ _ (by rw [c2]; exact .int _ _) (.cons _ _ _ _ (.sym 3) .nil))))
      · obtain c3 | c3 | c3 | c3 : (a3 = 1) ∨ (a3 = 2) ∨ (a3 = 3) ∨ (a3 ≠ 1 ∧ a3 ≠ 2 ∧ a3 ≠ 3) := by omega
        · exact go _ _ (app_told (told0_2 a0 a1 a2 a3 c0) (told1_1 a0 a1 a2 a3 c1)) row2_1_2_0 (.cons _ _ _ _ (.sym 0) (.cons _ _ _ _ (.sym 1) (.cons _ _ _ _ (by rw [c2]; exact .int _ _) (.cons _ _ _ _ (by rw [c3]; exact .int _ _) .nil))))
        · exact go _ _ (app_told (told0_2 a0 a1 a2 a3 c0) (told1_1 a0 a1 a2 a3 c1)) row2_1_2_1 (.cons _ _ _ _ (.sym 0) (.cons _ _ _ _ (.sym 1) (.cons _ _ _ _ (by rw [c2]; exact .int _ _) (.cons _ _ _ _ (by rw [c3]; exact .int _ _) .nil))))
        · exact go _ _ (app_told (told0_2 a0 a1 a2 a3 c0) (told1_1 a0 a1 a2 a3 c1)) row2_1_2_2 (.cons _ _ _ _ (.sym 0) (.cons _ _ _ _ (.sym 1) (.cons _ _ _ _ (by rw [c2]; exact .int _ _) (.cons _ _ _ _ (by rw [c3]; exact .int _ _) .nil))))
        · exact go _ _ (app_told (told0_2 a0 a1 a2 a3 c0) (app_told (told1_1 a0 a1 a2 a3 c1) (told3_3 a0 a1 a2 a3 c3))) row2_1_2_3 (.cons _ _ _ _ (.sym 0) (.cons _ _ _ _ (.sym 1) (.cons _ _ _ _ (by rw [c2]; exact .int _ _) (.cons _ _ _ _ (.sym 3) .nil))))
      · obtain c3 | c3 | c3 | c3 : (a3 = 1) ∨ (a3 = 2) ∨ (a3 = 3) ∨ (a3 ≠ 1 ∧ a3 ≠ 2 ∧ a3 ≠ 3) := by omega
        · exact go _ _ (app_told (told0_2 a0 a1 a2 a3 c0) (told1_1 a0 a1 a2 a3 c1)) row2_1_3_0 (.cons _ _ _ _ (.sym 0) (.cons _ _ _ _ (.sym 1) (.cons _ _ _ _ (by rw [c2]; exact .int _ _) (.cons _ _ _ _ (by rw [c3]; exact .int _ _) .nil))))
        · exact go _ _ (app_told (told0_2 a0 a1 a2 a3 c0) (told1_1 a0 a1 a2 a3 c1)) row2_1_3_1 (.cons _ _ _ _ (.sym 0) (.cons _ _ _ _ (.sym 1) (.cons _ _ _ _ (by rw [c2]; exact .int _ _) (.cons _ _ _ _ (by rw [c3]; exact .int _ _) .nil))))
        · exact go _ _ (app_told (told0_2 a0 a1 a2 a3 c0) (told1_1 a0 a1 a2 a3 c1)) row2_1_3_2 (.cons _ _ _ _ (.sym 0) (.cons _ _ _ _ (.sym 1) (.cons _ _ _ _ (by rw [c2]; exact .int _ _) (.cons _ _ _ _ (by rw [c3]; exact .int _ _) .nil))))
        · exact go _ _ (app_told (told0_2 a0 a1 a2 a3 c0) (app_told (told1_1 a0 a1 a2 a3 c1) (told3_3 a0 a1 a2 a3 c3))) row2_1_3_3 (.cons _ _ _ _ (.sym 0) (.cons _ _ _ _ (.sym 1) (.cons _ _ _ _ (by rw [c2]; exact .int _ _) (.cons _ _ _ _ (.sym 3) .nil))))
      · obtain c3 | c3 | c3 | c3 : (a3 = 1) ∨ (a3 = 2) ∨ (a3 = 3) ∨ (a3 ≠ 1 ∧ a3 ≠ 2 ∧ a3 ≠ 3) := by omega
        · exact go _ _ (app_told (told0_2 a0 a1 a2 a3 c0) (told1_1 a0 a1 a2 a3 c1)) row2_1_4_0 (.cons _ _ _ _ (.sym 0) (.cons _ _ _ _ (.sym 1) (.cons _ _ _ _ (by rw [c2]; exact .int _ _) (.cons _ _ _ _ (by rw [c3]; exact .int _ _) .nil))))
        · exact go _ _ (app_told (told0_2 a0 a1 a2 a3 c0) (told1_1 a0 a1 a2 a3 c1)) row2_1_4_1 (.cons _ _ _ _ (.sym 0) (.cons _ _ _ _ (.sym 1) (.cons _ _ _ _ (by rw [c2]; exact .int _ _) (.cons _ _ _ _ (by rw [c3]; exact .int _ _) .nil))))
        · exact go _ _ (app_told (told0_2 a0 a1 a2 a3 c0) (told1_1 a0 a1 a2 a3 c1)) row2_1_4_2 (.cons _ _ _ _ (.sym 0) (.cons _ _ _ _ (.sym 1) (.cons _ _ _ _ (by rw [c2]; exact .int _ _) (.cons _ _ _ _ (by rw [c3]; exact .int _ _) .nil))))
        · exact go _ _ (app_told (told0_2 a0 a1 a2 a3 c0) (app_told (told1_1 a0 a1 a2 a3 c1) (told3_3 a0 a1 a2 a3 c3))) row2_1_4_3 (.cons _ _ _ _ (.sym 0) (.cons _ _ _ _ (.sym 1) (.cons _ _ _ _ (by rw [c2]; exact .int _ _) (.cons _ _ _ _ (.sym 3) .nil))))
      · obtain c3 | c3 | c3 | c3 : (a3 = 1) ∨ (a3 = 2) ∨ (a3 = 3) ∨ (a3 ≠ 1 ∧ a3 ≠ 2 ∧ a3 ≠ 3) := by omega
        · exact go _ _ (app_told (told0_2 a0 a1 a2 a3 c0) (told1_1 a0 a1 a2 a3 c1)) row2_1_5_0 (.cons _ _ _ _ (.sym 0) (.cons _ _ _ _ (.sym 1) (.cons _ _ _ _ (by rw [c2]; exact .int _ _) (.cons _ _ _ _ (by rw [c3]; exact .int _ _) .nil))))
        · exact go _ _ (app_told (told0_2 a0 a1 a2 a3 c0) (told1_1 a0 a1 a2 a3 c1)) row2_1_5_1 (.cons _ _ _ _ (.sym 0) (.cons _ _ _ _ (.sym 1) (.cons _ _ _ _ (by rw [c2]; exact .int _ _) (.cons _ _ _ _ (by rw [c3]; exact .int _ _) .nil))))
        · exact go _ _ (app_told (told0_2 a0 a1 a2 a3 c0) (told1_1 a0 a1 a2 a3 c1)) row2_1_5_2 (.cons _ _ _ _ (.sym 0) (.cons _ _ _ _ (.sym 1) (.cons _ _ _ _ (by rw [c2]; exact .int _ _) (.cons _ _ _ _ (by rw [c3]; exact .int _ _) .nil))))
        · exact go _ _ (app_told (told0_2 a0 a1 a2 a3 c0) (app_told (told1_1 a0 a1 a2 a3 c1) (told3_3 a0 a1 a2 a3 c3))) row2_1_5_3 (.cons _ _ _ _ (.sym 0) (.cons _ _ _ _ (.sym 1) (.cons _ _ _ _ (by rw [c2]; exact .int _ _) (.cons _ _ _ _ (.sym 3) .nil))))
      · obtain c3 | c3 | c3 | c3 : (a3 = 1) ∨ (a3 = 2) ∨ (a3 = 3) ∨ (a3 ≠ 1 ∧ a3 ≠ 2 ∧ a3 ≠ 3) := by omega
        · exact go _ _ (app_told (told0_2 a0 a1 a2 a3 c0) (told1_1 a0 a1 a2 a3 c1)) row2_1_6_0 (.cons _ _ _ _ (.sym 0) (.cons _ _ _ _ (.sym 1) (.cons _ _ _ _ (by rw [c2]; exact .int _ _) (.cons _ _ _ _ (by rw [c3]; exact .int _ _) .nil))))
        · exact go _ _ (app_told (told0_2 a0 a1 a2 a3 c0) (told1_1 a0 a1 a2 a3 c1)) row2_1_6_1 (.cons _ _ _ _ (.sym 0) (.cons _ _ _ _ (.sym 1) (.cons _ _ _ _ (by rw [c2]; exact .int _ _) (.cons _ _ _ _ (by rw [c3]; exact .int _ _) .nil))))
        · exact go _ _ (app_told (told0_2 a0 a1 a2 a3 c0) (told1_1 a0 a1 a2 a3 c1)) row2_1_6_2 (.cons _ _ _ _ (.sym 0) (.cons _ _ _ _ (.sym 1) (.cons _ _ _ _ (by rw [c2]; exact .int _ _) (.cons _ _ _ _ (by rw [c3]; exact .int _ _) .nil))))
        · exact go _ _ (app_told (told0_2 a0 a1 a2 a3 c0) (app_told (told1_1 a0 a1 a2 a3 c1) (told3_3 a0 a1 a2 a3 c3))) row2_1_6_3 (.cons _ _ _ _ (.sym 0) (.cons _ _ _ _ (.sym 1) (.cons _ _ _ _ (by rw [c2]; exact .int _ _) (.cons _ _ _ _ (.sym 3) .nil))))
      · obtain c3 | c3 | c3 | c3 : (a3 = 1) ∨ (a3 = 2) ∨ (a3 = 3) ∨ (a3 ≠ 1 ∧ a3 ≠ 2 ∧ a3 ≠ 3) := by omega
        · exact go _ _ (app_told (told0_2 a0 a1 a2 a3 c0) (told1_1 a0 a1 a2 a3 c1)) row2_1_7_0 (.cons _ _ _ _ (.sym 0) (.cons _ _ _ _ (.sym 1) (.cons _ _ _ _ (by rw [c2]; exact .int _ _) (.cons _ _ _ _ (by rw [c3]; exact .int _ _) .nil))))
        · exact go _ _ (app_told (told0_2 a0 a1 a2 a3 c0) (told1_1 a0 a1 a2 a3 c1)) row2_1_7_1 (.cons _ _ _ _ (.sym 0) (.cons _ _ _ _ (.sym 1) (.cons _ _ _ _ (by rw [c2]; exact .int _ _) (.cons _ _ _ _ (by rw [c3]; exact .int _ _) .nil))))
        · exact go _ _ (app_told (told0_2 a0 a1 a2 a3 c0) (told1_1 a0 a1 a2 a3 c1)) row2_1_7_2 (.cons _ _ _ _ (.sym 0) (.cons _ _ _ _ (.sym 1) (.cons _ _ _ _ (by rw [c2]; exact .int _ _) (.cons _ _ _ _ (by rw [c3]; exact .int _ _) .nil))))
        · exact go _ _ (app_told (told0_2 a0 a1 a2 a3 c0) (app_told (told1_1 a0 a1 a2 a3 c1) (told3_3 a0 a1 a2 a3 c3))) row2_1_7_3 (.cons _ _ _ _ (.sym 0) (.cons _ _ _ _ (.sym 1) (.cons _ _ _ _ (by rw [c2]; exact .int _ _) (.cons _ _ _ _ (.sym 3) .nil))))
      · obtain c3 | c3 | c3 | c3 : (a3 = 1) ∨ (a3 = 2) ∨ (a3 = 3) ∨ (a3 ≠ 1 ∧ a3 ≠ 2 ∧ a3 ≠ 3) := by omega
        · exact go _ _ (app_told (told0_2 a0 a1 a2 a3 c0) (app_told (told1_1 a0 a1 a2 a3 c1) (told2_8 a0 a1 a2 a3 c2))) row2_1_8_0 (.cons _ _ _ _ (.sym 0) (.cons _ _ _ _ (.sym 1) (.cons _ _ _ _ (.sym 2) (.cons _ _ _ _ (by rw [c3]; exact .int _ _) .nil))))
        · exact go _ _ (app_told (told0_2 a0 a1 a2 a3 c0) (app_told (told1_1 a0 a1 a2 a3 c1) (told2_8 a0 a1 a2 a3 c2))) row2_1_8_1 (.cons _ _ _ _ (.sym 0) (.cons _ _ _ _ (.sym 1) (.cons _ _ _ _ (.sym 2) (.cons _ _ _ _ (by rw [c3]; exact .int _ _) .nil))))
        · exact go _ _ (app_told (told0_2 a0 a1 a2 a3 c0) (app_told (told1_1 a0 a1 a2 a3 c1) (told2_8 a0 a1 a2 a3 c2))) row2_1_8_2 (.cons _ _ _ _ (.sym 0) (.cons _ _ _ _ (.sym 1) (.cons _ _ _ _ (.sym 2) (.cons _ _ _ _ (by rw [c3]; exact .int _ _) .nil))))
        · exact go _ _ (app_told (told0_2 a0 a1 a2 a3 c0) (app_told (told1_1 a0 a1 a2 a3 c1) (app_told (told2_8 a0 a1 a2 a3 c2) (told3_3 a0 a1 a2 a3 c3)))) row2_1_8_3 (.cons _ _ _ _ (.sym 0) (.cons _ _ _ _ (.sym 1) (.cons _ _ _ _ (.sym 2) (.cons _ _ _ _ (.sym 3) .nil))))
      · obtain c3 | c3 | c3 | c3 : (a3 = 1) ∨ (a3 = 2) ∨ (a3 = 3) ∨ (a3 ≠ 1 ∧ a3 ≠ 2 ∧ a3 ≠ 3) := by omega
        · exact go _ _ (app_told (told0_2 a0 a1 a2 a3 c0) (app_told (told1_1 a0 a1 a2 a3 c1) (told2_9 a0 a1 a2 a3 c2))) row2_1_9_0 (.cons _ _ _ _ (.sym 0) (.cons _ _ _ _ (.sym 1) (.cons _ _ _ _ (.sym 2) (.cons _ _ _ _ (by rw [c3]; exact .int _ _) .nil))))
        · exact go _ _ (app_told (told0_2 a0 a1 a2 a3 c0) (app_told (told1_1 a0 a1 a2 a3 c1) (told2_9 a0 a1 a2 a3 c2))) row2_1_9_1 (.cons _ _ _ _ (.sym 0) (.cons _ _ _ _ (.sym 1) (.cons _ _ _ _ (.sym 2) (.cons _ _ _ _ (by rw [c3]; exact .int _ _) .nil))))
        · exact go _ _ (app_told (told0_2 a0 a1 a2 a3 c0) (app_told (told1_1 a0 a1 a2 a3 c1) (told2_9 a0 a1 a2 a3 c2))) row2_1_9_2 (.cons _ _ _ _ (.sym 0) (.cons _ _ _ _ (.sym 1) (.cons _ _ _ _ (.sym 2) (.cons _ _ _ _ (by rw [c3]; exact .int _ _) .nil))))
        · exact go _ _ (app_told (told0_2 a0 a1 a2 a3 c0) (app_told (told1_1 a0 a1 a2 a3 c1) (app_told (told2_9 a0 a1 a2 a3 c2) (told3_3 a0 a1 a2 a3 c3)))) row2_1_9_3 (.cons _ _ _ _ (.sym 0) (.cons _ _ _ _ (.sym 1) (.cons _ _ _ _ (.sym 2) (.cons _ _ _ _ (.sym 3) .nil))))
    · obtain c2 | c2 | c2 | c2 | c2 | c2 | c2 | c2 | c2 | c2 : (a2 = 0) ∨ (a2 = 1) ∨ (a2 = 2) ∨ (a2 = 3) ∨ (a2 = 4) ∨ (a2 = 5) ∨ (a2 = 6) ∨ (a2 = 7) ∨ (a2 < 0) ∨ (8 ≤ a2) := by omega
      · obtain c3 | c3 | c3 | c3 : (a3 = 1) ∨ (a3 = 2) ∨ (a3 = 3) ∨ (a3 ≠ 1 ∧ a3 ≠ 2 ∧ a3 ≠ 3) := by omega
        · exact go _ _ (app_told (told0_2 a0 a1 a2 a3 c0) (told1_2 a0 a1 a2 a3 c1)) row2_2_0_0 (.cons _ _ _ _ (.sym 0) (.cons _ _ _ _ (.sym 1) (.cons _ _ _ _ (by rw [c2]; exact .int _ _) (.cons _ _ _ _ (by rw [c3]; exact .int _ _) .nil))))
        · exact go _ _ (app_told (told0_2 a0 a1 a2 a3 c0) (told1_2 a0 a1 a2 a3 c1)) row2_2_0_1 (.cons _ _ _ _ (.sym 0) (.cons _ _ _ _ (.sym 1) (.cons _ _ _ _ (by rw [c2]; exact .int _ _) (.cons _ _ _ _ (by rw [c3]; exact .int _ _) .nil))))
        · exact go _ _ (app_told (told0_2 a0 a1 a2 a3 c0) (told1_2 a0 a1 a2 a3 c1)) row2_2_0_2 (.cons _ _ _ _ (.sym 0) (.cons _ _ _ _ (.sym 1) (.cons _ _ _ _ (by rw [c2]; exact .int _ _) (.cons _ _ _ _ (by rw [c3]; exact .int _ _) .nil))))
        · exact go _ _ (app_told (told0_2 a0 a1 a2 a3 c0) (app_told (told1_2 a0 a1 a2 a3 c1) (told3_3 a0 a1 a2 a3 c3))) row2_2_0_3 (.cons _ _ _ _ (.sym 0) (.cons _ _ _ _ (.sym 1) (.cons _ _ _ _ (by rw [c2]; exact .int _ _) (.cons _ _ _ _ (.sym 3) .nil))))
      · obtain c3 | c3 | c3 | c3 : (a3 = 1) ∨ (a3 = 2) ∨ (a3 = 3) ∨ (a3 ≠ 1 ∧ a3 ≠ 2 ∧ a3 ≠ 3) := by omega
        · exact go _ _ (app_told (told0_2 a0 a1 a2 a3 c0) (told1_2 a0 a1 a2 a3 c1)) row2_2_1_0 (.cons _ _ _ _ (.sym 0) (.cons _ _ _ _ (.sym 1) (.cons _ _ _ _ (by rw [c2]; exact .int _ _) (.cons _ _ _ _ (by rw [c3]; exact .int _ _) .nil))))
        · exact go _ _ (app_told (told0_2 a0 a1 a2 a3 c0) (told1_2 a0 a1 a2 a3 c1)) row2_2_1_1 (.cons _ _ _ _ (.sym 0) (.cons _ _ _ _ (.sym 1) (.cons _ _ _ _ (by rw [c2]; exact .int _ _) (.cons _ _ _ _ (by rw [c3]; exact .int _ _) .nil))))
        · exact go _ _ (app_told (told0_2 a0 a1 a2 a3 c0) (told1_2 a0 a1 a2 a3 c1)) row2_2_1_2 (.cons _ _ _ _ (.sym 0) (.cons _ _ _ _ (.sym 1) (.cons _ _ _ _ (by rw [c2]; exact .int _ _) (.cons _ _ _ _ (by rw [c3]; exact .int _ _) .nil))))
        · exact go _ _ (app_told (told0_2 a0 a1 a2 a3 c0) (app_told (told1_2 a0 a1 a2 a3 c1) (told3_3 a0 a1 a2 a3 c3))) row2_2_1_3 (.cons _ _ _ _ (.sym 0) (.cons _ _ _ _ (.sym 1) (.cons _ _ _ _ (by rw [c2]; exact .int _ _) (.cons _ _ _ _ (.sym 3) .nil))))
      · obtain c3 | c3 | c3 | c3 : (a3 = 1) ∨ (a3 = 2) ∨ (a3 = 3) ∨ (a3 ≠ 1 ∧ a3 ≠ 2 ∧ a3 ≠ 3) := by omega
        · exact go _ _ (app_told (told0_2 a0 a1 a2 a3 c0) (told1_2 a0 a1 a2 a3 c1)) row2_2_2_0 (.cons _ _ _ _ (.sym 0) (.cons _ _ _ _ (.sym 1) (.cons _ _ _ _ (by rw [c2]; exact .int _ _) (.cons _ _ _ _ (by rw [c3]; exact .int _ _) .nil))))
        · exact go _ _ (app_told (told0_2 a0 a1 a2 a3 c0) (told1_2 a0 a1 a2 a3 c1)) row2_2_2_1 (.cons _ _ _ _ (.sym 0) (.cons _ _ _ _ (.sym 1) (.cons _ _ _ _ (by rw [c2]; exact .int _ _) (.cons _ _ _ _ (by rw [c3]; exact .int _ _) .nil))))
        · exact go _ _ (app_told (told0_2 a0 a1 a2 a3 c0) (told1_2 a0 a1 a2 a3 c1)) row2_2_2_2 (.cons _ _ _ _ (.sym 0) (.cons _ _ _ _ (.sym 1) (.cons _ _ _ _ (by rw [c2]; exact .int _ _) (.cons _ _ _ _ (by rw [c3]; exact .int _ _) .nil))))
        · exact go _ _ (app_told (told0_2 a0 a1 a2 a3 c0) (app_told (told1_2 a0 a1 a2 a3 c1) (told3_3 a0 a1 a2 a3 c3))) row2_2_2_3 (.cons _ _ _ _ (.sym 0) (.cons _ _ _ _ (.sym 1) (.cons _ _ _ _ (by rw [c2]; exact .int _ _) (.cons _ _ _ _ (.sym 3) .nil))))
      · obtain c3 | c3 | c3 | c3 : (a3 = 1) ∨ (a3 = 2) ∨ (a3 = 3) ∨ (a3 ≠ 1 ∧ a3 ≠ 2 ∧ a3 ≠ 3) := by omega
        · exact go _ _ (app_told (told0_2 a0 a1 a2 a3 c0) (told1_2 a0 a1 a2 a3 c1)) row2_2_3_0 (.cons _ _ _ _ (.sym 0) (.cons _ _ _ _ (.sym 1) (.cons _ _ _ _ (by rw [c2]; exact .int _ _) (.cons _ _ _ _ (by rw [c3]; exact .int _ _) .nil))))
        · exact go _ _ (app_told (told0_2 a0 a1 a2 a3 c0) (told1_2 a0 a1 a2 a3 c1)) row2_2_3_1 (.cons _ _ _ _ (.sym 0) (.cons _ _ _ _ (.sym 1) (.cons _ _ _ _ (by rw [c2]; exact .int _ _) (.cons _ _ _ _ (by rw [c3]; exact .int _ _) .nil))))
        · exact go _ _ (app_told (told0_2 a0 a1 a2 a3 c0) (told1_2 a0 a1 a2 a3 c1)) row2_2_3_2 (.cons _ _ _ _ (.sym 0) (.cons _ _ _ _ (.sym 1) (.cons _ _ _ _ (by rw [c2]; exact .int _ _) (.cons _ _ _ _ (by rw [c3]; exact .int _ _) .nil))))
        · exact go _ _ (app_told (told0_2 a0 a1 a2 a3 c0) (app_told (told1_2 a0 a1 a2 a3 c1) (told3_3 a0 a1 a2 a3 c3))) row2_2_3_3 (.cons _ _ _ _ (.sym 0) (.cons _ _ _ _ (.sym 1) (.cons _ _ _ _ (by rw [c2]; exact .int _ _) (.cons _ _ _ _ (.sym 3) .nil))))
      · obtain c3 | c3 | c3 | c3 : (a3 = 1) ∨ (a3 = 2) ∨ (a3 = 3) ∨ (a3 ≠ 1 ∧ a3 ≠ 2 ∧ a3 ≠ 3) := by omega
        · exact go _ _ (app_told (told0_2 a0 a1 a2 a3 c0) (told1_2 a0 a1 a2 a3 c1)) row2_2_4_0 (.cons _ _ _ _ (.sym 0) (.cons _ _ _ _ (.sym 1) (.cons _ _ _ _ (by rw [c2]; exact .int _ _) (.cons _ _ _ _ (by rw [c3]; exact .int _ _) .nil))))
        · exact go _ _ (app_told (told0_2 a0 a1 a2 a3 c0) (told1_2 a0 a1 a2 a3 c1)) row2_2_4_1 (.cons _ _ _ _ (.sym 0) (.cons _ _ _ _ (.sym 1) (.cons _ _ _ _ (by rw [c2]; exact .int _ _) (.cons _ _ _ _ (by rw [c3]; exact .int _ _) .nil))))
        · exact go _ _ (app_told (told0_2 a0 a1 a2 a3 c0) (told1_2 a0 a1 a2 a3 c1)) row2_2_4_2 (.cons _ _ _ _ (.sym 0) (.cons _ _ _ _ (.sym 1) (.cons _ _ _ _ (by rw [c2]; exact .int _ _) (.cons _ _ _ _ (by rw [c3]; exact .int _ _) .nil))))
        · exact go _ _ (app_told (told0_2 a0 a1 a2 a3 c0) (app_told (told1_2 a0 a1 a2 a3 c1) (told3_3 a0 a1 a2 a3 c3))) row2_2_4_3 (.cons _ _ _ _ (.sym 0) (.cons _ _ _ _ (.sym 1) (.cons _ _ _ _ (by rw [c2]; exact .int _ _) (.cons _ _ _ _ (.sym 3) .nil))))
      · obtain c3 | c3 | c3 | c3 : (a3 = 1) ∨ (a3 = 2) ∨ (a3 = 3) ∨ (a3 ≠ 1 ∧ a3 ≠ 2 ∧ a3 ≠ 3) := by omega
        · exact go _ _ (app_told (told0_2 a0 a1 a2 a3 c0) (told1_2 a0 a1 a2 a3 c1)) row2_2_5_0 (.cons _ _ _ _ (.sym 0) (.cons _ _ _ _ (.sym 1) (.cons _ _ _ _ (by rw [c2]; exact .int _ _) (.cons _ _ _ _ (by rw [c3]; exact .int _ _) .nil))))
        · exact go _ _ (app_told (told0_2 a0 a1 a2 a3 c0) (told1_2 a0 a1 a2 a3 c1)) row2_2_5_1 (.cons _ _ _ _ (.sym 0) (.cons _ _ _ _ (.sym 1) (.cons _ _ _ _ (by rw [c2]; exact .int _ _) (.cons _ _ _ _ (by rw [c3]; exact .int _ _) .nil))))
        · exact go _ _ (app_told (told0_2 a0 a1 a2 a3 c0) (told1_2 a0 a1 a2 a3 c1)) row2_2_5_2 (.cons _ _ _ _ (.sym 0) (.cons _ _ _ _ (.sym 1) (.cons _ _ _ _ (by rw [c2]; exact .int _ _) (.cons _ _ _ _ (by rw [c3]; exact .int _ _) .nil))))
        · exact go _ _ (app_told (told0_2 a0 a1 a2 a3 c0) (app_told (told1_2 a0 a1 a2 a3 c1) (told3_3 a0 a1 a2 a3 c3))) row2_2_5_3 (.cons _ _ _ _ (.sym 0) (.cons _ _ _ _ (.sym 1) (.cons _ _ _ _ (by rw [c2]; exact .int _ _) (.cons _ _ _ _ (.sym 3) .nil))))
      · obtain c3 | c3 | c3 | c3 : (a3 = 1) ∨ (a3 = 2) ∨ (a3 = 3) ∨ (a3 ≠ 1 ∧ a3 ≠ 2 ∧ a3 ≠ 3) := by omega
        · exact go _ _ (app_told (told0_2 a0 a1 a2 a3 c0) (told1_2 a0 a1 a2 a3 c1)) row2_2_6_0 (.cons _ _ _ _ (.sym 0) (.cons _ _ _ _ (.sym 1) (.cons _ _ _ _ (by rw [c2]; exact .int _ _) (.cons _ _ _ _ (by rw [c3]; exact .int _ _) .nil))))
        · exact go _ _ (app_told (told0_2 a0 a1 a2 a3 c0) (told1_2 a0 a1 a2 a3 c1)) row2_2_6_1 (.cons _ _ _ _ (.sym 0) (.cons _ _ _ _ (.sym 1) (.cons _ _ _ _ (by rw [c2]; exact .int _ _) (.cons _ _ _ _ (by rw [c3]; exact .int _ _) .nil))))
        · exact go _ _ (app_told (told0_2 a0 a1 a2 a3 c0) (told1_2 a0 a1 a2 a3 c1)) row2_2_6_2 (.cons _ _ _ _ (.sym 0) (.cons _ _ _ _ (.sym 1) (.cons _ _ _ _ (by rw [c2]; exact .int _ _) (.cons _ _ _ _ (by rw [c3]; exact .int _ _) .nil))))
        · exact go _ _ (app_told (told0_2 a0 a1 a2 a3 c0) (app_told (told1_2 a0 a1 a2 a3 c1) (told3_3 a0 a1 a2 a3 c3))) row2_2_6_3 (.cons _ _ _ _ (.sym 0) (.cons _ _ _ _ (.sym 1) (.cons _ _ _ _ (by rw [c2]; exact .int _ _) (.cons _ _ _ _ (.sym 3) .nil))))
      · obtain c3 | c3 | c3 | c3 : (a3 = 1) ∨ (a3 = 2) ∨ (a3 = 3) ∨ (a3 ≠ 1 ∧ a3 ≠ 2 ∧ a3 ≠ 3) := by omega
        · exact go _ _ (app_told (told0_2 a0 a1 a2 a3 c0) (told1_2 a0 a1 a2 a3 c1)) row2_2_7_0 (.cons _ _ _ _ (.sym 0) (.cons _ _ _ _ (.sym 1) (.cons _ _ _ _ (by rw [c2]; exact .int _ _) (.cons _ _ _ _ (by rw [c3]; exact .int _ _) .nil))))
        · exact go _ _ (app_told (told0_2 a0 a1 a2 a3 c0) (told1_2 a0 a1 a2 a3 c1)) row2_2_7_1 (.cons _ _ _ _ (.sym 0) (.cons _ _ _ _ (.sym 1) (.cons _ _ _ _ (by rw [c2]; exact .int _ _) (.cons _ _ _ _ (by rw [c3]; exact .int _ _) .nil))))
        · exact go _ _ (app_told (told0_2 a0 a1 a2 a3 c0) (told1_2 a0 a1 a2 a3 c1)) row2_2_7_2 (.cons _ _ _ _ (.sym 0) (.cons _ _ _ _ (.sym 1) (.cons _ _ _ _ (by rw [c2]; exact .int _ _) (.cons _ _ _ _ (by rw [c3]; exact .int _ _) .nil))))
        · exact go _ _ (app_told (told0_2 a0 a1 a2 a3 c0) (app_told (told1_2 a0 a1 a2 a3 c1) (told3_3 a0 a1 a2 a3 c3))) row2_2_7_3 (.cons _ _ _ _ (.sym 0) (.cons _ _ _ _ (.sym 1) (.cons _ _ _ _ (by rw [c2]; exact .int _ _) (.cons _ _ _ _ (.sym 3) .nil))))
      · obtain c3 | c3 | c3 | c3 : (a3 = 1) ∨ (a3 = 2) ∨ (a3 = 3) ∨ (a3 ≠ 1 ∧ a3 ≠ 2 ∧ a3 ≠ 3) := by omega
        · exact go _ _ (app_told (told0_2 a0 a1 a2 a3 c0) (app_told (told1_2 a0 a1 a2 a3 c1) (told2_8 a0 a1 a2 a3 c2))) row2_2_8_0 (.cons _ _ _ _ (.sym 0) (.cons _ _ _ _ (.sym 1) (.cons _ _ _ _ (.sym 2) (.cons _ _ _ _ (by rw [c3]; exact .int _ _) .nil))))
        · exact go _ _ (app_told (told0_2 a0 a1 a2 a3 c0) (app_told (told1_2 a0 a1 a2 a3 c1) (told2_8 a0 a1 a2 a3 c2))) row2_2_8_1 (.cons _ _ _ _ (.sym 0) (.cons _ _ _ _ (.sym 1) (.cons _ _ _ _ (.sym 2) (.cons _ _ _ _ (by rw [c3]; exact .int _ _) .nil))))
        · exact go _ _ (app_told (told0_2 a0 a1 a2 a3 c0) (app_told (told1_2 a0 a1 a2 a3 c1) (told2_8 a0 a1 a2 a3 c2))) row2_2_8_2 (.cons _ _ _ _ (.sym 0) (.cons _ _ _ _ (.sym 1) (.cons _ _ _ _ (.sym 2) (.cons _ _ _ _ (by rw [c3]; exact .int _ _) .nil))))
        · exact go _ _ (app_told (told0_2 a0 a1 a2 a3 c0) (app_told (told1_2 a0 a1 a2 a3 c1) (app_told (told2_8 a0 a1 a2 a3 c2) (told3_3 a0 a1 a2 a3 c3)))) row2_2_8_3 (.cons _ _ _ _ (.sym 0) (.cons _ _ _ _ (.sym 1) (.cons _ _ _ _ (.sym 2) (.cons _ _ _ _ (.sym 3) .nil))))
      · obtain c3 | c3 | c3 | c3 : (a3 = 1) ∨ (a3 = 2) ∨ (a3 = 3) ∨ (a3 ≠ 1 ∧ a3 ≠ 2 ∧ a3 ≠ 3) := by omega
        · exact go _ _ (app_told (told0_2 a0 a1 a2 a3 c0) (app_told (told1_2 a0 a1 a2 a3 c1) (told2_9 a0 a1 a2 a3 c2))) row2_2_9_0 (.cons _ _ _ _ (.sym 0) (.cons _ _ _ _ (.sym 1) (.cons _ _ _ _ (.sym 2) (.cons _ _ _ _ (by rw [c3]; exact .int _ _) .nil))))
        · exact go _ _ (app_told (told0_2 a0 a1 a2 a3 c0) (app_told (told1_2 a0 a1 a2 a3 c1) (told2_9 a0 a1 a2 a3 c2))) row2_2_9_1 (.cons _ _ _ _ (.sym 0) (.cons _ _ _ _ (.sym 1) (.cons _ _ _ _ (.sym 2) (.cons _ _ _ _ (by rw [c3]; exact .int _ _) .nil))))
        · exact go _ _ (app_told (told0_2 a0 a1 a2 a3 c0) (app_told (told1_2 a0 a1 a2 a3 c1) (told2_9 a0 a1 a2 a3 c2))) row2_2_9_2 (.cons _ _ _ _ (.sym 0) (.cons _ _ _ _ (.sym 1) (.cons _ _ _ _ (.sym 2) (.cons _ _ _ _ (by rw [c3]; exact .int _ _) .nil))))
        · exact go _ _ (app_told (told0_2 a0 a1 a2 a3 c0) (app_told (told1_2 a0 a1 a2 a3 c1) (app_told (told2_9 a0 a1 a2 a3 c2) (told3_3 a0 a1 a2 a3 c3)))) row2_2_9_3 (.cons _ _ _ _ (.sym 0) (.cons _ _ _ _ (.sym 1) (.cons _ _ _ _ (.sym 2) (.cons _ _ _ _ (.sym 3) .nil))))

/-! ### The row's step: the shell's -/
set_option maxRecDepth 100000 in
theorem lifted (os : Os) (started : os.Started) (H : Type) (enc : TypeId × Value → H) :
    ReturnsInHanded {} Tryz.checked os 10 .any (Rows.engnLimitsSpec.pre6 enc Tryz.prog Tryz.f10 Rows.engnLimitsRow.domain false) (Rows.engnLimitsSpec.post enc Tryz.prog Tryz.f10 false true false false) := by
  refine returnsInHanded_of_change (C := Tryz.checked) own started (by kernel_rfl) Tryz.func10
    (ChangeSpec.witness6 (enc := enc) (C := Tryz.checked) false ⟨#[], #[.int .i64 0, .int .i64 0, .int .i64 0, .int .i64 0], []⟩ 8 (by kernel_rfl) (by kernel_rfl) (by kernel_rfl) (by kernel_rfl)) ?_
  intro W base args ds gs before hval0 hW hcnd _
  have hval : ∀ (j : Nat) t v, Tryz.f10.params[j]? = some t → args[j]? = some v → Value.okWide Tryz.prog W .any base t v := hval0
  have hW' := hW
  obtain ⟨p, q, hA0, hV, rfl, hfz, hnd⟩ := hW
  have hA : DataW.TrodAll enc Tryz.prog W 0 (fun _ => true) true Tryz.f10.params.toList args.toList ds p := hA0
  rw [Tryz.params10] at hA hval
  obtain ⟨v0, vs0, d0, ds0, p0, q0, hargs, rfl, rfl, h0, r0⟩ := trodAll_cons hA
  obtain ⟨v1, vs1, d1, ds1, p1, q1, rfl, rfl, rfl, h1, r1⟩ := trodAll_cons r0
  obtain ⟨v2, vs2, d2, ds2, p2, q2, rfl, rfl, rfl, h2, r2⟩ := trodAll_cons r1
  obtain ⟨v3, vs3, d3, ds3, p3, q3, rfl, rfl, rfl, h3, r3⟩ := trodAll_cons r2
  obtain ⟨rfl, rfl, rfl⟩ := trodAll_nil r3
  obtain rfl : args = #[v0, v1, v2, v3] := by cases args; simp_all
  obtain ⟨rfl, rfl⟩ := trodVars_none hV
  obtain ⟨a0, rfl, rfl, rfl, w0⟩ := open_int Tryz.underlying3 (hval 0 3 v0 rfl rfl) h0
  obtain ⟨a1, rfl, rfl, rfl, w1⟩ := open_int Tryz.underlying3 (hval 1 3 v1 rfl rfl) h1
  obtain ⟨a2, rfl, rfl, rfl, w2⟩ := open_int Tryz.underlying3 (hval 2 3 v2 rfl rfl) h2
  obtain ⟨a3, rfl, rfl, rfl, w3⟩ := open_int Tryz.underlying3 (hval 3 3 v3 rfl rfl) h3
  clear hA0 hval0
  simp only [List.append_nil] at hW'
  refine (walk a0 a1 a2 a3 w0 w1 w2 w3 W).mono fun e W' ⟨he, hg⟩ => ?_
  subst he
  exact ⟨_, rfl, post_plain hW' (fun _ _ _ => (trodAll_cons_mk (shut_bool Tryz.underlying4 _) trodAll_mk0)) (fun sp => (trodAll_cons_mk (shut_int Tryz.underlying3 w0) (trodAll_cons_mk (shut_int Tryz.underlying3 w1) (trodAll_cons_mk (shut_int Tryz.underlying3 w2) (trodAll_cons_mk (shut_int Tryz.underlying3 w3) trodAll_mk0))))) (fun _ => rfl)
    hg (ok_one (by kernel_rfl) rfl (okWide_bool_mk Tryz.underlying4 _))⟩

set_option maxRecDepth 100000 in
set_option maxHeartbeats 8000000 in
theorem closed : joinedFacts Tryz.prog 10 Tryz.f10 Rows.engnLimitsSpec Rows.engnLimitsRow = true := by
  unfold joinedFacts
  simp only [Bool.and_eq_true]
  repeat' (with_reducible apply And.intro)
  all_goals (as_aux_lemma => kernel_rfl)

theorem over : Rows.engnLimitsRow.holds Tryz.pinned (OpenSpec.ofChange Rows.engnLimitsSpec) :=
  OpenClaim.holds_of_wide 10 Tryz.f10 rfl rfl rfl rfl rfl rfl rfl ⟨rfl, rfl, rfl, rfl, rfl⟩ rfl rfl rfl rfl rfl (by kernel_rfl) Tryz.func10 closed
    (of_decide_eq_true (by kernel_rfl)) (by unfold Func.isWrapper; first | (rw [if_pos (by decide +kernel)]; kernel_rfl) | (rw [if_neg (by decide +kernel)]; exact ⟨rfl, rfl⟩))
    (fun os started H enc _ => lifted os started H enc)

theorem proved : Rows.EngnLimitsSaid :=
  over
#print axioms proved
end Go.Proofs.YtnlbdfccijgapaaGreat.engnLimits
