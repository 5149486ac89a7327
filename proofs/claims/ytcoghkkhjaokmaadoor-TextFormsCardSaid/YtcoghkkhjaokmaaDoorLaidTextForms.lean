/-
  What package-level variables hold when 'TextForms' begins, and that it is so (written by a program of mine, mklaid.py).
-/
import Derived.Test.YtcoghkkhjaokmaaDoorRows
import Derived.Test.YtcoghkkhjaokmaaDoorVmLaid
import Derived.Test.YtcoghkkhjaokmaaDoorVmStr
import Derived.Stop.LaidErr
import Derived.Lay
import Derived.MakeChecks
import Derived.LaidOnce
import Derived.SevenTiedAt
import Derived.LaidSub
import Derived.Lib.LaidTab
import Derived.Shelf.Vars
import Derived.WalkKit
import Derived.ProofKit
set_option maxRecDepth 100000
namespace Go.Proofs.YtcoghkkhjaokmaaDoor.textForms
open Go.RowKit Go.Vm Go.ChangeShapes
def laidL : List (String × DataW Unit) := [("math/bits.deBruijn32tab", Rows.laid_math_bits_deBruijn32tab), ("math/bits.deBruijn64tab", Rows.laid_math_bits_deBruijn64tab), ("internal/strconv.uint64pow10", Rows.laid_internal_strconv_uint64pow10), ("unicode/utf8.acceptRanges", Rows.laid_unicode_utf8_acceptRanges), ("strconv.ErrRange", Rows.laid_strconv_ErrRange), ("strconv.ErrSyntax", Rows.laid_strconv_ErrSyntax), ("unicode/utf8.first", Rows.laid_unicode_utf8_first)]
def tbl (m : Int) : List (Nat × Blk) := [(2, .whole (powL 20 1)), (0, .cells [.iface 135 (.ptr 8 0)] true), (1, .cells [.iface 135 (.ptr 9 0)] true), (3, .cells [.int .i64 m] true)]
theorem star : "*" ++ "errors.errorString" = "*errors.errorString" := by decide
theorem rowE (u : TypeId) (h : Tryd.prog.typeName? 3 u = some "*errors.errorString") : u = 135 :=
  typeName_ptr_named (nm := "errors.errorString") (by rw [star]; kernel_rfl) (by kernel_rfl) (by decide) u (by rw [star]; exact h)
theorem laid_w {W : World} (hL : laidMetH Tryd.prog laidL W) (hS : W.ShapedOpen Tryd.prog) : ∃ m pls, pls.length = 2 ∧ ∀ σ, LaidW Tryd.prog (laidE Tryd.prog (tbl m) pls σ) W (tbl m) := by
  have h : laidMet Tryd.prog laidL W := (laidMetH_iff.1 hL).1
  obtain ⟨a0, s0, hv0, hc0, -, -⟩ := laid_sentinel (n := "strconv.ErrSyntax") h.tail.tail.tail.tail.tail (g := 0) (ti := 76) (tp := 135) (te := 137) (ts := 9) (by kernel_rfl) (by kernel_rfl) Tryd.underlying76 rowE Tryd.underlying135 Tryd.underlying137 rfl rfl Tryd.underlying9 (by kernel_rfl) (by kernel_rfl)
  obtain ⟨a1, s1, hv1, hc1, -, -⟩ := laid_sentinel (n := "strconv.ErrRange") h.tail.tail.tail.tail (g := 1) (ti := 76) (tp := 135) (te := 137) (ts := 9) (by kernel_rfl) (by kernel_rfl) Tryd.underlying76 rowE Tryd.underlying135 Tryd.underlying137 rfl rfl Tryd.underlying9 (by kernel_rfl) (by kernel_rfl)
  obtain ⟨m, hm⟩ : ∃ m, W.cell? ⟨3, 0, none⟩ = some (.int .i64 m) := cell_of_shapedOpen_int (zero := #[.int .i64 0]) (t := 3) hS (of_decide_eq_true (by kernel_rfl)) (by kernel_rfl) rfl (by kernel_rfl) (by kernel_rfl) Tryd.underlying3
  have ht := Lib.tabIs_of_head (name := "internal/strconv.uint64pow10") (k := .u64) (zs := Lib.pow10Tab) (P := Tryd.prog) (W := W) (g := 2) (t := 129) (e := 104) (n := 20) (by kernel_rfl) (by kernel_rfl) (by show Program.underlying _ _ = _; kernel_rfl) (by show Program.underlying _ _ = _; kernel_rfl) (by kernel_rfl) (by kernel_rfl) h.tail.tail
  obtain ⟨e, fz, hh⟩ := var_heap (g := 2) (by kernel_rfl) ht
  refine ⟨m, [⟨a0.block, a0.off, 0⟩, ⟨a1.block, a1.off, 0⟩], rfl, fun σ g x hx => ?_⟩
  simp only [tbl, tblAt, nbeq_d] at hx
  by_cases h1 : 2 = g
  · subst h1
    simp at hx
    subst hx
    exact ⟨of_decide_eq_true (by kernel_rfl), rfl, _, e, fz, hh, by simpa using powL_vr⟩
  · rw [show decide (2 = g) = false from decide_eq_false h1] at hx
    by_cases h2 : 0 = g
    · subst h2
      simp at hx
      subst hx
      exact ⟨of_decide_eq_true (by kernel_rfl), rfl, laid_err (by kernel_rfl) hv0 hc0 rfl⟩
    · rw [show decide (0 = g) = false from decide_eq_false h2] at hx
      by_cases h3 : 1 = g
      · subst h3
        simp at hx
        subst hx
        exact ⟨of_decide_eq_true (by kernel_rfl), rfl, laid_err (by kernel_rfl) hv1 hc1 rfl⟩
      · rw [show decide (1 = g) = false from decide_eq_false h3] at hx
        by_cases h4 : 3 = g
        · subst h4
          simp at hx
          subst hx
          exact ⟨of_decide_eq_true (by kernel_rfl), rfl, laid_int hm⟩
        · rw [show decide (3 = g) = false from decide_eq_false h4] at hx
          simp at hx
theorem door_met (os : Os) (args : Array Value) : laidMetH Tryd.prog laidL ((World.laidAll Tryd.prog os laidL).forCall (fun _ _ => 0) ⟨#[], args, []⟩).memory := by
  rw [MakeChecks.laidMetH_plain _ _ _ (by kernel_rfl)]
  exact laidMet_laidAll _ (by kernel_rfl) (by kernel_rfl)
end Go.Proofs.YtcoghkkhjaokmaaDoor.textForms
