/-
  What package-level variables hold when 'ProgForms' begins, and that it is so (written by a program of mine, mklaid.py).
-/
import Derived.Test.YtcoghkkhjaokmaaGreatDoorRows
import Derived.Test.YtcoghkkhjaokmaaGreatDoorVmLaid
import Derived.Test.YtcoghkkhjaokmaaGreatDoorVmStr
import Derived.Stop.LaidErr
import Derived.Lay
import Derived.MakeChecks
import Derived.LaidOnce
import Derived.SevenTiedAt
import Derived.LaidSub
import Derived.Lib.LaidTab
import Derived.Shelf.Vars
import Derived.WalkKit
import Derived.ProofKit
set_option maxRecDepth 100000
namespace Go.Proofs.YtcoghkkhjaokmaaGreatDoor.progForms
open Go.RowKit Go.Vm Go.ChangeShapes
def laidL : List (String × DataW Unit) := [("math/bits.deBruijn32tab", Rows.laid_math_bits_deBruijn32tab), ("math/bits.deBruijn64tab", Rows.laid_math_bits_deBruijn64tab), ("internal/strconv.uint64pow10", Rows.laid_internal_strconv_uint64pow10), ("unicode/utf8.acceptRanges", Rows.laid_unicode_utf8_acceptRanges), ("strconv.ErrRange", Rows.laid_strconv_ErrRange), ("strconv.ErrSyntax", Rows.laid_strconv_ErrSyntax), ("unicode/utf8.first", Rows.laid_unicode_utf8_first)]
def tbl (m : Int) : List (Nat × Blk) := [(3, .whole (powL 20 1)), (1, .cells [.iface 195 (.ptr 8 0)] true), (2, .cells [.iface 195 (.ptr 9 0)] true), (0, .cells [.int .i64 m] true)]
theorem star : "*" ++ "errors.errorString" = "*errors.errorString" := by decide
theorem rowE (u : TypeId) (h : Tryz.prog.typeName? 3 u = some "*errors.errorString") : u = 195 :=
  typeName_ptr_named (nm := "errors.errorString") (by rw [star]; kernel_rfl) (by kernel_rfl) (by decide) u (by rw [star]; exact h)
theorem laid_w {W : World} (hL : laidMetH Tryz.prog laidL W) (hS : W.ShapedOpen Tryz.prog) : ∃ m pls, pls.length = 2 ∧ ∀ σ, LaidW Tryz.prog (laidE Tryz.prog (tbl m) pls σ) W (tbl m) := by
  have h : laidMet Tryz.prog laidL W := (laidMetH_iff.1 hL).1
  obtain ⟨a0, s0, hv0, hc0, -, -⟩ := laid_sentinel (n := "strconv.ErrSyntax") h.tail.tail.tail.tail.tail (g := 1) (ti := 77) (tp := 195) (te := 197) (ts := 9) (by kernel_rfl) (by kernel_rfl) Tryz.underlying77 rowE Tryz.underlying195 Tryz.underlying197 rfl rfl Tryz.underlying9 (by kernel_rfl) (by kernel_rfl)
  obtain ⟨a1, s1, hv1, hc1, -, -⟩ := laid_sentinel (n := "strconv.ErrRange") h.tail.tail.tail.tail (g := 2) (ti := 77) (tp := 195) (te := 197) (ts := 9) (by kernel_rfl) (by kernel_rfl) Tryz.underlying77 rowE Tryz.underlying195 Tryz.underlying197 rfl rfl Tryz.underlying9 (by kernel_rfl) (by kernel_rfl)
  obtain ⟨m, hm⟩ : ∃ m, W.cell? ⟨0, 0, none⟩ = some (.int .i64 m) := cell_of_shapedOpen_int (zero := #[.int .i64 0]) (t := 3) hS (of_decide_eq_true (by kernel_rfl)) (by kernel_rfl) rfl (by kernel_rfl) (by kernel_rfl) Tryz.underlying3
  have ht := Lib.tabIs_of_head (name := "internal/strconv.uint64pow10") (k := .u64) (zs := Lib.pow10Tab) (P := Tryz.prog) (W := W) (g := 3) (t := 182) (e := 119) (n := 20) (by kernel_rfl) (by kernel_rfl) (by show Program.underlying _ _ = _; kernel_rfl) (by show Program.underlying _ _ = _; kernel_rfl) (by kernel_rfl) (by kernel_rfl) h.tail.tail
  obtain ⟨e, fz, hh⟩ := var_heap (g := 3) (by kernel_rfl) ht
  refine ⟨m, [⟨a0.block, a0.off, 0⟩, ⟨a1.block, a1.off, 0⟩], rfl, fun σ g x hx => ?_⟩
  simp only [tbl, tblAt, nbeq_d] at hx
  by_cases h1 : 3 = g
  · subst h1
    simp at hx
    subst hx
    exact ⟨of_decide_eq_true (by kernel_rfl), rfl, _, e, fz, hh, by simpa using powL_vr⟩
  · rw [show decide (3 = g) = false from decide_eq_false h1] at hx
    by_cases h2 : 1 = g
    · subst h2
      simp at hx
      subst hx
      exact ⟨of_decide_eq_true (by kernel_rfl), rfl, laid_err (by kernel_rfl) hv0 hc0 rfl⟩
    · rw [show decide (1 = g) = false from decide_eq_false h2] at hx
      by_cases h3 : 2 = g
      · subst h3
        simp at hx
        subst hx
        exact ⟨of_decide_eq_true (by kernel_rfl), rfl, laid_err (by kernel_rfl) hv1 hc1 rfl⟩
      · rw [show decide (2 = g) = false from decide_eq_false h3] at hx
        by_cases h4 : 0 = g
        · subst h4
          simp at hx
          subst hx
          exact ⟨of_decide_eq_true (by kernel_rfl), rfl, laid_int hm⟩
        · rw [show decide (0 = g) = false from decide_eq_false h4] at hx
          simp at hx
theorem door_met (os : Os) (args : Array Value) : laidMetH Tryz.prog laidL ((World.laidAll Tryz.prog os laidL).forCall (fun _ _ => 0) ⟨#[], args, []⟩).memory := by
  rw [MakeChecks.laidMetH_plain _ _ _ (by kernel_rfl)]
  exact laidMet_laidAll _ (by kernel_rfl) (by kernel_rfl)
end Go.Proofs.YtcoghkkhjaokmaaGreatDoor.progForms
