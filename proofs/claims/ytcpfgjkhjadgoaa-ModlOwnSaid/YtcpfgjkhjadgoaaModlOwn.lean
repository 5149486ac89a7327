/-
  ModlOwn: rows that are handed in stay as they were, and what is told is memory of one's own. For any numbers and slices.
-/
import Derived.Test.YtcpfgjkhjadgoaaBModlOwnk
import Derived.Test.YtcpfgjkhjadgoaaBModlOwnd
import Derived.WalkKit
import Derived.ProofKit
import Derived.OpenShut
set_option maxRecDepth 100000
namespace Go.Proofs.Ytcpfgjkhjadgoaa.modlOwn
open Go.Proofs.Ytcpfgjkhjadgoaa.sa
open Go.ChangeShapes Go.WideShapes Go.ChangeAt Go.RowKit Go.Vm Go.Dv Go.Lib
theorem own : ownKnob Try.prog.godebug = none := by kernel_rfl
theorem law (l0 : List Arg) (hk : l0.map Arg.kind = [.int .i64, .nums .i64, .nums .i64]) (hl : ∀ a, a ∈ l0 → argOk a) : WcD pr xt 4 (l0.map argD) H00 fun d _ => d = .lit (.bool true) := by
  match l0, hk, hl with
  | [.int .i64 x0, .nums .i64 x1, .nums .i64 x2], _, hl => exact modlOwn hlaw (n := x0) (m := .w) (m2 := .w) (l := x1) (ops := x2) (H := H00) (.inl rfl)
theorem walk {H : Type} {enc : TypeId × Value → H} {w : World} {b0 : Nat} {us : List Value} {ds : List (DataW H)} {ps : List MemPlace}
    (hval : ∀ (j : Nat) t u, Try.f4.params.toList[j]? = some t → us[j]? = some u → Value.okWide Try.prog w .any b0 t u) (hd : DataW.TrodAll enc Try.prog w 0 (fun _ => true) true Try.f4.params.toList us ds ps) :
    Calls Try.prog 4 us.toArray w fun e w' => e = .returned (.bool true) ∧ Below w.heap.size w w' :=
  top_dv mixed (valid []) xt_rises xt_ok rfl intsOk rfl (by kernel_rfl) (ks := [.int .i64, .nums .i64, .nums .i64])
    (.cons (by show Program.underlying _ _ = _; kernel_rfl) (.cons ⟨3, by kernel_rfl, by kernel_rfl, by kernel_rfl⟩ (.cons ⟨3, by kernel_rfl, by kernel_rfl, by kernel_rfl⟩ .nil))) (fun l0 h1 h2 => law l0 h1 h2) hval hd
set_option maxRecDepth 100000 in
theorem lifted (os : Os) (started : os.Started) (H : Type) (enc : TypeId × Value → H) :
    ReturnsInHanded {} Try.checked os 4 .any (Rows.modlOwnSpec.pre6 enc Try.prog Try.f4 Rows.modlOwnRow.domain false) (Rows.modlOwnSpec.post enc Try.prog Try.f4 false true false false) := by
  refine returnsInHanded_of_change (C := Try.checked) own started (by kernel_rfl) Try.func4
    (ChangeSpec.witness6 (enc := enc) (C := Try.checked) false ⟨#[], #[.int .i64 0, .slice none 0 0, .slice none 0 0], []⟩ 8 (by kernel_rfl) (by kernel_rfl) (by kernel_rfl) (by kernel_rfl)) ?_
  intro W base args ds gs before hval0 hW hcnd _
  have hval : ∀ (j : Nat) t v, Try.f4.params[j]? = some t → args[j]? = some v → Value.okWide Try.prog W .any base t v := hval0
  have hW' := hW
  obtain ⟨p, q, hA0, hV, rfl, hfz, hnd⟩ := hW
  have hA : DataW.TrodAll enc Try.prog W 0 (fun _ => true) true Try.f4.params.toList args.toList ds p := hA0
  have hA1 := hA
  rw [Try.params4] at hA1
  obtain ⟨v0, vs0, d0, ds0, p0, q0, hargs, rfl, rfl, h0, r0⟩ := trodAll_cons hA1
  obtain ⟨v1, vs1, d1, ds1, p1, q1, rfl, rfl, rfl, h1, r1⟩ := trodAll_cons r0
  obtain ⟨v2, vs2, d2, ds2, p2, q2, rfl, rfl, rfl, h2, r2⟩ := trodAll_cons r1
  obtain ⟨rfl, rfl, rfl⟩ := trodAll_nil r2
  obtain ⟨rfl, rfl⟩ := trodVars_none hV
  have hw := walk (b0 := base) (us := args.toList) (fun j t u h1 h2 => hval j t u (by simpa using h1) (by simpa using h2)) hA
  rw [show args.toList.toArray = args from by simp] at hw
  refine hw.mono fun e W' ⟨he, hb⟩ => ?_
  subst he
  exact ⟨_, rfl, post_kept hW' rfl (by kernel_rfl) (fun t ht => by rw [Try.params4] at ht; simp at ht; (first | (rcases ht with rfl | rfl | rfl) | (rcases ht with rfl | rfl) | (rcases ht with rfl)) <;> exact ⟨by kernel_rfl, of_decide_eq_true (by kernel_rfl)⟩) rfl rfl
    (fun _ _ _ => trodAll_cons_mk (shut_bool Try.underlying4 _) trodAll_mk0) hb (ok_one (by kernel_rfl) rfl (okWide_bool_mk Try.underlying4 _))⟩
theorem over : Rows.modlOwnRow.holds Try.pinned (OpenSpec.ofChange Rows.modlOwnSpec) :=
  OpenClaim.holds_of_wide 4 Try.f4 rfl rfl rfl rfl rfl rfl rfl ⟨rfl, rfl, rfl, rfl, rfl⟩ rfl rfl rfl rfl rfl (by kernel_rfl) Try.func4 (by kernel_rfl)
    (of_decide_eq_true (by kernel_rfl)) (by unfold Func.isWrapper; first | (rw [if_pos (by decide +kernel)]; kernel_rfl) | (rw [if_neg (by decide +kernel)]; exact ⟨rfl, rfl⟩))
    (fun os started H enc _ => lifted os started H enc)
theorem proved : Rows.ModlOwnSaid :=
  over
#print axioms proved
end Go.Proofs.Ytcpfgjkhjadgoaa.modlOwn
