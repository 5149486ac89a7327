import Derived.Test.YtkgnhidkfdoimaaGreatBWorkFullk
import Derived.Test.YtkgnhidkfdoimaaGreatBWorkFulld
import Derived.WalkKit
import Derived.ProofKit
import Derived.OpenShut
set_option maxRecDepth 100000
namespace Go.Proofs.YtkgnhidkfdoimaaGreat.workFull
open Go.Proofs.YtkgnhidkfdoimaaGreat.sa
open Go.ChangeShapes Go.WideShapes Go.ChangeAt Go.RowKit Go.Vm Go.Dv Go.Lib
theorem own : ownKnob Tryz.prog.godebug = none := by kernel_rfl
theorem law (l0 : List Arg) (hk : l0.map Arg.kind = [.int .i64, .int .i64]) (hl : ∀ a, a ∈ l0 → argOk a) : WcD pr xt 5 (l0.map argD) H00 fun d _ => d = .lit (.bool true) := by
  match l0, hk, hl with
  | [.int .i64 x0, .int .i64 x1], _, hl => exact workFull hlaw (a := x0) (b := x1) (H := H00)
theorem walk {H : Type} {enc : TypeId × Value → H} {w : World} {b0 : Nat} {us : List Value} {ds : List (DataW H)} {ps : List MemPlace}
    (hval : ∀ (j : Nat) t u, Tryz.f5.params.toList[j]? = some t → us[j]? = some u → Value.okWide Tryz.prog w .any b0 t u) (hd : DataW.TrodAll enc Tryz.prog w 0 (fun _ => true) true Tryz.f5.params.toList us ds ps) :
    Calls Tryz.prog 5 us.toArray w fun e w' => e = .returned (.bool true) ∧ Below w.heap.size w w' :=
  top_dv mixed (valid []) xt_rises xt_ok rfl intsOk rfl (by kernel_rfl) (ks := [.int .i64, .int .i64])
    (.cons (by show Program.underlying _ _ = _; kernel_rfl) (.cons (by show Program.underlying _ _ = _; kernel_rfl) .nil)) (fun l0 h1 h2 => law l0 h1 h2) hval hd
set_option maxRecDepth 100000 in
theorem lifted (os : Os) (started : os.Started) (H : Type) (enc : TypeId × Value → H) :
    ReturnsInHanded {} Tryz.checked os 5 .any (Rows.workFullSpec.pre6 enc Tryz.prog Tryz.f5 Rows.workFullRow.domain false) (Rows.workFullSpec.post enc Tryz.prog Tryz.f5 false true false false) := by
  refine returnsInHanded_of_change (C := Tryz.checked) own started (by kernel_rfl) Tryz.func5
    (ChangeSpec.witness6 (enc := enc) (C := Tryz.checked) false ⟨#[], #[.int .i64 0, .int .i64 0], []⟩ 8 (by kernel_rfl) (by kernel_rfl) (by kernel_rfl) (by kernel_rfl)) ?_
  intro W base args ds gs before hval0 hW hcnd _
  have hval : ∀ (j : Nat) t v, Tryz.f5.params[j]? = some t → args[j]? = some v → Value.okWide Tryz.prog W .any base t v := hval0
  have hW' := hW
  obtain ⟨p, q, hA0, hV, rfl, hfz, hnd⟩ := hW
  have hA : DataW.TrodAll enc Tryz.prog W 0 (fun _ => true) true Tryz.f5.params.toList args.toList ds p := hA0
  have hA1 := hA
  rw [Tryz.params5] at hA1
  obtain ⟨v0, vs0, d0, ds0, p0, q0, hargs, rfl, rfl, h0, r0⟩ := trodAll_cons hA1
  obtain ⟨v1, vs1, d1, ds1, p1, q1, rfl, rfl, rfl, h1, r1⟩ := trodAll_cons r0
  obtain ⟨rfl, rfl, rfl⟩ := trodAll_nil r1
  obtain ⟨rfl, rfl⟩ := trodVars_none hV
  have hw := walk (b0 := base) (us := args.toList) (fun j t u h1 h2 => hval j t u (by simpa using h1) (by simpa using h2)) hA
  rw [show args.toList.toArray = args from by simp] at hw
  refine hw.mono fun e W' ⟨he, hb⟩ => ?_
  subst he
  exact ⟨_, rfl, post_kept hW' rfl (by kernel_rfl) (fun t ht => by rw [Tryz.params5] at ht; simp at ht; (first | (rcases ht with rfl | rfl) | (rcases ht with rfl)) <;> exact ⟨by kernel_rfl, of_decide_eq_true (by kernel_rfl)⟩) rfl rfl
    (fun _ _ _ => trodAll_cons_mk (shut_bool Tryz.underlying4 _) trodAll_mk0) hb (ok_one (by kernel_rfl) rfl (okWide_bool_mk Tryz.underlying4 _))⟩
theorem over : Rows.workFullRow.holds Tryz.pinned (OpenSpec.ofChange Rows.workFullSpec) :=
  OpenClaim.holds_of_wide 5 Tryz.f5 rfl rfl rfl rfl rfl rfl rfl ⟨rfl, rfl, rfl, rfl, rfl⟩ rfl rfl rfl rfl rfl (by kernel_rfl) Tryz.func5 (by kernel_rfl)
    (of_decide_eq_true (by kernel_rfl)) (by unfold Func.isWrapper; first | (rw [if_pos (by decide +kernel)]; kernel_rfl) | (rw [if_neg (by decide +kernel)]; exact ⟨rfl, rfl⟩))
    (fun os started H enc _ => lifted os started H enc)
theorem proved : Rows.WorkFullSaid :=
  over
#print axioms proved
end Go.Proofs.YtkgnhidkfdoimaaGreat.workFull
