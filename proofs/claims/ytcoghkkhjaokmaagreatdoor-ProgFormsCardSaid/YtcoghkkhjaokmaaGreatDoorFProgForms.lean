/-
  'colonnade/colonnadelaw26.ProgForms' returns true whatever its number, tied to the program's text (the card): proved for every number. What the row lists of package-level variables is as the program lays it.
  The shell is the seat's (proof-skeleton.mjs) and the guide's worked card; the walk is the small machine's run, once for each of the 36 rows that the number may pick.
-/
import Derived.Test.YtcoghkkhjaokmaaGreatDoorFProgFormsE
import Derived.Test.YtcoghkkhjaokmaaGreatDoorCards
import Derived.Test.YtcoghkkhjaokmaaGreatDoorTie
import Derived.Test.YtcoghkkhjaokmaaGreatDoorFProgFormsR0
import Derived.Test.YtcoghkkhjaokmaaGreatDoorFProgFormsR1
import Derived.Test.YtcoghkkhjaokmaaGreatDoorFProgFormsR2
import Derived.WalkKit
import Derived.ProofKit
import Derived.OpenShut
import Derived.Stop.Joined
import Derived.SevenTiedAt
namespace Go.Proofs.YtcoghkkhjaokmaaGreatDoor.progForms
open Go.ChangeShapes Go.WideShapes Go.ChangeAt Go.RowKit Go.Vm
set_option linter.unusedVariables false

theorem own : ownKnob Tryz.prog.godebug = none := by kernel_rfl

theorem mixed : Tryz.prog.follows .mixedOrders = true := by kernel_rfl

theorem rows (m : Int) : ∀ r : Fin 36, runsL (mach [(.and, .sym 0, .int .i64 (.ofNat 255), .sym 1), (.rem, .sym 1, .int .i64 (.ofNat 36), .int .i64 (.ofNat r.val))]) ext 1000000 6 [.sym 0] (laidH Tryz.prog.globals.size 2 (tbl m)) = true
  | ⟨0, _⟩ => row0 m
  | ⟨1, _⟩ => row1 m
  | ⟨2, _⟩ => row2 m
  | ⟨3, _⟩ => row3 m
  | ⟨4, _⟩ => row4 m
  | ⟨5, _⟩ => row5 m
  | ⟨6, _⟩ => row6 m
  | ⟨7, _⟩ => row7 m
  | ⟨8, _⟩ => row8 m
  | ⟨9, _⟩ => row9 m
  | ⟨10, _⟩ => row10 m
  | ⟨11, _⟩ => row11 m
  | ⟨12, _⟩ => row12 m
  | ⟨13, _⟩ => row13 m
  | ⟨14, _⟩ => row14 m
  | ⟨15, _⟩ => row15 m
  | ⟨16, _⟩ => row16 m
  | ⟨17, _⟩ => row17 m
  | ⟨18, _⟩ => row18 m
  | ⟨19, _⟩ => row19 m
  | ⟨20, _⟩ => row20 m
  | ⟨21, _⟩ => row21 m
  | ⟨22, _⟩ => row22 m
  | ⟨23, _⟩ => row23 m
  | ⟨24, _⟩ => row24 m
  | ⟨25, _⟩ => row25 m
  | ⟨26, _⟩ => row26 m
  | ⟨27, _⟩ => row27 m
  | ⟨28, _⟩ => row28 m
  | ⟨29, _⟩ => row29 m
  | ⟨30, _⟩ => row30 m
  | ⟨31, _⟩ => row31 m
  | ⟨32, _⟩ => row32 m
  | ⟨33, _⟩ => row33 m
  | ⟨34, _⟩ => row34 m
  | ⟨35, _⟩ => row35 m
  | ⟨k + 36, h⟩ => absurd h (Nat.not_lt.2 (Nat.le_add_left _ _))

theorem ext_rises : Rises ext := orX_rises (strX_rises _ _) (extBy_rises _)
theorem ext_ok (t : Tab) : CallOk Tryz.prog ⟨t, ints⟩ ext := orX_ok (strX_ok sg_ok strs_ok) (extBy_ok extsOk)

theorem walk (a0 : Int) (w : World) (hL : laidMetH Tryz.prog laidL w) (hS : w.ShapedOpen Tryz.prog) :
    Calls Tryz.prog 6 #[.int .i64 a0] w fun e w' => e = .returned (.bool true) ∧ w.keptBut w' (fun _ => False) := by
  obtain ⟨m, pls, hp, hl⟩ := laid_w hL hS
  exact forms_laid mixed valid (fun _ => rfl) intsOk ext_rises ext_ok (t := tbl m) (pls := pls) (N := 36) (m := 255) (n := 1000000) (by decide) (by decide) (by kernel_rfl) (by rw [hp]; exact rows m) a0 hl

/-! ### The row's step: the shell's, with what is laid (as the guide's worked card has it) -/

set_option maxRecDepth 100000 in
theorem lifted (os : Os) (started : os.Started) (H : Type) (enc : TypeId × Value → H) :
    ReturnsInHanded {} Tryz.checked os 6 .any (fun w args => (Rows.progFormsSpec.pre enc Tryz.prog Tryz.f6 [] false w args ∧ laidMetH Tryz.prog laidL w) ∧ sizedMet enc Tryz.prog Tryz.f6 (OpenSpec.ofChange Rows.progFormsSpec) false w args)
      (Rows.progFormsSpec.post enc Tryz.prog Tryz.f6 false true false false) := by
  refine handed_laid (C := Tryz.checked) (X := fun w _ => laidMetH Tryz.prog laidL w) (fun _ _ _ hh h => h.of_heap hh) own started (by kernel_rfl) Tryz.func6
    (ChangeSpec.witness_shaped (enc := enc) (C := Tryz.checked) (os := os) (X := fun w _ => laidMetH Tryz.prog laidL w) false (World.laidAll Tryz.prog os laidL) #[.int .i64 0] 8 (World.laidAll_os _ _ _)
      (World.shaped_of_ZipB (by kernel_rfl) (by kernel_rfl)) (by kernel_rfl) (by kernel_rfl) (by kernel_rfl) (door_met os _)) ?_
  intro W base args ds gs before hval0 hW hS hL
  have hval : ∀ (j : Nat) t v, Tryz.f6.params[j]? = some t → args[j]? = some v → Value.okWide Tryz.prog W .any base t v := hval0
  have hW' := hW
  obtain ⟨p, q, hA0, hV, rfl, hfz, hnd⟩ := hW
  have hA : DataW.TrodAll enc Tryz.prog W 0 (fun _ => true) true Tryz.f6.params.toList args.toList ds p := hA0
  rw [Tryz.params6] at hA hval
  obtain ⟨v0, vs0, d0, ds0, p0, q0, hargs, rfl, rfl, h0, r0⟩ := trodAll_cons hA
  obtain ⟨rfl, rfl, rfl⟩ := trodAll_nil r0
  obtain rfl : args = #[v0] := by cases args; simp_all
  obtain ⟨rfl, rfl⟩ := trodVars_none hV
  obtain ⟨a0, rfl, rfl, rfl, w0⟩ := open_int Tryz.underlying3 (hval 0 3 v0 rfl rfl) h0
  clear hA0 hval0
  simp only [List.append_nil] at hW'
  refine (walk a0 W hL hS).mono fun e W' ⟨he, hg⟩ => ?_
  subst he
  exact ⟨_, rfl, post_plain hW' (fun _ _ _ => (trodAll_cons_mk (shut_bool Tryz.underlying4 _) trodAll_mk0)) (fun sp => (trodAll_cons_mk (shut_int Tryz.underlying3 w0) trodAll_mk0)) (fun _ => rfl)
    hg (ok_one (by kernel_rfl) rfl (okWide_bool_mk Tryz.underlying4 _))⟩

theorem over : Rows.progFormsRow.holds Tryz.pinned (OpenSpec.ofChange Rows.progFormsSpec) :=
  OpenClaim.holds_of_wide 6 Tryz.f6 rfl rfl rfl rfl rfl rfl rfl ⟨rfl, rfl, rfl, rfl, rfl⟩ rfl rfl rfl rfl rfl (by kernel_rfl) Tryz.func6 (by kernel_rfl)
    (of_decide_eq_true (by kernel_rfl)) (by unfold Func.isWrapper; first | (rw [if_pos (by decide +kernel)]; kernel_rfl) | (rw [if_neg (by decide +kernel)]; exact ⟨rfl, rfl⟩))
    (fun os started H enc _ => lifted os started H enc)

/-- The card. -/
theorem proved : Rows.ProgFormsCardSaid :=
  Claim7.holds_tied_plain_at .later [] [.data, .data, .data, .data, .sentinel, .sentinel, .pinned] true (true, "594d37dd2f756770823c7385765a21cea85a7b8ca348cfae0022e0ea5f471036") true
    over (fun _ h => by cases h) (by kernel_rfl) (fun _ h => by cases h) progForms_row_tie rfl ⟨rfl, rfl⟩ (by kernel_rfl) rfl
    (fun f fn hf hfn => by
      obtain rfl : f = 6 := Option.some.inj ((show Tryz.prog.funcNamed "colonnade/colonnadelaw26.ProgForms" = some 6 by kernel_rfl).symm.trans hf) |>.symm
      obtain rfl : fn = Tryz.f6 := (Option.some.inj (Tryz.func6.symm.trans hfn)).symm
      exact ⟨by kernel_rfl, fun j t ht => by
        rw [Tryz.params6] at ht
        have hm : t ∈ [3] := by simpa using Array.mem_of_getElem? ht
        have hall : ([3].all fun u => !Tryz.prog.wantsStandIn u) = true := by kernel_rfl
        exact (show Tryz.prog.wantsStandIn t = false by simpa using List.all_eq_true.1 hall t hm)⟩)
    (by kernel_rfl)
#print axioms proved
end Go.Proofs.YtcoghkkhjaokmaaGreatDoor.progForms
