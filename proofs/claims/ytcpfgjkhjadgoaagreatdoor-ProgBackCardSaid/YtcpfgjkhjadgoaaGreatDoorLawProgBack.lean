import Derived.Test.YtcpfgjkhjadgoaaGreatDoorBProgBackl
import Derived.Test.YtcpfgjkhjadgoaaGreatDoorBProgBackd
import Derived.Test.YtcpfgjkhjadgoaaGreatDoorCards
import Derived.Test.YtcpfgjkhjadgoaaGreatDoorTie
import Derived.WalkKit
import Derived.ProofKit
import Derived.OpenShut
import Derived.Stop.Joined
import Derived.SevenTiedAt
set_option maxRecDepth 100000
namespace Go.Proofs.YtcpfgjkhjadgoaaGreatDoor.progBack
open Go.Proofs.YtcpfgjkhjadgoaaGreatDoor.sa
open Go.ChangeShapes Go.WideShapes Go.ChangeAt Go.RowKit Go.Vm Go.Dv Go.Lib
set_option linter.unusedVariables false
theorem own : ownKnob Tryz.prog.godebug = none := by kernel_rfl
theorem law (l0 : List Arg) (hk : l0.map Arg.kind = [.int .i64, .int .i64, .nums .i64, .int .i64]) (hl : ∀ a, a ∈ l0 → argOk a) : WcD pr xt 4 (l0.map argD) H00 fun d _ => d = .lit (.bool true) := by
  match l0, hk, hl with
  | [.int .i64 x0, .int .i64 x1, .nums .i64 x2, .int .i64 x3], _, hl => exact (progBack hlaw (n := x0) (m := x1) (md := .w) (l := x2) (prg := x3) H00).mono fun _ _ h => h.1
theorem walk {H : Type} {enc : TypeId × Value → H} {w : World} (hL : laidMetH Tryz.prog laidL w) (hS : w.ShapedOpen Tryz.prog) {b0 : Nat} {us : List Value} {ds : List (DataW H)} {ps : List MemPlace}
    (hval : ∀ (j : Nat) t u, Tryz.f4.params.toList[j]? = some t → us[j]? = some u → Value.okWide Tryz.prog w .any b0 t u) (hd : DataW.TrodAll enc Tryz.prog w 0 (fun _ => true) true Tryz.f4.params.toList us ds ps) :
    Calls Tryz.prog 4 us.toArray w fun e w' => e = .returned (.bool true) ∧ Below w.heap.size w w' := by
  obtain ⟨m, pls, hp, hl⟩ := laid_w hL hS
  refine top_dv_laid (p := pr) (t := tbl m) (pls := pls) mixed (show Valid Tryz.prog pr from valid []) xt_rises xt_ok rfl intsOk (by kernel_rfl) (ks := [.int .i64, .int .i64, .nums .i64, .int .i64])
    (.cons (by show Program.underlying _ _ = _; kernel_rfl) (.cons (by show Program.underlying _ _ = _; kernel_rfl) (.cons ⟨3, by kernel_rfl, by kernel_rfl, by kernel_rfl⟩ (.cons (by show Program.underlying _ _ = _; kernel_rfl) .nil)))) (fun c y e => ?_) (fun l0 h1 h2 => law l0 h1 h2) (hl _) hval hd
  have e' : gl0 c = some y := e
  unfold gl0 at e'
  by_cases hc : c = sg.pow
  · subst hc
    rw [if_pos rfl] at e'
    cases e'
    exact ⟨sg_ok.2.2.2, by show powCells _ = true; kernel_rfl⟩
  rw [if_neg hc] at e'
  clear hc
  by_cases hc : c = sg.syn
  · subst hc
    rw [if_pos rfl] at e'
    cases e'
    exact ⟨sg_ok.2.1, by show errCellT 193 _ = true; kernel_rfl⟩
  rw [if_neg hc] at e'
  clear hc
  by_cases hc : c = sg.rng
  · subst hc
    rw [if_pos rfl] at e'
    cases e'
    exact ⟨sg_ok.2.2.1, by show errCellT 193 _ = true; kernel_rfl⟩
  rw [if_neg hc] at e'
  clear hc
  by_cases hc : c = sg.max
  · subst hc
    rw [if_pos rfl] at e'
    cases e'
    exact ⟨sg_ok.1, by show intCell _ = true; kernel_rfl⟩
  rw [if_neg hc] at e'
  clear hc
  cases e'
set_option maxRecDepth 100000 in
theorem lifted (os : Os) (started : os.Started) (H : Type) (enc : TypeId × Value → H) :
    ReturnsInHanded {} Tryz.checked os 4 .any (fun w args => (Rows.progBackSpec.pre enc Tryz.prog Tryz.f4 [] false w args ∧ laidMetH Tryz.prog laidL w) ∧ sizedMet enc Tryz.prog Tryz.f4 (OpenSpec.ofChange Rows.progBackSpec) false w args) (Rows.progBackSpec.post enc Tryz.prog Tryz.f4 false true false false) := by
  refine handed_laid (C := Tryz.checked) (X := fun w _ => laidMetH Tryz.prog laidL w) (fun _ _ _ hh h => h.of_heap hh) own started (by kernel_rfl) Tryz.func4
    (ChangeSpec.witness_shaped (enc := enc) (C := Tryz.checked) (os := os) (X := fun w _ => laidMetH Tryz.prog laidL w) false (World.laidAll Tryz.prog os laidL) #[.int .i64 0, .int .i64 0, .slice none 0 0, .int .i64 0] 8 (World.laidAll_os _ _ _)
      (World.shaped_of_ZipB (by kernel_rfl) (by kernel_rfl)) (by kernel_rfl) (by kernel_rfl) (by kernel_rfl) (door_met os _)) ?_
  intro W base args ds gs before hval0 hW hS hL
  have hval : ∀ (j : Nat) t v, Tryz.f4.params[j]? = some t → args[j]? = some v → Value.okWide Tryz.prog W .any base t v := hval0
  have hW' := hW
  obtain ⟨p, q, hA0, hV, rfl, hfz, hnd⟩ := hW
  have hA : DataW.TrodAll enc Tryz.prog W 0 (fun _ => true) true Tryz.f4.params.toList args.toList ds p := hA0
  have hA1 := hA
  rw [Tryz.params4] at hA1
  obtain ⟨v0, vs0, d0, ds0, p0, q0, hargs, rfl, rfl, h0, r0⟩ := trodAll_cons hA1
  obtain ⟨v1, vs1, d1, ds1, p1, q1, rfl, rfl, rfl, h1, r1⟩ := trodAll_cons r0
  obtain ⟨v2, vs2, d2, ds2, p2, q2, rfl, rfl, rfl, h2, r2⟩ := trodAll_cons r1
  obtain ⟨v3, vs3, d3, ds3, p3, q3, rfl, rfl, rfl, h3, r3⟩ := trodAll_cons r2
  obtain ⟨rfl, rfl, rfl⟩ := trodAll_nil r3
  obtain ⟨rfl, rfl⟩ := trodVars_none hV
  have hw := walk hL hS (b0 := base) (us := args.toList) (fun j t u h1 h2 => hval j t u (by simpa using h1) (by simpa using h2)) hA
  rw [show args.toList.toArray = args from by simp] at hw
  refine hw.mono fun e W' ⟨he, hb⟩ => ?_
  subst he
  exact ⟨_, rfl, post_kept hW' rfl (by kernel_rfl) (fun t ht => by rw [Tryz.params4] at ht; simp at ht; (first | (rcases ht with rfl | rfl | rfl | rfl) | (rcases ht with rfl | rfl | rfl) | (rcases ht with rfl | rfl) | (rcases ht with rfl)) <;> exact ⟨by kernel_rfl, of_decide_eq_true (by kernel_rfl)⟩) rfl rfl
    (fun _ _ _ => trodAll_cons_mk (shut_bool Tryz.underlying4 _) trodAll_mk0) hb (ok_one (by kernel_rfl) rfl (okWide_bool_mk Tryz.underlying4 _))⟩
theorem over : Rows.progBackRow.holds Tryz.pinned (OpenSpec.ofChange Rows.progBackSpec) :=
  OpenClaim.holds_of_wide 4 Tryz.f4 rfl rfl rfl rfl rfl rfl rfl ⟨rfl, rfl, rfl, rfl, rfl⟩ rfl rfl rfl rfl rfl (by kernel_rfl) Tryz.func4 (by kernel_rfl)
    (of_decide_eq_true (by kernel_rfl)) (by unfold Func.isWrapper; first | (rw [if_pos (by decide +kernel)]; kernel_rfl) | (rw [if_neg (by decide +kernel)]; exact ⟨rfl, rfl⟩))
    (fun os started H enc _ => lifted os started H enc)
theorem proved : Rows.ProgBackCardSaid :=
  Claim7.holds_tied_plain_at .later [] [.data, .data, .data, .data, .sentinel, .sentinel, .pinned] true (true, "99a6f1d3e5c044e11688c49ef08e2c7ffd455ed5b756ca5ba54c1053c2eaecd6") true
    over (fun _ h => by cases h) (by kernel_rfl) (fun _ h => by cases h) progBack_row_tie rfl ⟨rfl, rfl⟩ (by kernel_rfl) rfl
    (fun f fn hf hfn => by
      obtain rfl : f = 4 := Option.some.inj ((show Tryz.prog.funcNamed "colonnade/colonnadelaw26.ProgBack" = some 4 by kernel_rfl).symm.trans hf) |>.symm
      obtain rfl : fn = Tryz.f4 := (Option.some.inj (Tryz.func4.symm.trans hfn)).symm
      exact ⟨by kernel_rfl, fun j t ht => by
        have hm : t ∈ Tryz.f4.params.toList := by simpa using Array.mem_of_getElem? ht
        have hall : (Tryz.f4.params.toList.all fun u => !Tryz.prog.wantsStandIn u) = true := by kernel_rfl
        exact (show Tryz.prog.wantsStandIn t = false by simpa using List.all_eq_true.1 hall t hm)⟩)
    (by kernel_rfl)
#print axioms proved
end Go.Proofs.YtcpfgjkhjadgoaaGreatDoor.progBack
