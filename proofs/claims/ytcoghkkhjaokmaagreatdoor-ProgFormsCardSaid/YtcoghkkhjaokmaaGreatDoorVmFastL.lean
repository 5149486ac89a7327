/-
  Vm, part 43: the kernel's runs where variables are laid.
-/
import Derived.Test.YtcoghkkhjaokmaaGreatDoorVmFast
import Derived.Test.YtcoghkkhjaokmaaGreatDoorVmLaid
namespace Go.Vm

noncomputable def runsKL (p : Prog) (ext : Ext) (n f : Nat) (args : List V) (h : Hp) : Bool :=
  match callK p ext (execK p ext n) f args h with
  | some (.bool true, _) => true
  | _ => false

theorem runsL_of {p : Prog} {ext : Ext} {n f : Nat} {args : List V} {h : Hp} (e : runsKL p ext n f args h = true) : runsL p ext n f args h = true := by
  have ih : execK p ext n = exec p ext n := funext fun c => funext fun fr => funext fun h => execK_eq p ext n c fr h
  unfold runsKL at e
  rw [ih, callK_eq] at e
  exact e

end Go.Vm
