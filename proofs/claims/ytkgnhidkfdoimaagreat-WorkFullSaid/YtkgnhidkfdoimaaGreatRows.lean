/-
  No cell of these rows narrows 'for every input' (looked for: loops, veiled, ifaces, maps, wideKeys, modest, calm, conditions, laid).
  DERIVED. THE GIVEN ROWS OF THIS SEAT. 8 by the template 'for every input the law returns true; each argument reads behind the call as it read before'; 0 by the template 'total and deterministic' (their statements: YtkgnhidkfdoimaaGreatTotals.lean).
  GIVEN WITH THE SEED: the statements are not yours to turn. If you find one false, say at which input.
  Laid BY PROGRAM, IN A SANDBOX (cutbox-rows.mjs): the forced cells as the released guide's own fill.sh prints them over the translation 1cbcac51deae4e0c… (all of the seat's roots in one cut). By AI agents, Wed Nov 11 2026. No macro, syntax, notation, axiom, sorry.
-/
import Derived.Test.YtkgnhidkfdoimaaGreatChecked
import GoSem.Claim
import GoSem.ClaimJoined
import GoSem.ClaimMapViews
import Derived.JoinedTies
import Derived.KernelRfl
namespace Go.Proofs.YtkgnhidkfdoimaaGreat
/- THE CELL 'sum', in the pinned program and in every row, IS THE sha256 OF THE DUMP (.gsa) THAT YtkgnhidkfdoimaaGreatProg.lean LOADS. Nothing in Lean hashes anything: it is a label: what it is worth is what the hold of that sum in a sandbox is worth. -/
noncomputable def Tryz.pinned : Pinned := { name := "ytkgnhidkfdoimaagreat", sum := "1cbcac51deae4e0c2e56e98ff6d2f5454fa137bff0fd65fb2035c3ad881566de", checked := Tryz.checked }
namespace Rows
def none {H : Type} : Left H := { results := [], args := [] }

/-- 'colonnadelaw20.WorkWins': WHATEVER THE INPUT: true; the input reads as it did. -/
def workWinsSpec : ChangeSpec := { name := "workWins", fn := fun _ => fun
  | [d1, d2, d3, d4] => { results := [.lit (.bool true)], args := [d1, d2, d3, d4] }
  | _ => none }
def workWinsRow : OpenClaim := { program := "ytkgnhidkfdoimaagreat", sum := "1cbcac51deae4e0c2e56e98ff6d2f5454fa137bff0fd65fb2035c3ad881566de", func := "colonnade/colonnadelaw20.WorkWins", spec := "workWins", inPlace := ["internal/bytealg.Compare", "math/bits.Add64"], unfollowed := true, recurses := true, apart := false }
def WorkWinsSaid : Prop := workWinsRow.holds Tryz.pinned (OpenSpec.ofChange workWinsSpec)

/-- ITS FALSE NEIGHBOUR: 'it returns false'. Refute it at one input. -/
def workWinsWrong : ChangeSpec := { name := "workWins", fn := fun _ => fun
  | [d1, d2, d3, d4] => { results := [.lit (.bool false)], args := [d1, d2, d3, d4] }
  | _ => none }
def WorkWinsWrongFalsely : Prop := workWinsRow.holds Tryz.pinned (OpenSpec.ofChange workWinsWrong)

/-- 'colonnadelaw20.WorkReads': WHATEVER THE INPUT: true; the input reads as it did. -/
def workReadsSpec : ChangeSpec := { name := "workReads", fn := fun _ => fun
  | [d1, d2, d3, d4] => { results := [.lit (.bool true)], args := [d1, d2, d3, d4] }
  | _ => none }
def workReadsRow : OpenClaim := { program := "ytkgnhidkfdoimaagreat", sum := "1cbcac51deae4e0c2e56e98ff6d2f5454fa137bff0fd65fb2035c3ad881566de", func := "colonnade/colonnadelaw20.WorkReads", spec := "workReads", inPlace := ["internal/bytealg.Compare", "math/bits.Add64"], unfollowed := true, recurses := true, apart := false }
def WorkReadsSaid : Prop := workReadsRow.holds Tryz.pinned (OpenSpec.ofChange workReadsSpec)

/-- ITS FALSE NEIGHBOUR: 'it returns false'. Refute it at one input. -/
def workReadsWrong : ChangeSpec := { name := "workReads", fn := fun _ => fun
  | [d1, d2, d3, d4] => { results := [.lit (.bool false)], args := [d1, d2, d3, d4] }
  | _ => none }
def WorkReadsWrongFalsely : Prop := workReadsRow.holds Tryz.pinned (OpenSpec.ofChange workReadsWrong)

/-- 'colonnadelaw20.WorkFull': WHATEVER THE INPUT: true; the input reads as it did. -/
def workFullSpec : ChangeSpec := { name := "workFull", fn := fun _ => fun
  | [d1, d2] => { results := [.lit (.bool true)], args := [d1, d2] }
  | _ => none }
def workFullRow : OpenClaim := { program := "ytkgnhidkfdoimaagreat", sum := "1cbcac51deae4e0c2e56e98ff6d2f5454fa137bff0fd65fb2035c3ad881566de", func := "colonnade/colonnadelaw20.WorkFull", spec := "workFull", inPlace := ["internal/bytealg.Compare", "math/bits.Add64"], unfollowed := true, recurses := true, apart := false }
def WorkFullSaid : Prop := workFullRow.holds Tryz.pinned (OpenSpec.ofChange workFullSpec)

/-- ITS FALSE NEIGHBOUR: 'it returns false'. Refute it at one input. -/
def workFullWrong : ChangeSpec := { name := "workFull", fn := fun _ => fun
  | [d1, d2] => { results := [.lit (.bool false)], args := [d1, d2] }
  | _ => none }
def WorkFullWrongFalsely : Prop := workFullRow.holds Tryz.pinned (OpenSpec.ofChange workFullWrong)

/-- 'colonnadelaw20.WorkOwn': WHATEVER THE INPUT: true; the input reads as it did. -/
def workOwnSpec : ChangeSpec := { name := "workOwn", fn := fun _ => fun
  | [d1, d2, d3, d4] => { results := [.lit (.bool true)], args := [d1, d2, d3, d4] }
  | _ => none }
def workOwnRow : OpenClaim := { program := "ytkgnhidkfdoimaagreat", sum := "1cbcac51deae4e0c2e56e98ff6d2f5454fa137bff0fd65fb2035c3ad881566de", func := "colonnade/colonnadelaw20.WorkOwn", spec := "workOwn", inPlace := ["internal/bytealg.Compare", "math/bits.Add64"], unfollowed := true, recurses := true, apart := false }
def WorkOwnSaid : Prop := workOwnRow.holds Tryz.pinned (OpenSpec.ofChange workOwnSpec)

/-- ITS FALSE NEIGHBOUR: 'it returns false'. Refute it at one input. -/
def workOwnWrong : ChangeSpec := { name := "workOwn", fn := fun _ => fun
  | [d1, d2, d3, d4] => { results := [.lit (.bool false)], args := [d1, d2, d3, d4] }
  | _ => none }
def WorkOwnWrongFalsely : Prop := workOwnRow.holds Tryz.pinned (OpenSpec.ofChange workOwnWrong)

/-- 'colonnadelaw20.WorkPhantom': WHATEVER THE INPUT: true; the input reads as it did. -/
def workPhantomSpec : ChangeSpec := { name := "workPhantom", fn := fun _ => fun
  | [d1, d2, d3] => { results := [.lit (.bool true)], args := [d1, d2, d3] }
  | _ => none }
def workPhantomRow : OpenClaim := { program := "ytkgnhidkfdoimaagreat", sum := "1cbcac51deae4e0c2e56e98ff6d2f5454fa137bff0fd65fb2035c3ad881566de", func := "colonnade/colonnadelaw20.WorkPhantom", spec := "workPhantom", inPlace := ["internal/bytealg.Compare", "math/bits.Add64"], unfollowed := true, recurses := true, apart := false }
def WorkPhantomSaid : Prop := workPhantomRow.holds Tryz.pinned (OpenSpec.ofChange workPhantomSpec)

/-- ITS FALSE NEIGHBOUR: 'it returns false'. Refute it at one input. -/
def workPhantomWrong : ChangeSpec := { name := "workPhantom", fn := fun _ => fun
  | [d1, d2, d3] => { results := [.lit (.bool false)], args := [d1, d2, d3] }
  | _ => none }
def WorkPhantomWrongFalsely : Prop := workPhantomRow.holds Tryz.pinned (OpenSpec.ofChange workPhantomWrong)

/-- 'colonnadelaw20.WorkUndone': WHATEVER THE INPUT: true; the input reads as it did. -/
def workUndoneSpec : ChangeSpec := { name := "workUndone", fn := fun _ => fun
  | [d1, d2, d3, d4] => { results := [.lit (.bool true)], args := [d1, d2, d3, d4] }
  | _ => none }
def workUndoneRow : OpenClaim := { program := "ytkgnhidkfdoimaagreat", sum := "1cbcac51deae4e0c2e56e98ff6d2f5454fa137bff0fd65fb2035c3ad881566de", func := "colonnade/colonnadelaw20.WorkUndone", spec := "workUndone", inPlace := ["internal/bytealg.Compare", "math/bits.Add64"], unfollowed := true, recurses := true, apart := false }
def WorkUndoneSaid : Prop := workUndoneRow.holds Tryz.pinned (OpenSpec.ofChange workUndoneSpec)

/-- ITS FALSE NEIGHBOUR: 'it returns false'. Refute it at one input. -/
def workUndoneWrong : ChangeSpec := { name := "workUndone", fn := fun _ => fun
  | [d1, d2, d3, d4] => { results := [.lit (.bool false)], args := [d1, d2, d3, d4] }
  | _ => none }
def WorkUndoneWrongFalsely : Prop := workUndoneRow.holds Tryz.pinned (OpenSpec.ofChange workUndoneWrong)

/-- 'colonnadelaw20.WorkSteps': WHATEVER THE INPUT: true; the input reads as it did. -/
def workStepsSpec : ChangeSpec := { name := "workSteps", fn := fun _ => fun
  | [d1, d2, d3, d4] => { results := [.lit (.bool true)], args := [d1, d2, d3, d4] }
  | _ => none }
def workStepsRow : OpenClaim := { program := "ytkgnhidkfdoimaagreat", sum := "1cbcac51deae4e0c2e56e98ff6d2f5454fa137bff0fd65fb2035c3ad881566de", func := "colonnade/colonnadelaw20.WorkSteps", spec := "workSteps", inPlace := ["internal/bytealg.Compare", "math/bits.Add64"], unfollowed := true, recurses := true, apart := false }
def WorkStepsSaid : Prop := workStepsRow.holds Tryz.pinned (OpenSpec.ofChange workStepsSpec)

/-- ITS FALSE NEIGHBOUR: 'it returns false'. Refute it at one input. -/
def workStepsWrong : ChangeSpec := { name := "workSteps", fn := fun _ => fun
  | [d1, d2, d3, d4] => { results := [.lit (.bool false)], args := [d1, d2, d3, d4] }
  | _ => none }
def WorkStepsWrongFalsely : Prop := workStepsRow.holds Tryz.pinned (OpenSpec.ofChange workStepsWrong)

/-- 'colonnadelaw20.WorkAlone': WHATEVER THE INPUT: true; the input reads as it did. -/
def workAloneSpec : ChangeSpec := { name := "workAlone", fn := fun _ => fun
  | [d1, d2, d3] => { results := [.lit (.bool true)], args := [d1, d2, d3] }
  | _ => none }
def workAloneRow : OpenClaim := { program := "ytkgnhidkfdoimaagreat", sum := "1cbcac51deae4e0c2e56e98ff6d2f5454fa137bff0fd65fb2035c3ad881566de", func := "colonnade/colonnadelaw20.WorkAlone", spec := "workAlone", inPlace := ["internal/bytealg.Compare", "math/bits.Add64"], unfollowed := true, recurses := true, apart := false }
def WorkAloneSaid : Prop := workAloneRow.holds Tryz.pinned (OpenSpec.ofChange workAloneSpec)

/-- ITS FALSE NEIGHBOUR: 'it returns false'. Refute it at one input. -/
def workAloneWrong : ChangeSpec := { name := "workAlone", fn := fun _ => fun
  | [d1, d2, d3] => { results := [.lit (.bool false)], args := [d1, d2, d3] }
  | _ => none }
def WorkAloneWrongFalsely : Prop := workAloneRow.holds Tryz.pinned (OpenSpec.ofChange workAloneWrong)

/- THE SECOND FORM. 'bulk': how many values and letters a reading holds, each counted each time it is reached (what is shared counts as often as it is met; a slice's spare places count too). A statement '..UptoSaid' is the law's where the arguments, and the package variables that the reading takes, are together of bulk at most 1048576: NARROWER than '..Said'. Prove '..Said' where nothing that the law and all that it calls make is longer than what came in: it says more and counts as full. Else prove '..UptoSaid'. A law counts once. -/
mutual
def uptoBulk {H : Type} : DataW H → Nat
  | .lit (.string bytes) => bytes.length + 1
  | .lit _ => 1
  | .nil => 1
  | .ptr d => uptoBulk d + 1
  | .slice elems spare => uptoBulkAll elems + uptoBulkAll spare + 1
  | .agg parts => uptoBulkAll parts + 1
  | .iface _ d => uptoBulk d + 1
  | .map entries => uptoBulkEntries entries + 1
  | .held _ => 1
def uptoBulkAll {H : Type} : List (DataW H) → Nat
  | [] => 0
  | d :: r => uptoBulk d + uptoBulkAll r
def uptoBulkEntries {H : Type} : List (Lit × DataW H) → Nat
  | [] => 0
  | x :: r => uptoBulkEntry x + uptoBulkEntries r
def uptoBulkEntry {H : Type} : Lit × DataW H → Nat
  | (.string bytes, d) => bytes.length + uptoBulk d + 1
  | (_, d) => uptoBulk d + 1
 end
def uptoSmall : (H : Type) → List (DataW H) → Bool := fun _ ds => decide (uptoBulkAll ds ≤ 1048576)
def OpenSpec.upto (s : _root_.Go.ChangeSpec) : _root_.Go.OpenSpec := { _root_.Go.OpenSpec.ofChange s with cond := some uptoSmall }

/-- 'colonnadelaw20.WorkWins', WHERE WHAT IT READS IS OF BULK AT MOST 1048576: true; the input reads as it did. -/
def workWinsUptoRow : OpenClaim := { program := "ytkgnhidkfdoimaagreat", sum := "1cbcac51deae4e0c2e56e98ff6d2f5454fa137bff0fd65fb2035c3ad881566de", func := "colonnade/colonnadelaw20.WorkWins", spec := "workWins", inPlace := ["internal/bytealg.Compare", "math/bits.Add64"], unfollowed := true, recurses := true, apart := false, narrowed := true }
def WorkWinsUptoSaid : Prop := workWinsUptoRow.holds Tryz.pinned (OpenSpec.upto workWinsSpec)

/-- 'colonnadelaw20.WorkReads', WHERE WHAT IT READS IS OF BULK AT MOST 1048576: true; the input reads as it did. -/
def workReadsUptoRow : OpenClaim := { program := "ytkgnhidkfdoimaagreat", sum := "1cbcac51deae4e0c2e56e98ff6d2f5454fa137bff0fd65fb2035c3ad881566de", func := "colonnade/colonnadelaw20.WorkReads", spec := "workReads", inPlace := ["internal/bytealg.Compare", "math/bits.Add64"], unfollowed := true, recurses := true, apart := false, narrowed := true }
def WorkReadsUptoSaid : Prop := workReadsUptoRow.holds Tryz.pinned (OpenSpec.upto workReadsSpec)

/-- 'colonnadelaw20.WorkFull', WHERE WHAT IT READS IS OF BULK AT MOST 1048576: true; the input reads as it did. -/
def workFullUptoRow : OpenClaim := { program := "ytkgnhidkfdoimaagreat", sum := "1cbcac51deae4e0c2e56e98ff6d2f5454fa137bff0fd65fb2035c3ad881566de", func := "colonnade/colonnadelaw20.WorkFull", spec := "workFull", inPlace := ["internal/bytealg.Compare", "math/bits.Add64"], unfollowed := true, recurses := true, apart := false, narrowed := true }
def WorkFullUptoSaid : Prop := workFullUptoRow.holds Tryz.pinned (OpenSpec.upto workFullSpec)

/-- 'colonnadelaw20.WorkOwn', WHERE WHAT IT READS IS OF BULK AT MOST 1048576: true; the input reads as it did. -/
def workOwnUptoRow : OpenClaim := { program := "ytkgnhidkfdoimaagreat", sum := "1cbcac51deae4e0c2e56e98ff6d2f5454fa137bff0fd65fb2035c3ad881566de", func := "colonnade/colonnadelaw20.WorkOwn", spec := "workOwn", inPlace := ["internal/bytealg.Compare", "math/bits.Add64"], unfollowed := true, recurses := true, apart := false, narrowed := true }
def WorkOwnUptoSaid : Prop := workOwnUptoRow.holds Tryz.pinned (OpenSpec.upto workOwnSpec)

/-- 'colonnadelaw20.WorkPhantom', WHERE WHAT IT READS IS OF BULK AT MOST 1048576: true; the input reads as it did. -/
def workPhantomUptoRow : OpenClaim := { program := "ytkgnhidkfdoimaagreat", sum := "1cbcac51deae4e0c2e56e98ff6d2f5454fa137bff0fd65fb2035c3ad881566de", func := "colonnade/colonnadelaw20.WorkPhantom", spec := "workPhantom", inPlace := ["internal/bytealg.Compare", "math/bits.Add64"], unfollowed := true, recurses := true, apart := false, narrowed := true }
def WorkPhantomUptoSaid : Prop := workPhantomUptoRow.holds Tryz.pinned (OpenSpec.upto workPhantomSpec)

/-- 'colonnadelaw20.WorkUndone', WHERE WHAT IT READS IS OF BULK AT MOST 1048576: true; the input reads as it did. -/
def workUndoneUptoRow : OpenClaim := { program := "ytkgnhidkfdoimaagreat", sum := "1cbcac51deae4e0c2e56e98ff6d2f5454fa137bff0fd65fb2035c3ad881566de", func := "colonnade/colonnadelaw20.WorkUndone", spec := "workUndone", inPlace := ["internal/bytealg.Compare", "math/bits.Add64"], unfollowed := true, recurses := true, apart := false, narrowed := true }
def WorkUndoneUptoSaid : Prop := workUndoneUptoRow.holds Tryz.pinned (OpenSpec.upto workUndoneSpec)

/-- 'colonnadelaw20.WorkSteps', WHERE WHAT IT READS IS OF BULK AT MOST 1048576: true; the input reads as it did. -/
def workStepsUptoRow : OpenClaim := { program := "ytkgnhidkfdoimaagreat", sum := "1cbcac51deae4e0c2e56e98ff6d2f5454fa137bff0fd65fb2035c3ad881566de", func := "colonnade/colonnadelaw20.WorkSteps", spec := "workSteps", inPlace := ["internal/bytealg.Compare", "math/bits.Add64"], unfollowed := true, recurses := true, apart := false, narrowed := true }
def WorkStepsUptoSaid : Prop := workStepsUptoRow.holds Tryz.pinned (OpenSpec.upto workStepsSpec)

/-- 'colonnadelaw20.WorkAlone', WHERE WHAT IT READS IS OF BULK AT MOST 1048576: true; the input reads as it did. -/
def workAloneUptoRow : OpenClaim := { program := "ytkgnhidkfdoimaagreat", sum := "1cbcac51deae4e0c2e56e98ff6d2f5454fa137bff0fd65fb2035c3ad881566de", func := "colonnade/colonnadelaw20.WorkAlone", spec := "workAlone", inPlace := ["internal/bytealg.Compare", "math/bits.Add64"], unfollowed := true, recurses := true, apart := false, narrowed := true }
def WorkAloneUptoSaid : Prop := workAloneUptoRow.holds Tryz.pinned (OpenSpec.upto workAloneSpec)

end Rows
end Go.Proofs.YtkgnhidkfdoimaaGreat
