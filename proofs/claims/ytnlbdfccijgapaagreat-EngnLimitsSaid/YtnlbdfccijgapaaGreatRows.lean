/-
  No cell of these rows narrows 'for every input' (looked for: loops, veiled, ifaces, maps, wideKeys, modest, calm, conditions, laid).
  DERIVED. THE GIVEN ROWS OF THIS SEAT. 9 by the template 'for every input the law returns true; each argument reads behind the call as it read before'; 0 by the template 'total and deterministic' (their statements: YtnlbdfccijgapaaGreatTotals.lean).
  GIVEN WITH THE SEED: the statements are not yours to turn. If you find one false, say at which input.
  Laid BY PROGRAM, IN A SANDBOX (cutbox-rows.mjs): the forced cells as the released guide's own fill.sh prints them over the translation d116768d4e4e527e… (all of the seat's roots in one cut). By AI agents, Wed Nov 11 2026. No macro, syntax, notation, axiom, sorry.
-/
import Derived.Test.YtnlbdfccijgapaaGreatChecked
import GoSem.Claim
import GoSem.ClaimJoined
import GoSem.ClaimMapViews
import Derived.JoinedTies
import Derived.KernelRfl
namespace Go.Proofs.YtnlbdfccijgapaaGreat
/- THE CELL 'sum', in the pinned program and in every row, IS THE sha256 OF THE DUMP (.gsa) THAT YtnlbdfccijgapaaGreatProg.lean LOADS. Nothing in Lean hashes anything: it is a label: what it is worth is what the hold of that sum in a sandbox is worth. -/
noncomputable def Tryz.pinned : Pinned := { name := "ytnlbdfccijgapaagreat", sum := "d116768d4e4e527e1de89997adedc09c54b0c012d68821bbfffe4b68f368b28e", checked := Tryz.checked }
namespace Rows
def none {H : Type} : Left H := { results := [], args := [] }

/-- 'colonnadelaw21.CareBounds': WHATEVER THE INPUT: true; the input reads as it did. -/
def careBoundsSpec : ChangeSpec := { name := "careBounds", fn := fun _ => fun
  | [d1, d2, d3] => { results := [.lit (.bool true)], args := [d1, d2, d3] }
  | _ => none }
def careBoundsRow : OpenClaim := { program := "ytnlbdfccijgapaagreat", sum := "d116768d4e4e527e1de89997adedc09c54b0c012d68821bbfffe4b68f368b28e", func := "colonnade/colonnadelaw21.CareBounds", spec := "careBounds", inPlace := ["internal/bytealg.Compare"], unfollowed := true, recurses := true, apart := false }
def CareBoundsSaid : Prop := careBoundsRow.holds Tryz.pinned (OpenSpec.ofChange careBoundsSpec)

/-- ITS FALSE NEIGHBOUR: 'it returns false'. Refute it at one input. -/
def careBoundsWrong : ChangeSpec := { name := "careBounds", fn := fun _ => fun
  | [d1, d2, d3] => { results := [.lit (.bool false)], args := [d1, d2, d3] }
  | _ => none }
def CareBoundsWrongFalsely : Prop := careBoundsRow.holds Tryz.pinned (OpenSpec.ofChange careBoundsWrong)

/-- 'colonnadelaw20.WorkWins': WHATEVER THE INPUT: true; the input reads as it did. -/
def workWinsSpec : ChangeSpec := { name := "workWins", fn := fun _ => fun
  | [d1, d2, d3, d4] => { results := [.lit (.bool true)], args := [d1, d2, d3, d4] }
  | _ => none }
def workWinsRow : OpenClaim := { program := "ytnlbdfccijgapaagreat", sum := "d116768d4e4e527e1de89997adedc09c54b0c012d68821bbfffe4b68f368b28e", func := "colonnade/colonnadelaw20.WorkWins", spec := "workWins", inPlace := ["internal/bytealg.Compare", "math/bits.Add64"], unfollowed := true, recurses := true, apart := false }
def WorkWinsSaid : Prop := workWinsRow.holds Tryz.pinned (OpenSpec.ofChange workWinsSpec)

/-- ITS FALSE NEIGHBOUR: 'it returns false'. Refute it at one input. -/
def workWinsWrong : ChangeSpec := { name := "workWins", fn := fun _ => fun
  | [d1, d2, d3, d4] => { results := [.lit (.bool false)], args := [d1, d2, d3, d4] }
  | _ => none }
def WorkWinsWrongFalsely : Prop := workWinsRow.holds Tryz.pinned (OpenSpec.ofChange workWinsWrong)

/-- 'colonnadelaw20.WorkReads': WHATEVER THE INPUT: true; the input reads as it did. -/
def workReadsSpec : ChangeSpec := { name := "workReads", fn := fun _ => fun
  | [d1, d2, d3, d4] => { results := [.lit (.bool true)], args := [d1, d2, d3, d4] }
  | _ => none }
def workReadsRow : OpenClaim := { program := "ytnlbdfccijgapaagreat", sum := "d116768d4e4e527e1de89997adedc09c54b0c012d68821bbfffe4b68f368b28e", func := "colonnade/colonnadelaw20.WorkReads", spec := "workReads", inPlace := ["internal/bytealg.Compare", "math/bits.Add64"], unfollowed := true, recurses := true, apart := false }
def WorkReadsSaid : Prop := workReadsRow.holds Tryz.pinned (OpenSpec.ofChange workReadsSpec)

/-- ITS FALSE NEIGHBOUR: 'it returns false'. Refute it at one input. -/
def workReadsWrong : ChangeSpec := { name := "workReads", fn := fun _ => fun
  | [d1, d2, d3, d4] => { results := [.lit (.bool false)], args := [d1, d2, d3, d4] }
  | _ => none }
def WorkReadsWrongFalsely : Prop := workReadsRow.holds Tryz.pinned (OpenSpec.ofChange workReadsWrong)

/-- 'colonnadelaw20.WorkFull': WHATEVER THE INPUT: true; the input reads as it did. -/
def workFullSpec : ChangeSpec := { name := "workFull", fn := fun _ => fun
  | [d1, d2] => { results := [.lit (.bool true)], args := [d1, d2] }
  | _ => none }
def workFullRow : OpenClaim := { program := "ytnlbdfccijgapaagreat", sum := "d116768d4e4e527e1de89997adedc09c54b0c012d68821bbfffe4b68f368b28e", func := "colonnade/colonnadelaw20.WorkFull", spec := "workFull", inPlace := ["internal/bytealg.Compare", "math/bits.Add64"], unfollowed := true, recurses := true, apart := false }
def WorkFullSaid : Prop := workFullRow.holds Tryz.pinned (OpenSpec.ofChange workFullSpec)

/-- ITS FALSE NEIGHBOUR: 'it returns false'. Refute it at one input. -/
def workFullWrong : ChangeSpec := { name := "workFull", fn := fun _ => fun
  | [d1, d2] => { results := [.lit (.bool false)], args := [d1, d2] }
  | _ => none }
def WorkFullWrongFalsely : Prop := workFullRow.holds Tryz.pinned (OpenSpec.ofChange workFullWrong)

/-- 'colonnadelaw20.WorkPhantom': WHATEVER THE INPUT: true; the input reads as it did. -/
def workPhantomSpec : ChangeSpec := { name := "workPhantom", fn := fun _ => fun
  | [d1, d2, d3] => { results := [.lit (.bool true)], args := [d1, d2, d3] }
  | _ => none }
def workPhantomRow : OpenClaim := { program := "ytnlbdfccijgapaagreat", sum := "d116768d4e4e527e1de89997adedc09c54b0c012d68821bbfffe4b68f368b28e", func := "colonnade/colonnadelaw20.WorkPhantom", spec := "workPhantom", inPlace := ["internal/bytealg.Compare", "math/bits.Add64"], unfollowed := true, recurses := true, apart := false }
def WorkPhantomSaid : Prop := workPhantomRow.holds Tryz.pinned (OpenSpec.ofChange workPhantomSpec)

/-- ITS FALSE NEIGHBOUR: 'it returns false'. Refute it at one input. -/
def workPhantomWrong : ChangeSpec := { name := "workPhantom", fn := fun _ => fun
  | [d1, d2, d3] => { results := [.lit (.bool false)], args := [d1, d2, d3] }
  | _ => none }
def WorkPhantomWrongFalsely : Prop := workPhantomRow.holds Tryz.pinned (OpenSpec.ofChange workPhantomWrong)

/-- 'colonnadelaw20.WorkHangs': WHATEVER THE INPUT: true; the input reads as it did. -/
def workHangsSpec : ChangeSpec := { name := "workHangs", fn := fun _ => fun
  | [d1, d2] => { results := [.lit (.bool true)], args := [d1, d2] }
  | _ => none }
def workHangsRow : OpenClaim := { program := "ytnlbdfccijgapaagreat", sum := "d116768d4e4e527e1de89997adedc09c54b0c012d68821bbfffe4b68f368b28e", func := "colonnade/colonnadelaw20.WorkHangs", spec := "workHangs", inPlace := ["internal/bytealg.Compare", "math/bits.Add64"], unfollowed := true, recurses := true, apart := false }
def WorkHangsSaid : Prop := workHangsRow.holds Tryz.pinned (OpenSpec.ofChange workHangsSpec)

/-- ITS FALSE NEIGHBOUR: 'it returns false'. Refute it at one input. -/
def workHangsWrong : ChangeSpec := { name := "workHangs", fn := fun _ => fun
  | [d1, d2] => { results := [.lit (.bool false)], args := [d1, d2] }
  | _ => none }
def WorkHangsWrongFalsely : Prop := workHangsRow.holds Tryz.pinned (OpenSpec.ofChange workHangsWrong)

/-- 'colonnadelaw22.EngnSkew': WHATEVER THE INPUT: true; the input reads as it did. -/
def engnSkewSpec : ChangeSpec := { name := "engnSkew", fn := fun _ => fun
  | [d] => { results := [.lit (.bool true)], args := [d] }
  | _ => none }
def engnSkewRow : OpenClaim := { program := "ytnlbdfccijgapaagreat", sum := "d116768d4e4e527e1de89997adedc09c54b0c012d68821bbfffe4b68f368b28e", func := "colonnade/colonnadelaw22.EngnSkew", spec := "engnSkew", inPlace := ["internal/bytealg.Compare", "math/bits.Add64"], unfollowed := true, recurses := true, apart := false }
def EngnSkewSaid : Prop := engnSkewRow.holds Tryz.pinned (OpenSpec.ofChange engnSkewSpec)

/-- ITS FALSE NEIGHBOUR: 'it returns false'. Refute it at one input. -/
def engnSkewWrong : ChangeSpec := { name := "engnSkew", fn := fun _ => fun
  | [d] => { results := [.lit (.bool false)], args := [d] }
  | _ => none }
def EngnSkewWrongFalsely : Prop := engnSkewRow.holds Tryz.pinned (OpenSpec.ofChange engnSkewWrong)

/-- 'colonnadelaw22.EngnLimits': WHATEVER THE INPUT: true; the input reads as it did. -/
def engnLimitsSpec : ChangeSpec := { name := "engnLimits", fn := fun _ => fun
  | [d1, d2, d3, d4] => { results := [.lit (.bool true)], args := [d1, d2, d3, d4] }
  | _ => none }
def engnLimitsRow : OpenClaim := { program := "ytnlbdfccijgapaagreat", sum := "d116768d4e4e527e1de89997adedc09c54b0c012d68821bbfffe4b68f368b28e", func := "colonnade/colonnadelaw22.EngnLimits", spec := "engnLimits", inPlace := ["internal/bytealg.Compare", "math/bits.Add64"], unfollowed := true, recurses := true, apart := false }
def EngnLimitsSaid : Prop := engnLimitsRow.holds Tryz.pinned (OpenSpec.ofChange engnLimitsSpec)

/-- ITS FALSE NEIGHBOUR: 'it returns false'. Refute it at one input. -/
def engnLimitsWrong : ChangeSpec := { name := "engnLimits", fn := fun _ => fun
  | [d1, d2, d3, d4] => { results := [.lit (.bool false)], args := [d1, d2, d3, d4] }
  | _ => none }
def EngnLimitsWrongFalsely : Prop := engnLimitsRow.holds Tryz.pinned (OpenSpec.ofChange engnLimitsWrong)

/-- 'colonnadelaw24.RondBounds': WHATEVER THE INPUT: true; the input reads as it did. -/
def rondBoundsSpec : ChangeSpec := { name := "rondBounds", fn := fun _ => fun
  | [d1, d2] => { results := [.lit (.bool true)], args := [d1, d2] }
  | _ => none }
def rondBoundsRow : OpenClaim := { program := "ytnlbdfccijgapaagreat", sum := "d116768d4e4e527e1de89997adedc09c54b0c012d68821bbfffe4b68f368b28e", func := "colonnade/colonnadelaw24.RondBounds", spec := "rondBounds", inPlace := ["internal/bytealg.Compare", "math/bits.Add64"], unfollowed := true, recurses := true, apart := false }
def RondBoundsSaid : Prop := rondBoundsRow.holds Tryz.pinned (OpenSpec.ofChange rondBoundsSpec)

/-- ITS FALSE NEIGHBOUR: 'it returns false'. Refute it at one input. -/
def rondBoundsWrong : ChangeSpec := { name := "rondBounds", fn := fun _ => fun
  | [d1, d2] => { results := [.lit (.bool false)], args := [d1, d2] }
  | _ => none }
def RondBoundsWrongFalsely : Prop := rondBoundsRow.holds Tryz.pinned (OpenSpec.ofChange rondBoundsWrong)

/- THE SECOND FORM. 'bulk': how many values and letters a reading holds, each counted each time it is reached (what is shared counts as often as it is met; a slice's spare places count too). A statement '..UptoSaid' is the law's where the arguments, and the package variables that the reading takes, are together of bulk at most 1048576: NARROWER than '..Said'. Prove '..Said' where nothing that the law and all that it calls make is longer than what came in: it says more and counts as full. Else prove '..UptoSaid'. A law counts once. -/
mutual
def uptoBulk {H : Type} : DataW H → Nat
  | .lit (.string bytes) => bytes.length + 1
  | .lit _ => 1
  | .nil => 1
  | .ptr d => uptoBulk d + 1
  | .slice elems spare => uptoBulkAll elems + uptoBulkAll spare + 1
  | .agg parts => uptoBulkAll parts + 1
  | .iface _ d => uptoBulk d + 1
  | .map entries => uptoBulkEntries entries + 1
  | .held _ => 1
def uptoBulkAll {H : Type} : List (DataW H) → Nat
  | [] => 0
  | d :: r => uptoBulk d + uptoBulkAll r
def uptoBulkEntries {H : Type} : List (Lit × DataW H) → Nat
  | [] => 0
  | x :: r => uptoBulkEntry x + uptoBulkEntries r
def uptoBulkEntry {H : Type} : Lit × DataW H → Nat
  | (.string bytes, d) => bytes.length + uptoBulk d + 1
  | (_, d) => uptoBulk d + 1
 end
def uptoSmall : (H : Type) → List (DataW H) → Bool := fun _ ds => decide (uptoBulkAll ds ≤ 1048576)
def OpenSpec.upto (s : _root_.Go.ChangeSpec) : _root_.Go.OpenSpec := { _root_.Go.OpenSpec.ofChange s with cond := some uptoSmall }

/-- 'colonnadelaw21.CareBounds', WHERE WHAT IT READS IS OF BULK AT MOST 1048576: true; the input reads as it did. -/
def careBoundsUptoRow : OpenClaim := { program := "ytnlbdfccijgapaagreat", sum := "d116768d4e4e527e1de89997adedc09c54b0c012d68821bbfffe4b68f368b28e", func := "colonnade/colonnadelaw21.CareBounds", spec := "careBounds", inPlace := ["internal/bytealg.Compare"], unfollowed := true, recurses := true, apart := false, narrowed := true }
def CareBoundsUptoSaid : Prop := careBoundsUptoRow.holds Tryz.pinned (OpenSpec.upto careBoundsSpec)

/-- 'colonnadelaw20.WorkWins', WHERE WHAT IT READS IS OF BULK AT MOST 1048576: true; the input reads as it did. -/
def workWinsUptoRow : OpenClaim := { program := "ytnlbdfccijgapaagreat", sum := "d116768d4e4e527e1de89997adedc09c54b0c012d68821bbfffe4b68f368b28e", func := "colonnade/colonnadelaw20.WorkWins", spec := "workWins", inPlace := ["internal/bytealg.Compare", "math/bits.Add64"], unfollowed := true, recurses := true, apart := false, narrowed := true }
def WorkWinsUptoSaid : Prop := workWinsUptoRow.holds Tryz.pinned (OpenSpec.upto workWinsSpec)

/-- 'colonnadelaw20.WorkReads', WHERE WHAT IT READS IS OF BULK AT MOST 1048576: true; the input reads as it did. -/
def workReadsUptoRow : OpenClaim := { program := "ytnlbdfccijgapaagreat", sum := "d116768d4e4e527e1de89997adedc09c54b0c012d68821bbfffe4b68f368b28e", func := "colonnade/colonnadelaw20.WorkReads", spec := "workReads", inPlace := ["internal/bytealg.Compare", "math/bits.Add64"], unfollowed := true, recurses := true, apart := false, narrowed := true }
def WorkReadsUptoSaid : Prop := workReadsUptoRow.holds Tryz.pinned (OpenSpec.upto workReadsSpec)

/-- 'colonnadelaw20.WorkFull', WHERE WHAT IT READS IS OF BULK AT MOST 1048576: true; the input reads as it did. -/
def workFullUptoRow : OpenClaim := { program := "ytnlbdfccijgapaagreat", sum := "d116768d4e4e527e1de89997adedc09c54b0c012d68821bbfffe4b68f368b28e", func := "colonnade/colonnadelaw20.WorkFull", spec := "workFull", inPlace := ["internal/bytealg.Compare", "math/bits.Add64"], unfollowed := true, recurses := true, apart := false, narrowed := true }
def WorkFullUptoSaid : Prop := workFullUptoRow.holds Tryz.pinned (OpenSpec.upto workFullSpec)

/-- 'colonnadelaw20.WorkPhantom', WHERE WHAT IT READS IS OF BULK AT MOST 1048576: true; the input reads as it did. -/
def workPhantomUptoRow : OpenClaim := { program := "ytnlbdfccijgapaagreat", sum := "d116768d4e4e527e1de89997adedc09c54b0c012d68821bbfffe4b68f368b28e", func := "colonnade/colonnadelaw20.WorkPhantom", spec := "workPhantom", inPlace := ["internal/bytealg.Compare", "math/bits.Add64"], unfollowed := true, recurses := true, apart := false, narrowed := true }
def WorkPhantomUptoSaid : Prop := workPhantomUptoRow.holds Tryz.pinned (OpenSpec.upto workPhantomSpec)

/-- 'colonnadelaw20.WorkHangs', WHERE WHAT IT READS IS OF BULK AT MOST 1048576: true; the input reads as it did. -/
def workHangsUptoRow : OpenClaim := { program := "ytnlbdfccijgapaagreat", sum := "d116768d4e4e527e1de89997adedc09c54b0c012d68821bbfffe4b68f368b28e", func := "colonnade/colonnadelaw20.WorkHangs", spec := "workHangs", inPlace := ["internal/bytealg.Compare", "math/bits.Add64"], unfollowed := true, recurses := true, apart := false, narrowed := true }
def WorkHangsUptoSaid : Prop := workHangsUptoRow.holds Tryz.pinned (OpenSpec.upto workHangsSpec)

/-- 'colonnadelaw22.EngnSkew', WHERE WHAT IT READS IS OF BULK AT MOST 1048576: true; the input reads as it did. -/
def engnSkewUptoRow : OpenClaim := { program := "ytnlbdfccijgapaagreat", sum := "d116768d4e4e527e1de89997adedc09c54b0c012d68821bbfffe4b68f368b28e", func := "colonnade/colonnadelaw22.EngnSkew", spec := "engnSkew", inPlace := ["internal/bytealg.Compare", "math/bits.Add64"], unfollowed := true, recurses := true, apart := false, narrowed := true }
def EngnSkewUptoSaid : Prop := engnSkewUptoRow.holds Tryz.pinned (OpenSpec.upto engnSkewSpec)

/-- 'colonnadelaw22.EngnLimits', WHERE WHAT IT READS IS OF BULK AT MOST 1048576: true; the input reads as it did. -/
def engnLimitsUptoRow : OpenClaim := { program := "ytnlbdfccijgapaagreat", sum := "d116768d4e4e527e1de89997adedc09c54b0c012d68821bbfffe4b68f368b28e", func := "colonnade/colonnadelaw22.EngnLimits", spec := "engnLimits", inPlace := ["internal/bytealg.Compare", "math/bits.Add64"], unfollowed := true, recurses := true, apart := false, narrowed := true }
def EngnLimitsUptoSaid : Prop := engnLimitsUptoRow.holds Tryz.pinned (OpenSpec.upto engnLimitsSpec)

/-- 'colonnadelaw24.RondBounds', WHERE WHAT IT READS IS OF BULK AT MOST 1048576: true; the input reads as it did. -/
def rondBoundsUptoRow : OpenClaim := { program := "ytnlbdfccijgapaagreat", sum := "d116768d4e4e527e1de89997adedc09c54b0c012d68821bbfffe4b68f368b28e", func := "colonnade/colonnadelaw24.RondBounds", spec := "rondBounds", inPlace := ["internal/bytealg.Compare", "math/bits.Add64"], unfollowed := true, recurses := true, apart := false, narrowed := true }
def RondBoundsUptoSaid : Prop := rondBoundsUptoRow.holds Tryz.pinned (OpenSpec.upto rondBoundsSpec)

end Rows
end Go.Proofs.YtnlbdfccijgapaaGreat
