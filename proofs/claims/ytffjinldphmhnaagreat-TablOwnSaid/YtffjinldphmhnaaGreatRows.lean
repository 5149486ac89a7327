/-
  No cell of these rows narrows 'for every input' (looked for: loops, veiled, ifaces, maps, wideKeys, modest, calm, conditions, laid).
  DERIVED. THE GIVEN ROWS OF THIS SEAT. 9 by the template 'for every input the law returns true; each argument reads behind the call as it read before'; 0 by the template 'total and deterministic' (their statements: YtffjinldphmhnaaGreatTotals.lean).
  GIVEN WITH THE SEED: the statements are not yours to turn. If you find one false, say at which input.
  Laid BY PROGRAM, IN A SANDBOX (cutbox-rows.mjs): the forced cells as the released guide's own fill.sh prints them over the translation 242c492297a483e1… (all of the seat's roots in one cut). By AI agents, Wed Nov 11 2026. No macro, syntax, notation, axiom, sorry.
-/
import Derived.Test.YtffjinldphmhnaaGreatChecked
import GoSem.Claim
import GoSem.ClaimJoined
import GoSem.ClaimMapViews
import Derived.JoinedTies
import Derived.KernelRfl
namespace Go.Proofs.YtffjinldphmhnaaGreat
/- THE CELL 'sum', in the pinned program and in every row, IS THE sha256 OF THE DUMP (.gsa) THAT YtffjinldphmhnaaGreatProg.lean LOADS. Nothing in Lean hashes anything: it is a label: what it is worth is what the hold of that sum in a sandbox is worth. -/
noncomputable def Tryz.pinned : Pinned := { name := "ytffjinldphmhnaagreat", sum := "242c492297a483e1db2c5eacb8b8404c8ecd9a34b2e6fe083ae167151f31b3be", checked := Tryz.checked }
namespace Rows
def none {H : Type} : Left H := { results := [], args := [] }

/-- 'colonnadelaw21.CareBounds': WHATEVER THE INPUT: true; the input reads as it did. -/
def careBoundsSpec : ChangeSpec := { name := "careBounds", fn := fun _ => fun
  | [d1, d2, d3] => { results := [.lit (.bool true)], args := [d1, d2, d3] }
  | _ => none }
def careBoundsRow : OpenClaim := { program := "ytffjinldphmhnaagreat", sum := "242c492297a483e1db2c5eacb8b8404c8ecd9a34b2e6fe083ae167151f31b3be", func := "colonnade/colonnadelaw21.CareBounds", spec := "careBounds", inPlace := ["internal/bytealg.Compare"], unfollowed := true, recurses := true, apart := false }
def CareBoundsSaid : Prop := careBoundsRow.holds Tryz.pinned (OpenSpec.ofChange careBoundsSpec)

/-- ITS FALSE NEIGHBOUR: 'it returns false'. Refute it at one input. -/
def careBoundsWrong : ChangeSpec := { name := "careBounds", fn := fun _ => fun
  | [d1, d2, d3] => { results := [.lit (.bool false)], args := [d1, d2, d3] }
  | _ => none }
def CareBoundsWrongFalsely : Prop := careBoundsRow.holds Tryz.pinned (OpenSpec.ofChange careBoundsWrong)

/-- 'colonnadelaw14.TablMoves': WHATEVER THE INPUT: true; the input reads as it did. -/
def tablMovesSpec : ChangeSpec := { name := "tablMoves", fn := fun _ => fun
  | [d1, d2, d3, d4] => { results := [.lit (.bool true)], args := [d1, d2, d3, d4] }
  | _ => none }
def tablMovesRow : OpenClaim := { program := "ytffjinldphmhnaagreat", sum := "242c492297a483e1db2c5eacb8b8404c8ecd9a34b2e6fe083ae167151f31b3be", func := "colonnade/colonnadelaw14.TablMoves", spec := "tablMoves", inPlace := ["internal/bytealg.Compare"], unfollowed := true, recurses := true, apart := false }
def TablMovesSaid : Prop := tablMovesRow.holds Tryz.pinned (OpenSpec.ofChange tablMovesSpec)

/-- ITS FALSE NEIGHBOUR: 'it returns false'. Refute it at one input. -/
def tablMovesWrong : ChangeSpec := { name := "tablMoves", fn := fun _ => fun
  | [d1, d2, d3, d4] => { results := [.lit (.bool false)], args := [d1, d2, d3, d4] }
  | _ => none }
def TablMovesWrongFalsely : Prop := tablMovesRow.holds Tryz.pinned (OpenSpec.ofChange tablMovesWrong)

/-- 'colonnadelaw14.TablOwn': WHATEVER THE INPUT: true; the input reads as it did. -/
def tablOwnSpec : ChangeSpec := { name := "tablOwn", fn := fun _ => fun
  | [d1, d2] => { results := [.lit (.bool true)], args := [d1, d2] }
  | _ => none }
def tablOwnRow : OpenClaim := { program := "ytffjinldphmhnaagreat", sum := "242c492297a483e1db2c5eacb8b8404c8ecd9a34b2e6fe083ae167151f31b3be", func := "colonnade/colonnadelaw14.TablOwn", spec := "tablOwn", inPlace := ["internal/bytealg.Compare"], unfollowed := true, recurses := true, apart := false }
def TablOwnSaid : Prop := tablOwnRow.holds Tryz.pinned (OpenSpec.ofChange tablOwnSpec)

/-- ITS FALSE NEIGHBOUR: 'it returns false'. Refute it at one input. -/
def tablOwnWrong : ChangeSpec := { name := "tablOwn", fn := fun _ => fun
  | [d1, d2] => { results := [.lit (.bool false)], args := [d1, d2] }
  | _ => none }
def TablOwnWrongFalsely : Prop := tablOwnRow.holds Tryz.pinned (OpenSpec.ofChange tablOwnWrong)

/-- 'colonnadelaw14.TablKeys': WHATEVER THE INPUT: true; the input reads as it did. -/
def tablKeysSpec : ChangeSpec := { name := "tablKeys", fn := fun _ => fun
  | [d1, d2] => { results := [.lit (.bool true)], args := [d1, d2] }
  | _ => none }
def tablKeysRow : OpenClaim := { program := "ytffjinldphmhnaagreat", sum := "242c492297a483e1db2c5eacb8b8404c8ecd9a34b2e6fe083ae167151f31b3be", func := "colonnade/colonnadelaw14.TablKeys", spec := "tablKeys", inPlace := ["internal/bytealg.Compare"], unfollowed := true, recurses := true, apart := false }
def TablKeysSaid : Prop := tablKeysRow.holds Tryz.pinned (OpenSpec.ofChange tablKeysSpec)

/-- ITS FALSE NEIGHBOUR: 'it returns false'. Refute it at one input. -/
def tablKeysWrong : ChangeSpec := { name := "tablKeys", fn := fun _ => fun
  | [d1, d2] => { results := [.lit (.bool false)], args := [d1, d2] }
  | _ => none }
def TablKeysWrongFalsely : Prop := tablKeysRow.holds Tryz.pinned (OpenSpec.ofChange tablKeysWrong)

/-- 'colonnadelaw14.TablRefuses': WHATEVER THE INPUT: true; the input reads as it did. -/
def tablRefusesSpec : ChangeSpec := { name := "tablRefuses", fn := fun _ => fun
  | [d1, d2, d3, d4] => { results := [.lit (.bool true)], args := [d1, d2, d3, d4] }
  | _ => none }
def tablRefusesRow : OpenClaim := { program := "ytffjinldphmhnaagreat", sum := "242c492297a483e1db2c5eacb8b8404c8ecd9a34b2e6fe083ae167151f31b3be", func := "colonnade/colonnadelaw14.TablRefuses", spec := "tablRefuses", inPlace := ["internal/bytealg.Compare"], unfollowed := true, recurses := true, apart := false }
def TablRefusesSaid : Prop := tablRefusesRow.holds Tryz.pinned (OpenSpec.ofChange tablRefusesSpec)

/-- ITS FALSE NEIGHBOUR: 'it returns false'. Refute it at one input. -/
def tablRefusesWrong : ChangeSpec := { name := "tablRefuses", fn := fun _ => fun
  | [d1, d2, d3, d4] => { results := [.lit (.bool false)], args := [d1, d2, d3, d4] }
  | _ => none }
def TablRefusesWrongFalsely : Prop := tablRefusesRow.holds Tryz.pinned (OpenSpec.ofChange tablRefusesWrong)

/-- 'colonnadelaw14.TablPlays': WHATEVER THE INPUT: true; the input reads as it did. -/
def tablPlaysSpec : ChangeSpec := { name := "tablPlays", fn := fun _ => fun
  | [d1, d2, d3, d4, d5] => { results := [.lit (.bool true)], args := [d1, d2, d3, d4, d5] }
  | _ => none }
def tablPlaysRow : OpenClaim := { program := "ytffjinldphmhnaagreat", sum := "242c492297a483e1db2c5eacb8b8404c8ecd9a34b2e6fe083ae167151f31b3be", func := "colonnade/colonnadelaw14.TablPlays", spec := "tablPlays", inPlace := ["internal/bytealg.Compare"], unfollowed := true, recurses := true, apart := false }
def TablPlaysSaid : Prop := tablPlaysRow.holds Tryz.pinned (OpenSpec.ofChange tablPlaysSpec)

/-- ITS FALSE NEIGHBOUR: 'it returns false'. Refute it at one input. -/
def tablPlaysWrong : ChangeSpec := { name := "tablPlays", fn := fun _ => fun
  | [d1, d2, d3, d4, d5] => { results := [.lit (.bool false)], args := [d1, d2, d3, d4, d5] }
  | _ => none }
def TablPlaysWrongFalsely : Prop := tablPlaysRow.holds Tryz.pinned (OpenSpec.ofChange tablPlaysWrong)

/-- 'colonnadelaw19.ViewOwn': WHATEVER THE INPUT: true; the input reads as it did. -/
def viewOwnSpec : ChangeSpec := { name := "viewOwn", fn := fun _ => fun
  | [d1, d2] => { results := [.lit (.bool true)], args := [d1, d2] }
  | _ => none }
def viewOwnRow : OpenClaim := { program := "ytffjinldphmhnaagreat", sum := "242c492297a483e1db2c5eacb8b8404c8ecd9a34b2e6fe083ae167151f31b3be", func := "colonnade/colonnadelaw19.ViewOwn", spec := "viewOwn", inPlace := ["internal/bytealg.Compare"], unfollowed := true, recurses := true, apart := false }
def ViewOwnSaid : Prop := viewOwnRow.holds Tryz.pinned (OpenSpec.ofChange viewOwnSpec)

/-- ITS FALSE NEIGHBOUR: 'it returns false'. Refute it at one input. -/
def viewOwnWrong : ChangeSpec := { name := "viewOwn", fn := fun _ => fun
  | [d1, d2] => { results := [.lit (.bool false)], args := [d1, d2] }
  | _ => none }
def ViewOwnWrongFalsely : Prop := viewOwnRow.holds Tryz.pinned (OpenSpec.ofChange viewOwnWrong)

/-- 'colonnadelaw19.ViewMoves': WHATEVER THE INPUT: true; the input reads as it did. -/
def viewMovesSpec : ChangeSpec := { name := "viewMoves", fn := fun _ => fun
  | [d1, d2, d3, d4, d5, d6] => { results := [.lit (.bool true)], args := [d1, d2, d3, d4, d5, d6] }
  | _ => none }
def viewMovesRow : OpenClaim := { program := "ytffjinldphmhnaagreat", sum := "242c492297a483e1db2c5eacb8b8404c8ecd9a34b2e6fe083ae167151f31b3be", func := "colonnade/colonnadelaw19.ViewMoves", spec := "viewMoves", inPlace := ["internal/bytealg.Compare"], unfollowed := true, recurses := true, apart := false }
def ViewMovesSaid : Prop := viewMovesRow.holds Tryz.pinned (OpenSpec.ofChange viewMovesSpec)

/-- ITS FALSE NEIGHBOUR: 'it returns false'. Refute it at one input. -/
def viewMovesWrong : ChangeSpec := { name := "viewMoves", fn := fun _ => fun
  | [d1, d2, d3, d4, d5, d6] => { results := [.lit (.bool false)], args := [d1, d2, d3, d4, d5, d6] }
  | _ => none }
def ViewMovesWrongFalsely : Prop := viewMovesRow.holds Tryz.pinned (OpenSpec.ofChange viewMovesWrong)

/-- 'colonnadelaw19.ViewTells': WHATEVER THE INPUT: true; the input reads as it did. -/
def viewTellsSpec : ChangeSpec := { name := "viewTells", fn := fun _ => fun
  | [d1, d2, d3, d4, d5, d6, d7, d8] => { results := [.lit (.bool true)], args := [d1, d2, d3, d4, d5, d6, d7, d8] }
  | _ => none }
def viewTellsRow : OpenClaim := { program := "ytffjinldphmhnaagreat", sum := "242c492297a483e1db2c5eacb8b8404c8ecd9a34b2e6fe083ae167151f31b3be", func := "colonnade/colonnadelaw19.ViewTells", spec := "viewTells", inPlace := ["internal/bytealg.Compare"], unfollowed := true, recurses := true, apart := false }
def ViewTellsSaid : Prop := viewTellsRow.holds Tryz.pinned (OpenSpec.ofChange viewTellsSpec)

/-- ITS FALSE NEIGHBOUR: 'it returns false'. Refute it at one input. -/
def viewTellsWrong : ChangeSpec := { name := "viewTells", fn := fun _ => fun
  | [d1, d2, d3, d4, d5, d6, d7, d8] => { results := [.lit (.bool false)], args := [d1, d2, d3, d4, d5, d6, d7, d8] }
  | _ => none }
def ViewTellsWrongFalsely : Prop := viewTellsRow.holds Tryz.pinned (OpenSpec.ofChange viewTellsWrong)

/- THE SECOND FORM. 'bulk': how many values and letters a reading holds, each counted each time it is reached (what is shared counts as often as it is met; a slice's spare places count too). A statement '..UptoSaid' is the law's where the arguments, and the package variables that the reading takes, are together of bulk at most 1048576: NARROWER than '..Said'. Prove '..Said' where nothing that the law and all that it calls make is longer than what came in: it says more and counts as full. Else prove '..UptoSaid'. A law counts once. -/
mutual
def uptoBulk {H : Type} : DataW H → Nat
  | .lit (.string bytes) => bytes.length + 1
  | .lit _ => 1
  | .nil => 1
  | .ptr d => uptoBulk d + 1
  | .slice elems spare => uptoBulkAll elems + uptoBulkAll spare + 1
  | .agg parts => uptoBulkAll parts + 1
  | .iface _ d => uptoBulk d + 1
  | .map entries => uptoBulkEntries entries + 1
  | .held _ => 1
def uptoBulkAll {H : Type} : List (DataW H) → Nat
  | [] => 0
  | d :: r => uptoBulk d + uptoBulkAll r
def uptoBulkEntries {H : Type} : List (Lit × DataW H) → Nat
  | [] => 0
  | x :: r => uptoBulkEntry x + uptoBulkEntries r
def uptoBulkEntry {H : Type} : Lit × DataW H → Nat
  | (.string bytes, d) => bytes.length + uptoBulk d + 1
  | (_, d) => uptoBulk d + 1
 end
def uptoSmall : (H : Type) → List (DataW H) → Bool := fun _ ds => decide (uptoBulkAll ds ≤ 1048576)
def OpenSpec.upto (s : _root_.Go.ChangeSpec) : _root_.Go.OpenSpec := { _root_.Go.OpenSpec.ofChange s with cond := some uptoSmall }

/-- 'colonnadelaw21.CareBounds', WHERE WHAT IT READS IS OF BULK AT MOST 1048576: true; the input reads as it did. -/
def careBoundsUptoRow : OpenClaim := { program := "ytffjinldphmhnaagreat", sum := "242c492297a483e1db2c5eacb8b8404c8ecd9a34b2e6fe083ae167151f31b3be", func := "colonnade/colonnadelaw21.CareBounds", spec := "careBounds", inPlace := ["internal/bytealg.Compare"], unfollowed := true, recurses := true, apart := false, narrowed := true }
def CareBoundsUptoSaid : Prop := careBoundsUptoRow.holds Tryz.pinned (OpenSpec.upto careBoundsSpec)

/-- 'colonnadelaw14.TablMoves', WHERE WHAT IT READS IS OF BULK AT MOST 1048576: true; the input reads as it did. -/
def tablMovesUptoRow : OpenClaim := { program := "ytffjinldphmhnaagreat", sum := "242c492297a483e1db2c5eacb8b8404c8ecd9a34b2e6fe083ae167151f31b3be", func := "colonnade/colonnadelaw14.TablMoves", spec := "tablMoves", inPlace := ["internal/bytealg.Compare"], unfollowed := true, recurses := true, apart := false, narrowed := true }
def TablMovesUptoSaid : Prop := tablMovesUptoRow.holds Tryz.pinned (OpenSpec.upto tablMovesSpec)

/-- 'colonnadelaw14.TablOwn', WHERE WHAT IT READS IS OF BULK AT MOST 1048576: true; the input reads as it did. -/
def tablOwnUptoRow : OpenClaim := { program := "ytffjinldphmhnaagreat", sum := "242c492297a483e1db2c5eacb8b8404c8ecd9a34b2e6fe083ae167151f31b3be", func := "colonnade/colonnadelaw14.TablOwn", spec := "tablOwn", inPlace := ["internal/bytealg.Compare"], unfollowed := true, recurses := true, apart := false, narrowed := true }
def TablOwnUptoSaid : Prop := tablOwnUptoRow.holds Tryz.pinned (OpenSpec.upto tablOwnSpec)

/-- 'colonnadelaw14.TablKeys', WHERE WHAT IT READS IS OF BULK AT MOST 1048576: true; the input reads as it did. -/
def tablKeysUptoRow : OpenClaim := { program := "ytffjinldphmhnaagreat", sum := "242c492297a483e1db2c5eacb8b8404c8ecd9a34b2e6fe083ae167151f31b3be", func := "colonnade/colonnadelaw14.TablKeys", spec := "tablKeys", inPlace := ["internal/bytealg.Compare"], unfollowed := true, recurses := true, apart := false, narrowed := true }
def TablKeysUptoSaid : Prop := tablKeysUptoRow.holds Tryz.pinned (OpenSpec.upto tablKeysSpec)

/-- 'colonnadelaw14.TablRefuses', WHERE WHAT IT READS IS OF BULK AT MOST 1048576: true; the input reads as it did. -/
def tablRefusesUptoRow : OpenClaim := { program := "ytffjinldphmhnaagreat", sum := "242c492297a483e1db2c5eacb8b8404c8ecd9a34b2e6fe083ae167151f31b3be", func := "colonnade/colonnadelaw14.TablRefuses", spec := "tablRefuses", inPlace := ["internal/bytealg.Compare"], unfollowed := true, recurses := true, apart := false, narrowed := true }
def TablRefusesUptoSaid : Prop := tablRefusesUptoRow.holds Tryz.pinned (OpenSpec.upto tablRefusesSpec)

/-- 'colonnadelaw14.TablPlays', WHERE WHAT IT READS IS OF BULK AT MOST 1048576: true; the input reads as it did. -/
def tablPlaysUptoRow : OpenClaim := { program := "ytffjinldphmhnaagreat", sum := "242c492297a483e1db2c5eacb8b8404c8ecd9a34b2e6fe083ae167151f31b3be", func := "colonnade/colonnadelaw14.TablPlays", spec := "tablPlays", inPlace := ["internal/bytealg.Compare"], unfollowed := true, recurses := true, apart := false, narrowed := true }
def TablPlaysUptoSaid : Prop := tablPlaysUptoRow.holds Tryz.pinned (OpenSpec.upto tablPlaysSpec)

/-- 'colonnadelaw19.ViewOwn', WHERE WHAT IT READS IS OF BULK AT MOST 1048576: true; the input reads as it did. -/
def viewOwnUptoRow : OpenClaim := { program := "ytffjinldphmhnaagreat", sum := "242c492297a483e1db2c5eacb8b8404c8ecd9a34b2e6fe083ae167151f31b3be", func := "colonnade/colonnadelaw19.ViewOwn", spec := "viewOwn", inPlace := ["internal/bytealg.Compare"], unfollowed := true, recurses := true, apart := false, narrowed := true }
def ViewOwnUptoSaid : Prop := viewOwnUptoRow.holds Tryz.pinned (OpenSpec.upto viewOwnSpec)

/-- 'colonnadelaw19.ViewMoves', WHERE WHAT IT READS IS OF BULK AT MOST 1048576: true; the input reads as it did. -/
def viewMovesUptoRow : OpenClaim := { program := "ytffjinldphmhnaagreat", sum := "242c492297a483e1db2c5eacb8b8404c8ecd9a34b2e6fe083ae167151f31b3be", func := "colonnade/colonnadelaw19.ViewMoves", spec := "viewMoves", inPlace := ["internal/bytealg.Compare"], unfollowed := true, recurses := true, apart := false, narrowed := true }
def ViewMovesUptoSaid : Prop := viewMovesUptoRow.holds Tryz.pinned (OpenSpec.upto viewMovesSpec)

/-- 'colonnadelaw19.ViewTells', WHERE WHAT IT READS IS OF BULK AT MOST 1048576: true; the input reads as it did. -/
def viewTellsUptoRow : OpenClaim := { program := "ytffjinldphmhnaagreat", sum := "242c492297a483e1db2c5eacb8b8404c8ecd9a34b2e6fe083ae167151f31b3be", func := "colonnade/colonnadelaw19.ViewTells", spec := "viewTells", inPlace := ["internal/bytealg.Compare"], unfollowed := true, recurses := true, apart := false, narrowed := true }
def ViewTellsUptoSaid : Prop := viewTellsUptoRow.holds Tryz.pinned (OpenSpec.upto viewTellsSpec)

end Rows
end Go.Proofs.YtffjinldphmhnaaGreat
