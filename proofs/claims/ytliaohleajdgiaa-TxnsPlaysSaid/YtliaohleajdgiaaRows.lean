/-
  No cell of these rows narrows 'for every input' (looked for: loops, veiled, ifaces, maps, wideKeys, modest, calm, conditions, laid).
  DERIVED. THE GIVEN ROWS OF THIS SEAT. 3 by the template 'for every input the law returns true; each argument reads behind the call as it read before'; 0 by the template 'total and deterministic' (their statements: YtliaohleajdgiaaTotals.lean).
  GIVEN WITH THE SEED: the statements are not yours to turn. If you find one false, say at which input.
  Laid BY PROGRAM, IN A SANDBOX (cutbox-rows.mjs): the forced cells as the released guide's own fill.sh prints them over the translation 967535017d778c50… (all of the seat's roots in one cut). By AI agents, Wed Nov 11 2026. No macro, syntax, notation, axiom, sorry.
-/
import Derived.Test.YtliaohleajdgiaaChecked
import GoSem.Claim
import GoSem.ClaimJoined
import GoSem.ClaimMapViews
import Derived.JoinedTies
import Derived.KernelRfl
namespace Go.Proofs.Ytliaohleajdgiaa
/- THE CELL 'sum', in the pinned program and in every row, IS THE sha256 OF THE DUMP (.gsa) THAT YtliaohleajdgiaaProg.lean LOADS. Nothing in Lean hashes anything: it is a label: what it is worth is what the hold of that sum in a sandbox is worth. -/
noncomputable def Try.pinned : Pinned := { name := "ytliaohleajdgiaa", sum := "967535017d778c507b66a68066886089c7fc786fd15aea5c9f307cdffcfb84e6", checked := Try.checked }
namespace Rows
def none {H : Type} : Left H := { results := [], args := [] }

/-- 'colonnadelaw18.TxnsTimes': WHATEVER THE INPUT: true; the input reads as it did. -/
def txnsTimesSpec : ChangeSpec := { name := "txnsTimes", fn := fun _ => fun
  | [d] => { results := [.lit (.bool true)], args := [d] }
  | _ => none }
def txnsTimesRow : OpenClaim := { program := "ytliaohleajdgiaa", sum := "967535017d778c507b66a68066886089c7fc786fd15aea5c9f307cdffcfb84e6", func := "colonnade/colonnadelaw18.TxnsTimes", spec := "txnsTimes", apart := false }
def TxnsTimesSaid : Prop := txnsTimesRow.holds Try.pinned (OpenSpec.ofChange txnsTimesSpec)

/-- ITS FALSE NEIGHBOUR: 'it returns false'. Refute it at one input. -/
def txnsTimesWrong : ChangeSpec := { name := "txnsTimes", fn := fun _ => fun
  | [d] => { results := [.lit (.bool false)], args := [d] }
  | _ => none }
def TxnsTimesWrongFalsely : Prop := txnsTimesRow.holds Try.pinned (OpenSpec.ofChange txnsTimesWrong)

/-- 'colonnadelaw18.TxnsOwn': WHATEVER THE INPUT: true; the input reads as it did. -/
def txnsOwnSpec : ChangeSpec := { name := "txnsOwn", fn := fun _ => fun
  | [d] => { results := [.lit (.bool true)], args := [d] }
  | _ => none }
def txnsOwnRow : OpenClaim := { program := "ytliaohleajdgiaa", sum := "967535017d778c507b66a68066886089c7fc786fd15aea5c9f307cdffcfb84e6", func := "colonnade/colonnadelaw18.TxnsOwn", spec := "txnsOwn", apart := false }
def TxnsOwnSaid : Prop := txnsOwnRow.holds Try.pinned (OpenSpec.ofChange txnsOwnSpec)

/-- ITS FALSE NEIGHBOUR: 'it returns false'. Refute it at one input. -/
def txnsOwnWrong : ChangeSpec := { name := "txnsOwn", fn := fun _ => fun
  | [d] => { results := [.lit (.bool false)], args := [d] }
  | _ => none }
def TxnsOwnWrongFalsely : Prop := txnsOwnRow.holds Try.pinned (OpenSpec.ofChange txnsOwnWrong)

/-- 'colonnadelaw18.TxnsPlays': WHATEVER THE INPUT: true; the input reads as it did. -/
def txnsPlaysSpec : ChangeSpec := { name := "txnsPlays", fn := fun _ => fun
  | [d] => { results := [.lit (.bool true)], args := [d] }
  | _ => none }
def txnsPlaysRow : OpenClaim := { program := "ytliaohleajdgiaa", sum := "967535017d778c507b66a68066886089c7fc786fd15aea5c9f307cdffcfb84e6", func := "colonnade/colonnadelaw18.TxnsPlays", spec := "txnsPlays", apart := false }
def TxnsPlaysSaid : Prop := txnsPlaysRow.holds Try.pinned (OpenSpec.ofChange txnsPlaysSpec)

/-- ITS FALSE NEIGHBOUR: 'it returns false'. Refute it at one input. -/
def txnsPlaysWrong : ChangeSpec := { name := "txnsPlays", fn := fun _ => fun
  | [d] => { results := [.lit (.bool false)], args := [d] }
  | _ => none }
def TxnsPlaysWrongFalsely : Prop := txnsPlaysRow.holds Try.pinned (OpenSpec.ofChange txnsPlaysWrong)

/- THE SECOND FORM. 'bulk': how many values and letters a reading holds, each counted each time it is reached (what is shared counts as often as it is met; a slice's spare places count too). A statement '..UptoSaid' is the law's where the arguments, and the package variables that the reading takes, are together of bulk at most 1048576: NARROWER than '..Said'. Prove '..Said' where nothing that the law and all that it calls make is longer than what came in: it says more and counts as full. Else prove '..UptoSaid'. A law counts once. -/
mutual
def uptoBulk {H : Type} : DataW H → Nat
  | .lit (.string bytes) => bytes.length + 1
  | .lit _ => 1
  | .nil => 1
  | .ptr d => uptoBulk d + 1
  | .slice elems spare => uptoBulkAll elems + uptoBulkAll spare + 1
  | .agg parts => uptoBulkAll parts + 1
  | .iface _ d => uptoBulk d + 1
  | .map entries => uptoBulkEntries entries + 1
  | .held _ => 1
def uptoBulkAll {H : Type} : List (DataW H) → Nat
  | [] => 0
  | d :: r => uptoBulk d + uptoBulkAll r
def uptoBulkEntries {H : Type} : List (Lit × DataW H) → Nat
  | [] => 0
  | x :: r => uptoBulkEntry x + uptoBulkEntries r
def uptoBulkEntry {H : Type} : Lit × DataW H → Nat
  | (.string bytes, d) => bytes.length + uptoBulk d + 1
  | (_, d) => uptoBulk d + 1
 end
def uptoSmall : (H : Type) → List (DataW H) → Bool := fun _ ds => decide (uptoBulkAll ds ≤ 1048576)
def OpenSpec.upto (s : _root_.Go.ChangeSpec) : _root_.Go.OpenSpec := { _root_.Go.OpenSpec.ofChange s with cond := some uptoSmall }

/-- 'colonnadelaw18.TxnsTimes', WHERE WHAT IT READS IS OF BULK AT MOST 1048576: true; the input reads as it did. -/
def txnsTimesUptoRow : OpenClaim := { program := "ytliaohleajdgiaa", sum := "967535017d778c507b66a68066886089c7fc786fd15aea5c9f307cdffcfb84e6", func := "colonnade/colonnadelaw18.TxnsTimes", spec := "txnsTimes", apart := false, narrowed := true }
def TxnsTimesUptoSaid : Prop := txnsTimesUptoRow.holds Try.pinned (OpenSpec.upto txnsTimesSpec)

/-- 'colonnadelaw18.TxnsOwn', WHERE WHAT IT READS IS OF BULK AT MOST 1048576: true; the input reads as it did. -/
def txnsOwnUptoRow : OpenClaim := { program := "ytliaohleajdgiaa", sum := "967535017d778c507b66a68066886089c7fc786fd15aea5c9f307cdffcfb84e6", func := "colonnade/colonnadelaw18.TxnsOwn", spec := "txnsOwn", apart := false, narrowed := true }
def TxnsOwnUptoSaid : Prop := txnsOwnUptoRow.holds Try.pinned (OpenSpec.upto txnsOwnSpec)

/-- 'colonnadelaw18.TxnsPlays', WHERE WHAT IT READS IS OF BULK AT MOST 1048576: true; the input reads as it did. -/
def txnsPlaysUptoRow : OpenClaim := { program := "ytliaohleajdgiaa", sum := "967535017d778c507b66a68066886089c7fc786fd15aea5c9f307cdffcfb84e6", func := "colonnade/colonnadelaw18.TxnsPlays", spec := "txnsPlays", apart := false, narrowed := true }
def TxnsPlaysUptoSaid : Prop := txnsPlaysUptoRow.holds Try.pinned (OpenSpec.upto txnsPlaysSpec)

end Rows
end Go.Proofs.Ytliaohleajdgiaa
