/-
  No cell of these rows narrows 'for every input' (looked for: loops, veiled, ifaces, maps, wideKeys, modest, calm, conditions, laid).
  DERIVED. THE GIVEN ROWS OF THIS SEAT. 12 by the template 'for every input the law returns true; each argument reads behind the call as it read before'; 0 by the template 'total and deterministic' (their statements: YtnbmmnjihipahaaTotals.lean).
  GIVEN WITH THE SEED: the statements are not yours to turn. If you find one false, say at which input.
  Laid BY PROGRAM, IN A SANDBOX (cutbox-rows.mjs): the forced cells as the released guide's own fill.sh prints them over the translation ba828792dbdc7265… (all of the seat's roots in one cut). By AI agents, Wed Nov 11 2026. No macro, syntax, notation, axiom, sorry.
-/
import Derived.Test.YtnbmmnjihipahaaChecked
import GoSem.Claim
import GoSem.ClaimJoined
import GoSem.ClaimMapViews
import Derived.JoinedTies
import Derived.KernelRfl
namespace Go.Proofs.Ytnbmmnjihipahaa
/- THE CELL 'sum', in the pinned program and in every row, IS THE sha256 OF THE DUMP (.gsa) THAT YtnbmmnjihipahaaProg.lean LOADS. Nothing in Lean hashes anything: it is a label: what it is worth is what the hold of that sum in a sandbox is worth. -/
noncomputable def Try.pinned : Pinned := { name := "ytnbmmnjihipahaa", sum := "ba828792dbdc7265051cd3240f203749cf674acbc2f3b9ffb7e370a72a2eb9bd", checked := Try.checked }
namespace Rows
def none {H : Type} : Left H := { results := [], args := [] }

/-- 'colonnadelaw16.AggrForms': WHATEVER THE INPUT: true; the input reads as it did. -/
def aggrFormsSpec : ChangeSpec := { name := "aggrForms", fn := fun _ => fun
  | [d] => { results := [.lit (.bool true)], args := [d] }
  | _ => none }
def aggrFormsRow : OpenClaim := { program := "ytnbmmnjihipahaa", sum := "ba828792dbdc7265051cd3240f203749cf674acbc2f3b9ffb7e370a72a2eb9bd", func := "colonnade/colonnadelaw16.AggrForms", spec := "aggrForms", inPlace := ["math/bits.Add64", "internal/bytealg.Compare"], unfollowed := true, recurses := true, apart := false }
def AggrFormsSaid : Prop := aggrFormsRow.holds Try.pinned (OpenSpec.ofChange aggrFormsSpec)

/-- ITS FALSE NEIGHBOUR: 'it returns false'. Refute it at one input. -/
def aggrFormsWrong : ChangeSpec := { name := "aggrForms", fn := fun _ => fun
  | [d] => { results := [.lit (.bool false)], args := [d] }
  | _ => none }
def AggrFormsWrongFalsely : Prop := aggrFormsRow.holds Try.pinned (OpenSpec.ofChange aggrFormsWrong)

/-- 'colonnadelaw16.AggrParts': WHATEVER THE INPUT: true; the input reads as it did. -/
def aggrPartsSpec : ChangeSpec := { name := "aggrParts", fn := fun _ => fun
  | [d1, d2, d3] => { results := [.lit (.bool true)], args := [d1, d2, d3] }
  | _ => none }
def aggrPartsRow : OpenClaim := { program := "ytnbmmnjihipahaa", sum := "ba828792dbdc7265051cd3240f203749cf674acbc2f3b9ffb7e370a72a2eb9bd", func := "colonnade/colonnadelaw16.AggrParts", spec := "aggrParts", inPlace := ["math/bits.Add64", "internal/bytealg.Compare"], unfollowed := true, recurses := true, apart := false }
def AggrPartsSaid : Prop := aggrPartsRow.holds Try.pinned (OpenSpec.ofChange aggrPartsSpec)

/-- ITS FALSE NEIGHBOUR: 'it returns false'. Refute it at one input. -/
def aggrPartsWrong : ChangeSpec := { name := "aggrParts", fn := fun _ => fun
  | [d1, d2, d3] => { results := [.lit (.bool false)], args := [d1, d2, d3] }
  | _ => none }
def AggrPartsWrongFalsely : Prop := aggrPartsRow.holds Try.pinned (OpenSpec.ofChange aggrPartsWrong)

/-- 'colonnadelaw16.AggrOwn': WHATEVER THE INPUT: true; the input reads as it did. -/
def aggrOwnSpec : ChangeSpec := { name := "aggrOwn", fn := fun _ => fun
  | [d1, d2] => { results := [.lit (.bool true)], args := [d1, d2] }
  | _ => none }
def aggrOwnRow : OpenClaim := { program := "ytnbmmnjihipahaa", sum := "ba828792dbdc7265051cd3240f203749cf674acbc2f3b9ffb7e370a72a2eb9bd", func := "colonnade/colonnadelaw16.AggrOwn", spec := "aggrOwn", inPlace := ["math/bits.Add64", "internal/bytealg.Compare"], unfollowed := true, recurses := true, apart := false }
def AggrOwnSaid : Prop := aggrOwnRow.holds Try.pinned (OpenSpec.ofChange aggrOwnSpec)

/-- ITS FALSE NEIGHBOUR: 'it returns false'. Refute it at one input. -/
def aggrOwnWrong : ChangeSpec := { name := "aggrOwn", fn := fun _ => fun
  | [d1, d2] => { results := [.lit (.bool false)], args := [d1, d2] }
  | _ => none }
def AggrOwnWrongFalsely : Prop := aggrOwnRow.holds Try.pinned (OpenSpec.ofChange aggrOwnWrong)

/-- 'colonnadelaw16.AggrTells': WHATEVER THE INPUT: true; the input reads as it did. -/
def aggrTellsSpec : ChangeSpec := { name := "aggrTells", fn := fun _ => fun
  | [d1, d2, d3, d4, d5, d6] => { results := [.lit (.bool true)], args := [d1, d2, d3, d4, d5, d6] }
  | _ => none }
def aggrTellsRow : OpenClaim := { program := "ytnbmmnjihipahaa", sum := "ba828792dbdc7265051cd3240f203749cf674acbc2f3b9ffb7e370a72a2eb9bd", func := "colonnade/colonnadelaw16.AggrTells", spec := "aggrTells", inPlace := ["internal/bytealg.Compare", "math/bits.Add64"], unfollowed := true, recurses := true, apart := false }
def AggrTellsSaid : Prop := aggrTellsRow.holds Try.pinned (OpenSpec.ofChange aggrTellsSpec)

/-- ITS FALSE NEIGHBOUR: 'it returns false'. Refute it at one input. -/
def aggrTellsWrong : ChangeSpec := { name := "aggrTells", fn := fun _ => fun
  | [d1, d2, d3, d4, d5, d6] => { results := [.lit (.bool false)], args := [d1, d2, d3, d4, d5, d6] }
  | _ => none }
def AggrTellsWrongFalsely : Prop := aggrTellsRow.holds Try.pinned (OpenSpec.ofChange aggrTellsWrong)

/-- 'colonnadelaw16.AggrMixed': WHATEVER THE INPUT: true; the input reads as it did. -/
def aggrMixedSpec : ChangeSpec := { name := "aggrMixed", fn := fun _ => fun
  | [d1, d2, d3, d4] => { results := [.lit (.bool true)], args := [d1, d2, d3, d4] }
  | _ => none }
def aggrMixedRow : OpenClaim := { program := "ytnbmmnjihipahaa", sum := "ba828792dbdc7265051cd3240f203749cf674acbc2f3b9ffb7e370a72a2eb9bd", func := "colonnade/colonnadelaw16.AggrMixed", spec := "aggrMixed", inPlace := ["math/bits.Add64", "internal/bytealg.Compare"], unfollowed := true, recurses := true, apart := false }
def AggrMixedSaid : Prop := aggrMixedRow.holds Try.pinned (OpenSpec.ofChange aggrMixedSpec)

/-- ITS FALSE NEIGHBOUR: 'it returns false'. Refute it at one input. -/
def aggrMixedWrong : ChangeSpec := { name := "aggrMixed", fn := fun _ => fun
  | [d1, d2, d3, d4] => { results := [.lit (.bool false)], args := [d1, d2, d3, d4] }
  | _ => none }
def AggrMixedWrongFalsely : Prop := aggrMixedRow.holds Try.pinned (OpenSpec.ofChange aggrMixedWrong)

/-- 'colonnadelaw17.ModlForms': WHATEVER THE INPUT: true; the input reads as it did. -/
def modlFormsSpec : ChangeSpec := { name := "modlForms", fn := fun _ => fun
  | [d] => { results := [.lit (.bool true)], args := [d] }
  | _ => none }
def modlFormsRow : OpenClaim := { program := "ytnbmmnjihipahaa", sum := "ba828792dbdc7265051cd3240f203749cf674acbc2f3b9ffb7e370a72a2eb9bd", func := "colonnade/colonnadelaw17.ModlForms", spec := "modlForms", inPlace := ["internal/bytealg.Compare", "slices.overlaps[[]colonnade/api.Val]", "math/bits.Add64"], unfollowed := true, recurses := true, apart := false }
def ModlFormsSaid : Prop := modlFormsRow.holds Try.pinned (OpenSpec.ofChange modlFormsSpec)

/-- ITS FALSE NEIGHBOUR: 'it returns false'. Refute it at one input. -/
def modlFormsWrong : ChangeSpec := { name := "modlForms", fn := fun _ => fun
  | [d] => { results := [.lit (.bool false)], args := [d] }
  | _ => none }
def ModlFormsWrongFalsely : Prop := modlFormsRow.holds Try.pinned (OpenSpec.ofChange modlFormsWrong)

/-- 'colonnadelaw17.ModlApart': WHATEVER THE INPUT: true; the input reads as it did. -/
def modlApartSpec : ChangeSpec := { name := "modlApart", fn := fun _ => fun
  | [d1, d2, d3, d4, d5] => { results := [.lit (.bool true)], args := [d1, d2, d3, d4, d5] }
  | _ => none }
def modlApartRow : OpenClaim := { program := "ytnbmmnjihipahaa", sum := "ba828792dbdc7265051cd3240f203749cf674acbc2f3b9ffb7e370a72a2eb9bd", func := "colonnade/colonnadelaw17.ModlApart", spec := "modlApart", inPlace := ["internal/bytealg.Compare", "slices.overlaps[[]colonnade/api.Val]", "math/bits.Add64"], unfollowed := true, recurses := true, apart := false }
def ModlApartSaid : Prop := modlApartRow.holds Try.pinned (OpenSpec.ofChange modlApartSpec)

/-- ITS FALSE NEIGHBOUR: 'it returns false'. Refute it at one input. -/
def modlApartWrong : ChangeSpec := { name := "modlApart", fn := fun _ => fun
  | [d1, d2, d3, d4, d5] => { results := [.lit (.bool false)], args := [d1, d2, d3, d4, d5] }
  | _ => none }
def ModlApartWrongFalsely : Prop := modlApartRow.holds Try.pinned (OpenSpec.ofChange modlApartWrong)

/-- 'colonnadelaw17.ModlOwn': WHATEVER THE INPUT: true; the input reads as it did. -/
def modlOwnSpec : ChangeSpec := { name := "modlOwn", fn := fun _ => fun
  | [d1, d2, d3] => { results := [.lit (.bool true)], args := [d1, d2, d3] }
  | _ => none }
def modlOwnRow : OpenClaim := { program := "ytnbmmnjihipahaa", sum := "ba828792dbdc7265051cd3240f203749cf674acbc2f3b9ffb7e370a72a2eb9bd", func := "colonnade/colonnadelaw17.ModlOwn", spec := "modlOwn", inPlace := ["internal/bytealg.Compare", "slices.overlaps[[]colonnade/api.Val]", "math/bits.Add64"], unfollowed := true, recurses := true, apart := false }
def ModlOwnSaid : Prop := modlOwnRow.holds Try.pinned (OpenSpec.ofChange modlOwnSpec)

/-- ITS FALSE NEIGHBOUR: 'it returns false'. Refute it at one input. -/
def modlOwnWrong : ChangeSpec := { name := "modlOwn", fn := fun _ => fun
  | [d1, d2, d3] => { results := [.lit (.bool false)], args := [d1, d2, d3] }
  | _ => none }
def ModlOwnWrongFalsely : Prop := modlOwnRow.holds Try.pinned (OpenSpec.ofChange modlOwnWrong)

/-- 'colonnadelaw17.ModlBack': WHATEVER THE INPUT: true; the input reads as it did. -/
def modlBackSpec : ChangeSpec := { name := "modlBack", fn := fun _ => fun
  | [d1, d2, d3, d4] => { results := [.lit (.bool true)], args := [d1, d2, d3, d4] }
  | _ => none }
def modlBackRow : OpenClaim := { program := "ytnbmmnjihipahaa", sum := "ba828792dbdc7265051cd3240f203749cf674acbc2f3b9ffb7e370a72a2eb9bd", func := "colonnade/colonnadelaw17.ModlBack", spec := "modlBack", inPlace := ["internal/bytealg.Compare", "slices.overlaps[[]colonnade/api.Val]", "math/bits.Add64"], unfollowed := true, recurses := true, apart := false }
def ModlBackSaid : Prop := modlBackRow.holds Try.pinned (OpenSpec.ofChange modlBackSpec)

/-- ITS FALSE NEIGHBOUR: 'it returns false'. Refute it at one input. -/
def modlBackWrong : ChangeSpec := { name := "modlBack", fn := fun _ => fun
  | [d1, d2, d3, d4] => { results := [.lit (.bool false)], args := [d1, d2, d3, d4] }
  | _ => none }
def ModlBackWrongFalsely : Prop := modlBackRow.holds Try.pinned (OpenSpec.ofChange modlBackWrong)

/-- 'colonnadelaw17.ModlPlays': WHATEVER THE INPUT: true; the input reads as it did. -/
def modlPlaysSpec : ChangeSpec := { name := "modlPlays", fn := fun _ => fun
  | [d1, d2, d3] => { results := [.lit (.bool true)], args := [d1, d2, d3] }
  | _ => none }
def modlPlaysRow : OpenClaim := { program := "ytnbmmnjihipahaa", sum := "ba828792dbdc7265051cd3240f203749cf674acbc2f3b9ffb7e370a72a2eb9bd", func := "colonnade/colonnadelaw17.ModlPlays", spec := "modlPlays", inPlace := ["internal/bytealg.Compare", "slices.overlaps[[]colonnade/api.Val]", "math/bits.Add64"], unfollowed := true, recurses := true, apart := false }
def ModlPlaysSaid : Prop := modlPlaysRow.holds Try.pinned (OpenSpec.ofChange modlPlaysSpec)

/-- ITS FALSE NEIGHBOUR: 'it returns false'. Refute it at one input. -/
def modlPlaysWrong : ChangeSpec := { name := "modlPlays", fn := fun _ => fun
  | [d1, d2, d3] => { results := [.lit (.bool false)], args := [d1, d2, d3] }
  | _ => none }
def ModlPlaysWrongFalsely : Prop := modlPlaysRow.holds Try.pinned (OpenSpec.ofChange modlPlaysWrong)

/-- 'colonnadelaw17.ModlKeys': WHATEVER THE INPUT: true; the input reads as it did. -/
def modlKeysSpec : ChangeSpec := { name := "modlKeys", fn := fun _ => fun
  | [d1, d2, d3] => { results := [.lit (.bool true)], args := [d1, d2, d3] }
  | _ => none }
def modlKeysRow : OpenClaim := { program := "ytnbmmnjihipahaa", sum := "ba828792dbdc7265051cd3240f203749cf674acbc2f3b9ffb7e370a72a2eb9bd", func := "colonnade/colonnadelaw17.ModlKeys", spec := "modlKeys", inPlace := ["internal/bytealg.Compare", "slices.overlaps[[]colonnade/api.Val]", "math/bits.Add64"], unfollowed := true, recurses := true, apart := false }
def ModlKeysSaid : Prop := modlKeysRow.holds Try.pinned (OpenSpec.ofChange modlKeysSpec)

/-- ITS FALSE NEIGHBOUR: 'it returns false'. Refute it at one input. -/
def modlKeysWrong : ChangeSpec := { name := "modlKeys", fn := fun _ => fun
  | [d1, d2, d3] => { results := [.lit (.bool false)], args := [d1, d2, d3] }
  | _ => none }
def ModlKeysWrongFalsely : Prop := modlKeysRow.holds Try.pinned (OpenSpec.ofChange modlKeysWrong)

/-- 'colonnadelaw23.HistForms': WHATEVER THE INPUT: true; the input reads as it did. -/
def histFormsSpec : ChangeSpec := { name := "histForms", fn := fun _ => fun
  | [d] => { results := [.lit (.bool true)], args := [d] }
  | _ => none }
def histFormsRow : OpenClaim := { program := "ytnbmmnjihipahaa", sum := "ba828792dbdc7265051cd3240f203749cf674acbc2f3b9ffb7e370a72a2eb9bd", func := "colonnade/colonnadelaw23.HistForms", spec := "histForms", inPlace := ["internal/bytealg.Compare", "slices.overlaps[[]colonnade/api.Val]", "math/bits.Add64"], unfollowed := true, recurses := true, apart := false }
def HistFormsSaid : Prop := histFormsRow.holds Try.pinned (OpenSpec.ofChange histFormsSpec)

/-- ITS FALSE NEIGHBOUR: 'it returns false'. Refute it at one input. -/
def histFormsWrong : ChangeSpec := { name := "histForms", fn := fun _ => fun
  | [d] => { results := [.lit (.bool false)], args := [d] }
  | _ => none }
def HistFormsWrongFalsely : Prop := histFormsRow.holds Try.pinned (OpenSpec.ofChange histFormsWrong)

/- THE SECOND FORM. 'bulk': how many values and letters a reading holds, each counted each time it is reached (what is shared counts as often as it is met; a slice's spare places count too). A statement '..UptoSaid' is the law's where the arguments, and the package variables that the reading takes, are together of bulk at most 1048576: NARROWER than '..Said'. Prove '..Said' where nothing that the law and all that it calls make is longer than what came in: it says more and counts as full. Else prove '..UptoSaid'. A law counts once. -/
mutual
def uptoBulk {H : Type} : DataW H → Nat
  | .lit (.string bytes) => bytes.length + 1
  | .lit _ => 1
  | .nil => 1
  | .ptr d => uptoBulk d + 1
  | .slice elems spare => uptoBulkAll elems + uptoBulkAll spare + 1
  | .agg parts => uptoBulkAll parts + 1
  | .iface _ d => uptoBulk d + 1
  | .map entries => uptoBulkEntries entries + 1
  | .held _ => 1
def uptoBulkAll {H : Type} : List (DataW H) → Nat
  | [] => 0
  | d :: r => uptoBulk d + uptoBulkAll r
def uptoBulkEntries {H : Type} : List (Lit × DataW H) → Nat
  | [] => 0
  | x :: r => uptoBulkEntry x + uptoBulkEntries r
def uptoBulkEntry {H : Type} : Lit × DataW H → Nat
  | (.string bytes, d) => bytes.length + uptoBulk d + 1
  | (_, d) => uptoBulk d + 1
 end
def uptoSmall : (H : Type) → List (DataW H) → Bool := fun _ ds => decide (uptoBulkAll ds ≤ 1048576)
def OpenSpec.upto (s : _root_.Go.ChangeSpec) : _root_.Go.OpenSpec := { _root_.Go.OpenSpec.ofChange s with cond := some uptoSmall }

/-- 'colonnadelaw16.AggrForms', WHERE WHAT IT READS IS OF BULK AT MOST 1048576: true; the input reads as it did. -/
def aggrFormsUptoRow : OpenClaim := { program := "ytnbmmnjihipahaa", sum := "ba828792dbdc7265051cd3240f203749cf674acbc2f3b9ffb7e370a72a2eb9bd", func := "colonnade/colonnadelaw16.AggrForms", spec := "aggrForms", inPlace := ["math/bits.Add64", "internal/bytealg.Compare"], unfollowed := true, recurses := true, apart := false, narrowed := true }
def AggrFormsUptoSaid : Prop := aggrFormsUptoRow.holds Try.pinned (OpenSpec.upto aggrFormsSpec)

/-- 'colonnadelaw16.AggrParts', WHERE WHAT IT READS IS OF BULK AT MOST 1048576: true; the input reads as it did. -/
def aggrPartsUptoRow : OpenClaim := { program := "ytnbmmnjihipahaa", sum := "ba828792dbdc7265051cd3240f203749cf674acbc2f3b9ffb7e370a72a2eb9bd", func := "colonnade/colonnadelaw16.AggrParts", spec := "aggrParts", inPlace := ["math/bits.Add64", "internal/bytealg.Compare"], unfollowed := true, recurses := true, apart := false, narrowed := true }
def AggrPartsUptoSaid : Prop := aggrPartsUptoRow.holds Try.pinned (OpenSpec.upto aggrPartsSpec)

/-- 'colonnadelaw16.AggrOwn', WHERE WHAT IT READS IS OF BULK AT MOST 1048576: true; the input reads as it did. -/
def aggrOwnUptoRow : OpenClaim := { program := "ytnbmmnjihipahaa", sum := "ba828792dbdc7265051cd3240f203749cf674acbc2f3b9ffb7e370a72a2eb9bd", func := "colonnade/colonnadelaw16.AggrOwn", spec := "aggrOwn", inPlace := ["math/bits.Add64", "internal/bytealg.Compare"], unfollowed := true, recurses := true, apart := false, narrowed := true }
def AggrOwnUptoSaid : Prop := aggrOwnUptoRow.holds Try.pinned (OpenSpec.upto aggrOwnSpec)

/-- 'colonnadelaw16.AggrTells', WHERE WHAT IT READS IS OF BULK AT MOST 1048576: true; the input reads as it did. -/
def aggrTellsUptoRow : OpenClaim := { program := "ytnbmmnjihipahaa", sum := "ba828792dbdc7265051cd3240f203749cf674acbc2f3b9ffb7e370a72a2eb9bd", func := "colonnade/colonnadelaw16.AggrTells", spec := "aggrTells", inPlace := ["internal/bytealg.Compare", "math/bits.Add64"], unfollowed := true, recurses := true, apart := false, narrowed := true }
def AggrTellsUptoSaid : Prop := aggrTellsUptoRow.holds Try.pinned (OpenSpec.upto aggrTellsSpec)

/-- 'colonnadelaw16.AggrMixed', WHERE WHAT IT READS IS OF BULK AT MOST 1048576: true; the input reads as it did. -/
def aggrMixedUptoRow : OpenClaim := { program := "ytnbmmnjihipahaa", sum := "ba828792dbdc7265051cd3240f203749cf674acbc2f3b9ffb7e370a72a2eb9bd", func := "colonnade/colonnadelaw16.AggrMixed", spec := "aggrMixed", inPlace := ["math/bits.Add64", "internal/bytealg.Compare"], unfollowed := true, recurses := true, apart := false, narrowed := true }
def AggrMixedUptoSaid : Prop := aggrMixedUptoRow.holds Try.pinned (OpenSpec.upto aggrMixedSpec)

/-- 'colonnadelaw17.ModlForms', WHERE WHAT IT READS IS OF BULK AT MOST 1048576: true; the input reads as it did. -/
def modlFormsUptoRow : OpenClaim := { program := "ytnbmmnjihipahaa", sum := "ba828792dbdc7265051cd3240f203749cf674acbc2f3b9ffb7e370a72a2eb9bd", func := "colonnade/colonnadelaw17.ModlForms", spec := "modlForms", inPlace := ["internal/bytealg.Compare", "slices.overlaps[[]colonnade/api.Val]", "math/bits.Add64"], unfollowed := true, recurses := true, apart := false, narrowed := true }
def ModlFormsUptoSaid : Prop := modlFormsUptoRow.holds Try.pinned (OpenSpec.upto modlFormsSpec)

/-- 'colonnadelaw17.ModlApart', WHERE WHAT IT READS IS OF BULK AT MOST 1048576: true; the input reads as it did. -/
def modlApartUptoRow : OpenClaim := { program := "ytnbmmnjihipahaa", sum := "ba828792dbdc7265051cd3240f203749cf674acbc2f3b9ffb7e370a72a2eb9bd", func := "colonnade/colonnadelaw17.ModlApart", spec := "modlApart", inPlace := ["internal/bytealg.Compare", "slices.overlaps[[]colonnade/api.Val]", "math/bits.Add64"], unfollowed := true, recurses := true, apart := false, narrowed := true }
def ModlApartUptoSaid : Prop := modlApartUptoRow.holds Try.pinned (OpenSpec.upto modlApartSpec)

/-- 'colonnadelaw17.ModlOwn', WHERE WHAT IT READS IS OF BULK AT MOST 1048576: true; the input reads as it did. -/
def modlOwnUptoRow : OpenClaim := { program := "ytnbmmnjihipahaa", sum := "ba828792dbdc7265051cd3240f203749cf674acbc2f3b9ffb7e370a72a2eb9bd", func := "colonnade/colonnadelaw17.ModlOwn", spec := "modlOwn", inPlace := ["internal/bytealg.Compare", "slices.overlaps[[]colonnade/api.Val]", "math/bits.Add64"], unfollowed := true, recurses := true, apart := false, narrowed := true }
def ModlOwnUptoSaid : Prop := modlOwnUptoRow.holds Try.pinned (OpenSpec.upto modlOwnSpec)

/-- 'colonnadelaw17.ModlBack', WHERE WHAT IT READS IS OF BULK AT MOST 1048576: true; the input reads as it did. -/
def modlBackUptoRow : OpenClaim := { program := "ytnbmmnjihipahaa", sum := "ba828792dbdc7265051cd3240f203749cf674acbc2f3b9ffb7e370a72a2eb9bd", func := "colonnade/colonnadelaw17.ModlBack", spec := "modlBack", inPlace := ["internal/bytealg.Compare", "slices.overlaps[[]colonnade/api.Val]", "math/bits.Add64"], unfollowed := true, recurses := true, apart := false, narrowed := true }
def ModlBackUptoSaid : Prop := modlBackUptoRow.holds Try.pinned (OpenSpec.upto modlBackSpec)

/-- 'colonnadelaw17.ModlPlays', WHERE WHAT IT READS IS OF BULK AT MOST 1048576: true; the input reads as it did. -/
def modlPlaysUptoRow : OpenClaim := { program := "ytnbmmnjihipahaa", sum := "ba828792dbdc7265051cd3240f203749cf674acbc2f3b9ffb7e370a72a2eb9bd", func := "colonnade/colonnadelaw17.ModlPlays", spec := "modlPlays", inPlace := ["internal/bytealg.Compare", "slices.overlaps[[]colonnade/api.Val]", "math/bits.Add64"], unfollowed := true, recurses := true, apart := false, narrowed := true }
def ModlPlaysUptoSaid : Prop := modlPlaysUptoRow.holds Try.pinned (OpenSpec.upto modlPlaysSpec)

/-- 'colonnadelaw17.ModlKeys', WHERE WHAT IT READS IS OF BULK AT MOST 1048576: true; the input reads as it did. -/
def modlKeysUptoRow : OpenClaim := { program := "ytnbmmnjihipahaa", sum := "ba828792dbdc7265051cd3240f203749cf674acbc2f3b9ffb7e370a72a2eb9bd", func := "colonnade/colonnadelaw17.ModlKeys", spec := "modlKeys", inPlace := ["internal/bytealg.Compare", "slices.overlaps[[]colonnade/api.Val]", "math/bits.Add64"], unfollowed := true, recurses := true, apart := false, narrowed := true }
def ModlKeysUptoSaid : Prop := modlKeysUptoRow.holds Try.pinned (OpenSpec.upto modlKeysSpec)

/-- 'colonnadelaw23.HistForms', WHERE WHAT IT READS IS OF BULK AT MOST 1048576: true; the input reads as it did. -/
def histFormsUptoRow : OpenClaim := { program := "ytnbmmnjihipahaa", sum := "ba828792dbdc7265051cd3240f203749cf674acbc2f3b9ffb7e370a72a2eb9bd", func := "colonnade/colonnadelaw23.HistForms", spec := "histForms", inPlace := ["internal/bytealg.Compare", "slices.overlaps[[]colonnade/api.Val]", "math/bits.Add64"], unfollowed := true, recurses := true, apart := false, narrowed := true }
def HistFormsUptoSaid : Prop := histFormsUptoRow.holds Try.pinned (OpenSpec.upto histFormsSpec)

end Rows
end Go.Proofs.Ytnbmmnjihipahaa
