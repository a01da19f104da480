/-
  No cell of these rows narrows 'for every input' (looked for: loops, veiled, ifaces, maps, wideKeys, modest, calm, conditions, laid).
  DERIVED. THE GIVEN ROWS OF THIS SEAT. 11 by the template 'for every input the law returns true; each argument reads behind the call as it read before'; 0 by the template 'total and deterministic' (their statements: YtbpjlpllgcconaaTotals.lean).
  GIVEN WITH THE SEED: the statements are not yours to turn. If you find one false, say at which input.
  Laid BY PROGRAM, IN A SANDBOX (cutbox-rows.mjs): the forced cells as the released guide's own fill.sh prints them over the translation 4a0498602fb79a70… (all of the seat's roots in one cut). By AI agents, Wed Nov 11 2026. No macro, syntax, notation, axiom, sorry.
-/
import Derived.Test.YtbpjlpllgcconaaChecked
import GoSem.Claim
import GoSem.ClaimJoined
import GoSem.ClaimMapViews
import Derived.JoinedTies
import Derived.KernelRfl
namespace Go.Proofs.Ytbpjlpllgcconaa
/- THE CELL 'sum', in the pinned program and in every row, IS THE sha256 OF THE DUMP (.gsa) THAT YtbpjlpllgcconaaProg.lean LOADS. Nothing in Lean hashes anything: it is a label: what it is worth is what the hold of that sum in a sandbox is worth. -/
noncomputable def Try.pinned : Pinned := { name := "ytbpjlpllgcconaa", sum := "4a0498602fb79a70529b7bc1bedc6b740a7c1df9d0421d6bdb64eb200e886427", checked := Try.checked }
namespace Rows
def none {H : Type} : Left H := { results := [], args := [] }

/-- 'legatelaw1.DerOne': WHATEVER THE INPUT: true; the input reads as it did. -/
def derOneSpec : ChangeSpec := { name := "derOne", fn := fun _ => fun
  | [d] => { results := [.lit (.bool true)], args := [d] }
  | _ => none }
def derOneRow : OpenClaim := { program := "ytbpjlpllgcconaa", sum := "4a0498602fb79a70529b7bc1bedc6b740a7c1df9d0421d6bdb64eb200e886427", func := "legate/legatelaw1.DerOne", spec := "derOne", apart := false }
def DerOneSaid : Prop := derOneRow.holds Try.pinned (OpenSpec.ofChange derOneSpec)

/-- ITS FALSE NEIGHBOUR: 'it returns false'. Refute it at one input. -/
def derOneWrong : ChangeSpec := { name := "derOne", fn := fun _ => fun
  | [d] => { results := [.lit (.bool false)], args := [d] }
  | _ => none }
def DerOneWrongFalsely : Prop := derOneRow.holds Try.pinned (OpenSpec.ofChange derOneWrong)

/-- 'legatelaw1.DerLays': WHATEVER THE INPUT: true; the input reads as it did. -/
def derLaysSpec : ChangeSpec := { name := "derLays", fn := fun _ => fun
  | [d1, d2, d3, d4, d5] => { results := [.lit (.bool true)], args := [d1, d2, d3, d4, d5] }
  | _ => none }
def derLaysRow : OpenClaim := { program := "ytbpjlpllgcconaa", sum := "4a0498602fb79a70529b7bc1bedc6b740a7c1df9d0421d6bdb64eb200e886427", func := "legate/legatelaw1.DerLays", spec := "derLays", apart := false }
def DerLaysSaid : Prop := derLaysRow.holds Try.pinned (OpenSpec.ofChange derLaysSpec)

/-- ITS FALSE NEIGHBOUR: 'it returns false'. Refute it at one input. -/
def derLaysWrong : ChangeSpec := { name := "derLays", fn := fun _ => fun
  | [d1, d2, d3, d4, d5] => { results := [.lit (.bool false)], args := [d1, d2, d3, d4, d5] }
  | _ => none }
def DerLaysWrongFalsely : Prop := derLaysRow.holds Try.pinned (OpenSpec.ofChange derLaysWrong)

/-- 'legatelaw1.DerNests': WHATEVER THE INPUT: true; the input reads as it did. -/
def derNestsSpec : ChangeSpec := { name := "derNests", fn := fun _ => fun
  | [d1, d2] => { results := [.lit (.bool true)], args := [d1, d2] }
  | _ => none }
def derNestsRow : OpenClaim := { program := "ytbpjlpllgcconaa", sum := "4a0498602fb79a70529b7bc1bedc6b740a7c1df9d0421d6bdb64eb200e886427", func := "legate/legatelaw1.DerNests", spec := "derNests", apart := false }
def DerNestsSaid : Prop := derNestsRow.holds Try.pinned (OpenSpec.ofChange derNestsSpec)

/-- ITS FALSE NEIGHBOUR: 'it returns false'. Refute it at one input. -/
def derNestsWrong : ChangeSpec := { name := "derNests", fn := fun _ => fun
  | [d1, d2] => { results := [.lit (.bool false)], args := [d1, d2] }
  | _ => none }
def DerNestsWrongFalsely : Prop := derNestsRow.holds Try.pinned (OpenSpec.ofChange derNestsWrong)

/-- 'legatelaw1.DerTags': WHATEVER THE INPUT: true; the input reads as it did. -/
def derTagsSpec : ChangeSpec := { name := "derTags", fn := fun _ => fun
  | [d1, d2, d3] => { results := [.lit (.bool true)], args := [d1, d2, d3] }
  | _ => none }
def derTagsRow : OpenClaim := { program := "ytbpjlpllgcconaa", sum := "4a0498602fb79a70529b7bc1bedc6b740a7c1df9d0421d6bdb64eb200e886427", func := "legate/legatelaw1.DerTags", spec := "derTags", apart := false }
def DerTagsSaid : Prop := derTagsRow.holds Try.pinned (OpenSpec.ofChange derTagsSpec)

/-- ITS FALSE NEIGHBOUR: 'it returns false'. Refute it at one input. -/
def derTagsWrong : ChangeSpec := { name := "derTags", fn := fun _ => fun
  | [d1, d2, d3] => { results := [.lit (.bool false)], args := [d1, d2, d3] }
  | _ => none }
def DerTagsWrongFalsely : Prop := derTagsRow.holds Try.pinned (OpenSpec.ofChange derTagsWrong)

/-- 'legatelaw1.DerLengths': WHATEVER THE INPUT: true; the input reads as it did. -/
def derLengthsSpec : ChangeSpec := { name := "derLengths", fn := fun _ => fun
  | [d1, d2] => { results := [.lit (.bool true)], args := [d1, d2] }
  | _ => none }
def derLengthsRow : OpenClaim := { program := "ytbpjlpllgcconaa", sum := "4a0498602fb79a70529b7bc1bedc6b740a7c1df9d0421d6bdb64eb200e886427", func := "legate/legatelaw1.DerLengths", spec := "derLengths", apart := false }
def DerLengthsSaid : Prop := derLengthsRow.holds Try.pinned (OpenSpec.ofChange derLengthsSpec)

/-- ITS FALSE NEIGHBOUR: 'it returns false'. Refute it at one input. -/
def derLengthsWrong : ChangeSpec := { name := "derLengths", fn := fun _ => fun
  | [d1, d2] => { results := [.lit (.bool false)], args := [d1, d2] }
  | _ => none }
def DerLengthsWrongFalsely : Prop := derLengthsRow.holds Try.pinned (OpenSpec.ofChange derLengthsWrong)

/-- 'legatelaw1.DerRows': WHATEVER THE INPUT: true; the input reads as it did. -/
def derRowsSpec : ChangeSpec := { name := "derRows", fn := fun _ => fun
  | [d1, d2] => { results := [.lit (.bool true)], args := [d1, d2] }
  | _ => none }
def derRowsRow : OpenClaim := { program := "ytbpjlpllgcconaa", sum := "4a0498602fb79a70529b7bc1bedc6b740a7c1df9d0421d6bdb64eb200e886427", func := "legate/legatelaw1.DerRows", spec := "derRows", apart := false }
def DerRowsSaid : Prop := derRowsRow.holds Try.pinned (OpenSpec.ofChange derRowsSpec)

/-- ITS FALSE NEIGHBOUR: 'it returns false'. Refute it at one input. -/
def derRowsWrong : ChangeSpec := { name := "derRows", fn := fun _ => fun
  | [d1, d2] => { results := [.lit (.bool false)], args := [d1, d2] }
  | _ => none }
def DerRowsWrongFalsely : Prop := derRowsRow.holds Try.pinned (OpenSpec.ofChange derRowsWrong)

/-- 'legatelaw1.DerOwn': WHATEVER THE INPUT: true; the input reads as it did. -/
def derOwnSpec : ChangeSpec := { name := "derOwn", fn := fun _ => fun
  | [d] => { results := [.lit (.bool true)], args := [d] }
  | _ => none }
def derOwnRow : OpenClaim := { program := "ytbpjlpllgcconaa", sum := "4a0498602fb79a70529b7bc1bedc6b740a7c1df9d0421d6bdb64eb200e886427", func := "legate/legatelaw1.DerOwn", spec := "derOwn", apart := false }
def DerOwnSaid : Prop := derOwnRow.holds Try.pinned (OpenSpec.ofChange derOwnSpec)

/-- ITS FALSE NEIGHBOUR: 'it returns false'. Refute it at one input. -/
def derOwnWrong : ChangeSpec := { name := "derOwn", fn := fun _ => fun
  | [d] => { results := [.lit (.bool false)], args := [d] }
  | _ => none }
def DerOwnWrongFalsely : Prop := derOwnRow.holds Try.pinned (OpenSpec.ofChange derOwnWrong)

/-- 'legatelaw1.DerErrs': WHATEVER THE INPUT: true; the input reads as it did. -/
def derErrsSpec : ChangeSpec := { name := "derErrs", fn := fun _ => fun
  | [d1, d2] => { results := [.lit (.bool true)], args := [d1, d2] }
  | _ => none }
def derErrsRow : OpenClaim := { program := "ytbpjlpllgcconaa", sum := "4a0498602fb79a70529b7bc1bedc6b740a7c1df9d0421d6bdb64eb200e886427", func := "legate/legatelaw1.DerErrs", spec := "derErrs", apart := false }
def DerErrsSaid : Prop := derErrsRow.holds Try.pinned (OpenSpec.ofChange derErrsSpec)

/-- ITS FALSE NEIGHBOUR: 'it returns false'. Refute it at one input. -/
def derErrsWrong : ChangeSpec := { name := "derErrs", fn := fun _ => fun
  | [d1, d2] => { results := [.lit (.bool false)], args := [d1, d2] }
  | _ => none }
def DerErrsWrongFalsely : Prop := derErrsRow.holds Try.pinned (OpenSpec.ofChange derErrsWrong)

/-- 'legatelaw1.DerTakes': WHATEVER THE INPUT: true; the input reads as it did. -/
def derTakesSpec : ChangeSpec := { name := "derTakes", fn := fun _ => fun
  | [d1, d2] => { results := [.lit (.bool true)], args := [d1, d2] }
  | _ => none }
def derTakesRow : OpenClaim := { program := "ytbpjlpllgcconaa", sum := "4a0498602fb79a70529b7bc1bedc6b740a7c1df9d0421d6bdb64eb200e886427", func := "legate/legatelaw1.DerTakes", spec := "derTakes", apart := false }
def DerTakesSaid : Prop := derTakesRow.holds Try.pinned (OpenSpec.ofChange derTakesSpec)

/-- ITS FALSE NEIGHBOUR: 'it returns false'. Refute it at one input. -/
def derTakesWrong : ChangeSpec := { name := "derTakes", fn := fun _ => fun
  | [d1, d2] => { results := [.lit (.bool false)], args := [d1, d2] }
  | _ => none }
def DerTakesWrongFalsely : Prop := derTakesRow.holds Try.pinned (OpenSpec.ofChange derTakesWrong)

/-- 'legatelaw1.DerOfNothing': WHATEVER THE INPUT: true; the input reads as it did. -/
def derOfNothingSpec : ChangeSpec := { name := "derOfNothing", fn := fun _ => fun
  | [d] => { results := [.lit (.bool true)], args := [d] }
  | _ => none }
def derOfNothingRow : OpenClaim := { program := "ytbpjlpllgcconaa", sum := "4a0498602fb79a70529b7bc1bedc6b740a7c1df9d0421d6bdb64eb200e886427", func := "legate/legatelaw1.DerOfNothing", spec := "derOfNothing", apart := false }
def DerOfNothingSaid : Prop := derOfNothingRow.holds Try.pinned (OpenSpec.ofChange derOfNothingSpec)

/-- ITS FALSE NEIGHBOUR: 'it returns false'. Refute it at one input. -/
def derOfNothingWrong : ChangeSpec := { name := "derOfNothing", fn := fun _ => fun
  | [d] => { results := [.lit (.bool false)], args := [d] }
  | _ => none }
def DerOfNothingWrongFalsely : Prop := derOfNothingRow.holds Try.pinned (OpenSpec.ofChange derOfNothingWrong)

/-- 'legatelaw1.DerBack': WHATEVER THE INPUT: true; the input reads as it did. -/
def derBackSpec : ChangeSpec := { name := "derBack", fn := fun _ => fun
  | [d1, d2, d3, d4] => { results := [.lit (.bool true)], args := [d1, d2, d3, d4] }
  | _ => none }
def derBackRow : OpenClaim := { program := "ytbpjlpllgcconaa", sum := "4a0498602fb79a70529b7bc1bedc6b740a7c1df9d0421d6bdb64eb200e886427", func := "legate/legatelaw1.DerBack", spec := "derBack", apart := false }
def DerBackSaid : Prop := derBackRow.holds Try.pinned (OpenSpec.ofChange derBackSpec)

/-- ITS FALSE NEIGHBOUR: 'it returns false'. Refute it at one input. -/
def derBackWrong : ChangeSpec := { name := "derBack", fn := fun _ => fun
  | [d1, d2, d3, d4] => { results := [.lit (.bool false)], args := [d1, d2, d3, d4] }
  | _ => none }
def DerBackWrongFalsely : Prop := derBackRow.holds Try.pinned (OpenSpec.ofChange derBackWrong)

/- THE SECOND FORM. 'bulk': how many values and letters a reading holds, each counted each time it is reached (what is shared counts as often as it is met; a slice's spare places count too). A statement '..UptoSaid' is the law's where the arguments, and the package variables that the reading takes, are together of bulk at most 1048576: NARROWER than '..Said'. Prove '..Said' where nothing that the law and all that it calls make is longer than what came in: it says more and counts as full. Else prove '..UptoSaid'. A law counts once. -/
mutual
def uptoBulk {H : Type} : DataW H → Nat
  | .lit (.string bytes) => bytes.length + 1
  | .lit _ => 1
  | .nil => 1
  | .ptr d => uptoBulk d + 1
  | .slice elems spare => uptoBulkAll elems + uptoBulkAll spare + 1
  | .agg parts => uptoBulkAll parts + 1
  | .iface _ d => uptoBulk d + 1
  | .map entries => uptoBulkEntries entries + 1
  | .held _ => 1
def uptoBulkAll {H : Type} : List (DataW H) → Nat
  | [] => 0
  | d :: r => uptoBulk d + uptoBulkAll r
def uptoBulkEntries {H : Type} : List (Lit × DataW H) → Nat
  | [] => 0
  | x :: r => uptoBulkEntry x + uptoBulkEntries r
def uptoBulkEntry {H : Type} : Lit × DataW H → Nat
  | (.string bytes, d) => bytes.length + uptoBulk d + 1
  | (_, d) => uptoBulk d + 1
 end
def uptoSmall : (H : Type) → List (DataW H) → Bool := fun _ ds => decide (uptoBulkAll ds ≤ 1048576)
def OpenSpec.upto (s : _root_.Go.ChangeSpec) : _root_.Go.OpenSpec := { _root_.Go.OpenSpec.ofChange s with cond := some uptoSmall }

/-- 'legatelaw1.DerOne', WHERE WHAT IT READS IS OF BULK AT MOST 1048576: true; the input reads as it did. -/
def derOneUptoRow : OpenClaim := { program := "ytbpjlpllgcconaa", sum := "4a0498602fb79a70529b7bc1bedc6b740a7c1df9d0421d6bdb64eb200e886427", func := "legate/legatelaw1.DerOne", spec := "derOne", apart := false, narrowed := true }
def DerOneUptoSaid : Prop := derOneUptoRow.holds Try.pinned (OpenSpec.upto derOneSpec)

/-- 'legatelaw1.DerLays', WHERE WHAT IT READS IS OF BULK AT MOST 1048576: true; the input reads as it did. -/
def derLaysUptoRow : OpenClaim := { program := "ytbpjlpllgcconaa", sum := "4a0498602fb79a70529b7bc1bedc6b740a7c1df9d0421d6bdb64eb200e886427", func := "legate/legatelaw1.DerLays", spec := "derLays", apart := false, narrowed := true }
def DerLaysUptoSaid : Prop := derLaysUptoRow.holds Try.pinned (OpenSpec.upto derLaysSpec)

/-- 'legatelaw1.DerNests', WHERE WHAT IT READS IS OF BULK AT MOST 1048576: true; the input reads as it did. -/
def derNestsUptoRow : OpenClaim := { program := "ytbpjlpllgcconaa", sum := "4a0498602fb79a70529b7bc1bedc6b740a7c1df9d0421d6bdb64eb200e886427", func := "legate/legatelaw1.DerNests", spec := "derNests", apart := false, narrowed := true }
def DerNestsUptoSaid : Prop := derNestsUptoRow.holds Try.pinned (OpenSpec.upto derNestsSpec)

/-- 'legatelaw1.DerTags', WHERE WHAT IT READS IS OF BULK AT MOST 1048576: true; the input reads as it did. -/
def derTagsUptoRow : OpenClaim := { program := "ytbpjlpllgcconaa", sum := "4a0498602fb79a70529b7bc1bedc6b740a7c1df9d0421d6bdb64eb200e886427", func := "legate/legatelaw1.DerTags", spec := "derTags", apart := false, narrowed := true }
def DerTagsUptoSaid : Prop := derTagsUptoRow.holds Try.pinned (OpenSpec.upto derTagsSpec)

/-- 'legatelaw1.DerLengths', WHERE WHAT IT READS IS OF BULK AT MOST 1048576: true; the input reads as it did. -/
def derLengthsUptoRow : OpenClaim := { program := "ytbpjlpllgcconaa", sum := "4a0498602fb79a70529b7bc1bedc6b740a7c1df9d0421d6bdb64eb200e886427", func := "legate/legatelaw1.DerLengths", spec := "derLengths", apart := false, narrowed := true }
def DerLengthsUptoSaid : Prop := derLengthsUptoRow.holds Try.pinned (OpenSpec.upto derLengthsSpec)

/-- 'legatelaw1.DerRows', WHERE WHAT IT READS IS OF BULK AT MOST 1048576: true; the input reads as it did. -/
def derRowsUptoRow : OpenClaim := { program := "ytbpjlpllgcconaa", sum := "4a0498602fb79a70529b7bc1bedc6b740a7c1df9d0421d6bdb64eb200e886427", func := "legate/legatelaw1.DerRows", spec := "derRows", apart := false, narrowed := true }
def DerRowsUptoSaid : Prop := derRowsUptoRow.holds Try.pinned (OpenSpec.upto derRowsSpec)

/-- 'legatelaw1.DerOwn', WHERE WHAT IT READS IS OF BULK AT MOST 1048576: true; the input reads as it did. -/
def derOwnUptoRow : OpenClaim := { program := "ytbpjlpllgcconaa", sum := "4a0498602fb79a70529b7bc1bedc6b740a7c1df9d0421d6bdb64eb200e886427", func := "legate/legatelaw1.DerOwn", spec := "derOwn", apart := false, narrowed := true }
def DerOwnUptoSaid : Prop := derOwnUptoRow.holds Try.pinned (OpenSpec.upto derOwnSpec)

/-- 'legatelaw1.DerErrs', WHERE WHAT IT READS IS OF BULK AT MOST 1048576: true; the input reads as it did. -/
def derErrsUptoRow : OpenClaim := { program := "ytbpjlpllgcconaa", sum := "4a0498602fb79a70529b7bc1bedc6b740a7c1df9d0421d6bdb64eb200e886427", func := "legate/legatelaw1.DerErrs", spec := "derErrs", apart := false, narrowed := true }
def DerErrsUptoSaid : Prop := derErrsUptoRow.holds Try.pinned (OpenSpec.upto derErrsSpec)

/-- 'legatelaw1.DerTakes', WHERE WHAT IT READS IS OF BULK AT MOST 1048576: true; the input reads as it did. -/
def derTakesUptoRow : OpenClaim := { program := "ytbpjlpllgcconaa", sum := "4a0498602fb79a70529b7bc1bedc6b740a7c1df9d0421d6bdb64eb200e886427", func := "legate/legatelaw1.DerTakes", spec := "derTakes", apart := false, narrowed := true }
def DerTakesUptoSaid : Prop := derTakesUptoRow.holds Try.pinned (OpenSpec.upto derTakesSpec)

/-- 'legatelaw1.DerOfNothing', WHERE WHAT IT READS IS OF BULK AT MOST 1048576: true; the input reads as it did. -/
def derOfNothingUptoRow : OpenClaim := { program := "ytbpjlpllgcconaa", sum := "4a0498602fb79a70529b7bc1bedc6b740a7c1df9d0421d6bdb64eb200e886427", func := "legate/legatelaw1.DerOfNothing", spec := "derOfNothing", apart := false, narrowed := true }
def DerOfNothingUptoSaid : Prop := derOfNothingUptoRow.holds Try.pinned (OpenSpec.upto derOfNothingSpec)

/-- 'legatelaw1.DerBack', WHERE WHAT IT READS IS OF BULK AT MOST 1048576: true; the input reads as it did. -/
def derBackUptoRow : OpenClaim := { program := "ytbpjlpllgcconaa", sum := "4a0498602fb79a70529b7bc1bedc6b740a7c1df9d0421d6bdb64eb200e886427", func := "legate/legatelaw1.DerBack", spec := "derBack", apart := false, narrowed := true }
def DerBackUptoSaid : Prop := derBackUptoRow.holds Try.pinned (OpenSpec.upto derBackSpec)

end Rows
end Go.Proofs.Ytbpjlpllgcconaa
