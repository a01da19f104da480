/-
  No cell of these rows narrows 'for every input' (looked for: loops, veiled, ifaces, maps, wideKeys, modest, calm, conditions, laid).
  DERIVED. THE GIVEN ROWS OF THIS SEAT. 4 by the template 'for every input the law returns true; each argument reads behind the call as it read before'; 0 by the template 'total and deterministic' (their statements: YtjobamodncaanaaTotals.lean).
  GIVEN WITH THE SEED: the statements are not yours to turn. If you find one false, say at which input.
  Laid BY PROGRAM, IN A SANDBOX (cutbox-rows.mjs): the forced cells as the released guide's own fill.sh prints them over the translation 71e951d47efe7a34… (all of the seat's roots in one cut). By AI agents, Wed Nov 11 2026. No macro, syntax, notation, axiom, sorry.
-/
import Derived.Test.YtjobamodncaanaaChecked
import GoSem.Claim
import GoSem.ClaimJoined
import GoSem.ClaimMapViews
import Derived.JoinedTies
import Derived.KernelRfl
namespace Go.Proofs.Ytjobamodncaanaa
/- THE CELL 'sum', in the pinned program and in every row, IS THE sha256 OF THE DUMP (.gsa) THAT YtjobamodncaanaaProg.lean LOADS. Nothing in Lean hashes anything: it is a label: what it is worth is what the hold of that sum in a sandbox is worth. -/
noncomputable def Try.pinned : Pinned := { name := "ytjobamodncaanaa", sum := "71e951d47efe7a34783ba224c90f8af8c47a30e4ef00298379371d5f9cf574fd", checked := Try.checked }
namespace Rows
def none {H : Type} : Left H := { results := [], args := [] }

/-- 'legatelaw3.SipTells': WHATEVER THE INPUT: true; the input reads as it did. -/
def sipTellsSpec : ChangeSpec := { name := "sipTells", fn := fun _ => fun
  | [d1, d2] => { results := [.lit (.bool true)], args := [d1, d2] }
  | _ => none }
def sipTellsRow : OpenClaim := { program := "ytjobamodncaanaa", sum := "71e951d47efe7a34783ba224c90f8af8c47a30e4ef00298379371d5f9cf574fd", func := "legate/legatelaw3.SipTells", spec := "sipTells", apart := false }
def SipTellsSaid : Prop := sipTellsRow.holds Try.pinned (OpenSpec.ofChange sipTellsSpec)

/-- ITS FALSE NEIGHBOUR: 'it returns false'. Refute it at one input. -/
def sipTellsWrong : ChangeSpec := { name := "sipTells", fn := fun _ => fun
  | [d1, d2] => { results := [.lit (.bool false)], args := [d1, d2] }
  | _ => none }
def SipTellsWrongFalsely : Prop := sipTellsRow.holds Try.pinned (OpenSpec.ofChange sipTellsWrong)

/-- 'legatelaw3.SipRows': WHATEVER THE INPUT: true; the input reads as it did. -/
def sipRowsSpec : ChangeSpec := { name := "sipRows", fn := fun _ => fun
  | [d1, d2] => { results := [.lit (.bool true)], args := [d1, d2] }
  | _ => none }
def sipRowsRow : OpenClaim := { program := "ytjobamodncaanaa", sum := "71e951d47efe7a34783ba224c90f8af8c47a30e4ef00298379371d5f9cf574fd", func := "legate/legatelaw3.SipRows", spec := "sipRows", apart := false }
def SipRowsSaid : Prop := sipRowsRow.holds Try.pinned (OpenSpec.ofChange sipRowsSpec)

/-- ITS FALSE NEIGHBOUR: 'it returns false'. Refute it at one input. -/
def sipRowsWrong : ChangeSpec := { name := "sipRows", fn := fun _ => fun
  | [d1, d2] => { results := [.lit (.bool false)], args := [d1, d2] }
  | _ => none }
def SipRowsWrongFalsely : Prop := sipRowsRow.holds Try.pinned (OpenSpec.ofChange sipRowsWrong)

/-- 'legatelaw3.SipLengths': WHATEVER THE INPUT: true; the input reads as it did. -/
def sipLengthsSpec : ChangeSpec := { name := "sipLengths", fn := fun _ => fun
  | [d1, d2, d3] => { results := [.lit (.bool true)], args := [d1, d2, d3] }
  | _ => none }
def sipLengthsRow : OpenClaim := { program := "ytjobamodncaanaa", sum := "71e951d47efe7a34783ba224c90f8af8c47a30e4ef00298379371d5f9cf574fd", func := "legate/legatelaw3.SipLengths", spec := "sipLengths", apart := false }
def SipLengthsSaid : Prop := sipLengthsRow.holds Try.pinned (OpenSpec.ofChange sipLengthsSpec)

/-- ITS FALSE NEIGHBOUR: 'it returns false'. Refute it at one input. -/
def sipLengthsWrong : ChangeSpec := { name := "sipLengths", fn := fun _ => fun
  | [d1, d2, d3] => { results := [.lit (.bool false)], args := [d1, d2, d3] }
  | _ => none }
def SipLengthsWrongFalsely : Prop := sipLengthsRow.holds Try.pinned (OpenSpec.ofChange sipLengthsWrong)

/-- 'legatelaw3.SipSplits': WHATEVER THE INPUT: true; the input reads as it did. -/
def sipSplitsSpec : ChangeSpec := { name := "sipSplits", fn := fun _ => fun
  | [d1, d2, d3, d4] => { results := [.lit (.bool true)], args := [d1, d2, d3, d4] }
  | _ => none }
def sipSplitsRow : OpenClaim := { program := "ytjobamodncaanaa", sum := "71e951d47efe7a34783ba224c90f8af8c47a30e4ef00298379371d5f9cf574fd", func := "legate/legatelaw3.SipSplits", spec := "sipSplits", apart := false }
def SipSplitsSaid : Prop := sipSplitsRow.holds Try.pinned (OpenSpec.ofChange sipSplitsSpec)

/-- ITS FALSE NEIGHBOUR: 'it returns false'. Refute it at one input. -/
def sipSplitsWrong : ChangeSpec := { name := "sipSplits", fn := fun _ => fun
  | [d1, d2, d3, d4] => { results := [.lit (.bool false)], args := [d1, d2, d3, d4] }
  | _ => none }
def SipSplitsWrongFalsely : Prop := sipSplitsRow.holds Try.pinned (OpenSpec.ofChange sipSplitsWrong)

/- THE SECOND FORM. 'bulk': how many values and letters a reading holds, each counted each time it is reached (what is shared counts as often as it is met; a slice's spare places count too). A statement '..UptoSaid' is the law's where the arguments, and the package variables that the reading takes, are together of bulk at most 1048576: NARROWER than '..Said'. Prove '..Said' where nothing that the law and all that it calls make is longer than what came in: it says more and counts as full. Else prove '..UptoSaid'. A law counts once. -/
mutual
def uptoBulk {H : Type} : DataW H → Nat
  | .lit (.string bytes) => bytes.length + 1
  | .lit _ => 1
  | .nil => 1
  | .ptr d => uptoBulk d + 1
  | .slice elems spare => uptoBulkAll elems + uptoBulkAll spare + 1
  | .agg parts => uptoBulkAll parts + 1
  | .iface _ d => uptoBulk d + 1
  | .map entries => uptoBulkEntries entries + 1
  | .held _ => 1
def uptoBulkAll {H : Type} : List (DataW H) → Nat
  | [] => 0
  | d :: r => uptoBulk d + uptoBulkAll r
def uptoBulkEntries {H : Type} : List (Lit × DataW H) → Nat
  | [] => 0
  | x :: r => uptoBulkEntry x + uptoBulkEntries r
def uptoBulkEntry {H : Type} : Lit × DataW H → Nat
  | (.string bytes, d) => bytes.length + uptoBulk d + 1
  | (_, d) => uptoBulk d + 1
 end
def uptoSmall : (H : Type) → List (DataW H) → Bool := fun _ ds => decide (uptoBulkAll ds ≤ 1048576)
def OpenSpec.upto (s : _root_.Go.ChangeSpec) : _root_.Go.OpenSpec := { _root_.Go.OpenSpec.ofChange s with cond := some uptoSmall }

/-- 'legatelaw3.SipTells', WHERE WHAT IT READS IS OF BULK AT MOST 1048576: true; the input reads as it did. -/
def sipTellsUptoRow : OpenClaim := { program := "ytjobamodncaanaa", sum := "71e951d47efe7a34783ba224c90f8af8c47a30e4ef00298379371d5f9cf574fd", func := "legate/legatelaw3.SipTells", spec := "sipTells", apart := false, narrowed := true }
def SipTellsUptoSaid : Prop := sipTellsUptoRow.holds Try.pinned (OpenSpec.upto sipTellsSpec)

/-- 'legatelaw3.SipRows', WHERE WHAT IT READS IS OF BULK AT MOST 1048576: true; the input reads as it did. -/
def sipRowsUptoRow : OpenClaim := { program := "ytjobamodncaanaa", sum := "71e951d47efe7a34783ba224c90f8af8c47a30e4ef00298379371d5f9cf574fd", func := "legate/legatelaw3.SipRows", spec := "sipRows", apart := false, narrowed := true }
def SipRowsUptoSaid : Prop := sipRowsUptoRow.holds Try.pinned (OpenSpec.upto sipRowsSpec)

/-- 'legatelaw3.SipLengths', WHERE WHAT IT READS IS OF BULK AT MOST 1048576: true; the input reads as it did. -/
def sipLengthsUptoRow : OpenClaim := { program := "ytjobamodncaanaa", sum := "71e951d47efe7a34783ba224c90f8af8c47a30e4ef00298379371d5f9cf574fd", func := "legate/legatelaw3.SipLengths", spec := "sipLengths", apart := false, narrowed := true }
def SipLengthsUptoSaid : Prop := sipLengthsUptoRow.holds Try.pinned (OpenSpec.upto sipLengthsSpec)

/-- 'legatelaw3.SipSplits', WHERE WHAT IT READS IS OF BULK AT MOST 1048576: true; the input reads as it did. -/
def sipSplitsUptoRow : OpenClaim := { program := "ytjobamodncaanaa", sum := "71e951d47efe7a34783ba224c90f8af8c47a30e4ef00298379371d5f9cf574fd", func := "legate/legatelaw3.SipSplits", spec := "sipSplits", apart := false, narrowed := true }
def SipSplitsUptoSaid : Prop := sipSplitsUptoRow.holds Try.pinned (OpenSpec.upto sipSplitsSpec)

end Rows
end Go.Proofs.Ytjobamodncaanaa
