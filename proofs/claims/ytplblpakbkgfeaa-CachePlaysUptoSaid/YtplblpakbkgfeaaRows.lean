/-
  No cell of these rows narrows 'for every input' (looked for: loops, veiled, ifaces, maps, wideKeys, modest, calm, conditions, laid).
  DERIVED. THE GIVEN ROWS OF THIS SEAT. 6 by the template 'for every input the law returns true; each argument reads behind the call as it read before'; 0 by the template 'total and deterministic' (their statements: YtplblpakbkgfeaaTotals.lean).
  GIVEN WITH THE SEED: the statements are not yours to turn. If you find one false, say at which input.
  Laid BY PROGRAM, IN A SANDBOX (cutbox-rows.mjs): the forced cells as the released guide's own fill.sh prints them over the translation dd48274fdf83b506… (all of the seat's roots in one cut). By AI agents, Wed Nov 11 2026. No macro, syntax, notation, axiom, sorry.
-/
import Derived.Test.YtplblpakbkgfeaaChecked
import GoSem.Claim
import GoSem.ClaimJoined
import GoSem.ClaimMapViews
import Derived.JoinedTies
import Derived.KernelRfl
namespace Go.Proofs.Ytplblpakbkgfeaa
/- THE CELL 'sum', in the pinned program and in every row, IS THE sha256 OF THE DUMP (.gsa) THAT YtplblpakbkgfeaaProg.lean LOADS. Nothing in Lean hashes anything: it is a label: what it is worth is what the hold of that sum in a sandbox is worth. -/
noncomputable def Try.pinned : Pinned := { name := "ytplblpakbkgfeaa", sum := "dd48274fdf83b5061ac732200b3d08907430d920708e4619f7184f06f43e9394", checked := Try.checked }
namespace Rows
def none {H : Type} : Left H := { results := [], args := [] }

/-- 'legatelaw11.CacheFull': WHATEVER THE INPUT: true; the input reads as it did. -/
def cacheFullSpec : ChangeSpec := { name := "cacheFull", fn := fun _ => fun
  | [d1, d2, d3] => { results := [.lit (.bool true)], args := [d1, d2, d3] }
  | _ => none }
def cacheFullRow : OpenClaim := { program := "ytplblpakbkgfeaa", sum := "dd48274fdf83b5061ac732200b3d08907430d920708e4619f7184f06f43e9394", func := "legate/legatelaw11.CacheFull", spec := "cacheFull", unfollowed := true, recurses := true, plainKeys := false, apart := false }
def CacheFullSaid : Prop := cacheFullRow.holds Try.pinned (OpenSpec.ofChange cacheFullSpec)

/-- ITS FALSE NEIGHBOUR: 'it returns false'. Refute it at one input. -/
def cacheFullWrong : ChangeSpec := { name := "cacheFull", fn := fun _ => fun
  | [d1, d2, d3] => { results := [.lit (.bool false)], args := [d1, d2, d3] }
  | _ => none }
def CacheFullWrongFalsely : Prop := cacheFullRow.holds Try.pinned (OpenSpec.ofChange cacheFullWrong)

/-- 'legatelaw11.CacheAnew': WHATEVER THE INPUT: true; the input reads as it did. -/
def cacheAnewSpec : ChangeSpec := { name := "cacheAnew", fn := fun _ => fun
  | [d1, d2, d3] => { results := [.lit (.bool true)], args := [d1, d2, d3] }
  | _ => none }
def cacheAnewRow : OpenClaim := { program := "ytplblpakbkgfeaa", sum := "dd48274fdf83b5061ac732200b3d08907430d920708e4619f7184f06f43e9394", func := "legate/legatelaw11.CacheAnew", spec := "cacheAnew", unfollowed := true, recurses := true, plainKeys := false, apart := false }
def CacheAnewSaid : Prop := cacheAnewRow.holds Try.pinned (OpenSpec.ofChange cacheAnewSpec)

/-- ITS FALSE NEIGHBOUR: 'it returns false'. Refute it at one input. -/
def cacheAnewWrong : ChangeSpec := { name := "cacheAnew", fn := fun _ => fun
  | [d1, d2, d3] => { results := [.lit (.bool false)], args := [d1, d2, d3] }
  | _ => none }
def CacheAnewWrongFalsely : Prop := cacheAnewRow.holds Try.pinned (OpenSpec.ofChange cacheAnewWrong)

/-- 'legatelaw11.CacheOwn': WHATEVER THE INPUT: true; the input reads as it did. -/
def cacheOwnSpec : ChangeSpec := { name := "cacheOwn", fn := fun _ => fun
  | [d] => { results := [.lit (.bool true)], args := [d] }
  | _ => none }
def cacheOwnRow : OpenClaim := { program := "ytplblpakbkgfeaa", sum := "dd48274fdf83b5061ac732200b3d08907430d920708e4619f7184f06f43e9394", func := "legate/legatelaw11.CacheOwn", spec := "cacheOwn", unfollowed := true, recurses := true, plainKeys := false, apart := false }
def CacheOwnSaid : Prop := cacheOwnRow.holds Try.pinned (OpenSpec.ofChange cacheOwnSpec)

/-- ITS FALSE NEIGHBOUR: 'it returns false'. Refute it at one input. -/
def cacheOwnWrong : ChangeSpec := { name := "cacheOwn", fn := fun _ => fun
  | [d] => { results := [.lit (.bool false)], args := [d] }
  | _ => none }
def CacheOwnWrongFalsely : Prop := cacheOwnRow.holds Try.pinned (OpenSpec.ofChange cacheOwnWrong)

/-- 'legatelaw11.CacheEnds': WHATEVER THE INPUT: true; the input reads as it did. -/
def cacheEndsSpec : ChangeSpec := { name := "cacheEnds", fn := fun _ => fun
  | [d1, d2] => { results := [.lit (.bool true)], args := [d1, d2] }
  | _ => none }
def cacheEndsRow : OpenClaim := { program := "ytplblpakbkgfeaa", sum := "dd48274fdf83b5061ac732200b3d08907430d920708e4619f7184f06f43e9394", func := "legate/legatelaw11.CacheEnds", spec := "cacheEnds", unfollowed := true, recurses := true, plainKeys := false, apart := false }
def CacheEndsSaid : Prop := cacheEndsRow.holds Try.pinned (OpenSpec.ofChange cacheEndsSpec)

/-- ITS FALSE NEIGHBOUR: 'it returns false'. Refute it at one input. -/
def cacheEndsWrong : ChangeSpec := { name := "cacheEnds", fn := fun _ => fun
  | [d1, d2] => { results := [.lit (.bool false)], args := [d1, d2] }
  | _ => none }
def CacheEndsWrongFalsely : Prop := cacheEndsRow.holds Try.pinned (OpenSpec.ofChange cacheEndsWrong)

/-- 'legatelaw11.CachePlays': WHATEVER THE INPUT: true; the input reads as it did. -/
def cachePlaysSpec : ChangeSpec := { name := "cachePlays", fn := fun _ => fun
  | [d] => { results := [.lit (.bool true)], args := [d] }
  | _ => none }
def cachePlaysRow : OpenClaim := { program := "ytplblpakbkgfeaa", sum := "dd48274fdf83b5061ac732200b3d08907430d920708e4619f7184f06f43e9394", func := "legate/legatelaw11.CachePlays", spec := "cachePlays", unfollowed := true, recurses := true, plainKeys := false, apart := false }
def CachePlaysSaid : Prop := cachePlaysRow.holds Try.pinned (OpenSpec.ofChange cachePlaysSpec)

/-- ITS FALSE NEIGHBOUR: 'it returns false'. Refute it at one input. -/
def cachePlaysWrong : ChangeSpec := { name := "cachePlays", fn := fun _ => fun
  | [d] => { results := [.lit (.bool false)], args := [d] }
  | _ => none }
def CachePlaysWrongFalsely : Prop := cachePlaysRow.holds Try.pinned (OpenSpec.ofChange cachePlaysWrong)

/-- 'legatelaw11.CacheOfNothing': WHATEVER THE INPUT: true; the input reads as it did. -/
def cacheOfNothingSpec : ChangeSpec := { name := "cacheOfNothing", fn := fun _ => fun
  | [d1, d2] => { results := [.lit (.bool true)], args := [d1, d2] }
  | _ => none }
def cacheOfNothingRow : OpenClaim := { program := "ytplblpakbkgfeaa", sum := "dd48274fdf83b5061ac732200b3d08907430d920708e4619f7184f06f43e9394", func := "legate/legatelaw11.CacheOfNothing", spec := "cacheOfNothing", unfollowed := true, recurses := true, plainKeys := false, apart := false }
def CacheOfNothingSaid : Prop := cacheOfNothingRow.holds Try.pinned (OpenSpec.ofChange cacheOfNothingSpec)

/-- ITS FALSE NEIGHBOUR: 'it returns false'. Refute it at one input. -/
def cacheOfNothingWrong : ChangeSpec := { name := "cacheOfNothing", fn := fun _ => fun
  | [d1, d2] => { results := [.lit (.bool false)], args := [d1, d2] }
  | _ => none }
def CacheOfNothingWrongFalsely : Prop := cacheOfNothingRow.holds Try.pinned (OpenSpec.ofChange cacheOfNothingWrong)

/- THE SECOND FORM. 'bulk': how many values and letters a reading holds, each counted each time it is reached (what is shared counts as often as it is met; a slice's spare places count too). A statement '..UptoSaid' is the law's where the arguments, and the package variables that the reading takes, are together of bulk at most 1048576: NARROWER than '..Said'. Prove '..Said' where nothing that the law and all that it calls make is longer than what came in: it says more and counts as full. Else prove '..UptoSaid'. A law counts once. -/
mutual
def uptoBulk {H : Type} : DataW H → Nat
  | .lit (.string bytes) => bytes.length + 1
  | .lit _ => 1
  | .nil => 1
  | .ptr d => uptoBulk d + 1
  | .slice elems spare => uptoBulkAll elems + uptoBulkAll spare + 1
  | .agg parts => uptoBulkAll parts + 1
  | .iface _ d => uptoBulk d + 1
  | .map entries => uptoBulkEntries entries + 1
  | .held _ => 1
def uptoBulkAll {H : Type} : List (DataW H) → Nat
  | [] => 0
  | d :: r => uptoBulk d + uptoBulkAll r
def uptoBulkEntries {H : Type} : List (Lit × DataW H) → Nat
  | [] => 0
  | x :: r => uptoBulkEntry x + uptoBulkEntries r
def uptoBulkEntry {H : Type} : Lit × DataW H → Nat
  | (.string bytes, d) => bytes.length + uptoBulk d + 1
  | (_, d) => uptoBulk d + 1
 end
def uptoSmall : (H : Type) → List (DataW H) → Bool := fun _ ds => decide (uptoBulkAll ds ≤ 1048576)
def OpenSpec.upto (s : _root_.Go.ChangeSpec) : _root_.Go.OpenSpec := { _root_.Go.OpenSpec.ofChange s with cond := some uptoSmall }

/-- 'legatelaw11.CacheFull', WHERE WHAT IT READS IS OF BULK AT MOST 1048576: true; the input reads as it did. -/
def cacheFullUptoRow : OpenClaim := { program := "ytplblpakbkgfeaa", sum := "dd48274fdf83b5061ac732200b3d08907430d920708e4619f7184f06f43e9394", func := "legate/legatelaw11.CacheFull", spec := "cacheFull", unfollowed := true, recurses := true, plainKeys := false, apart := false, narrowed := true }
def CacheFullUptoSaid : Prop := cacheFullUptoRow.holds Try.pinned (OpenSpec.upto cacheFullSpec)

/-- 'legatelaw11.CacheAnew', WHERE WHAT IT READS IS OF BULK AT MOST 1048576: true; the input reads as it did. -/
def cacheAnewUptoRow : OpenClaim := { program := "ytplblpakbkgfeaa", sum := "dd48274fdf83b5061ac732200b3d08907430d920708e4619f7184f06f43e9394", func := "legate/legatelaw11.CacheAnew", spec := "cacheAnew", unfollowed := true, recurses := true, plainKeys := false, apart := false, narrowed := true }
def CacheAnewUptoSaid : Prop := cacheAnewUptoRow.holds Try.pinned (OpenSpec.upto cacheAnewSpec)

/-- 'legatelaw11.CacheOwn', WHERE WHAT IT READS IS OF BULK AT MOST 1048576: true; the input reads as it did. -/
def cacheOwnUptoRow : OpenClaim := { program := "ytplblpakbkgfeaa", sum := "dd48274fdf83b5061ac732200b3d08907430d920708e4619f7184f06f43e9394", func := "legate/legatelaw11.CacheOwn", spec := "cacheOwn", unfollowed := true, recurses := true, plainKeys := false, apart := false, narrowed := true }
def CacheOwnUptoSaid : Prop := cacheOwnUptoRow.holds Try.pinned (OpenSpec.upto cacheOwnSpec)

/-- 'legatelaw11.CacheEnds', WHERE WHAT IT READS IS OF BULK AT MOST 1048576: true; the input reads as it did. -/
def cacheEndsUptoRow : OpenClaim := { program := "ytplblpakbkgfeaa", sum := "dd48274fdf83b5061ac732200b3d08907430d920708e4619f7184f06f43e9394", func := "legate/legatelaw11.CacheEnds", spec := "cacheEnds", unfollowed := true, recurses := true, plainKeys := false, apart := false, narrowed := true }
def CacheEndsUptoSaid : Prop := cacheEndsUptoRow.holds Try.pinned (OpenSpec.upto cacheEndsSpec)

/-- 'legatelaw11.CachePlays', WHERE WHAT IT READS IS OF BULK AT MOST 1048576: true; the input reads as it did. -/
def cachePlaysUptoRow : OpenClaim := { program := "ytplblpakbkgfeaa", sum := "dd48274fdf83b5061ac732200b3d08907430d920708e4619f7184f06f43e9394", func := "legate/legatelaw11.CachePlays", spec := "cachePlays", unfollowed := true, recurses := true, plainKeys := false, apart := false, narrowed := true }
def CachePlaysUptoSaid : Prop := cachePlaysUptoRow.holds Try.pinned (OpenSpec.upto cachePlaysSpec)

/-- 'legatelaw11.CacheOfNothing', WHERE WHAT IT READS IS OF BULK AT MOST 1048576: true; the input reads as it did. -/
def cacheOfNothingUptoRow : OpenClaim := { program := "ytplblpakbkgfeaa", sum := "dd48274fdf83b5061ac732200b3d08907430d920708e4619f7184f06f43e9394", func := "legate/legatelaw11.CacheOfNothing", spec := "cacheOfNothing", unfollowed := true, recurses := true, plainKeys := false, apart := false, narrowed := true }
def CacheOfNothingUptoSaid : Prop := cacheOfNothingUptoRow.holds Try.pinned (OpenSpec.upto cacheOfNothingSpec)

end Rows
end Go.Proofs.Ytplblpakbkgfeaa
