/-
  No cell of these rows narrows 'for every input' (looked for: loops, veiled, ifaces, maps, wideKeys, modest, calm, conditions, laid).
  DERIVED. THE GIVEN ROWS OF THIS SEAT. 8 by the template 'for every input the law returns true; each argument reads behind the call as it read before'; 0 by the template 'total and deterministic' (their statements: YtaljifbbmjaimaaTotals.lean).
  GIVEN WITH THE SEED: the statements are not yours to turn. If you find one false, say at which input.
  Laid BY PROGRAM, IN A SANDBOX (cutbox-rows.mjs): the forced cells as the released guide's own fill.sh prints them over the translation c77cdc20fc72c285… (all of the seat's roots in one cut). By AI agents, Wed Nov 11 2026. No macro, syntax, notation, axiom, sorry.
-/
import Derived.Test.YtaljifbbmjaimaaChecked
import GoSem.Claim
import GoSem.ClaimJoined
import GoSem.ClaimMapViews
import Derived.JoinedTies
import Derived.KernelRfl
namespace Go.Proofs.Ytaljifbbmjaimaa
/- THE CELL 'sum', in the pinned program and in every row, IS THE sha256 OF THE DUMP (.gsa) THAT YtaljifbbmjaimaaProg.lean LOADS. Nothing in Lean hashes anything: it is a label: what it is worth is what the hold of that sum in a sandbox is worth. -/
noncomputable def Try.pinned : Pinned := { name := "ytaljifbbmjaimaa", sum := "c77cdc20fc72c2858249d46e500f5194e211b0e771a25f68a6288938fce4c258", checked := Try.checked }
namespace Rows
def none {H : Type} : Left H := { results := [], args := [] }

/-- 'legatelaw2.SpeckTwins': WHATEVER THE INPUT: true; the input reads as it did. -/
def speckTwinsSpec : ChangeSpec := { name := "speckTwins", fn := fun _ => fun
  | [d1, d2, d3] => { results := [.lit (.bool true)], args := [d1, d2, d3] }
  | _ => none }
def speckTwinsRow : OpenClaim := { program := "ytaljifbbmjaimaa", sum := "c77cdc20fc72c2858249d46e500f5194e211b0e771a25f68a6288938fce4c258", func := "legate/legatelaw2.SpeckTwins", spec := "speckTwins", inPlace := ["sync/atomic.StoreUint32", "sync/atomic.LoadUint32", "(*internal/sync.Mutex).Lock", "internal/race.Disable", "sync/atomic.CompareAndSwapInt32", "internal/race.Enable", "internal/race.Acquire", "(*internal/sync.Mutex).lockSlow", "internal/sync.runtime_canSpin", "internal/sync.runtime_doSpin", "internal/sync.throw", "internal/sync.runtime_nanotime", "internal/sync.runtime_SemacquireMutex", "sync/atomic.AddInt32", "(*internal/sync.Mutex).Unlock", "internal/race.ReleaseMerge", "(*internal/sync.Mutex).unlockSlow", "internal/sync.fatal", "internal/sync.runtime_Semrelease"], unfollowed := true, recurses := true, apart := false }
def SpeckTwinsSaid : Prop := speckTwinsRow.holds Try.pinned (OpenSpec.ofChange speckTwinsSpec)

/-- ITS FALSE NEIGHBOUR: 'it returns false'. Refute it at one input. -/
def speckTwinsWrong : ChangeSpec := { name := "speckTwins", fn := fun _ => fun
  | [d1, d2, d3] => { results := [.lit (.bool false)], args := [d1, d2, d3] }
  | _ => none }
def SpeckTwinsWrongFalsely : Prop := speckTwinsRow.holds Try.pinned (OpenSpec.ofChange speckTwinsWrong)

/-- 'legatelaw2.SpeckTells': WHATEVER THE INPUT: true; the input reads as it did. -/
def speckTellsSpec : ChangeSpec := { name := "speckTells", fn := fun _ => fun
  | [d1, d2, d3] => { results := [.lit (.bool true)], args := [d1, d2, d3] }
  | _ => none }
def speckTellsRow : OpenClaim := { program := "ytaljifbbmjaimaa", sum := "c77cdc20fc72c2858249d46e500f5194e211b0e771a25f68a6288938fce4c258", func := "legate/legatelaw2.SpeckTells", spec := "speckTells", inPlace := ["sync/atomic.StoreUint32", "sync/atomic.LoadUint32", "(*internal/sync.Mutex).Lock", "internal/race.Disable", "sync/atomic.CompareAndSwapInt32", "internal/race.Enable", "internal/race.Acquire", "(*internal/sync.Mutex).lockSlow", "internal/sync.runtime_canSpin", "internal/sync.runtime_doSpin", "internal/sync.throw", "internal/sync.runtime_nanotime", "internal/sync.runtime_SemacquireMutex", "sync/atomic.AddInt32", "(*internal/sync.Mutex).Unlock", "internal/race.ReleaseMerge", "(*internal/sync.Mutex).unlockSlow", "internal/sync.fatal", "internal/sync.runtime_Semrelease"], unfollowed := true, recurses := true, apart := false }
def SpeckTellsSaid : Prop := speckTellsRow.holds Try.pinned (OpenSpec.ofChange speckTellsSpec)

/-- ITS FALSE NEIGHBOUR: 'it returns false'. Refute it at one input. -/
def speckTellsWrong : ChangeSpec := { name := "speckTells", fn := fun _ => fun
  | [d1, d2, d3] => { results := [.lit (.bool false)], args := [d1, d2, d3] }
  | _ => none }
def SpeckTellsWrongFalsely : Prop := speckTellsRow.holds Try.pinned (OpenSpec.ofChange speckTellsWrong)

/-- 'legatelaw2.SpeckBack': WHATEVER THE INPUT: true; the input reads as it did. -/
def speckBackSpec : ChangeSpec := { name := "speckBack", fn := fun _ => fun
  | [d1, d2, d3] => { results := [.lit (.bool true)], args := [d1, d2, d3] }
  | _ => none }
def speckBackRow : OpenClaim := { program := "ytaljifbbmjaimaa", sum := "c77cdc20fc72c2858249d46e500f5194e211b0e771a25f68a6288938fce4c258", func := "legate/legatelaw2.SpeckBack", spec := "speckBack", inPlace := ["sync/atomic.StoreUint32", "sync/atomic.LoadUint32", "(*internal/sync.Mutex).Lock", "internal/race.Disable", "sync/atomic.CompareAndSwapInt32", "internal/race.Enable", "internal/race.Acquire", "(*internal/sync.Mutex).lockSlow", "internal/sync.runtime_canSpin", "internal/sync.runtime_doSpin", "internal/sync.throw", "internal/sync.runtime_nanotime", "internal/sync.runtime_SemacquireMutex", "sync/atomic.AddInt32", "(*internal/sync.Mutex).Unlock", "internal/race.ReleaseMerge", "(*internal/sync.Mutex).unlockSlow", "internal/sync.fatal", "internal/sync.runtime_Semrelease"], unfollowed := true, recurses := true, apart := false }
def SpeckBackSaid : Prop := speckBackRow.holds Try.pinned (OpenSpec.ofChange speckBackSpec)

/-- ITS FALSE NEIGHBOUR: 'it returns false'. Refute it at one input. -/
def speckBackWrong : ChangeSpec := { name := "speckBack", fn := fun _ => fun
  | [d1, d2, d3] => { results := [.lit (.bool false)], args := [d1, d2, d3] }
  | _ => none }
def SpeckBackWrongFalsely : Prop := speckBackRow.holds Try.pinned (OpenSpec.ofChange speckBackWrong)

/-- 'legatelaw2.SpeckStreams': WHATEVER THE INPUT: true; the input reads as it did. -/
def speckStreamsSpec : ChangeSpec := { name := "speckStreams", fn := fun _ => fun
  | [d1, d2, d3, d4] => { results := [.lit (.bool true)], args := [d1, d2, d3, d4] }
  | _ => none }
def speckStreamsRow : OpenClaim := { program := "ytaljifbbmjaimaa", sum := "c77cdc20fc72c2858249d46e500f5194e211b0e771a25f68a6288938fce4c258", func := "legate/legatelaw2.SpeckStreams", spec := "speckStreams", inPlace := ["sync/atomic.StoreUint32", "sync/atomic.LoadUint32", "(*internal/sync.Mutex).Lock", "internal/race.Disable", "sync/atomic.CompareAndSwapInt32", "internal/race.Enable", "internal/race.Acquire", "(*internal/sync.Mutex).lockSlow", "internal/sync.runtime_canSpin", "internal/sync.runtime_doSpin", "internal/sync.throw", "internal/sync.runtime_nanotime", "internal/sync.runtime_SemacquireMutex", "sync/atomic.AddInt32", "(*internal/sync.Mutex).Unlock", "internal/race.ReleaseMerge", "(*internal/sync.Mutex).unlockSlow", "internal/sync.fatal", "internal/sync.runtime_Semrelease"], unfollowed := true, recurses := true, apart := false }
def SpeckStreamsSaid : Prop := speckStreamsRow.holds Try.pinned (OpenSpec.ofChange speckStreamsSpec)

/-- ITS FALSE NEIGHBOUR: 'it returns false'. Refute it at one input. -/
def speckStreamsWrong : ChangeSpec := { name := "speckStreams", fn := fun _ => fun
  | [d1, d2, d3, d4] => { results := [.lit (.bool false)], args := [d1, d2, d3, d4] }
  | _ => none }
def SpeckStreamsWrongFalsely : Prop := speckStreamsRow.holds Try.pinned (OpenSpec.ofChange speckStreamsWrong)

/-- 'legatelaw2.SpeckBlocks': WHATEVER THE INPUT: true; the input reads as it did. -/
def speckBlocksSpec : ChangeSpec := { name := "speckBlocks", fn := fun _ => fun
  | [d1, d2, d3] => { results := [.lit (.bool true)], args := [d1, d2, d3] }
  | _ => none }
def speckBlocksRow : OpenClaim := { program := "ytaljifbbmjaimaa", sum := "c77cdc20fc72c2858249d46e500f5194e211b0e771a25f68a6288938fce4c258", func := "legate/legatelaw2.SpeckBlocks", spec := "speckBlocks", inPlace := ["sync/atomic.StoreUint32", "sync/atomic.LoadUint32", "(*internal/sync.Mutex).Lock", "internal/race.Disable", "sync/atomic.CompareAndSwapInt32", "internal/race.Enable", "internal/race.Acquire", "(*internal/sync.Mutex).lockSlow", "internal/sync.runtime_canSpin", "internal/sync.runtime_doSpin", "internal/sync.throw", "internal/sync.runtime_nanotime", "internal/sync.runtime_SemacquireMutex", "sync/atomic.AddInt32", "(*internal/sync.Mutex).Unlock", "internal/race.ReleaseMerge", "(*internal/sync.Mutex).unlockSlow", "internal/sync.fatal", "internal/sync.runtime_Semrelease"], unfollowed := true, recurses := true, apart := false }
def SpeckBlocksSaid : Prop := speckBlocksRow.holds Try.pinned (OpenSpec.ofChange speckBlocksSpec)

/-- ITS FALSE NEIGHBOUR: 'it returns false'. Refute it at one input. -/
def speckBlocksWrong : ChangeSpec := { name := "speckBlocks", fn := fun _ => fun
  | [d1, d2, d3] => { results := [.lit (.bool false)], args := [d1, d2, d3] }
  | _ => none }
def SpeckBlocksWrongFalsely : Prop := speckBlocksRow.holds Try.pinned (OpenSpec.ofChange speckBlocksWrong)

/-- 'legatelaw2.SpeckWraps': WHATEVER THE INPUT: true; the input reads as it did. -/
def speckWrapsSpec : ChangeSpec := { name := "speckWraps", fn := fun _ => fun
  | [d1, d2, d3] => { results := [.lit (.bool true)], args := [d1, d2, d3] }
  | _ => none }
def speckWrapsRow : OpenClaim := { program := "ytaljifbbmjaimaa", sum := "c77cdc20fc72c2858249d46e500f5194e211b0e771a25f68a6288938fce4c258", func := "legate/legatelaw2.SpeckWraps", spec := "speckWraps", inPlace := ["sync/atomic.StoreUint32", "sync/atomic.LoadUint32", "(*internal/sync.Mutex).Lock", "internal/race.Disable", "sync/atomic.CompareAndSwapInt32", "internal/race.Enable", "internal/race.Acquire", "(*internal/sync.Mutex).lockSlow", "internal/sync.runtime_canSpin", "internal/sync.runtime_doSpin", "internal/sync.throw", "internal/sync.runtime_nanotime", "internal/sync.runtime_SemacquireMutex", "sync/atomic.AddInt32", "(*internal/sync.Mutex).Unlock", "internal/race.ReleaseMerge", "(*internal/sync.Mutex).unlockSlow", "internal/sync.fatal", "internal/sync.runtime_Semrelease"], unfollowed := true, recurses := true, apart := false }
def SpeckWrapsSaid : Prop := speckWrapsRow.holds Try.pinned (OpenSpec.ofChange speckWrapsSpec)

/-- ITS FALSE NEIGHBOUR: 'it returns false'. Refute it at one input. -/
def speckWrapsWrong : ChangeSpec := { name := "speckWraps", fn := fun _ => fun
  | [d1, d2, d3] => { results := [.lit (.bool false)], args := [d1, d2, d3] }
  | _ => none }
def SpeckWrapsWrongFalsely : Prop := speckWrapsRow.holds Try.pinned (OpenSpec.ofChange speckWrapsWrong)

/-- 'legatelaw2.SpeckMade': WHATEVER THE INPUT: true; the input reads as it did. -/
def speckMadeSpec : ChangeSpec := { name := "speckMade", fn := fun _ => fun
  | [d1, d2] => { results := [.lit (.bool true)], args := [d1, d2] }
  | _ => none }
def speckMadeRow : OpenClaim := { program := "ytaljifbbmjaimaa", sum := "c77cdc20fc72c2858249d46e500f5194e211b0e771a25f68a6288938fce4c258", func := "legate/legatelaw2.SpeckMade", spec := "speckMade", inPlace := ["sync/atomic.LoadUint32", "sync/atomic.StoreUint32", "(*internal/sync.Mutex).Lock", "internal/race.Disable", "sync/atomic.CompareAndSwapInt32", "internal/race.Enable", "internal/race.Acquire", "(*internal/sync.Mutex).lockSlow", "internal/sync.runtime_canSpin", "internal/sync.runtime_doSpin", "internal/sync.throw", "internal/sync.runtime_nanotime", "internal/sync.runtime_SemacquireMutex", "sync/atomic.AddInt32", "(*internal/sync.Mutex).Unlock", "internal/race.ReleaseMerge", "(*internal/sync.Mutex).unlockSlow", "internal/sync.fatal", "internal/sync.runtime_Semrelease"], unfollowed := true, recurses := true, apart := false }
def SpeckMadeSaid : Prop := speckMadeRow.holds Try.pinned (OpenSpec.ofChange speckMadeSpec)

/-- ITS FALSE NEIGHBOUR: 'it returns false'. Refute it at one input. -/
def speckMadeWrong : ChangeSpec := { name := "speckMade", fn := fun _ => fun
  | [d1, d2] => { results := [.lit (.bool false)], args := [d1, d2] }
  | _ => none }
def SpeckMadeWrongFalsely : Prop := speckMadeRow.holds Try.pinned (OpenSpec.ofChange speckMadeWrong)

/-- 'legatelaw2.SpeckOfNothing': WHATEVER THE INPUT: true; the input reads as it did. -/
def speckOfNothingSpec : ChangeSpec := { name := "speckOfNothing", fn := fun _ => fun
  | [d1, d2] => { results := [.lit (.bool true)], args := [d1, d2] }
  | _ => none }
def speckOfNothingRow : OpenClaim := { program := "ytaljifbbmjaimaa", sum := "c77cdc20fc72c2858249d46e500f5194e211b0e771a25f68a6288938fce4c258", func := "legate/legatelaw2.SpeckOfNothing", spec := "speckOfNothing", inPlace := ["sync/atomic.StoreUint32", "sync/atomic.LoadUint32", "(*internal/sync.Mutex).Lock", "internal/race.Disable", "sync/atomic.CompareAndSwapInt32", "internal/race.Enable", "internal/race.Acquire", "(*internal/sync.Mutex).lockSlow", "internal/sync.runtime_canSpin", "internal/sync.runtime_doSpin", "internal/sync.throw", "internal/sync.runtime_nanotime", "internal/sync.runtime_SemacquireMutex", "sync/atomic.AddInt32", "(*internal/sync.Mutex).Unlock", "internal/race.ReleaseMerge", "(*internal/sync.Mutex).unlockSlow", "internal/sync.fatal", "internal/sync.runtime_Semrelease"], unfollowed := true, recurses := true, apart := false }
def SpeckOfNothingSaid : Prop := speckOfNothingRow.holds Try.pinned (OpenSpec.ofChange speckOfNothingSpec)

/-- ITS FALSE NEIGHBOUR: 'it returns false'. Refute it at one input. -/
def speckOfNothingWrong : ChangeSpec := { name := "speckOfNothing", fn := fun _ => fun
  | [d1, d2] => { results := [.lit (.bool false)], args := [d1, d2] }
  | _ => none }
def SpeckOfNothingWrongFalsely : Prop := speckOfNothingRow.holds Try.pinned (OpenSpec.ofChange speckOfNothingWrong)

/- THE SECOND FORM. 'bulk': how many values and letters a reading holds, each counted each time it is reached (what is shared counts as often as it is met; a slice's spare places count too). A statement '..UptoSaid' is the law's where the arguments, and the package variables that the reading takes, are together of bulk at most 1048576: NARROWER than '..Said'. Prove '..Said' where nothing that the law and all that it calls make is longer than what came in: it says more and counts as full. Else prove '..UptoSaid'. A law counts once. -/
mutual
def uptoBulk {H : Type} : DataW H → Nat
  | .lit (.string bytes) => bytes.length + 1
  | .lit _ => 1
  | .nil => 1
  | .ptr d => uptoBulk d + 1
  | .slice elems spare => uptoBulkAll elems + uptoBulkAll spare + 1
  | .agg parts => uptoBulkAll parts + 1
  | .iface _ d => uptoBulk d + 1
  | .map entries => uptoBulkEntries entries + 1
  | .held _ => 1
def uptoBulkAll {H : Type} : List (DataW H) → Nat
  | [] => 0
  | d :: r => uptoBulk d + uptoBulkAll r
def uptoBulkEntries {H : Type} : List (Lit × DataW H) → Nat
  | [] => 0
  | x :: r => uptoBulkEntry x + uptoBulkEntries r
def uptoBulkEntry {H : Type} : Lit × DataW H → Nat
  | (.string bytes, d) => bytes.length + uptoBulk d + 1
  | (_, d) => uptoBulk d + 1
 end
def uptoSmall : (H : Type) → List (DataW H) → Bool := fun _ ds => decide (uptoBulkAll ds ≤ 1048576)
def OpenSpec.upto (s : _root_.Go.ChangeSpec) : _root_.Go.OpenSpec := { _root_.Go.OpenSpec.ofChange s with cond := some uptoSmall }

/-- 'legatelaw2.SpeckTwins', WHERE WHAT IT READS IS OF BULK AT MOST 1048576: true; the input reads as it did. -/
def speckTwinsUptoRow : OpenClaim := { program := "ytaljifbbmjaimaa", sum := "c77cdc20fc72c2858249d46e500f5194e211b0e771a25f68a6288938fce4c258", func := "legate/legatelaw2.SpeckTwins", spec := "speckTwins", inPlace := ["sync/atomic.StoreUint32", "sync/atomic.LoadUint32", "(*internal/sync.Mutex).Lock", "internal/race.Disable", "sync/atomic.CompareAndSwapInt32", "internal/race.Enable", "internal/race.Acquire", "(*internal/sync.Mutex).lockSlow", "internal/sync.runtime_canSpin", "internal/sync.runtime_doSpin", "internal/sync.throw", "internal/sync.runtime_nanotime", "internal/sync.runtime_SemacquireMutex", "sync/atomic.AddInt32", "(*internal/sync.Mutex).Unlock", "internal/race.ReleaseMerge", "(*internal/sync.Mutex).unlockSlow", "internal/sync.fatal", "internal/sync.runtime_Semrelease"], unfollowed := true, recurses := true, apart := false, narrowed := true }
def SpeckTwinsUptoSaid : Prop := speckTwinsUptoRow.holds Try.pinned (OpenSpec.upto speckTwinsSpec)

/-- 'legatelaw2.SpeckTells', WHERE WHAT IT READS IS OF BULK AT MOST 1048576: true; the input reads as it did. -/
def speckTellsUptoRow : OpenClaim := { program := "ytaljifbbmjaimaa", sum := "c77cdc20fc72c2858249d46e500f5194e211b0e771a25f68a6288938fce4c258", func := "legate/legatelaw2.SpeckTells", spec := "speckTells", inPlace := ["sync/atomic.StoreUint32", "sync/atomic.LoadUint32", "(*internal/sync.Mutex).Lock", "internal/race.Disable", "sync/atomic.CompareAndSwapInt32", "internal/race.Enable", "internal/race.Acquire", "(*internal/sync.Mutex).lockSlow", "internal/sync.runtime_canSpin", "internal/sync.runtime_doSpin", "internal/sync.throw", "internal/sync.runtime_nanotime", "internal/sync.runtime_SemacquireMutex", "sync/atomic.AddInt32", "(*internal/sync.Mutex).Unlock", "internal/race.ReleaseMerge", "(*internal/sync.Mutex).unlockSlow", "internal/sync.fatal", "internal/sync.runtime_Semrelease"], unfollowed := true, recurses := true, apart := false, narrowed := true }
def SpeckTellsUptoSaid : Prop := speckTellsUptoRow.holds Try.pinned (OpenSpec.upto speckTellsSpec)

/-- 'legatelaw2.SpeckBack', WHERE WHAT IT READS IS OF BULK AT MOST 1048576: true; the input reads as it did. -/
def speckBackUptoRow : OpenClaim := { program := "ytaljifbbmjaimaa", sum := "c77cdc20fc72c2858249d46e500f5194e211b0e771a25f68a6288938fce4c258", func := "legate/legatelaw2.SpeckBack", spec := "speckBack", inPlace := ["sync/atomic.StoreUint32", "sync/atomic.LoadUint32", "(*internal/sync.Mutex).Lock", "internal/race.Disable", "sync/atomic.CompareAndSwapInt32", "internal/race.Enable", "internal/race.Acquire", "(*internal/sync.Mutex).lockSlow", "internal/sync.runtime_canSpin", "internal/sync.runtime_doSpin", "internal/sync.throw", "internal/sync.runtime_nanotime", "internal/sync.runtime_SemacquireMutex", "sync/atomic.AddInt32", "(*internal/sync.Mutex).Unlock", "internal/race.ReleaseMerge", "(*internal/sync.Mutex).unlockSlow", "internal/sync.fatal", "internal/sync.runtime_Semrelease"], unfollowed := true, recurses := true, apart := false, narrowed := true }
def SpeckBackUptoSaid : Prop := speckBackUptoRow.holds Try.pinned (OpenSpec.upto speckBackSpec)

/-- 'legatelaw2.SpeckStreams', WHERE WHAT IT READS IS OF BULK AT MOST 1048576: true; the input reads as it did. -/
def speckStreamsUptoRow : OpenClaim := { program := "ytaljifbbmjaimaa", sum := "c77cdc20fc72c2858249d46e500f5194e211b0e771a25f68a6288938fce4c258", func := "legate/legatelaw2.SpeckStreams", spec := "speckStreams", inPlace := ["sync/atomic.StoreUint32", "sync/atomic.LoadUint32", "(*internal/sync.Mutex).Lock", "internal/race.Disable", "sync/atomic.CompareAndSwapInt32", "internal/race.Enable", "internal/race.Acquire", "(*internal/sync.Mutex).lockSlow", "internal/sync.runtime_canSpin", "internal/sync.runtime_doSpin", "internal/sync.throw", "internal/sync.runtime_nanotime", "internal/sync.runtime_SemacquireMutex", "sync/atomic.AddInt32", "(*internal/sync.Mutex).Unlock", "internal/race.ReleaseMerge", "(*internal/sync.Mutex).unlockSlow", "internal/sync.fatal", "internal/sync.runtime_Semrelease"], unfollowed := true, recurses := true, apart := false, narrowed := true }
def SpeckStreamsUptoSaid : Prop := speckStreamsUptoRow.holds Try.pinned (OpenSpec.upto speckStreamsSpec)

/-- 'legatelaw2.SpeckBlocks', WHERE WHAT IT READS IS OF BULK AT MOST 1048576: true; the input reads as it did. -/
def speckBlocksUptoRow : OpenClaim := { program := "ytaljifbbmjaimaa", sum := "c77cdc20fc72c2858249d46e500f5194e211b0e771a25f68a6288938fce4c258", func := "legate/legatelaw2.SpeckBlocks", spec := "speckBlocks", inPlace := ["sync/atomic.StoreUint32", "sync/atomic.LoadUint32", "(*internal/sync.Mutex).Lock", "internal/race.Disable", "sync/atomic.CompareAndSwapInt32", "internal/race.Enable", "internal/race.Acquire", "(*internal/sync.Mutex).lockSlow", "internal/sync.runtime_canSpin", "internal/sync.runtime_doSpin", "internal/sync.throw", "internal/sync.runtime_nanotime", "internal/sync.runtime_SemacquireMutex", "sync/atomic.AddInt32", "(*internal/sync.Mutex).Unlock", "internal/race.ReleaseMerge", "(*internal/sync.Mutex).unlockSlow", "internal/sync.fatal", "internal/sync.runtime_Semrelease"], unfollowed := true, recurses := true, apart := false, narrowed := true }
def SpeckBlocksUptoSaid : Prop := speckBlocksUptoRow.holds Try.pinned (OpenSpec.upto speckBlocksSpec)

/-- 'legatelaw2.SpeckWraps', WHERE WHAT IT READS IS OF BULK AT MOST 1048576: true; the input reads as it did. -/
def speckWrapsUptoRow : OpenClaim := { program := "ytaljifbbmjaimaa", sum := "c77cdc20fc72c2858249d46e500f5194e211b0e771a25f68a6288938fce4c258", func := "legate/legatelaw2.SpeckWraps", spec := "speckWraps", inPlace := ["sync/atomic.StoreUint32", "sync/atomic.LoadUint32", "(*internal/sync.Mutex).Lock", "internal/race.Disable", "sync/atomic.CompareAndSwapInt32", "internal/race.Enable", "internal/race.Acquire", "(*internal/sync.Mutex).lockSlow", "internal/sync.runtime_canSpin", "internal/sync.runtime_doSpin", "internal/sync.throw", "internal/sync.runtime_nanotime", "internal/sync.runtime_SemacquireMutex", "sync/atomic.AddInt32", "(*internal/sync.Mutex).Unlock", "internal/race.ReleaseMerge", "(*internal/sync.Mutex).unlockSlow", "internal/sync.fatal", "internal/sync.runtime_Semrelease"], unfollowed := true, recurses := true, apart := false, narrowed := true }
def SpeckWrapsUptoSaid : Prop := speckWrapsUptoRow.holds Try.pinned (OpenSpec.upto speckWrapsSpec)

/-- 'legatelaw2.SpeckMade', WHERE WHAT IT READS IS OF BULK AT MOST 1048576: true; the input reads as it did. -/
def speckMadeUptoRow : OpenClaim := { program := "ytaljifbbmjaimaa", sum := "c77cdc20fc72c2858249d46e500f5194e211b0e771a25f68a6288938fce4c258", func := "legate/legatelaw2.SpeckMade", spec := "speckMade", inPlace := ["sync/atomic.LoadUint32", "sync/atomic.StoreUint32", "(*internal/sync.Mutex).Lock", "internal/race.Disable", "sync/atomic.CompareAndSwapInt32", "internal/race.Enable", "internal/race.Acquire", "(*internal/sync.Mutex).lockSlow", "internal/sync.runtime_canSpin", "internal/sync.runtime_doSpin", "internal/sync.throw", "internal/sync.runtime_nanotime", "internal/sync.runtime_SemacquireMutex", "sync/atomic.AddInt32", "(*internal/sync.Mutex).Unlock", "internal/race.ReleaseMerge", "(*internal/sync.Mutex).unlockSlow", "internal/sync.fatal", "internal/sync.runtime_Semrelease"], unfollowed := true, recurses := true, apart := false, narrowed := true }
def SpeckMadeUptoSaid : Prop := speckMadeUptoRow.holds Try.pinned (OpenSpec.upto speckMadeSpec)

/-- 'legatelaw2.SpeckOfNothing', WHERE WHAT IT READS IS OF BULK AT MOST 1048576: true; the input reads as it did. -/
def speckOfNothingUptoRow : OpenClaim := { program := "ytaljifbbmjaimaa", sum := "c77cdc20fc72c2858249d46e500f5194e211b0e771a25f68a6288938fce4c258", func := "legate/legatelaw2.SpeckOfNothing", spec := "speckOfNothing", inPlace := ["sync/atomic.StoreUint32", "sync/atomic.LoadUint32", "(*internal/sync.Mutex).Lock", "internal/race.Disable", "sync/atomic.CompareAndSwapInt32", "internal/race.Enable", "internal/race.Acquire", "(*internal/sync.Mutex).lockSlow", "internal/sync.runtime_canSpin", "internal/sync.runtime_doSpin", "internal/sync.throw", "internal/sync.runtime_nanotime", "internal/sync.runtime_SemacquireMutex", "sync/atomic.AddInt32", "(*internal/sync.Mutex).Unlock", "internal/race.ReleaseMerge", "(*internal/sync.Mutex).unlockSlow", "internal/sync.fatal", "internal/sync.runtime_Semrelease"], unfollowed := true, recurses := true, apart := false, narrowed := true }
def SpeckOfNothingUptoSaid : Prop := speckOfNothingUptoRow.holds Try.pinned (OpenSpec.upto speckOfNothingSpec)

end Rows
end Go.Proofs.Ytaljifbbmjaimaa
