/-
  No cell of these rows narrows 'for every input' (looked for: loops, veiled, ifaces, maps, wideKeys, modest, calm, conditions, laid).
  DERIVED. THE GIVEN ROWS OF THIS SEAT. 11 by the template 'for every input the law returns true; each argument reads behind the call as it read before'; 0 by the template 'total and deterministic' (their statements: YtdkdeiofjoccnaaTotals.lean).
  GIVEN WITH THE SEED: the statements are not yours to turn. If you find one false, say at which input.
  Laid BY PROGRAM, IN A SANDBOX (cutbox-rows.mjs): the forced cells as the released guide's own fill.sh prints them over the translation 3f0280902f58ce46… (all of the seat's roots in one cut). By AI agents, Wed Nov 11 2026. No macro, syntax, notation, axiom, sorry.
-/
import Derived.Test.YtdkdeiofjoccnaaChecked
import GoSem.Claim
import GoSem.ClaimJoined
import GoSem.ClaimMapViews
import Derived.JoinedTies
import Derived.KernelRfl
namespace Go.Proofs.Ytdkdeiofjoccnaa
/- THE CELL 'sum', in the pinned program and in every row, IS THE sha256 OF THE DUMP (.gsa) THAT YtdkdeiofjoccnaaProg.lean LOADS. Nothing in Lean hashes anything: it is a label: what it is worth is what the hold of that sum in a sandbox is worth. -/
noncomputable def Try.pinned : Pinned := { name := "ytdkdeiofjoccnaa", sum := "3f0280902f58ce469009aa13af352c53ac2ac46a215a2f25a17544e1e5dfdf18", checked := Try.checked }
namespace Rows
def none {H : Type} : Left H := { results := [], args := [] }

/-- 'stratalaw03.SchedNames': WHATEVER THE INPUT: true; the input reads as it did. -/
def schedNamesSpec : ChangeSpec := { name := "schedNames", fn := fun _ => fun
  | [] => { results := [.lit (.bool true)], args := [] }
  | _ => none }
def schedNamesRow : OpenClaim := { program := "ytdkdeiofjoccnaa", sum := "3f0280902f58ce469009aa13af352c53ac2ac46a215a2f25a17544e1e5dfdf18", func := "strata/stratalaw03.SchedNames", spec := "schedNames", plainKeys := false, apart := false }
def SchedNamesSaid : Prop := schedNamesRow.holds Try.pinned (OpenSpec.ofChange schedNamesSpec)

/-- ITS FALSE NEIGHBOUR: 'it returns false'. Refute it at one input. -/
def schedNamesWrong : ChangeSpec := { name := "schedNames", fn := fun _ => fun
  | [] => { results := [.lit (.bool false)], args := [] }
  | _ => none }
def SchedNamesWrongFalsely : Prop := schedNamesRow.holds Try.pinned (OpenSpec.ofChange schedNamesWrong)

/-- 'stratalaw03.SchedDecodes': WHATEVER THE INPUT: true; the input reads as it did. -/
def schedDecodesSpec : ChangeSpec := { name := "schedDecodes", fn := fun _ => fun
  | [d] => { results := [.lit (.bool true)], args := [d] }
  | _ => none }
def schedDecodesRow : OpenClaim := { program := "ytdkdeiofjoccnaa", sum := "3f0280902f58ce469009aa13af352c53ac2ac46a215a2f25a17544e1e5dfdf18", func := "strata/stratalaw03.SchedDecodes", spec := "schedDecodes", plainKeys := false, apart := false }
def SchedDecodesSaid : Prop := schedDecodesRow.holds Try.pinned (OpenSpec.ofChange schedDecodesSpec)

/-- ITS FALSE NEIGHBOUR: 'it returns false'. Refute it at one input. -/
def schedDecodesWrong : ChangeSpec := { name := "schedDecodes", fn := fun _ => fun
  | [d] => { results := [.lit (.bool false)], args := [d] }
  | _ => none }
def SchedDecodesWrongFalsely : Prop := schedDecodesRow.holds Try.pinned (OpenSpec.ofChange schedDecodesWrong)

/-- 'stratalaw03.SchedEncodes': WHATEVER THE INPUT: true; the input reads as it did. -/
def schedEncodesSpec : ChangeSpec := { name := "schedEncodes", fn := fun _ => fun
  | [d] => { results := [.lit (.bool true)], args := [d] }
  | _ => none }
def schedEncodesRow : OpenClaim := { program := "ytdkdeiofjoccnaa", sum := "3f0280902f58ce469009aa13af352c53ac2ac46a215a2f25a17544e1e5dfdf18", func := "strata/stratalaw03.SchedEncodes", spec := "schedEncodes", plainKeys := false, apart := false }
def SchedEncodesSaid : Prop := schedEncodesRow.holds Try.pinned (OpenSpec.ofChange schedEncodesSpec)

/-- ITS FALSE NEIGHBOUR: 'it returns false'. Refute it at one input. -/
def schedEncodesWrong : ChangeSpec := { name := "schedEncodes", fn := fun _ => fun
  | [d] => { results := [.lit (.bool false)], args := [d] }
  | _ => none }
def SchedEncodesWrongFalsely : Prop := schedEncodesRow.holds Try.pinned (OpenSpec.ofChange schedEncodesWrong)

/-- 'stratalaw03.SchedBothWays': WHATEVER THE INPUT: true; the input reads as it did. -/
def schedBothWaysSpec : ChangeSpec := { name := "schedBothWays", fn := fun _ => fun
  | [d1, d2] => { results := [.lit (.bool true)], args := [d1, d2] }
  | _ => none }
def schedBothWaysRow : OpenClaim := { program := "ytdkdeiofjoccnaa", sum := "3f0280902f58ce469009aa13af352c53ac2ac46a215a2f25a17544e1e5dfdf18", func := "strata/stratalaw03.SchedBothWays", spec := "schedBothWays", plainKeys := false, apart := false }
def SchedBothWaysSaid : Prop := schedBothWaysRow.holds Try.pinned (OpenSpec.ofChange schedBothWaysSpec)

/-- ITS FALSE NEIGHBOUR: 'it returns false'. Refute it at one input. -/
def schedBothWaysWrong : ChangeSpec := { name := "schedBothWays", fn := fun _ => fun
  | [d1, d2] => { results := [.lit (.bool false)], args := [d1, d2] }
  | _ => none }
def SchedBothWaysWrongFalsely : Prop := schedBothWaysRow.holds Try.pinned (OpenSpec.ofChange schedBothWaysWrong)

/-- 'stratalaw03.SchedWitnesses': WHATEVER THE INPUT: true; the input reads as it did. -/
def schedWitnessesSpec : ChangeSpec := { name := "schedWitnesses", fn := fun _ => fun
  | [d1, d2] => { results := [.lit (.bool true)], args := [d1, d2] }
  | _ => none }
def schedWitnessesRow : OpenClaim := { program := "ytdkdeiofjoccnaa", sum := "3f0280902f58ce469009aa13af352c53ac2ac46a215a2f25a17544e1e5dfdf18", func := "strata/stratalaw03.SchedWitnesses", spec := "schedWitnesses", unfollowed := true, recurses := true, plainKeys := false, apart := false }
def SchedWitnessesSaid : Prop := schedWitnessesRow.holds Try.pinned (OpenSpec.ofChange schedWitnessesSpec)

/-- ITS FALSE NEIGHBOUR: 'it returns false'. Refute it at one input. -/
def schedWitnessesWrong : ChangeSpec := { name := "schedWitnesses", fn := fun _ => fun
  | [d1, d2] => { results := [.lit (.bool false)], args := [d1, d2] }
  | _ => none }
def SchedWitnessesWrongFalsely : Prop := schedWitnessesRow.holds Try.pinned (OpenSpec.ofChange schedWitnessesWrong)

/-- 'stratalaw03.SchedNils': WHATEVER THE INPUT: true; the input reads as it did. -/
def schedNilsSpec : ChangeSpec := { name := "schedNils", fn := fun _ => fun
  | [] => { results := [.lit (.bool true)], args := [] }
  | _ => none }
def schedNilsRow : OpenClaim := { program := "ytdkdeiofjoccnaa", sum := "3f0280902f58ce469009aa13af352c53ac2ac46a215a2f25a17544e1e5dfdf18", func := "strata/stratalaw03.SchedNils", spec := "schedNils", inPlace := ["sync/atomic.LoadUint32", "sync/atomic.LoadUint64"], unfollowed := true, recurses := true, plainKeys := false, apart := false }
def SchedNilsSaid : Prop := schedNilsRow.holds Try.pinned (OpenSpec.ofChange schedNilsSpec)

/-- ITS FALSE NEIGHBOUR: 'it returns false'. Refute it at one input. -/
def schedNilsWrong : ChangeSpec := { name := "schedNils", fn := fun _ => fun
  | [] => { results := [.lit (.bool false)], args := [] }
  | _ => none }
def SchedNilsWrongFalsely : Prop := schedNilsRow.holds Try.pinned (OpenSpec.ofChange schedNilsWrong)

/-- 'stratalaw03.SchedBudgets': WHATEVER THE INPUT: true; the input reads as it did. -/
def schedBudgetsSpec : ChangeSpec := { name := "schedBudgets", fn := fun _ => fun
  | [d1, d2, d3, d4] => { results := [.lit (.bool true)], args := [d1, d2, d3, d4] }
  | _ => none }
def schedBudgetsRow : OpenClaim := { program := "ytdkdeiofjoccnaa", sum := "3f0280902f58ce469009aa13af352c53ac2ac46a215a2f25a17544e1e5dfdf18", func := "strata/stratalaw03.SchedBudgets", spec := "schedBudgets", inPlace := ["sync/atomic.AddInt64", "(*internal/sync.Mutex).Lock", "internal/race.Disable", "sync/atomic.CompareAndSwapInt32", "internal/race.Enable", "internal/race.Acquire", "(*internal/sync.Mutex).lockSlow", "internal/sync.runtime_canSpin", "internal/sync.runtime_doSpin", "internal/sync.throw", "internal/sync.runtime_nanotime", "internal/sync.runtime_SemacquireMutex", "sync/atomic.AddInt32", "(*internal/sync.Mutex).Unlock", "internal/race.ReleaseMerge", "(*internal/sync.Mutex).unlockSlow", "internal/sync.fatal", "internal/sync.runtime_Semrelease", "sync/atomic.StoreUint64", "sync/atomic.StoreUint32"], unfollowed := true, recurses := true, plainKeys := false, apart := false }
def SchedBudgetsSaid : Prop := schedBudgetsRow.holds Try.pinned (OpenSpec.ofChange schedBudgetsSpec)

/-- ITS FALSE NEIGHBOUR: 'it returns false'. Refute it at one input. -/
def schedBudgetsWrong : ChangeSpec := { name := "schedBudgets", fn := fun _ => fun
  | [d1, d2, d3, d4] => { results := [.lit (.bool false)], args := [d1, d2, d3, d4] }
  | _ => none }
def SchedBudgetsWrongFalsely : Prop := schedBudgetsRow.holds Try.pinned (OpenSpec.ofChange schedBudgetsWrong)

/-- 'stratalaw03.SchedDrains': WHATEVER THE INPUT: true; the input reads as it did. -/
def schedDrainsSpec : ChangeSpec := { name := "schedDrains", fn := fun _ => fun
  | [d1, d2, d3] => { results := [.lit (.bool true)], args := [d1, d2, d3] }
  | _ => none }
def schedDrainsRow : OpenClaim := { program := "ytdkdeiofjoccnaa", sum := "3f0280902f58ce469009aa13af352c53ac2ac46a215a2f25a17544e1e5dfdf18", func := "strata/stratalaw03.SchedDrains", spec := "schedDrains", inPlace := ["sync/atomic.AddInt64", "(*internal/sync.Mutex).Lock", "internal/race.Disable", "sync/atomic.CompareAndSwapInt32", "internal/race.Enable", "internal/race.Acquire", "(*internal/sync.Mutex).lockSlow", "internal/sync.runtime_canSpin", "internal/sync.runtime_doSpin", "internal/sync.throw", "internal/sync.runtime_nanotime", "internal/sync.runtime_SemacquireMutex", "sync/atomic.AddInt32", "(*internal/sync.Mutex).Unlock", "internal/race.ReleaseMerge", "(*internal/sync.Mutex).unlockSlow", "internal/sync.fatal", "internal/sync.runtime_Semrelease", "sync/atomic.StoreUint64", "sync/atomic.StoreUint32"], unfollowed := true, recurses := true, plainKeys := false, apart := false }
def SchedDrainsSaid : Prop := schedDrainsRow.holds Try.pinned (OpenSpec.ofChange schedDrainsSpec)

/-- ITS FALSE NEIGHBOUR: 'it returns false'. Refute it at one input. -/
def schedDrainsWrong : ChangeSpec := { name := "schedDrains", fn := fun _ => fun
  | [d1, d2, d3] => { results := [.lit (.bool false)], args := [d1, d2, d3] }
  | _ => none }
def SchedDrainsWrongFalsely : Prop := schedDrainsRow.holds Try.pinned (OpenSpec.ofChange schedDrainsWrong)

/-- 'stratalaw03.SchedAdds': WHATEVER THE INPUT: true; the input reads as it did. -/
def schedAddsSpec : ChangeSpec := { name := "schedAdds", fn := fun _ => fun
  | [d1, d2, d3] => { results := [.lit (.bool true)], args := [d1, d2, d3] }
  | _ => none }
def schedAddsRow : OpenClaim := { program := "ytdkdeiofjoccnaa", sum := "3f0280902f58ce469009aa13af352c53ac2ac46a215a2f25a17544e1e5dfdf18", func := "strata/stratalaw03.SchedAdds", spec := "schedAdds", inPlace := ["sync/atomic.AddInt64", "(*internal/sync.Mutex).Lock", "internal/race.Disable", "sync/atomic.CompareAndSwapInt32", "internal/race.Enable", "internal/race.Acquire", "(*internal/sync.Mutex).lockSlow", "internal/sync.runtime_canSpin", "internal/sync.runtime_doSpin", "internal/sync.throw", "internal/sync.runtime_nanotime", "internal/sync.runtime_SemacquireMutex", "sync/atomic.AddInt32", "(*internal/sync.Mutex).Unlock", "internal/race.ReleaseMerge", "(*internal/sync.Mutex).unlockSlow", "internal/sync.fatal", "internal/sync.runtime_Semrelease", "sync/atomic.StoreUint64", "sync/atomic.StoreUint32", "sync/atomic.LoadUint32", "sync/atomic.LoadUint64"], unfollowed := true, recurses := true, plainKeys := false, apart := false }
def SchedAddsSaid : Prop := schedAddsRow.holds Try.pinned (OpenSpec.ofChange schedAddsSpec)

/-- ITS FALSE NEIGHBOUR: 'it returns false'. Refute it at one input. -/
def schedAddsWrong : ChangeSpec := { name := "schedAdds", fn := fun _ => fun
  | [d1, d2, d3] => { results := [.lit (.bool false)], args := [d1, d2, d3] }
  | _ => none }
def SchedAddsWrongFalsely : Prop := schedAddsRow.holds Try.pinned (OpenSpec.ofChange schedAddsWrong)

/-- 'stratalaw03.SchedFirstWins': WHATEVER THE INPUT: true; the input reads as it did. -/
def schedFirstWinsSpec : ChangeSpec := { name := "schedFirstWins", fn := fun _ => fun
  | [d1, d2, d3] => { results := [.lit (.bool true)], args := [d1, d2, d3] }
  | _ => none }
def schedFirstWinsRow : OpenClaim := { program := "ytdkdeiofjoccnaa", sum := "3f0280902f58ce469009aa13af352c53ac2ac46a215a2f25a17544e1e5dfdf18", func := "strata/stratalaw03.SchedFirstWins", spec := "schedFirstWins", inPlace := ["sync/atomic.AddInt64", "(*internal/sync.Mutex).Lock", "internal/race.Disable", "sync/atomic.CompareAndSwapInt32", "internal/race.Enable", "internal/race.Acquire", "(*internal/sync.Mutex).lockSlow", "internal/sync.runtime_canSpin", "internal/sync.runtime_doSpin", "internal/sync.throw", "internal/sync.runtime_nanotime", "internal/sync.runtime_SemacquireMutex", "sync/atomic.AddInt32", "(*internal/sync.Mutex).Unlock", "internal/race.ReleaseMerge", "(*internal/sync.Mutex).unlockSlow", "internal/sync.fatal", "internal/sync.runtime_Semrelease", "sync/atomic.StoreUint64", "sync/atomic.StoreUint32", "sync/atomic.LoadUint32", "sync/atomic.LoadUint64"], unfollowed := true, recurses := true, plainKeys := false, apart := false }
def SchedFirstWinsSaid : Prop := schedFirstWinsRow.holds Try.pinned (OpenSpec.ofChange schedFirstWinsSpec)

/-- ITS FALSE NEIGHBOUR: 'it returns false'. Refute it at one input. -/
def schedFirstWinsWrong : ChangeSpec := { name := "schedFirstWins", fn := fun _ => fun
  | [d1, d2, d3] => { results := [.lit (.bool false)], args := [d1, d2, d3] }
  | _ => none }
def SchedFirstWinsWrongFalsely : Prop := schedFirstWinsRow.holds Try.pinned (OpenSpec.ofChange schedFirstWinsWrong)

/-- 'stratalaw03.SchedOutcomes': WHATEVER THE INPUT: true; the input reads as it did. -/
def schedOutcomesSpec : ChangeSpec := { name := "schedOutcomes", fn := fun _ => fun
  | [d] => { results := [.lit (.bool true)], args := [d] }
  | _ => none }
def schedOutcomesRow : OpenClaim := { program := "ytdkdeiofjoccnaa", sum := "3f0280902f58ce469009aa13af352c53ac2ac46a215a2f25a17544e1e5dfdf18", func := "strata/stratalaw03.SchedOutcomes", spec := "schedOutcomes", unfollowed := true, recurses := true, plainKeys := false, apart := false }
def SchedOutcomesSaid : Prop := schedOutcomesRow.holds Try.pinned (OpenSpec.ofChange schedOutcomesSpec)

/-- ITS FALSE NEIGHBOUR: 'it returns false'. Refute it at one input. -/
def schedOutcomesWrong : ChangeSpec := { name := "schedOutcomes", fn := fun _ => fun
  | [d] => { results := [.lit (.bool false)], args := [d] }
  | _ => none }
def SchedOutcomesWrongFalsely : Prop := schedOutcomesRow.holds Try.pinned (OpenSpec.ofChange schedOutcomesWrong)

/- THE SECOND FORM. 'bulk': how many values and letters a reading holds, each counted each time it is reached (what is shared counts as often as it is met; a slice's spare places count too). A statement '..UptoSaid' is the law's where the arguments, and the package variables that the reading takes, are together of bulk at most 1048576: NARROWER than '..Said'. Prove '..Said' where nothing that the law and all that it calls make is longer than what came in: it says more and counts as full. Else prove '..UptoSaid'. A law counts once. -/
mutual
def uptoBulk {H : Type} : DataW H → Nat
  | .lit (.string bytes) => bytes.length + 1
  | .lit _ => 1
  | .nil => 1
  | .ptr d => uptoBulk d + 1
  | .slice elems spare => uptoBulkAll elems + uptoBulkAll spare + 1
  | .agg parts => uptoBulkAll parts + 1
  | .iface _ d => uptoBulk d + 1
  | .map entries => uptoBulkEntries entries + 1
  | .held _ => 1
def uptoBulkAll {H : Type} : List (DataW H) → Nat
  | [] => 0
  | d :: r => uptoBulk d + uptoBulkAll r
def uptoBulkEntries {H : Type} : List (Lit × DataW H) → Nat
  | [] => 0
  | x :: r => uptoBulkEntry x + uptoBulkEntries r
def uptoBulkEntry {H : Type} : Lit × DataW H → Nat
  | (.string bytes, d) => bytes.length + uptoBulk d + 1
  | (_, d) => uptoBulk d + 1
 end
def uptoSmall : (H : Type) → List (DataW H) → Bool := fun _ ds => decide (uptoBulkAll ds ≤ 1048576)
def OpenSpec.upto (s : _root_.Go.ChangeSpec) : _root_.Go.OpenSpec := { _root_.Go.OpenSpec.ofChange s with cond := some uptoSmall }

/-- 'stratalaw03.SchedNames', WHERE WHAT IT READS IS OF BULK AT MOST 1048576: true; the input reads as it did. -/
def schedNamesUptoRow : OpenClaim := { program := "ytdkdeiofjoccnaa", sum := "3f0280902f58ce469009aa13af352c53ac2ac46a215a2f25a17544e1e5dfdf18", func := "strata/stratalaw03.SchedNames", spec := "schedNames", plainKeys := false, apart := false, narrowed := true }
def SchedNamesUptoSaid : Prop := schedNamesUptoRow.holds Try.pinned (OpenSpec.upto schedNamesSpec)

/-- 'stratalaw03.SchedDecodes', WHERE WHAT IT READS IS OF BULK AT MOST 1048576: true; the input reads as it did. -/
def schedDecodesUptoRow : OpenClaim := { program := "ytdkdeiofjoccnaa", sum := "3f0280902f58ce469009aa13af352c53ac2ac46a215a2f25a17544e1e5dfdf18", func := "strata/stratalaw03.SchedDecodes", spec := "schedDecodes", plainKeys := false, apart := false, narrowed := true }
def SchedDecodesUptoSaid : Prop := schedDecodesUptoRow.holds Try.pinned (OpenSpec.upto schedDecodesSpec)

/-- 'stratalaw03.SchedEncodes', WHERE WHAT IT READS IS OF BULK AT MOST 1048576: true; the input reads as it did. -/
def schedEncodesUptoRow : OpenClaim := { program := "ytdkdeiofjoccnaa", sum := "3f0280902f58ce469009aa13af352c53ac2ac46a215a2f25a17544e1e5dfdf18", func := "strata/stratalaw03.SchedEncodes", spec := "schedEncodes", plainKeys := false, apart := false, narrowed := true }
def SchedEncodesUptoSaid : Prop := schedEncodesUptoRow.holds Try.pinned (OpenSpec.upto schedEncodesSpec)

/-- 'stratalaw03.SchedBothWays', WHERE WHAT IT READS IS OF BULK AT MOST 1048576: true; the input reads as it did. -/
def schedBothWaysUptoRow : OpenClaim := { program := "ytdkdeiofjoccnaa", sum := "3f0280902f58ce469009aa13af352c53ac2ac46a215a2f25a17544e1e5dfdf18", func := "strata/stratalaw03.SchedBothWays", spec := "schedBothWays", plainKeys := false, apart := false, narrowed := true }
def SchedBothWaysUptoSaid : Prop := schedBothWaysUptoRow.holds Try.pinned (OpenSpec.upto schedBothWaysSpec)

/-- 'stratalaw03.SchedWitnesses', WHERE WHAT IT READS IS OF BULK AT MOST 1048576: true; the input reads as it did. -/
def schedWitnessesUptoRow : OpenClaim := { program := "ytdkdeiofjoccnaa", sum := "3f0280902f58ce469009aa13af352c53ac2ac46a215a2f25a17544e1e5dfdf18", func := "strata/stratalaw03.SchedWitnesses", spec := "schedWitnesses", unfollowed := true, recurses := true, plainKeys := false, apart := false, narrowed := true }
def SchedWitnessesUptoSaid : Prop := schedWitnessesUptoRow.holds Try.pinned (OpenSpec.upto schedWitnessesSpec)

/-- 'stratalaw03.SchedNils', WHERE WHAT IT READS IS OF BULK AT MOST 1048576: true; the input reads as it did. -/
def schedNilsUptoRow : OpenClaim := { program := "ytdkdeiofjoccnaa", sum := "3f0280902f58ce469009aa13af352c53ac2ac46a215a2f25a17544e1e5dfdf18", func := "strata/stratalaw03.SchedNils", spec := "schedNils", inPlace := ["sync/atomic.LoadUint32", "sync/atomic.LoadUint64"], unfollowed := true, recurses := true, plainKeys := false, apart := false, narrowed := true }
def SchedNilsUptoSaid : Prop := schedNilsUptoRow.holds Try.pinned (OpenSpec.upto schedNilsSpec)

/-- 'stratalaw03.SchedBudgets', WHERE WHAT IT READS IS OF BULK AT MOST 1048576: true; the input reads as it did. -/
def schedBudgetsUptoRow : OpenClaim := { program := "ytdkdeiofjoccnaa", sum := "3f0280902f58ce469009aa13af352c53ac2ac46a215a2f25a17544e1e5dfdf18", func := "strata/stratalaw03.SchedBudgets", spec := "schedBudgets", inPlace := ["sync/atomic.AddInt64", "(*internal/sync.Mutex).Lock", "internal/race.Disable", "sync/atomic.CompareAndSwapInt32", "internal/race.Enable", "internal/race.Acquire", "(*internal/sync.Mutex).lockSlow", "internal/sync.runtime_canSpin", "internal/sync.runtime_doSpin", "internal/sync.throw", "internal/sync.runtime_nanotime", "internal/sync.runtime_SemacquireMutex", "sync/atomic.AddInt32", "(*internal/sync.Mutex).Unlock", "internal/race.ReleaseMerge", "(*internal/sync.Mutex).unlockSlow", "internal/sync.fatal", "internal/sync.runtime_Semrelease", "sync/atomic.StoreUint64", "sync/atomic.StoreUint32"], unfollowed := true, recurses := true, plainKeys := false, apart := false, narrowed := true }
def SchedBudgetsUptoSaid : Prop := schedBudgetsUptoRow.holds Try.pinned (OpenSpec.upto schedBudgetsSpec)

/-- 'stratalaw03.SchedDrains', WHERE WHAT IT READS IS OF BULK AT MOST 1048576: true; the input reads as it did. -/
def schedDrainsUptoRow : OpenClaim := { program := "ytdkdeiofjoccnaa", sum := "3f0280902f58ce469009aa13af352c53ac2ac46a215a2f25a17544e1e5dfdf18", func := "strata/stratalaw03.SchedDrains", spec := "schedDrains", inPlace := ["sync/atomic.AddInt64", "(*internal/sync.Mutex).Lock", "internal/race.Disable", "sync/atomic.CompareAndSwapInt32", "internal/race.Enable", "internal/race.Acquire", "(*internal/sync.Mutex).lockSlow", "internal/sync.runtime_canSpin", "internal/sync.runtime_doSpin", "internal/sync.throw", "internal/sync.runtime_nanotime", "internal/sync.runtime_SemacquireMutex", "sync/atomic.AddInt32", "(*internal/sync.Mutex).Unlock", "internal/race.ReleaseMerge", "(*internal/sync.Mutex).unlockSlow", "internal/sync.fatal", "internal/sync.runtime_Semrelease", "sync/atomic.StoreUint64", "sync/atomic.StoreUint32"], unfollowed := true, recurses := true, plainKeys := false, apart := false, narrowed := true }
def SchedDrainsUptoSaid : Prop := schedDrainsUptoRow.holds Try.pinned (OpenSpec.upto schedDrainsSpec)

/-- 'stratalaw03.SchedAdds', WHERE WHAT IT READS IS OF BULK AT MOST 1048576: true; the input reads as it did. -/
def schedAddsUptoRow : OpenClaim := { program := "ytdkdeiofjoccnaa", sum := "3f0280902f58ce469009aa13af352c53ac2ac46a215a2f25a17544e1e5dfdf18", func := "strata/stratalaw03.SchedAdds", spec := "schedAdds", inPlace := ["sync/atomic.AddInt64", "(*internal/sync.Mutex).Lock", "internal/race.Disable", "sync/atomic.CompareAndSwapInt32", "internal/race.Enable", "internal/race.Acquire", "(*internal/sync.Mutex).lockSlow", "internal/sync.runtime_canSpin", "internal/sync.runtime_doSpin", "internal/sync.throw", "internal/sync.runtime_nanotime", "internal/sync.runtime_SemacquireMutex", "sync/atomic.AddInt32", "(*internal/sync.Mutex).Unlock", "internal/race.ReleaseMerge", "(*internal/sync.Mutex).unlockSlow", "internal/sync.fatal", "internal/sync.runtime_Semrelease", "sync/atomic.StoreUint64", "sync/atomic.StoreUint32", "sync/atomic.LoadUint32", "sync/atomic.LoadUint64"], unfollowed := true, recurses := true, plainKeys := false, apart := false, narrowed := true }
def SchedAddsUptoSaid : Prop := schedAddsUptoRow.holds Try.pinned (OpenSpec.upto schedAddsSpec)

/-- 'stratalaw03.SchedFirstWins', WHERE WHAT IT READS IS OF BULK AT MOST 1048576: true; the input reads as it did. -/
def schedFirstWinsUptoRow : OpenClaim := { program := "ytdkdeiofjoccnaa", sum := "3f0280902f58ce469009aa13af352c53ac2ac46a215a2f25a17544e1e5dfdf18", func := "strata/stratalaw03.SchedFirstWins", spec := "schedFirstWins", inPlace := ["sync/atomic.AddInt64", "(*internal/sync.Mutex).Lock", "internal/race.Disable", "sync/atomic.CompareAndSwapInt32", "internal/race.Enable", "internal/race.Acquire", "(*internal/sync.Mutex).lockSlow", "internal/sync.runtime_canSpin", "internal/sync.runtime_doSpin", "internal/sync.throw", "internal/sync.runtime_nanotime", "internal/sync.runtime_SemacquireMutex", "sync/atomic.AddInt32", "(*internal/sync.Mutex).Unlock", "internal/race.ReleaseMerge", "(*internal/sync.Mutex).unlockSlow", "internal/sync.fatal", "internal/sync.runtime_Semrelease", "sync/atomic.StoreUint64", "sync/atomic.StoreUint32", "sync/atomic.LoadUint32", "sync/atomic.LoadUint64"], unfollowed := true, recurses := true, plainKeys := false, apart := false, narrowed := true }
def SchedFirstWinsUptoSaid : Prop := schedFirstWinsUptoRow.holds Try.pinned (OpenSpec.upto schedFirstWinsSpec)

/-- 'stratalaw03.SchedOutcomes', WHERE WHAT IT READS IS OF BULK AT MOST 1048576: true; the input reads as it did. -/
def schedOutcomesUptoRow : OpenClaim := { program := "ytdkdeiofjoccnaa", sum := "3f0280902f58ce469009aa13af352c53ac2ac46a215a2f25a17544e1e5dfdf18", func := "strata/stratalaw03.SchedOutcomes", spec := "schedOutcomes", unfollowed := true, recurses := true, plainKeys := false, apart := false, narrowed := true }
def SchedOutcomesUptoSaid : Prop := schedOutcomesUptoRow.holds Try.pinned (OpenSpec.upto schedOutcomesSpec)

end Rows
end Go.Proofs.Ytdkdeiofjoccnaa
