/-
  No cell of these rows narrows 'for every input' (looked for: loops, veiled, ifaces, maps, wideKeys, modest, calm, conditions, laid).
  DERIVED. THE GIVEN ROWS OF THIS SEAT. 9 by the template 'for every input the law returns true; each argument reads behind the call as it read before'; 0 by the template 'total and deterministic' (their statements: YtpmbfngmdhkpaaaTotals.lean).
  GIVEN WITH THE SEED: the statements are not yours to turn. If you find one false, say at which input.
  Laid BY PROGRAM, IN A SANDBOX (cutbox-rows.mjs): the forced cells as the released guide's own fill.sh prints them over the translation bb461af00ece618a… (all of the seat's roots in one cut). By AI agents, Wed Nov 11 2026. No macro, syntax, notation, axiom, sorry.
-/
import Derived.Test.YtpmbfngmdhkpaaaChecked
import GoSem.Claim
import GoSem.ClaimJoined
import GoSem.ClaimMapViews
import Derived.JoinedTies
import Derived.KernelRfl
namespace Go.Proofs.Ytpmbfngmdhkpaaa
/- THE CELL 'sum', in the pinned program and in every row, IS THE sha256 OF THE DUMP (.gsa) THAT YtpmbfngmdhkpaaaProg.lean LOADS. Nothing in Lean hashes anything: it is a label: what it is worth is what the hold of that sum in a sandbox is worth. -/
noncomputable def Try.pinned : Pinned := { name := "ytpmbfngmdhkpaaa", sum := "bb461af00ece618a3ed1d04bbeb3e8fb8960a999e50981fc1638f592c229d3ec", checked := Try.checked }
namespace Rows
def none {H : Type} : Left H := { results := [], args := [] }

/-- 'glacierlaw16.QueueFair': WHATEVER THE INPUT: true; the input reads as it did. -/
def queueFairSpec : ChangeSpec := { name := "queueFair", fn := fun _ => fun
  | [d1, d2, d3, d4, d5] => { results := [.lit (.bool true)], args := [d1, d2, d3, d4, d5] }
  | _ => none }
def queueFairRow : OpenClaim := { program := "ytpmbfngmdhkpaaa", sum := "bb461af00ece618a3ed1d04bbeb3e8fb8960a999e50981fc1638f592c229d3ec", func := "glacier/glacierlaw16.QueueFair", spec := "queueFair", unfollowed := true, recurses := true, plainKeys := false, apart := false }
def QueueFairSaid : Prop := queueFairRow.holds Try.pinned (OpenSpec.ofChange queueFairSpec)

/-- ITS FALSE NEIGHBOUR: 'it returns false'. Refute it at one input. -/
def queueFairWrong : ChangeSpec := { name := "queueFair", fn := fun _ => fun
  | [d1, d2, d3, d4, d5] => { results := [.lit (.bool false)], args := [d1, d2, d3, d4, d5] }
  | _ => none }
def QueueFairWrongFalsely : Prop := queueFairRow.holds Try.pinned (OpenSpec.ofChange queueFairWrong)

/-- 'glacierlaw16.QueueSweep': WHATEVER THE INPUT: true; the input reads as it did. -/
def queueSweepSpec : ChangeSpec := { name := "queueSweep", fn := fun _ => fun
  | [d1, d2] => { results := [.lit (.bool true)], args := [d1, d2] }
  | _ => none }
def queueSweepRow : OpenClaim := { program := "ytpmbfngmdhkpaaa", sum := "bb461af00ece618a3ed1d04bbeb3e8fb8960a999e50981fc1638f592c229d3ec", func := "glacier/glacierlaw16.QueueSweep", spec := "queueSweep", unfollowed := true, recurses := true, plainKeys := false, apart := false }
def QueueSweepSaid : Prop := queueSweepRow.holds Try.pinned (OpenSpec.ofChange queueSweepSpec)

/-- ITS FALSE NEIGHBOUR: 'it returns false'. Refute it at one input. -/
def queueSweepWrong : ChangeSpec := { name := "queueSweep", fn := fun _ => fun
  | [d1, d2] => { results := [.lit (.bool false)], args := [d1, d2] }
  | _ => none }
def QueueSweepWrongFalsely : Prop := queueSweepRow.holds Try.pinned (OpenSpec.ofChange queueSweepWrong)

/-- 'glacierlaw16.QueueAll': WHATEVER THE INPUT: true; the input reads as it did. -/
def queueAllSpec : ChangeSpec := { name := "queueAll", fn := fun _ => fun
  | [d1, d2, d3] => { results := [.lit (.bool true)], args := [d1, d2, d3] }
  | _ => none }
def queueAllRow : OpenClaim := { program := "ytpmbfngmdhkpaaa", sum := "bb461af00ece618a3ed1d04bbeb3e8fb8960a999e50981fc1638f592c229d3ec", func := "glacier/glacierlaw16.QueueAll", spec := "queueAll", unfollowed := true, recurses := true, plainKeys := false, apart := false }
def QueueAllSaid : Prop := queueAllRow.holds Try.pinned (OpenSpec.ofChange queueAllSpec)

/-- ITS FALSE NEIGHBOUR: 'it returns false'. Refute it at one input. -/
def queueAllWrong : ChangeSpec := { name := "queueAll", fn := fun _ => fun
  | [d1, d2, d3] => { results := [.lit (.bool false)], args := [d1, d2, d3] }
  | _ => none }
def QueueAllWrongFalsely : Prop := queueAllRow.holds Try.pinned (OpenSpec.ofChange queueAllWrong)

/-- 'glacierlaw16.QueuePlays': WHATEVER THE INPUT: true; the input reads as it did. -/
def queuePlaysSpec : ChangeSpec := { name := "queuePlays", fn := fun _ => fun
  | [d] => { results := [.lit (.bool true)], args := [d] }
  | _ => none }
def queuePlaysRow : OpenClaim := { program := "ytpmbfngmdhkpaaa", sum := "bb461af00ece618a3ed1d04bbeb3e8fb8960a999e50981fc1638f592c229d3ec", func := "glacier/glacierlaw16.QueuePlays", spec := "queuePlays", unfollowed := true, recurses := true, plainKeys := false, apart := false }
def QueuePlaysSaid : Prop := queuePlaysRow.holds Try.pinned (OpenSpec.ofChange queuePlaysSpec)

/-- ITS FALSE NEIGHBOUR: 'it returns false'. Refute it at one input. -/
def queuePlaysWrong : ChangeSpec := { name := "queuePlays", fn := fun _ => fun
  | [d] => { results := [.lit (.bool false)], args := [d] }
  | _ => none }
def QueuePlaysWrongFalsely : Prop := queuePlaysRow.holds Try.pinned (OpenSpec.ofChange queuePlaysWrong)

/-- 'glacierlaw18.HistoryCan': WHATEVER THE INPUT: true; the input reads as it did. -/
def historyCanSpec : ChangeSpec := { name := "historyCan", fn := fun _ => fun
  | [d1, d2, d3, d4, d5] => { results := [.lit (.bool true)], args := [d1, d2, d3, d4, d5] }
  | _ => none }
def historyCanRow : OpenClaim := { program := "ytpmbfngmdhkpaaa", sum := "bb461af00ece618a3ed1d04bbeb3e8fb8960a999e50981fc1638f592c229d3ec", func := "glacier/glacierlaw18.HistoryCan", spec := "historyCan", inPlace := ["slices.overlaps[glacier/history.entry]"], unfollowed := true, recurses := true, plainKeys := false, apart := false }
def HistoryCanSaid : Prop := historyCanRow.holds Try.pinned (OpenSpec.ofChange historyCanSpec)

/-- ITS FALSE NEIGHBOUR: 'it returns false'. Refute it at one input. -/
def historyCanWrong : ChangeSpec := { name := "historyCan", fn := fun _ => fun
  | [d1, d2, d3, d4, d5] => { results := [.lit (.bool false)], args := [d1, d2, d3, d4, d5] }
  | _ => none }
def HistoryCanWrongFalsely : Prop := historyCanRow.holds Try.pinned (OpenSpec.ofChange historyCanWrong)

/-- 'glacierlaw18.HistoryStale': WHATEVER THE INPUT: true; the input reads as it did. -/
def historyStaleSpec : ChangeSpec := { name := "historyStale", fn := fun _ => fun
  | [d1, d2, d3] => { results := [.lit (.bool true)], args := [d1, d2, d3] }
  | _ => none }
def historyStaleRow : OpenClaim := { program := "ytpmbfngmdhkpaaa", sum := "bb461af00ece618a3ed1d04bbeb3e8fb8960a999e50981fc1638f592c229d3ec", func := "glacier/glacierlaw18.HistoryStale", spec := "historyStale", inPlace := ["slices.overlaps[glacier/history.entry]"], unfollowed := true, recurses := true, plainKeys := false, apart := false }
def HistoryStaleSaid : Prop := historyStaleRow.holds Try.pinned (OpenSpec.ofChange historyStaleSpec)

/-- ITS FALSE NEIGHBOUR: 'it returns false'. Refute it at one input. -/
def historyStaleWrong : ChangeSpec := { name := "historyStale", fn := fun _ => fun
  | [d1, d2, d3] => { results := [.lit (.bool false)], args := [d1, d2, d3] }
  | _ => none }
def HistoryStaleWrongFalsely : Prop := historyStaleRow.holds Try.pinned (OpenSpec.ofChange historyStaleWrong)

/-- 'glacierlaw18.HistoryTurned': WHATEVER THE INPUT: true; the input reads as it did. -/
def historyTurnedSpec : ChangeSpec := { name := "historyTurned", fn := fun _ => fun
  | [d1, d2] => { results := [.lit (.bool true)], args := [d1, d2] }
  | _ => none }
def historyTurnedRow : OpenClaim := { program := "ytpmbfngmdhkpaaa", sum := "bb461af00ece618a3ed1d04bbeb3e8fb8960a999e50981fc1638f592c229d3ec", func := "glacier/glacierlaw18.HistoryTurned", spec := "historyTurned", inPlace := ["slices.overlaps[glacier/history.entry]"], unfollowed := true, recurses := true, plainKeys := false, apart := false }
def HistoryTurnedSaid : Prop := historyTurnedRow.holds Try.pinned (OpenSpec.ofChange historyTurnedSpec)

/-- ITS FALSE NEIGHBOUR: 'it returns false'. Refute it at one input. -/
def historyTurnedWrong : ChangeSpec := { name := "historyTurned", fn := fun _ => fun
  | [d1, d2] => { results := [.lit (.bool false)], args := [d1, d2] }
  | _ => none }
def HistoryTurnedWrongFalsely : Prop := historyTurnedRow.holds Try.pinned (OpenSpec.ofChange historyTurnedWrong)

/-- 'glacierlaw18.HistoryReads': WHATEVER THE INPUT: true; the input reads as it did. -/
def historyReadsSpec : ChangeSpec := { name := "historyReads", fn := fun _ => fun
  | [d1, d2] => { results := [.lit (.bool true)], args := [d1, d2] }
  | _ => none }
def historyReadsRow : OpenClaim := { program := "ytpmbfngmdhkpaaa", sum := "bb461af00ece618a3ed1d04bbeb3e8fb8960a999e50981fc1638f592c229d3ec", func := "glacier/glacierlaw18.HistoryReads", spec := "historyReads", inPlace := ["slices.overlaps[glacier/history.entry]"], unfollowed := true, recurses := true, plainKeys := false, apart := false }
def HistoryReadsSaid : Prop := historyReadsRow.holds Try.pinned (OpenSpec.ofChange historyReadsSpec)

/-- ITS FALSE NEIGHBOUR: 'it returns false'. Refute it at one input. -/
def historyReadsWrong : ChangeSpec := { name := "historyReads", fn := fun _ => fun
  | [d1, d2] => { results := [.lit (.bool false)], args := [d1, d2] }
  | _ => none }
def HistoryReadsWrongFalsely : Prop := historyReadsRow.holds Try.pinned (OpenSpec.ofChange historyReadsWrong)

/-- 'glacierlaw18.HistoryWide': WHATEVER THE INPUT: true; the input reads as it did. -/
def historyWideSpec : ChangeSpec := { name := "historyWide", fn := fun _ => fun
  | [d1, d2, d3, d4] => { results := [.lit (.bool true)], args := [d1, d2, d3, d4] }
  | _ => none }
def historyWideRow : OpenClaim := { program := "ytpmbfngmdhkpaaa", sum := "bb461af00ece618a3ed1d04bbeb3e8fb8960a999e50981fc1638f592c229d3ec", func := "glacier/glacierlaw18.HistoryWide", spec := "historyWide", inPlace := ["slices.overlaps[glacier/history.entry]"], unfollowed := true, recurses := true, plainKeys := false, apart := false }
def HistoryWideSaid : Prop := historyWideRow.holds Try.pinned (OpenSpec.ofChange historyWideSpec)

/-- ITS FALSE NEIGHBOUR: 'it returns false'. Refute it at one input. -/
def historyWideWrong : ChangeSpec := { name := "historyWide", fn := fun _ => fun
  | [d1, d2, d3, d4] => { results := [.lit (.bool false)], args := [d1, d2, d3, d4] }
  | _ => none }
def HistoryWideWrongFalsely : Prop := historyWideRow.holds Try.pinned (OpenSpec.ofChange historyWideWrong)

/- THE SECOND FORM. 'bulk': how many values and letters a reading holds, each counted each time it is reached (what is shared counts as often as it is met; a slice's spare places count too). A statement '..UptoSaid' is the law's where the arguments, and the package variables that the reading takes, are together of bulk at most 1048576: NARROWER than '..Said'. Prove '..Said' where nothing that the law and all that it calls make is longer than what came in: it says more and counts as full. Else prove '..UptoSaid'. A law counts once. -/
mutual
def uptoBulk {H : Type} : DataW H → Nat
  | .lit (.string bytes) => bytes.length + 1
  | .lit _ => 1
  | .nil => 1
  | .ptr d => uptoBulk d + 1
  | .slice elems spare => uptoBulkAll elems + uptoBulkAll spare + 1
  | .agg parts => uptoBulkAll parts + 1
  | .iface _ d => uptoBulk d + 1
  | .map entries => uptoBulkEntries entries + 1
  | .held _ => 1
def uptoBulkAll {H : Type} : List (DataW H) → Nat
  | [] => 0
  | d :: r => uptoBulk d + uptoBulkAll r
def uptoBulkEntries {H : Type} : List (Lit × DataW H) → Nat
  | [] => 0
  | x :: r => uptoBulkEntry x + uptoBulkEntries r
def uptoBulkEntry {H : Type} : Lit × DataW H → Nat
  | (.string bytes, d) => bytes.length + uptoBulk d + 1
  | (_, d) => uptoBulk d + 1
 end
def uptoSmall : (H : Type) → List (DataW H) → Bool := fun _ ds => decide (uptoBulkAll ds ≤ 1048576)
def OpenSpec.upto (s : _root_.Go.ChangeSpec) : _root_.Go.OpenSpec := { _root_.Go.OpenSpec.ofChange s with cond := some uptoSmall }

/-- 'glacierlaw16.QueueFair', WHERE WHAT IT READS IS OF BULK AT MOST 1048576: true; the input reads as it did. -/
def queueFairUptoRow : OpenClaim := { program := "ytpmbfngmdhkpaaa", sum := "bb461af00ece618a3ed1d04bbeb3e8fb8960a999e50981fc1638f592c229d3ec", func := "glacier/glacierlaw16.QueueFair", spec := "queueFair", unfollowed := true, recurses := true, plainKeys := false, apart := false, narrowed := true }
def QueueFairUptoSaid : Prop := queueFairUptoRow.holds Try.pinned (OpenSpec.upto queueFairSpec)

/-- 'glacierlaw16.QueueSweep', WHERE WHAT IT READS IS OF BULK AT MOST 1048576: true; the input reads as it did. -/
def queueSweepUptoRow : OpenClaim := { program := "ytpmbfngmdhkpaaa", sum := "bb461af00ece618a3ed1d04bbeb3e8fb8960a999e50981fc1638f592c229d3ec", func := "glacier/glacierlaw16.QueueSweep", spec := "queueSweep", unfollowed := true, recurses := true, plainKeys := false, apart := false, narrowed := true }
def QueueSweepUptoSaid : Prop := queueSweepUptoRow.holds Try.pinned (OpenSpec.upto queueSweepSpec)

/-- 'glacierlaw16.QueueAll', WHERE WHAT IT READS IS OF BULK AT MOST 1048576: true; the input reads as it did. -/
def queueAllUptoRow : OpenClaim := { program := "ytpmbfngmdhkpaaa", sum := "bb461af00ece618a3ed1d04bbeb3e8fb8960a999e50981fc1638f592c229d3ec", func := "glacier/glacierlaw16.QueueAll", spec := "queueAll", unfollowed := true, recurses := true, plainKeys := false, apart := false, narrowed := true }
def QueueAllUptoSaid : Prop := queueAllUptoRow.holds Try.pinned (OpenSpec.upto queueAllSpec)

/-- 'glacierlaw16.QueuePlays', WHERE WHAT IT READS IS OF BULK AT MOST 1048576: true; the input reads as it did. -/
def queuePlaysUptoRow : OpenClaim := { program := "ytpmbfngmdhkpaaa", sum := "bb461af00ece618a3ed1d04bbeb3e8fb8960a999e50981fc1638f592c229d3ec", func := "glacier/glacierlaw16.QueuePlays", spec := "queuePlays", unfollowed := true, recurses := true, plainKeys := false, apart := false, narrowed := true }
def QueuePlaysUptoSaid : Prop := queuePlaysUptoRow.holds Try.pinned (OpenSpec.upto queuePlaysSpec)

/-- 'glacierlaw18.HistoryCan', WHERE WHAT IT READS IS OF BULK AT MOST 1048576: true; the input reads as it did. -/
def historyCanUptoRow : OpenClaim := { program := "ytpmbfngmdhkpaaa", sum := "bb461af00ece618a3ed1d04bbeb3e8fb8960a999e50981fc1638f592c229d3ec", func := "glacier/glacierlaw18.HistoryCan", spec := "historyCan", inPlace := ["slices.overlaps[glacier/history.entry]"], unfollowed := true, recurses := true, plainKeys := false, apart := false, narrowed := true }
def HistoryCanUptoSaid : Prop := historyCanUptoRow.holds Try.pinned (OpenSpec.upto historyCanSpec)

/-- 'glacierlaw18.HistoryStale', WHERE WHAT IT READS IS OF BULK AT MOST 1048576: true; the input reads as it did. -/
def historyStaleUptoRow : OpenClaim := { program := "ytpmbfngmdhkpaaa", sum := "bb461af00ece618a3ed1d04bbeb3e8fb8960a999e50981fc1638f592c229d3ec", func := "glacier/glacierlaw18.HistoryStale", spec := "historyStale", inPlace := ["slices.overlaps[glacier/history.entry]"], unfollowed := true, recurses := true, plainKeys := false, apart := false, narrowed := true }
def HistoryStaleUptoSaid : Prop := historyStaleUptoRow.holds Try.pinned (OpenSpec.upto historyStaleSpec)

/-- 'glacierlaw18.HistoryTurned', WHERE WHAT IT READS IS OF BULK AT MOST 1048576: true; the input reads as it did. -/
def historyTurnedUptoRow : OpenClaim := { program := "ytpmbfngmdhkpaaa", sum := "bb461af00ece618a3ed1d04bbeb3e8fb8960a999e50981fc1638f592c229d3ec", func := "glacier/glacierlaw18.HistoryTurned", spec := "historyTurned", inPlace := ["slices.overlaps[glacier/history.entry]"], unfollowed := true, recurses := true, plainKeys := false, apart := false, narrowed := true }
def HistoryTurnedUptoSaid : Prop := historyTurnedUptoRow.holds Try.pinned (OpenSpec.upto historyTurnedSpec)

/-- 'glacierlaw18.HistoryReads', WHERE WHAT IT READS IS OF BULK AT MOST 1048576: true; the input reads as it did. -/
def historyReadsUptoRow : OpenClaim := { program := "ytpmbfngmdhkpaaa", sum := "bb461af00ece618a3ed1d04bbeb3e8fb8960a999e50981fc1638f592c229d3ec", func := "glacier/glacierlaw18.HistoryReads", spec := "historyReads", inPlace := ["slices.overlaps[glacier/history.entry]"], unfollowed := true, recurses := true, plainKeys := false, apart := false, narrowed := true }
def HistoryReadsUptoSaid : Prop := historyReadsUptoRow.holds Try.pinned (OpenSpec.upto historyReadsSpec)

/-- 'glacierlaw18.HistoryWide', WHERE WHAT IT READS IS OF BULK AT MOST 1048576: true; the input reads as it did. -/
def historyWideUptoRow : OpenClaim := { program := "ytpmbfngmdhkpaaa", sum := "bb461af00ece618a3ed1d04bbeb3e8fb8960a999e50981fc1638f592c229d3ec", func := "glacier/glacierlaw18.HistoryWide", spec := "historyWide", inPlace := ["slices.overlaps[glacier/history.entry]"], unfollowed := true, recurses := true, plainKeys := false, apart := false, narrowed := true }
def HistoryWideUptoSaid : Prop := historyWideUptoRow.holds Try.pinned (OpenSpec.upto historyWideSpec)

end Rows
end Go.Proofs.Ytpmbfngmdhkpaaa
