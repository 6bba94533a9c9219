/-
  No cell of these rows narrows 'for every input' (looked for: loops, veiled, ifaces, maps, wideKeys, modest, calm, conditions, laid).
  DERIVED. THE GIVEN ROWS OF THIS SEAT. 10 by the template 'for every input the law returns true; each argument reads behind the call as it read before'; 0 by the template 'total and deterministic' (their statements: YthmjdekmacoaaaaTotals.lean).
  GIVEN WITH THE SEED: the statements are not yours to turn. If you find one false, say at which input.
  Laid BY PROGRAM, IN A SANDBOX (cutbox-rows.mjs): the forced cells as the released guide's own fill.sh prints them over the translation e23e6635deae24a6… (all of the seat's roots in one cut). By AI agents, Wed Nov 11 2026. No macro, syntax, notation, axiom, sorry.
-/
import Derived.Test.YthmjdekmacoaaaaChecked
import GoSem.Claim
import GoSem.ClaimJoined
import GoSem.ClaimMapViews
import Derived.JoinedTies
import Derived.KernelRfl
namespace Go.Proofs.Ythmjdekmacoaaaa
/- THE CELL 'sum', in the pinned program and in every row, IS THE sha256 OF THE DUMP (.gsa) THAT YthmjdekmacoaaaaProg.lean LOADS. Nothing in Lean hashes anything: it is a label: what it is worth is what the hold of that sum in a sandbox is worth. -/
noncomputable def Try.pinned : Pinned := { name := "ythmjdekmacoaaaa", sum := "e23e6635deae24a61a5f0f9373b13f65b15c7e0033103a5857c02a2964716c9f", checked := Try.checked }
namespace Rows
def none {H : Type} : Left H := { results := [], args := [] }

/-- 'glacierlaw04.PlatterTorn': WHATEVER THE INPUT: true; the input reads as it did. -/
def platterTornSpec : ChangeSpec := { name := "platterTorn", fn := fun _ => fun
  | [d1, d2, d3] => { results := [.lit (.bool true)], args := [d1, d2, d3] }
  | _ => none }
def platterTornRow : OpenClaim := { program := "ythmjdekmacoaaaa", sum := "e23e6635deae24a61a5f0f9373b13f65b15c7e0033103a5857c02a2964716c9f", func := "glacier/glacierlaw04.PlatterTorn", spec := "platterTorn", unfollowed := true, recurses := true, apart := false }
def PlatterTornSaid : Prop := platterTornRow.holds Try.pinned (OpenSpec.ofChange platterTornSpec)

/-- ITS FALSE NEIGHBOUR: 'it returns false'. Refute it at one input. -/
def platterTornWrong : ChangeSpec := { name := "platterTorn", fn := fun _ => fun
  | [d1, d2, d3] => { results := [.lit (.bool false)], args := [d1, d2, d3] }
  | _ => none }
def PlatterTornWrongFalsely : Prop := platterTornRow.holds Try.pinned (OpenSpec.ofChange platterTornWrong)

/-- 'glacierlaw04.PlatterWhole': WHATEVER THE INPUT: true; the input reads as it did. -/
def platterWholeSpec : ChangeSpec := { name := "platterWhole", fn := fun _ => fun
  | [d1, d2, d3] => { results := [.lit (.bool true)], args := [d1, d2, d3] }
  | _ => none }
def platterWholeRow : OpenClaim := { program := "ythmjdekmacoaaaa", sum := "e23e6635deae24a61a5f0f9373b13f65b15c7e0033103a5857c02a2964716c9f", func := "glacier/glacierlaw04.PlatterWhole", spec := "platterWhole", unfollowed := true, recurses := true, apart := false }
def PlatterWholeSaid : Prop := platterWholeRow.holds Try.pinned (OpenSpec.ofChange platterWholeSpec)

/-- ITS FALSE NEIGHBOUR: 'it returns false'. Refute it at one input. -/
def platterWholeWrong : ChangeSpec := { name := "platterWhole", fn := fun _ => fun
  | [d1, d2, d3] => { results := [.lit (.bool false)], args := [d1, d2, d3] }
  | _ => none }
def PlatterWholeWrongFalsely : Prop := platterWholeRow.holds Try.pinned (OpenSpec.ofChange platterWholeWrong)

/-- 'glacierlaw04.PlatterNames': WHATEVER THE INPUT: true; the input reads as it did. -/
def platterNamesSpec : ChangeSpec := { name := "platterNames", fn := fun _ => fun
  | [d1, d2, d3] => { results := [.lit (.bool true)], args := [d1, d2, d3] }
  | _ => none }
def platterNamesRow : OpenClaim := { program := "ythmjdekmacoaaaa", sum := "e23e6635deae24a61a5f0f9373b13f65b15c7e0033103a5857c02a2964716c9f", func := "glacier/glacierlaw04.PlatterNames", spec := "platterNames", unfollowed := true, recurses := true, apart := false }
def PlatterNamesSaid : Prop := platterNamesRow.holds Try.pinned (OpenSpec.ofChange platterNamesSpec)

/-- ITS FALSE NEIGHBOUR: 'it returns false'. Refute it at one input. -/
def platterNamesWrong : ChangeSpec := { name := "platterNames", fn := fun _ => fun
  | [d1, d2, d3] => { results := [.lit (.bool false)], args := [d1, d2, d3] }
  | _ => none }
def PlatterNamesWrongFalsely : Prop := platterNamesRow.holds Try.pinned (OpenSpec.ofChange platterNamesWrong)

/-- 'glacierlaw04.PlatterGone': WHATEVER THE INPUT: true; the input reads as it did. -/
def platterGoneSpec : ChangeSpec := { name := "platterGone", fn := fun _ => fun
  | [d1, d2, d3] => { results := [.lit (.bool true)], args := [d1, d2, d3] }
  | _ => none }
def platterGoneRow : OpenClaim := { program := "ythmjdekmacoaaaa", sum := "e23e6635deae24a61a5f0f9373b13f65b15c7e0033103a5857c02a2964716c9f", func := "glacier/glacierlaw04.PlatterGone", spec := "platterGone", unfollowed := true, recurses := true, apart := false }
def PlatterGoneSaid : Prop := platterGoneRow.holds Try.pinned (OpenSpec.ofChange platterGoneSpec)

/-- ITS FALSE NEIGHBOUR: 'it returns false'. Refute it at one input. -/
def platterGoneWrong : ChangeSpec := { name := "platterGone", fn := fun _ => fun
  | [d1, d2, d3] => { results := [.lit (.bool false)], args := [d1, d2, d3] }
  | _ => none }
def PlatterGoneWrongFalsely : Prop := platterGoneRow.holds Try.pinned (OpenSpec.ofChange platterGoneWrong)

/-- 'glacierlaw04.PlatterKeeps': WHATEVER THE INPUT: true; the input reads as it did. -/
def platterKeepsSpec : ChangeSpec := { name := "platterKeeps", fn := fun _ => fun
  | [d1, d2, d3] => { results := [.lit (.bool true)], args := [d1, d2, d3] }
  | _ => none }
def platterKeepsRow : OpenClaim := { program := "ythmjdekmacoaaaa", sum := "e23e6635deae24a61a5f0f9373b13f65b15c7e0033103a5857c02a2964716c9f", func := "glacier/glacierlaw04.PlatterKeeps", spec := "platterKeeps", unfollowed := true, recurses := true, apart := false }
def PlatterKeepsSaid : Prop := platterKeepsRow.holds Try.pinned (OpenSpec.ofChange platterKeepsSpec)

/-- ITS FALSE NEIGHBOUR: 'it returns false'. Refute it at one input. -/
def platterKeepsWrong : ChangeSpec := { name := "platterKeeps", fn := fun _ => fun
  | [d1, d2, d3] => { results := [.lit (.bool false)], args := [d1, d2, d3] }
  | _ => none }
def PlatterKeepsWrongFalsely : Prop := platterKeepsRow.holds Try.pinned (OpenSpec.ofChange platterKeepsWrong)

/-- 'glacierlaw09.TermOld': WHATEVER THE INPUT: true; the input reads as it did. -/
def termOldSpec : ChangeSpec := { name := "termOld", fn := fun _ => fun
  | [d1, d2] => { results := [.lit (.bool true)], args := [d1, d2] }
  | _ => none }
def termOldRow : OpenClaim := { program := "ythmjdekmacoaaaa", sum := "e23e6635deae24a61a5f0f9373b13f65b15c7e0033103a5857c02a2964716c9f", func := "glacier/glacierlaw09.TermOld", spec := "termOld", unfollowed := true, recurses := true, apart := false }
def TermOldSaid : Prop := termOldRow.holds Try.pinned (OpenSpec.ofChange termOldSpec)

/-- ITS FALSE NEIGHBOUR: 'it returns false'. Refute it at one input. -/
def termOldWrong : ChangeSpec := { name := "termOld", fn := fun _ => fun
  | [d1, d2] => { results := [.lit (.bool false)], args := [d1, d2] }
  | _ => none }
def TermOldWrongFalsely : Prop := termOldRow.holds Try.pinned (OpenSpec.ofChange termOldWrong)

/-- 'glacierlaw09.TermVotes': WHATEVER THE INPUT: true; the input reads as it did. -/
def termVotesSpec : ChangeSpec := { name := "termVotes", fn := fun _ => fun
  | [d1, d2, d3, d4, d5] => { results := [.lit (.bool true)], args := [d1, d2, d3, d4, d5] }
  | _ => none }
def termVotesRow : OpenClaim := { program := "ythmjdekmacoaaaa", sum := "e23e6635deae24a61a5f0f9373b13f65b15c7e0033103a5857c02a2964716c9f", func := "glacier/glacierlaw09.TermVotes", spec := "termVotes", unfollowed := true, recurses := true, apart := false }
def TermVotesSaid : Prop := termVotesRow.holds Try.pinned (OpenSpec.ofChange termVotesSpec)

/-- ITS FALSE NEIGHBOUR: 'it returns false'. Refute it at one input. -/
def termVotesWrong : ChangeSpec := { name := "termVotes", fn := fun _ => fun
  | [d1, d2, d3, d4, d5] => { results := [.lit (.bool false)], args := [d1, d2, d3, d4, d5] }
  | _ => none }
def TermVotesWrongFalsely : Prop := termVotesRow.holds Try.pinned (OpenSpec.ofChange termVotesWrong)

/-- 'glacierlaw09.TermParts': WHATEVER THE INPUT: true; the input reads as it did. -/
def termPartsSpec : ChangeSpec := { name := "termParts", fn := fun _ => fun
  | [d1, d2, d3, d4] => { results := [.lit (.bool true)], args := [d1, d2, d3, d4] }
  | _ => none }
def termPartsRow : OpenClaim := { program := "ythmjdekmacoaaaa", sum := "e23e6635deae24a61a5f0f9373b13f65b15c7e0033103a5857c02a2964716c9f", func := "glacier/glacierlaw09.TermParts", spec := "termParts", unfollowed := true, recurses := true, apart := false }
def TermPartsSaid : Prop := termPartsRow.holds Try.pinned (OpenSpec.ofChange termPartsSpec)

/-- ITS FALSE NEIGHBOUR: 'it returns false'. Refute it at one input. -/
def termPartsWrong : ChangeSpec := { name := "termParts", fn := fun _ => fun
  | [d1, d2, d3, d4] => { results := [.lit (.bool false)], args := [d1, d2, d3, d4] }
  | _ => none }
def TermPartsWrongFalsely : Prop := termPartsRow.holds Try.pinned (OpenSpec.ofChange termPartsWrong)

/-- 'glacierlaw09.TermBack': WHATEVER THE INPUT: true; the input reads as it did. -/
def termBackSpec : ChangeSpec := { name := "termBack", fn := fun _ => fun
  | [d1, d2, d3, d4, d5, d6] => { results := [.lit (.bool true)], args := [d1, d2, d3, d4, d5, d6] }
  | _ => none }
def termBackRow : OpenClaim := { program := "ythmjdekmacoaaaa", sum := "e23e6635deae24a61a5f0f9373b13f65b15c7e0033103a5857c02a2964716c9f", func := "glacier/glacierlaw09.TermBack", spec := "termBack", unfollowed := true, recurses := true, apart := false }
def TermBackSaid : Prop := termBackRow.holds Try.pinned (OpenSpec.ofChange termBackSpec)

/-- ITS FALSE NEIGHBOUR: 'it returns false'. Refute it at one input. -/
def termBackWrong : ChangeSpec := { name := "termBack", fn := fun _ => fun
  | [d1, d2, d3, d4, d5, d6] => { results := [.lit (.bool false)], args := [d1, d2, d3, d4, d5, d6] }
  | _ => none }
def TermBackWrongFalsely : Prop := termBackRow.holds Try.pinned (OpenSpec.ofChange termBackWrong)

/-- 'glacierlaw09.TermPlays': WHATEVER THE INPUT: true; the input reads as it did. -/
def termPlaysSpec : ChangeSpec := { name := "termPlays", fn := fun _ => fun
  | [d] => { results := [.lit (.bool true)], args := [d] }
  | _ => none }
def termPlaysRow : OpenClaim := { program := "ythmjdekmacoaaaa", sum := "e23e6635deae24a61a5f0f9373b13f65b15c7e0033103a5857c02a2964716c9f", func := "glacier/glacierlaw09.TermPlays", spec := "termPlays", unfollowed := true, recurses := true, apart := false }
def TermPlaysSaid : Prop := termPlaysRow.holds Try.pinned (OpenSpec.ofChange termPlaysSpec)

/-- ITS FALSE NEIGHBOUR: 'it returns false'. Refute it at one input. -/
def termPlaysWrong : ChangeSpec := { name := "termPlays", fn := fun _ => fun
  | [d] => { results := [.lit (.bool false)], args := [d] }
  | _ => none }
def TermPlaysWrongFalsely : Prop := termPlaysRow.holds Try.pinned (OpenSpec.ofChange termPlaysWrong)

/- THE SECOND FORM. 'bulk': how many values and letters a reading holds, each counted each time it is reached (what is shared counts as often as it is met; a slice's spare places count too). A statement '..UptoSaid' is the law's where the arguments, and the package variables that the reading takes, are together of bulk at most 1048576: NARROWER than '..Said'. Prove '..Said' where nothing that the law and all that it calls make is longer than what came in: it says more and counts as full. Else prove '..UptoSaid'. A law counts once. -/
mutual
def uptoBulk {H : Type} : DataW H → Nat
  | .lit (.string bytes) => bytes.length + 1
  | .lit _ => 1
  | .nil => 1
  | .ptr d => uptoBulk d + 1
  | .slice elems spare => uptoBulkAll elems + uptoBulkAll spare + 1
  | .agg parts => uptoBulkAll parts + 1
  | .iface _ d => uptoBulk d + 1
  | .map entries => uptoBulkEntries entries + 1
  | .held _ => 1
def uptoBulkAll {H : Type} : List (DataW H) → Nat
  | [] => 0
  | d :: r => uptoBulk d + uptoBulkAll r
def uptoBulkEntries {H : Type} : List (Lit × DataW H) → Nat
  | [] => 0
  | x :: r => uptoBulkEntry x + uptoBulkEntries r
def uptoBulkEntry {H : Type} : Lit × DataW H → Nat
  | (.string bytes, d) => bytes.length + uptoBulk d + 1
  | (_, d) => uptoBulk d + 1
 end
def uptoSmall : (H : Type) → List (DataW H) → Bool := fun _ ds => decide (uptoBulkAll ds ≤ 1048576)
def OpenSpec.upto (s : _root_.Go.ChangeSpec) : _root_.Go.OpenSpec := { _root_.Go.OpenSpec.ofChange s with cond := some uptoSmall }

/-- 'glacierlaw04.PlatterTorn', WHERE WHAT IT READS IS OF BULK AT MOST 1048576: true; the input reads as it did. -/
def platterTornUptoRow : OpenClaim := { program := "ythmjdekmacoaaaa", sum := "e23e6635deae24a61a5f0f9373b13f65b15c7e0033103a5857c02a2964716c9f", func := "glacier/glacierlaw04.PlatterTorn", spec := "platterTorn", unfollowed := true, recurses := true, apart := false, narrowed := true }
def PlatterTornUptoSaid : Prop := platterTornUptoRow.holds Try.pinned (OpenSpec.upto platterTornSpec)

/-- 'glacierlaw04.PlatterWhole', WHERE WHAT IT READS IS OF BULK AT MOST 1048576: true; the input reads as it did. -/
def platterWholeUptoRow : OpenClaim := { program := "ythmjdekmacoaaaa", sum := "e23e6635deae24a61a5f0f9373b13f65b15c7e0033103a5857c02a2964716c9f", func := "glacier/glacierlaw04.PlatterWhole", spec := "platterWhole", unfollowed := true, recurses := true, apart := false, narrowed := true }
def PlatterWholeUptoSaid : Prop := platterWholeUptoRow.holds Try.pinned (OpenSpec.upto platterWholeSpec)

/-- 'glacierlaw04.PlatterNames', WHERE WHAT IT READS IS OF BULK AT MOST 1048576: true; the input reads as it did. -/
def platterNamesUptoRow : OpenClaim := { program := "ythmjdekmacoaaaa", sum := "e23e6635deae24a61a5f0f9373b13f65b15c7e0033103a5857c02a2964716c9f", func := "glacier/glacierlaw04.PlatterNames", spec := "platterNames", unfollowed := true, recurses := true, apart := false, narrowed := true }
def PlatterNamesUptoSaid : Prop := platterNamesUptoRow.holds Try.pinned (OpenSpec.upto platterNamesSpec)

/-- 'glacierlaw04.PlatterGone', WHERE WHAT IT READS IS OF BULK AT MOST 1048576: true; the input reads as it did. -/
def platterGoneUptoRow : OpenClaim := { program := "ythmjdekmacoaaaa", sum := "e23e6635deae24a61a5f0f9373b13f65b15c7e0033103a5857c02a2964716c9f", func := "glacier/glacierlaw04.PlatterGone", spec := "platterGone", unfollowed := true, recurses := true, apart := false, narrowed := true }
def PlatterGoneUptoSaid : Prop := platterGoneUptoRow.holds Try.pinned (OpenSpec.upto platterGoneSpec)

/-- 'glacierlaw04.PlatterKeeps', WHERE WHAT IT READS IS OF BULK AT MOST 1048576: true; the input reads as it did. -/
def platterKeepsUptoRow : OpenClaim := { program := "ythmjdekmacoaaaa", sum := "e23e6635deae24a61a5f0f9373b13f65b15c7e0033103a5857c02a2964716c9f", func := "glacier/glacierlaw04.PlatterKeeps", spec := "platterKeeps", unfollowed := true, recurses := true, apart := false, narrowed := true }
def PlatterKeepsUptoSaid : Prop := platterKeepsUptoRow.holds Try.pinned (OpenSpec.upto platterKeepsSpec)

/-- 'glacierlaw09.TermOld', WHERE WHAT IT READS IS OF BULK AT MOST 1048576: true; the input reads as it did. -/
def termOldUptoRow : OpenClaim := { program := "ythmjdekmacoaaaa", sum := "e23e6635deae24a61a5f0f9373b13f65b15c7e0033103a5857c02a2964716c9f", func := "glacier/glacierlaw09.TermOld", spec := "termOld", unfollowed := true, recurses := true, apart := false, narrowed := true }
def TermOldUptoSaid : Prop := termOldUptoRow.holds Try.pinned (OpenSpec.upto termOldSpec)

/-- 'glacierlaw09.TermVotes', WHERE WHAT IT READS IS OF BULK AT MOST 1048576: true; the input reads as it did. -/
def termVotesUptoRow : OpenClaim := { program := "ythmjdekmacoaaaa", sum := "e23e6635deae24a61a5f0f9373b13f65b15c7e0033103a5857c02a2964716c9f", func := "glacier/glacierlaw09.TermVotes", spec := "termVotes", unfollowed := true, recurses := true, apart := false, narrowed := true }
def TermVotesUptoSaid : Prop := termVotesUptoRow.holds Try.pinned (OpenSpec.upto termVotesSpec)

/-- 'glacierlaw09.TermParts', WHERE WHAT IT READS IS OF BULK AT MOST 1048576: true; the input reads as it did. -/
def termPartsUptoRow : OpenClaim := { program := "ythmjdekmacoaaaa", sum := "e23e6635deae24a61a5f0f9373b13f65b15c7e0033103a5857c02a2964716c9f", func := "glacier/glacierlaw09.TermParts", spec := "termParts", unfollowed := true, recurses := true, apart := false, narrowed := true }
def TermPartsUptoSaid : Prop := termPartsUptoRow.holds Try.pinned (OpenSpec.upto termPartsSpec)

/-- 'glacierlaw09.TermBack', WHERE WHAT IT READS IS OF BULK AT MOST 1048576: true; the input reads as it did. -/
def termBackUptoRow : OpenClaim := { program := "ythmjdekmacoaaaa", sum := "e23e6635deae24a61a5f0f9373b13f65b15c7e0033103a5857c02a2964716c9f", func := "glacier/glacierlaw09.TermBack", spec := "termBack", unfollowed := true, recurses := true, apart := false, narrowed := true }
def TermBackUptoSaid : Prop := termBackUptoRow.holds Try.pinned (OpenSpec.upto termBackSpec)

/-- 'glacierlaw09.TermPlays', WHERE WHAT IT READS IS OF BULK AT MOST 1048576: true; the input reads as it did. -/
def termPlaysUptoRow : OpenClaim := { program := "ythmjdekmacoaaaa", sum := "e23e6635deae24a61a5f0f9373b13f65b15c7e0033103a5857c02a2964716c9f", func := "glacier/glacierlaw09.TermPlays", spec := "termPlays", unfollowed := true, recurses := true, apart := false, narrowed := true }
def TermPlaysUptoSaid : Prop := termPlaysUptoRow.holds Try.pinned (OpenSpec.upto termPlaysSpec)

end Rows
end Go.Proofs.Ythmjdekmacoaaaa
