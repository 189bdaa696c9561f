/-
  No cell of these rows narrows 'for every input' (looked for: loops, veiled, ifaces, maps, wideKeys, modest, calm, conditions, laid).
  DERIVED. THE GIVEN ROWS OF THIS SEAT. 11 by the template 'for every input the law returns true; each argument reads behind the call as it read before'; 0 by the template 'total and deterministic' (their statements: YtimdaioojnohmaaTotals.lean).
  GIVEN WITH THE SEED: the statements are not yours to turn. If you find one false, say at which input.
  Laid BY PROGRAM, IN A SANDBOX (cutbox-rows.mjs): the forced cells as the released guide's own fill.sh prints them over the translation 61e3988be12c9bb9… (all of the seat's roots in one cut). By AI agents, Wed Nov 11 2026. No macro, syntax, notation, axiom, sorry.
-/
import Derived.Test.YtimdaioojnohmaaChecked
import GoSem.Claim
import GoSem.ClaimJoined
import GoSem.ClaimMapViews
import Derived.JoinedTies
import Derived.KernelRfl
namespace Go.Proofs.Ytimdaioojnohmaa
/- THE CELL 'sum', in the pinned program and in every row, IS THE sha256 OF THE DUMP (.gsa) THAT YtimdaioojnohmaaProg.lean LOADS. Nothing in Lean hashes anything: it is a label: what it is worth is what the hold of that sum in a sandbox is worth. -/
noncomputable def Try.pinned : Pinned := { name := "ytimdaioojnohmaa", sum := "61e3988be12c9bb9192f132dbb85378dc0b2b2640daf7f985d56f6bbaa70e09b", checked := Try.checked }
namespace Rows
def none {H : Type} : Left H := { results := [], args := [] }

/-- 'keelsonlaw37.ChartSplits': WHATEVER THE INPUT: true; the input reads as it did. -/
def chartSplitsSpec : ChangeSpec := { name := "chartSplits", fn := fun _ => fun
  | [d1, d2, d3] => { results := [.lit (.bool true)], args := [d1, d2, d3] }
  | _ => none }
def chartSplitsRow : OpenClaim := { program := "ytimdaioojnohmaa", sum := "61e3988be12c9bb9192f132dbb85378dc0b2b2640daf7f985d56f6bbaa70e09b", func := "keelson/keelsonlaw37.ChartSplits", spec := "chartSplits", unfollowed := true, recurses := true, apart := false }
def ChartSplitsSaid : Prop := chartSplitsRow.holds Try.pinned (OpenSpec.ofChange chartSplitsSpec)

/-- ITS FALSE NEIGHBOUR: 'it returns false'. Refute it at one input. -/
def chartSplitsWrong : ChangeSpec := { name := "chartSplits", fn := fun _ => fun
  | [d1, d2, d3] => { results := [.lit (.bool false)], args := [d1, d2, d3] }
  | _ => none }
def ChartSplitsWrongFalsely : Prop := chartSplitsRow.holds Try.pinned (OpenSpec.ofChange chartSplitsWrong)

/-- 'keelsonlaw37.ChartParts': WHATEVER THE INPUT: true; the input reads as it did. -/
def chartPartsSpec : ChangeSpec := { name := "chartParts", fn := fun _ => fun
  | [d1, d2, d3] => { results := [.lit (.bool true)], args := [d1, d2, d3] }
  | _ => none }
def chartPartsRow : OpenClaim := { program := "ytimdaioojnohmaa", sum := "61e3988be12c9bb9192f132dbb85378dc0b2b2640daf7f985d56f6bbaa70e09b", func := "keelson/keelsonlaw37.ChartParts", spec := "chartParts", unfollowed := true, recurses := true, apart := false }
def ChartPartsSaid : Prop := chartPartsRow.holds Try.pinned (OpenSpec.ofChange chartPartsSpec)

/-- ITS FALSE NEIGHBOUR: 'it returns false'. Refute it at one input. -/
def chartPartsWrong : ChangeSpec := { name := "chartParts", fn := fun _ => fun
  | [d1, d2, d3] => { results := [.lit (.bool false)], args := [d1, d2, d3] }
  | _ => none }
def ChartPartsWrongFalsely : Prop := chartPartsRow.holds Try.pinned (OpenSpec.ofChange chartPartsWrong)

/-- 'keelsonlaw39.DiskPlays': WHATEVER THE INPUT: true; the input reads as it did. -/
def diskPlaysSpec : ChangeSpec := { name := "diskPlays", fn := fun _ => fun
  | [d1, d2, d3, d4, d5, d6] => { results := [.lit (.bool true)], args := [d1, d2, d3, d4, d5, d6] }
  | _ => none }
def diskPlaysRow : OpenClaim := { program := "ytimdaioojnohmaa", sum := "61e3988be12c9bb9192f132dbb85378dc0b2b2640daf7f985d56f6bbaa70e09b", func := "keelson/keelsonlaw39.DiskPlays", spec := "diskPlays", unfollowed := true, recurses := true, apart := false }
def DiskPlaysSaid : Prop := diskPlaysRow.holds Try.pinned (OpenSpec.ofChange diskPlaysSpec)

/-- ITS FALSE NEIGHBOUR: 'it returns false'. Refute it at one input. -/
def diskPlaysWrong : ChangeSpec := { name := "diskPlays", fn := fun _ => fun
  | [d1, d2, d3, d4, d5, d6] => { results := [.lit (.bool false)], args := [d1, d2, d3, d4, d5, d6] }
  | _ => none }
def DiskPlaysWrongFalsely : Prop := diskPlaysRow.holds Try.pinned (OpenSpec.ofChange diskPlaysWrong)

/-- 'keelsonlaw39.DiskNobody': WHATEVER THE INPUT: true; the input reads as it did. -/
def diskNobodySpec : ChangeSpec := { name := "diskNobody", fn := fun _ => fun
  | [d] => { results := [.lit (.bool true)], args := [d] }
  | _ => none }
def diskNobodyRow : OpenClaim := { program := "ytimdaioojnohmaa", sum := "61e3988be12c9bb9192f132dbb85378dc0b2b2640daf7f985d56f6bbaa70e09b", func := "keelson/keelsonlaw39.DiskNobody", spec := "diskNobody", unfollowed := true, recurses := true, apart := false }
def DiskNobodySaid : Prop := diskNobodyRow.holds Try.pinned (OpenSpec.ofChange diskNobodySpec)

/-- ITS FALSE NEIGHBOUR: 'it returns false'. Refute it at one input. -/
def diskNobodyWrong : ChangeSpec := { name := "diskNobody", fn := fun _ => fun
  | [d] => { results := [.lit (.bool false)], args := [d] }
  | _ => none }
def DiskNobodyWrongFalsely : Prop := diskNobodyRow.holds Try.pinned (OpenSpec.ofChange diskNobodyWrong)

/-- 'keelsonlaw37.ChartPlaces': WHATEVER THE INPUT: true; the input reads as it did. -/
def chartPlacesSpec : ChangeSpec := { name := "chartPlaces", fn := fun _ => fun
  | [d1, d2, d3, d4, d5] => { results := [.lit (.bool true)], args := [d1, d2, d3, d4, d5] }
  | _ => none }
def chartPlacesRow : OpenClaim := { program := "ytimdaioojnohmaa", sum := "61e3988be12c9bb9192f132dbb85378dc0b2b2640daf7f985d56f6bbaa70e09b", func := "keelson/keelsonlaw37.ChartPlaces", spec := "chartPlaces", unfollowed := true, recurses := true, apart := false }
def ChartPlacesSaid : Prop := chartPlacesRow.holds Try.pinned (OpenSpec.ofChange chartPlacesSpec)

/-- ITS FALSE NEIGHBOUR: 'it returns false'. Refute it at one input. -/
def chartPlacesWrong : ChangeSpec := { name := "chartPlaces", fn := fun _ => fun
  | [d1, d2, d3, d4, d5] => { results := [.lit (.bool false)], args := [d1, d2, d3, d4, d5] }
  | _ => none }
def ChartPlacesWrongFalsely : Prop := chartPlacesRow.holds Try.pinned (OpenSpec.ofChange chartPlacesWrong)

/-- 'keelsonlaw38.QueuePatience': WHATEVER THE INPUT: true; the input reads as it did. -/
def queuePatienceSpec : ChangeSpec := { name := "queuePatience", fn := fun _ => fun
  | [d1, d2, d3] => { results := [.lit (.bool true)], args := [d1, d2, d3] }
  | _ => none }
def queuePatienceRow : OpenClaim := { program := "ytimdaioojnohmaa", sum := "61e3988be12c9bb9192f132dbb85378dc0b2b2640daf7f985d56f6bbaa70e09b", func := "keelson/keelsonlaw38.QueuePatience", spec := "queuePatience", unfollowed := true, recurses := true, apart := false }
def QueuePatienceSaid : Prop := queuePatienceRow.holds Try.pinned (OpenSpec.ofChange queuePatienceSpec)

/-- ITS FALSE NEIGHBOUR: 'it returns false'. Refute it at one input. -/
def queuePatienceWrong : ChangeSpec := { name := "queuePatience", fn := fun _ => fun
  | [d1, d2, d3] => { results := [.lit (.bool false)], args := [d1, d2, d3] }
  | _ => none }
def QueuePatienceWrongFalsely : Prop := queuePatienceRow.holds Try.pinned (OpenSpec.ofChange queuePatienceWrong)

/-- 'keelsonlaw38.QueueParts': WHATEVER THE INPUT: true; the input reads as it did. -/
def queuePartsSpec : ChangeSpec := { name := "queueParts", fn := fun _ => fun
  | [d1, d2] => { results := [.lit (.bool true)], args := [d1, d2] }
  | _ => none }
def queuePartsRow : OpenClaim := { program := "ytimdaioojnohmaa", sum := "61e3988be12c9bb9192f132dbb85378dc0b2b2640daf7f985d56f6bbaa70e09b", func := "keelson/keelsonlaw38.QueueParts", spec := "queueParts", unfollowed := true, recurses := true, apart := false }
def QueuePartsSaid : Prop := queuePartsRow.holds Try.pinned (OpenSpec.ofChange queuePartsSpec)

/-- ITS FALSE NEIGHBOUR: 'it returns false'. Refute it at one input. -/
def queuePartsWrong : ChangeSpec := { name := "queueParts", fn := fun _ => fun
  | [d1, d2] => { results := [.lit (.bool false)], args := [d1, d2] }
  | _ => none }
def QueuePartsWrongFalsely : Prop := queuePartsRow.holds Try.pinned (OpenSpec.ofChange queuePartsWrong)

/-- 'keelsonlaw38.QueuePlays': WHATEVER THE INPUT: true; the input reads as it did. -/
def queuePlaysSpec : ChangeSpec := { name := "queuePlays", fn := fun _ => fun
  | [d1, d2, d3, d4] => { results := [.lit (.bool true)], args := [d1, d2, d3, d4] }
  | _ => none }
def queuePlaysRow : OpenClaim := { program := "ytimdaioojnohmaa", sum := "61e3988be12c9bb9192f132dbb85378dc0b2b2640daf7f985d56f6bbaa70e09b", func := "keelson/keelsonlaw38.QueuePlays", spec := "queuePlays", unfollowed := true, recurses := true, apart := false }
def QueuePlaysSaid : Prop := queuePlaysRow.holds Try.pinned (OpenSpec.ofChange queuePlaysSpec)

/-- ITS FALSE NEIGHBOUR: 'it returns false'. Refute it at one input. -/
def queuePlaysWrong : ChangeSpec := { name := "queuePlays", fn := fun _ => fun
  | [d1, d2, d3, d4] => { results := [.lit (.bool false)], args := [d1, d2, d3, d4] }
  | _ => none }
def QueuePlaysWrongFalsely : Prop := queuePlaysRow.holds Try.pinned (OpenSpec.ofChange queuePlaysWrong)

/-- 'keelsonlaw38.QueueNobody': WHATEVER THE INPUT: true; the input reads as it did. -/
def queueNobodySpec : ChangeSpec := { name := "queueNobody", fn := fun _ => fun
  | [d] => { results := [.lit (.bool true)], args := [d] }
  | _ => none }
def queueNobodyRow : OpenClaim := { program := "ytimdaioojnohmaa", sum := "61e3988be12c9bb9192f132dbb85378dc0b2b2640daf7f985d56f6bbaa70e09b", func := "keelson/keelsonlaw38.QueueNobody", spec := "queueNobody", unfollowed := true, recurses := true, apart := false }
def QueueNobodySaid : Prop := queueNobodyRow.holds Try.pinned (OpenSpec.ofChange queueNobodySpec)

/-- ITS FALSE NEIGHBOUR: 'it returns false'. Refute it at one input. -/
def queueNobodyWrong : ChangeSpec := { name := "queueNobody", fn := fun _ => fun
  | [d] => { results := [.lit (.bool false)], args := [d] }
  | _ => none }
def QueueNobodyWrongFalsely : Prop := queueNobodyRow.holds Try.pinned (OpenSpec.ofChange queueNobodyWrong)

/-- 'keelsonlaw39.DiskRefuses': WHATEVER THE INPUT: true; the input reads as it did. -/
def diskRefusesSpec : ChangeSpec := { name := "diskRefuses", fn := fun _ => fun
  | [d1, d2, d3, d4] => { results := [.lit (.bool true)], args := [d1, d2, d3, d4] }
  | _ => none }
def diskRefusesRow : OpenClaim := { program := "ytimdaioojnohmaa", sum := "61e3988be12c9bb9192f132dbb85378dc0b2b2640daf7f985d56f6bbaa70e09b", func := "keelson/keelsonlaw39.DiskRefuses", spec := "diskRefuses", unfollowed := true, recurses := true, apart := false }
def DiskRefusesSaid : Prop := diskRefusesRow.holds Try.pinned (OpenSpec.ofChange diskRefusesSpec)

/-- ITS FALSE NEIGHBOUR: 'it returns false'. Refute it at one input. -/
def diskRefusesWrong : ChangeSpec := { name := "diskRefuses", fn := fun _ => fun
  | [d1, d2, d3, d4] => { results := [.lit (.bool false)], args := [d1, d2, d3, d4] }
  | _ => none }
def DiskRefusesWrongFalsely : Prop := diskRefusesRow.holds Try.pinned (OpenSpec.ofChange diskRefusesWrong)

/-- 'keelsonlaw39.DiskFlush': WHATEVER THE INPUT: true; the input reads as it did. -/
def diskFlushSpec : ChangeSpec := { name := "diskFlush", fn := fun _ => fun
  | [d1, d2, d3, d4, d5, d6] => { results := [.lit (.bool true)], args := [d1, d2, d3, d4, d5, d6] }
  | _ => none }
def diskFlushRow : OpenClaim := { program := "ytimdaioojnohmaa", sum := "61e3988be12c9bb9192f132dbb85378dc0b2b2640daf7f985d56f6bbaa70e09b", func := "keelson/keelsonlaw39.DiskFlush", spec := "diskFlush", unfollowed := true, recurses := true, apart := false }
def DiskFlushSaid : Prop := diskFlushRow.holds Try.pinned (OpenSpec.ofChange diskFlushSpec)

/-- ITS FALSE NEIGHBOUR: 'it returns false'. Refute it at one input. -/
def diskFlushWrong : ChangeSpec := { name := "diskFlush", fn := fun _ => fun
  | [d1, d2, d3, d4, d5, d6] => { results := [.lit (.bool false)], args := [d1, d2, d3, d4, d5, d6] }
  | _ => none }
def DiskFlushWrongFalsely : Prop := diskFlushRow.holds Try.pinned (OpenSpec.ofChange diskFlushWrong)

/- THE SECOND FORM. 'bulk': how many values and letters a reading holds, each counted each time it is reached (what is shared counts as often as it is met; a slice's spare places count too). A statement '..UptoSaid' is the law's where the arguments, and the package variables that the reading takes, are together of bulk at most 1048576: NARROWER than '..Said'. Prove '..Said' where nothing that the law and all that it calls make is longer than what came in: it says more and counts as full. Else prove '..UptoSaid'. A law counts once. -/
mutual
def uptoBulk {H : Type} : DataW H → Nat
  | .lit (.string bytes) => bytes.length + 1
  | .lit _ => 1
  | .nil => 1
  | .ptr d => uptoBulk d + 1
  | .slice elems spare => uptoBulkAll elems + uptoBulkAll spare + 1
  | .agg parts => uptoBulkAll parts + 1
  | .iface _ d => uptoBulk d + 1
  | .map entries => uptoBulkEntries entries + 1
  | .held _ => 1
def uptoBulkAll {H : Type} : List (DataW H) → Nat
  | [] => 0
  | d :: r => uptoBulk d + uptoBulkAll r
def uptoBulkEntries {H : Type} : List (Lit × DataW H) → Nat
  | [] => 0
  | x :: r => uptoBulkEntry x + uptoBulkEntries r
def uptoBulkEntry {H : Type} : Lit × DataW H → Nat
  | (.string bytes, d) => bytes.length + uptoBulk d + 1
  | (_, d) => uptoBulk d + 1
 end
def uptoSmall : (H : Type) → List (DataW H) → Bool := fun _ ds => decide (uptoBulkAll ds ≤ 1048576)
def OpenSpec.upto (s : _root_.Go.ChangeSpec) : _root_.Go.OpenSpec := { _root_.Go.OpenSpec.ofChange s with cond := some uptoSmall }

/-- 'keelsonlaw37.ChartSplits', WHERE WHAT IT READS IS OF BULK AT MOST 1048576: true; the input reads as it did. -/
def chartSplitsUptoRow : OpenClaim := { program := "ytimdaioojnohmaa", sum := "61e3988be12c9bb9192f132dbb85378dc0b2b2640daf7f985d56f6bbaa70e09b", func := "keelson/keelsonlaw37.ChartSplits", spec := "chartSplits", unfollowed := true, recurses := true, apart := false, narrowed := true }
def ChartSplitsUptoSaid : Prop := chartSplitsUptoRow.holds Try.pinned (OpenSpec.upto chartSplitsSpec)

/-- 'keelsonlaw37.ChartParts', WHERE WHAT IT READS IS OF BULK AT MOST 1048576: true; the input reads as it did. -/
def chartPartsUptoRow : OpenClaim := { program := "ytimdaioojnohmaa", sum := "61e3988be12c9bb9192f132dbb85378dc0b2b2640daf7f985d56f6bbaa70e09b", func := "keelson/keelsonlaw37.ChartParts", spec := "chartParts", unfollowed := true, recurses := true, apart := false, narrowed := true }
def ChartPartsUptoSaid : Prop := chartPartsUptoRow.holds Try.pinned (OpenSpec.upto chartPartsSpec)

/-- 'keelsonlaw39.DiskPlays', WHERE WHAT IT READS IS OF BULK AT MOST 1048576: true; the input reads as it did. -/
def diskPlaysUptoRow : OpenClaim := { program := "ytimdaioojnohmaa", sum := "61e3988be12c9bb9192f132dbb85378dc0b2b2640daf7f985d56f6bbaa70e09b", func := "keelson/keelsonlaw39.DiskPlays", spec := "diskPlays", unfollowed := true, recurses := true, apart := false, narrowed := true }
def DiskPlaysUptoSaid : Prop := diskPlaysUptoRow.holds Try.pinned (OpenSpec.upto diskPlaysSpec)

/-- 'keelsonlaw39.DiskNobody', WHERE WHAT IT READS IS OF BULK AT MOST 1048576: true; the input reads as it did. -/
def diskNobodyUptoRow : OpenClaim := { program := "ytimdaioojnohmaa", sum := "61e3988be12c9bb9192f132dbb85378dc0b2b2640daf7f985d56f6bbaa70e09b", func := "keelson/keelsonlaw39.DiskNobody", spec := "diskNobody", unfollowed := true, recurses := true, apart := false, narrowed := true }
def DiskNobodyUptoSaid : Prop := diskNobodyUptoRow.holds Try.pinned (OpenSpec.upto diskNobodySpec)

/-- 'keelsonlaw37.ChartPlaces', WHERE WHAT IT READS IS OF BULK AT MOST 1048576: true; the input reads as it did. -/
def chartPlacesUptoRow : OpenClaim := { program := "ytimdaioojnohmaa", sum := "61e3988be12c9bb9192f132dbb85378dc0b2b2640daf7f985d56f6bbaa70e09b", func := "keelson/keelsonlaw37.ChartPlaces", spec := "chartPlaces", unfollowed := true, recurses := true, apart := false, narrowed := true }
def ChartPlacesUptoSaid : Prop := chartPlacesUptoRow.holds Try.pinned (OpenSpec.upto chartPlacesSpec)

/-- 'keelsonlaw38.QueuePatience', WHERE WHAT IT READS IS OF BULK AT MOST 1048576: true; the input reads as it did. -/
def queuePatienceUptoRow : OpenClaim := { program := "ytimdaioojnohmaa", sum := "61e3988be12c9bb9192f132dbb85378dc0b2b2640daf7f985d56f6bbaa70e09b", func := "keelson/keelsonlaw38.QueuePatience", spec := "queuePatience", unfollowed := true, recurses := true, apart := false, narrowed := true }
def QueuePatienceUptoSaid : Prop := queuePatienceUptoRow.holds Try.pinned (OpenSpec.upto queuePatienceSpec)

/-- 'keelsonlaw38.QueueParts', WHERE WHAT IT READS IS OF BULK AT MOST 1048576: true; the input reads as it did. -/
def queuePartsUptoRow : OpenClaim := { program := "ytimdaioojnohmaa", sum := "61e3988be12c9bb9192f132dbb85378dc0b2b2640daf7f985d56f6bbaa70e09b", func := "keelson/keelsonlaw38.QueueParts", spec := "queueParts", unfollowed := true, recurses := true, apart := false, narrowed := true }
def QueuePartsUptoSaid : Prop := queuePartsUptoRow.holds Try.pinned (OpenSpec.upto queuePartsSpec)

/-- 'keelsonlaw38.QueuePlays', WHERE WHAT IT READS IS OF BULK AT MOST 1048576: true; the input reads as it did. -/
def queuePlaysUptoRow : OpenClaim := { program := "ytimdaioojnohmaa", sum := "61e3988be12c9bb9192f132dbb85378dc0b2b2640daf7f985d56f6bbaa70e09b", func := "keelson/keelsonlaw38.QueuePlays", spec := "queuePlays", unfollowed := true, recurses := true, apart := false, narrowed := true }
def QueuePlaysUptoSaid : Prop := queuePlaysUptoRow.holds Try.pinned (OpenSpec.upto queuePlaysSpec)

/-- 'keelsonlaw38.QueueNobody', WHERE WHAT IT READS IS OF BULK AT MOST 1048576: true; the input reads as it did. -/
def queueNobodyUptoRow : OpenClaim := { program := "ytimdaioojnohmaa", sum := "61e3988be12c9bb9192f132dbb85378dc0b2b2640daf7f985d56f6bbaa70e09b", func := "keelson/keelsonlaw38.QueueNobody", spec := "queueNobody", unfollowed := true, recurses := true, apart := false, narrowed := true }
def QueueNobodyUptoSaid : Prop := queueNobodyUptoRow.holds Try.pinned (OpenSpec.upto queueNobodySpec)

/-- 'keelsonlaw39.DiskRefuses', WHERE WHAT IT READS IS OF BULK AT MOST 1048576: true; the input reads as it did. -/
def diskRefusesUptoRow : OpenClaim := { program := "ytimdaioojnohmaa", sum := "61e3988be12c9bb9192f132dbb85378dc0b2b2640daf7f985d56f6bbaa70e09b", func := "keelson/keelsonlaw39.DiskRefuses", spec := "diskRefuses", unfollowed := true, recurses := true, apart := false, narrowed := true }
def DiskRefusesUptoSaid : Prop := diskRefusesUptoRow.holds Try.pinned (OpenSpec.upto diskRefusesSpec)

/-- 'keelsonlaw39.DiskFlush', WHERE WHAT IT READS IS OF BULK AT MOST 1048576: true; the input reads as it did. -/
def diskFlushUptoRow : OpenClaim := { program := "ytimdaioojnohmaa", sum := "61e3988be12c9bb9192f132dbb85378dc0b2b2640daf7f985d56f6bbaa70e09b", func := "keelson/keelsonlaw39.DiskFlush", spec := "diskFlush", unfollowed := true, recurses := true, apart := false, narrowed := true }
def DiskFlushUptoSaid : Prop := diskFlushUptoRow.holds Try.pinned (OpenSpec.upto diskFlushSpec)

end Rows
end Go.Proofs.Ytimdaioojnohmaa
