/-
  No cell of these rows narrows 'for every input' (looked for: loops, veiled, ifaces, maps, wideKeys, modest, calm, conditions, laid).
  DERIVED. THE GIVEN ROWS OF THIS SEAT. 12 by the template 'for every input the law returns true; each argument reads behind the call as it read before'; 0 by the template 'total and deterministic' (their statements: YtfckgffeoepaaaaTotals.lean).
  GIVEN WITH THE SEED: the statements are not yours to turn. If you find one false, say at which input.
  Laid BY PROGRAM, IN A SANDBOX (cutbox-rows.mjs): the forced cells as the released guide's own fill.sh prints them over the translation 8cc01176f9d2fae0… (all of the seat's roots in one cut). By AI agents, Wed Nov 11 2026. No macro, syntax, notation, axiom, sorry.
-/
import Derived.Test.YtfckgffeoepaaaaChecked
import GoSem.Claim
import GoSem.ClaimJoined
import GoSem.ClaimMapViews
import Derived.JoinedTies
import Derived.KernelRfl
namespace Go.Proofs.Ytfckgffeoepaaaa
/- THE CELL 'sum', in the pinned program and in every row, IS THE sha256 OF THE DUMP (.gsa) THAT YtfckgffeoepaaaaProg.lean LOADS. Nothing in Lean hashes anything: it is a label: what it is worth is what the hold of that sum in a sandbox is worth. -/
noncomputable def Try.pinned : Pinned := { name := "ytfckgffeoepaaaa", sum := "8cc01176f9d2fae05711e2a1814884a95ccabb2eb9fe7309403b0d6bf287727e", checked := Try.checked }
namespace Rows
def none {H : Type} : Left H := { results := [], args := [] }

/-- 'packthreadkeep.InetTurned': WHATEVER THE INPUT: true; the input reads as it did. -/
def inetTurnedSpec : ChangeSpec := { name := "inetTurned", fn := fun _ => fun
  | [d1, d2, d3, d4] => { results := [.lit (.bool true)], args := [d1, d2, d3, d4] }
  | _ => none }
def inetTurnedRow : OpenClaim := { program := "ytfckgffeoepaaaa", sum := "8cc01176f9d2fae05711e2a1814884a95ccabb2eb9fe7309403b0d6bf287727e", func := "packthread/packthreadkeep.InetTurned", spec := "inetTurned", apart := false }
def InetTurnedSaid : Prop := inetTurnedRow.holds Try.pinned (OpenSpec.ofChange inetTurnedSpec)

/-- ITS FALSE NEIGHBOUR: 'it returns false'. Refute it at one input. -/
def inetTurnedWrong : ChangeSpec := { name := "inetTurned", fn := fun _ => fun
  | [d1, d2, d3, d4] => { results := [.lit (.bool false)], args := [d1, d2, d3, d4] }
  | _ => none }
def InetTurnedWrongFalsely : Prop := inetTurnedRow.holds Try.pinned (OpenSpec.ofChange inetTurnedWrong)

/-- 'packthreadkeep.InetSwap': WHATEVER THE INPUT: true; the input reads as it did. -/
def inetSwapSpec : ChangeSpec := { name := "inetSwap", fn := fun _ => fun
  | [d] => { results := [.lit (.bool true)], args := [d] }
  | _ => none }
def inetSwapRow : OpenClaim := { program := "ytfckgffeoepaaaa", sum := "8cc01176f9d2fae05711e2a1814884a95ccabb2eb9fe7309403b0d6bf287727e", func := "packthread/packthreadkeep.InetSwap", spec := "inetSwap", apart := false }
def InetSwapSaid : Prop := inetSwapRow.holds Try.pinned (OpenSpec.ofChange inetSwapSpec)

/-- ITS FALSE NEIGHBOUR: 'it returns false'. Refute it at one input. -/
def inetSwapWrong : ChangeSpec := { name := "inetSwap", fn := fun _ => fun
  | [d] => { results := [.lit (.bool false)], args := [d] }
  | _ => none }
def InetSwapWrongFalsely : Prop := inetSwapRow.holds Try.pinned (OpenSpec.ofChange inetSwapWrong)

/-- 'packthreadkeep.InetSealed': WHATEVER THE INPUT: true; the input reads as it did. -/
def inetSealedSpec : ChangeSpec := { name := "inetSealed", fn := fun _ => fun
  | [d] => { results := [.lit (.bool true)], args := [d] }
  | _ => none }
def inetSealedRow : OpenClaim := { program := "ytfckgffeoepaaaa", sum := "8cc01176f9d2fae05711e2a1814884a95ccabb2eb9fe7309403b0d6bf287727e", func := "packthread/packthreadkeep.InetSealed", spec := "inetSealed", apart := false }
def InetSealedSaid : Prop := inetSealedRow.holds Try.pinned (OpenSpec.ofChange inetSealedSpec)

/-- ITS FALSE NEIGHBOUR: 'it returns false'. Refute it at one input. -/
def inetSealedWrong : ChangeSpec := { name := "inetSealed", fn := fun _ => fun
  | [d] => { results := [.lit (.bool false)], args := [d] }
  | _ => none }
def InetSealedWrongFalsely : Prop := inetSealedRow.holds Try.pinned (OpenSpec.ofChange inetSealedWrong)

/-- 'packthreadkeep.NearBack': WHATEVER THE INPUT: true; the input reads as it did. -/
def nearBackSpec : ChangeSpec := { name := "nearBack", fn := fun _ => fun
  | [d1, d2] => { results := [.lit (.bool true)], args := [d1, d2] }
  | _ => none }
def nearBackRow : OpenClaim := { program := "ytfckgffeoepaaaa", sum := "8cc01176f9d2fae05711e2a1814884a95ccabb2eb9fe7309403b0d6bf287727e", func := "packthread/packthreadkeep.NearBack", spec := "nearBack", apart := false }
def NearBackSaid : Prop := nearBackRow.holds Try.pinned (OpenSpec.ofChange nearBackSpec)

/-- ITS FALSE NEIGHBOUR: 'it returns false'. Refute it at one input. -/
def nearBackWrong : ChangeSpec := { name := "nearBack", fn := fun _ => fun
  | [d1, d2] => { results := [.lit (.bool false)], args := [d1, d2] }
  | _ => none }
def NearBackWrongFalsely : Prop := nearBackRow.holds Try.pinned (OpenSpec.ofChange nearBackWrong)

/-- 'packthreadkeep.WithinSplit': WHATEVER THE INPUT: true; the input reads as it did. -/
def withinSplitSpec : ChangeSpec := { name := "withinSplit", fn := fun _ => fun
  | [d1, d2, d3, d4] => { results := [.lit (.bool true)], args := [d1, d2, d3, d4] }
  | _ => none }
def withinSplitRow : OpenClaim := { program := "ytfckgffeoepaaaa", sum := "8cc01176f9d2fae05711e2a1814884a95ccabb2eb9fe7309403b0d6bf287727e", func := "packthread/packthreadkeep.WithinSplit", spec := "withinSplit", apart := false }
def WithinSplitSaid : Prop := withinSplitRow.holds Try.pinned (OpenSpec.ofChange withinSplitSpec)

/-- ITS FALSE NEIGHBOUR: 'it returns false'. Refute it at one input. -/
def withinSplitWrong : ChangeSpec := { name := "withinSplit", fn := fun _ => fun
  | [d1, d2, d3, d4] => { results := [.lit (.bool false)], args := [d1, d2, d3, d4] }
  | _ => none }
def WithinSplitWrongFalsely : Prop := withinSplitRow.holds Try.pinned (OpenSpec.ofChange withinSplitWrong)

/-- 'packthreadkeep.SerialRound': WHATEVER THE INPUT: true; the input reads as it did. -/
def serialRoundSpec : ChangeSpec := { name := "serialRound", fn := fun _ => fun
  | [d1, d2] => { results := [.lit (.bool true)], args := [d1, d2] }
  | _ => none }
def serialRoundRow : OpenClaim := { program := "ytfckgffeoepaaaa", sum := "8cc01176f9d2fae05711e2a1814884a95ccabb2eb9fe7309403b0d6bf287727e", func := "packthread/packthreadkeep.SerialRound", spec := "serialRound", apart := false }
def SerialRoundSaid : Prop := serialRoundRow.holds Try.pinned (OpenSpec.ofChange serialRoundSpec)

/-- ITS FALSE NEIGHBOUR: 'it returns false'. Refute it at one input. -/
def serialRoundWrong : ChangeSpec := { name := "serialRound", fn := fun _ => fun
  | [d1, d2] => { results := [.lit (.bool false)], args := [d1, d2] }
  | _ => none }
def SerialRoundWrongFalsely : Prop := serialRoundRow.holds Try.pinned (OpenSpec.ofChange serialRoundWrong)

/-- 'packthreadkeep.PatchParts': WHATEVER THE INPUT: true; the input reads as it did. -/
def patchPartsSpec : ChangeSpec := { name := "patchParts", fn := fun _ => fun
  | [d1, d2, d3] => { results := [.lit (.bool true)], args := [d1, d2, d3] }
  | _ => none }
def patchPartsRow : OpenClaim := { program := "ytfckgffeoepaaaa", sum := "8cc01176f9d2fae05711e2a1814884a95ccabb2eb9fe7309403b0d6bf287727e", func := "packthread/packthreadkeep.PatchParts", spec := "patchParts", unfollowed := true, recurses := true, apart := false }
def PatchPartsSaid : Prop := patchPartsRow.holds Try.pinned (OpenSpec.ofChange patchPartsSpec)

/-- ITS FALSE NEIGHBOUR: 'it returns false'. Refute it at one input. -/
def patchPartsWrong : ChangeSpec := { name := "patchParts", fn := fun _ => fun
  | [d1, d2, d3] => { results := [.lit (.bool false)], args := [d1, d2, d3] }
  | _ => none }
def PatchPartsWrongFalsely : Prop := patchPartsRow.holds Try.pinned (OpenSpec.ofChange patchPartsWrong)

/-- 'packthreadkeep.SerialHalf': WHATEVER THE INPUT: true; the input reads as it did. -/
def serialHalfSpec : ChangeSpec := { name := "serialHalf", fn := fun _ => fun
  | [d1, d2, d3] => { results := [.lit (.bool true)], args := [d1, d2, d3] }
  | _ => none }
def serialHalfRow : OpenClaim := { program := "ytfckgffeoepaaaa", sum := "8cc01176f9d2fae05711e2a1814884a95ccabb2eb9fe7309403b0d6bf287727e", func := "packthread/packthreadkeep.SerialHalf", spec := "serialHalf", apart := false }
def SerialHalfSaid : Prop := serialHalfRow.holds Try.pinned (OpenSpec.ofChange serialHalfSpec)

/-- ITS FALSE NEIGHBOUR: 'it returns false'. Refute it at one input. -/
def serialHalfWrong : ChangeSpec := { name := "serialHalf", fn := fun _ => fun
  | [d1, d2, d3] => { results := [.lit (.bool false)], args := [d1, d2, d3] }
  | _ => none }
def SerialHalfWrongFalsely : Prop := serialHalfRow.holds Try.pinned (OpenSpec.ofChange serialHalfWrong)

/-- 'packthreadkeep.BucketRests': WHATEVER THE INPUT: true; the input reads as it did. -/
def bucketRestsSpec : ChangeSpec := { name := "bucketRests", fn := fun _ => fun
  | [d1, d2, d3, d4] => { results := [.lit (.bool true)], args := [d1, d2, d3, d4] }
  | _ => none }
def bucketRestsRow : OpenClaim := { program := "ytfckgffeoepaaaa", sum := "8cc01176f9d2fae05711e2a1814884a95ccabb2eb9fe7309403b0d6bf287727e", func := "packthread/packthreadkeep.BucketRests", spec := "bucketRests", apart := false }
def BucketRestsSaid : Prop := bucketRestsRow.holds Try.pinned (OpenSpec.ofChange bucketRestsSpec)

/-- ITS FALSE NEIGHBOUR: 'it returns false'. Refute it at one input. -/
def bucketRestsWrong : ChangeSpec := { name := "bucketRests", fn := fun _ => fun
  | [d1, d2, d3, d4] => { results := [.lit (.bool false)], args := [d1, d2, d3, d4] }
  | _ => none }
def BucketRestsWrongFalsely : Prop := bucketRestsRow.holds Try.pinned (OpenSpec.ofChange bucketRestsWrong)

/-- 'packthreadkeep.BucketLater': WHATEVER THE INPUT: true; the input reads as it did. -/
def bucketLaterSpec : ChangeSpec := { name := "bucketLater", fn := fun _ => fun
  | [d1, d2, d3, d4] => { results := [.lit (.bool true)], args := [d1, d2, d3, d4] }
  | _ => none }
def bucketLaterRow : OpenClaim := { program := "ytfckgffeoepaaaa", sum := "8cc01176f9d2fae05711e2a1814884a95ccabb2eb9fe7309403b0d6bf287727e", func := "packthread/packthreadkeep.BucketLater", spec := "bucketLater", apart := false }
def BucketLaterSaid : Prop := bucketLaterRow.holds Try.pinned (OpenSpec.ofChange bucketLaterSpec)

/-- ITS FALSE NEIGHBOUR: 'it returns false'. Refute it at one input. -/
def bucketLaterWrong : ChangeSpec := { name := "bucketLater", fn := fun _ => fun
  | [d1, d2, d3, d4] => { results := [.lit (.bool false)], args := [d1, d2, d3, d4] }
  | _ => none }
def BucketLaterWrongFalsely : Prop := bucketLaterRow.holds Try.pinned (OpenSpec.ofChange bucketLaterWrong)

/-- 'packthreadkeep.InetUpdated': WHATEVER THE INPUT: true; the input reads as it did. -/
def inetUpdatedSpec : ChangeSpec := { name := "inetUpdated", fn := fun _ => fun
  | [d1, d2, d3] => { results := [.lit (.bool true)], args := [d1, d2, d3] }
  | _ => none }
def inetUpdatedRow : OpenClaim := { program := "ytfckgffeoepaaaa", sum := "8cc01176f9d2fae05711e2a1814884a95ccabb2eb9fe7309403b0d6bf287727e", func := "packthread/packthreadkeep.InetUpdated", spec := "inetUpdated", apart := false }
def InetUpdatedSaid : Prop := inetUpdatedRow.holds Try.pinned (OpenSpec.ofChange inetUpdatedSpec)

/-- ITS FALSE NEIGHBOUR: 'it returns false'. Refute it at one input. -/
def inetUpdatedWrong : ChangeSpec := { name := "inetUpdated", fn := fun _ => fun
  | [d1, d2, d3] => { results := [.lit (.bool false)], args := [d1, d2, d3] }
  | _ => none }
def InetUpdatedWrongFalsely : Prop := inetUpdatedRow.holds Try.pinned (OpenSpec.ofChange inetUpdatedWrong)

/-- 'packthreadkeep.SerialAhead': WHATEVER THE INPUT: true; the input reads as it did. -/
def serialAheadSpec : ChangeSpec := { name := "serialAhead", fn := fun _ => fun
  | [d1, d2, d3] => { results := [.lit (.bool true)], args := [d1, d2, d3] }
  | _ => none }
def serialAheadRow : OpenClaim := { program := "ytfckgffeoepaaaa", sum := "8cc01176f9d2fae05711e2a1814884a95ccabb2eb9fe7309403b0d6bf287727e", func := "packthread/packthreadkeep.SerialAhead", spec := "serialAhead", apart := false }
def SerialAheadSaid : Prop := serialAheadRow.holds Try.pinned (OpenSpec.ofChange serialAheadSpec)

/-- ITS FALSE NEIGHBOUR: 'it returns false'. Refute it at one input. -/
def serialAheadWrong : ChangeSpec := { name := "serialAhead", fn := fun _ => fun
  | [d1, d2, d3] => { results := [.lit (.bool false)], args := [d1, d2, d3] }
  | _ => none }
def SerialAheadWrongFalsely : Prop := serialAheadRow.holds Try.pinned (OpenSpec.ofChange serialAheadWrong)

/- THE SECOND FORM. 'bulk': how many values and letters a reading holds, each counted each time it is reached (what is shared counts as often as it is met; a slice's spare places count too). A statement '..UptoSaid' is the law's where the arguments, and the package variables that the reading takes, are together of bulk at most 1048576: NARROWER than '..Said'. Prove '..Said' where nothing that the law and all that it calls make is longer than what came in: it says more and counts as full. Else prove '..UptoSaid'. A law counts once. -/
mutual
def uptoBulk {H : Type} : DataW H → Nat
  | .lit (.string bytes) => bytes.length + 1
  | .lit _ => 1
  | .nil => 1
  | .ptr d => uptoBulk d + 1
  | .slice elems spare => uptoBulkAll elems + uptoBulkAll spare + 1
  | .agg parts => uptoBulkAll parts + 1
  | .iface _ d => uptoBulk d + 1
  | .map entries => uptoBulkEntries entries + 1
  | .held _ => 1
def uptoBulkAll {H : Type} : List (DataW H) → Nat
  | [] => 0
  | d :: r => uptoBulk d + uptoBulkAll r
def uptoBulkEntries {H : Type} : List (Lit × DataW H) → Nat
  | [] => 0
  | x :: r => uptoBulkEntry x + uptoBulkEntries r
def uptoBulkEntry {H : Type} : Lit × DataW H → Nat
  | (.string bytes, d) => bytes.length + uptoBulk d + 1
  | (_, d) => uptoBulk d + 1
 end
def uptoSmall : (H : Type) → List (DataW H) → Bool := fun _ ds => decide (uptoBulkAll ds ≤ 1048576)
def OpenSpec.upto (s : _root_.Go.ChangeSpec) : _root_.Go.OpenSpec := { _root_.Go.OpenSpec.ofChange s with cond := some uptoSmall }

/-- 'packthreadkeep.InetTurned', WHERE WHAT IT READS IS OF BULK AT MOST 1048576: true; the input reads as it did. -/
def inetTurnedUptoRow : OpenClaim := { program := "ytfckgffeoepaaaa", sum := "8cc01176f9d2fae05711e2a1814884a95ccabb2eb9fe7309403b0d6bf287727e", func := "packthread/packthreadkeep.InetTurned", spec := "inetTurned", apart := false, narrowed := true }
def InetTurnedUptoSaid : Prop := inetTurnedUptoRow.holds Try.pinned (OpenSpec.upto inetTurnedSpec)

/-- 'packthreadkeep.InetSwap', WHERE WHAT IT READS IS OF BULK AT MOST 1048576: true; the input reads as it did. -/
def inetSwapUptoRow : OpenClaim := { program := "ytfckgffeoepaaaa", sum := "8cc01176f9d2fae05711e2a1814884a95ccabb2eb9fe7309403b0d6bf287727e", func := "packthread/packthreadkeep.InetSwap", spec := "inetSwap", apart := false, narrowed := true }
def InetSwapUptoSaid : Prop := inetSwapUptoRow.holds Try.pinned (OpenSpec.upto inetSwapSpec)

/-- 'packthreadkeep.InetSealed', WHERE WHAT IT READS IS OF BULK AT MOST 1048576: true; the input reads as it did. -/
def inetSealedUptoRow : OpenClaim := { program := "ytfckgffeoepaaaa", sum := "8cc01176f9d2fae05711e2a1814884a95ccabb2eb9fe7309403b0d6bf287727e", func := "packthread/packthreadkeep.InetSealed", spec := "inetSealed", apart := false, narrowed := true }
def InetSealedUptoSaid : Prop := inetSealedUptoRow.holds Try.pinned (OpenSpec.upto inetSealedSpec)

/-- 'packthreadkeep.NearBack', WHERE WHAT IT READS IS OF BULK AT MOST 1048576: true; the input reads as it did. -/
def nearBackUptoRow : OpenClaim := { program := "ytfckgffeoepaaaa", sum := "8cc01176f9d2fae05711e2a1814884a95ccabb2eb9fe7309403b0d6bf287727e", func := "packthread/packthreadkeep.NearBack", spec := "nearBack", apart := false, narrowed := true }
def NearBackUptoSaid : Prop := nearBackUptoRow.holds Try.pinned (OpenSpec.upto nearBackSpec)

/-- 'packthreadkeep.WithinSplit', WHERE WHAT IT READS IS OF BULK AT MOST 1048576: true; the input reads as it did. -/
def withinSplitUptoRow : OpenClaim := { program := "ytfckgffeoepaaaa", sum := "8cc01176f9d2fae05711e2a1814884a95ccabb2eb9fe7309403b0d6bf287727e", func := "packthread/packthreadkeep.WithinSplit", spec := "withinSplit", apart := false, narrowed := true }
def WithinSplitUptoSaid : Prop := withinSplitUptoRow.holds Try.pinned (OpenSpec.upto withinSplitSpec)

/-- 'packthreadkeep.SerialRound', WHERE WHAT IT READS IS OF BULK AT MOST 1048576: true; the input reads as it did. -/
def serialRoundUptoRow : OpenClaim := { program := "ytfckgffeoepaaaa", sum := "8cc01176f9d2fae05711e2a1814884a95ccabb2eb9fe7309403b0d6bf287727e", func := "packthread/packthreadkeep.SerialRound", spec := "serialRound", apart := false, narrowed := true }
def SerialRoundUptoSaid : Prop := serialRoundUptoRow.holds Try.pinned (OpenSpec.upto serialRoundSpec)

/-- 'packthreadkeep.PatchParts', WHERE WHAT IT READS IS OF BULK AT MOST 1048576: true; the input reads as it did. -/
def patchPartsUptoRow : OpenClaim := { program := "ytfckgffeoepaaaa", sum := "8cc01176f9d2fae05711e2a1814884a95ccabb2eb9fe7309403b0d6bf287727e", func := "packthread/packthreadkeep.PatchParts", spec := "patchParts", unfollowed := true, recurses := true, apart := false, narrowed := true }
def PatchPartsUptoSaid : Prop := patchPartsUptoRow.holds Try.pinned (OpenSpec.upto patchPartsSpec)

/-- 'packthreadkeep.SerialHalf', WHERE WHAT IT READS IS OF BULK AT MOST 1048576: true; the input reads as it did. -/
def serialHalfUptoRow : OpenClaim := { program := "ytfckgffeoepaaaa", sum := "8cc01176f9d2fae05711e2a1814884a95ccabb2eb9fe7309403b0d6bf287727e", func := "packthread/packthreadkeep.SerialHalf", spec := "serialHalf", apart := false, narrowed := true }
def SerialHalfUptoSaid : Prop := serialHalfUptoRow.holds Try.pinned (OpenSpec.upto serialHalfSpec)

/-- 'packthreadkeep.BucketRests', WHERE WHAT IT READS IS OF BULK AT MOST 1048576: true; the input reads as it did. -/
def bucketRestsUptoRow : OpenClaim := { program := "ytfckgffeoepaaaa", sum := "8cc01176f9d2fae05711e2a1814884a95ccabb2eb9fe7309403b0d6bf287727e", func := "packthread/packthreadkeep.BucketRests", spec := "bucketRests", apart := false, narrowed := true }
def BucketRestsUptoSaid : Prop := bucketRestsUptoRow.holds Try.pinned (OpenSpec.upto bucketRestsSpec)

/-- 'packthreadkeep.BucketLater', WHERE WHAT IT READS IS OF BULK AT MOST 1048576: true; the input reads as it did. -/
def bucketLaterUptoRow : OpenClaim := { program := "ytfckgffeoepaaaa", sum := "8cc01176f9d2fae05711e2a1814884a95ccabb2eb9fe7309403b0d6bf287727e", func := "packthread/packthreadkeep.BucketLater", spec := "bucketLater", apart := false, narrowed := true }
def BucketLaterUptoSaid : Prop := bucketLaterUptoRow.holds Try.pinned (OpenSpec.upto bucketLaterSpec)

/-- 'packthreadkeep.InetUpdated', WHERE WHAT IT READS IS OF BULK AT MOST 1048576: true; the input reads as it did. -/
def inetUpdatedUptoRow : OpenClaim := { program := "ytfckgffeoepaaaa", sum := "8cc01176f9d2fae05711e2a1814884a95ccabb2eb9fe7309403b0d6bf287727e", func := "packthread/packthreadkeep.InetUpdated", spec := "inetUpdated", apart := false, narrowed := true }
def InetUpdatedUptoSaid : Prop := inetUpdatedUptoRow.holds Try.pinned (OpenSpec.upto inetUpdatedSpec)

/-- 'packthreadkeep.SerialAhead', WHERE WHAT IT READS IS OF BULK AT MOST 1048576: true; the input reads as it did. -/
def serialAheadUptoRow : OpenClaim := { program := "ytfckgffeoepaaaa", sum := "8cc01176f9d2fae05711e2a1814884a95ccabb2eb9fe7309403b0d6bf287727e", func := "packthread/packthreadkeep.SerialAhead", spec := "serialAhead", apart := false, narrowed := true }
def SerialAheadUptoSaid : Prop := serialAheadUptoRow.holds Try.pinned (OpenSpec.upto serialAheadSpec)

end Rows
end Go.Proofs.Ytfckgffeoepaaaa
