/-
  No cell of these rows narrows 'for every input' (looked for: loops, veiled, ifaces, maps, wideKeys, modest, calm, conditions, laid).
  DERIVED. THE GIVEN ROWS OF THIS SEAT. 11 by the template 'for every input the law returns true; each argument reads behind the call as it read before'; 0 by the template 'total and deterministic' (their statements: YtlgehakaedokeaaTotals.lean).
  GIVEN WITH THE SEED: the statements are not yours to turn. If you find one false, say at which input.
  Laid BY PROGRAM, IN A SANDBOX (cutbox-rows.mjs): the forced cells as the released guide's own fill.sh prints them over the translation ad9b1348db153834… (all of the seat's roots in one cut). By AI agents, Wed Nov 11 2026. No macro, syntax, notation, axiom, sorry.
-/
import Derived.Test.YtlgehakaedokeaaChecked
import GoSem.Claim
import GoSem.ClaimJoined
import GoSem.ClaimMapViews
import Derived.JoinedTies
import Derived.KernelRfl
namespace Go.Proofs.Ytlgehakaedokeaa
/- THE CELL 'sum', in the pinned program and in every row, IS THE sha256 OF THE DUMP (.gsa) THAT YtlgehakaedokeaaProg.lean LOADS. Nothing in Lean hashes anything: it is a label: what it is worth is what the hold of that sum in a sandbox is worth. -/
noncomputable def Try.pinned : Pinned := { name := "ytlgehakaedokeaa", sum := "ad9b1348db153834f17bf884d86dc7297f7cb865efcf4bff8e92844366ec46c6", checked := Try.checked }
namespace Rows
def none {H : Type} : Left H := { results := [], args := [] }

/-- 'packthreadkeep.HoleKnows': WHATEVER THE INPUT: true; the input reads as it did. -/
def holeKnowsSpec : ChangeSpec := { name := "holeKnows", fn := fun _ => fun
  | [d1, d2, d3] => { results := [.lit (.bool true)], args := [d1, d2, d3] }
  | _ => none }
def holeKnowsRow : OpenClaim := { program := "ytlgehakaedokeaa", sum := "ad9b1348db153834f17bf884d86dc7297f7cb865efcf4bff8e92844366ec46c6", func := "packthread/packthreadkeep.HoleKnows", spec := "holeKnows", apart := false }
def HoleKnowsSaid : Prop := holeKnowsRow.holds Try.pinned (OpenSpec.ofChange holeKnowsSpec)

/-- ITS FALSE NEIGHBOUR: 'it returns false'. Refute it at one input. -/
def holeKnowsWrong : ChangeSpec := { name := "holeKnows", fn := fun _ => fun
  | [d1, d2, d3] => { results := [.lit (.bool false)], args := [d1, d2, d3] }
  | _ => none }
def HoleKnowsWrongFalsely : Prop := holeKnowsRow.holds Try.pinned (OpenSpec.ofChange holeKnowsWrong)

/-- 'packthreadkeep.HoleGrows': WHATEVER THE INPUT: true; the input reads as it did. -/
def holeGrowsSpec : ChangeSpec := { name := "holeGrows", fn := fun _ => fun
  | [d1, d2, d3, d4] => { results := [.lit (.bool true)], args := [d1, d2, d3, d4] }
  | _ => none }
def holeGrowsRow : OpenClaim := { program := "ytlgehakaedokeaa", sum := "ad9b1348db153834f17bf884d86dc7297f7cb865efcf4bff8e92844366ec46c6", func := "packthread/packthreadkeep.HoleGrows", spec := "holeGrows", apart := false }
def HoleGrowsSaid : Prop := holeGrowsRow.holds Try.pinned (OpenSpec.ofChange holeGrowsSpec)

/-- ITS FALSE NEIGHBOUR: 'it returns false'. Refute it at one input. -/
def holeGrowsWrong : ChangeSpec := { name := "holeGrows", fn := fun _ => fun
  | [d1, d2, d3, d4] => { results := [.lit (.bool false)], args := [d1, d2, d3, d4] }
  | _ => none }
def HoleGrowsWrongFalsely : Prop := holeGrowsRow.holds Try.pinned (OpenSpec.ofChange holeGrowsWrong)

/-- 'packthreadkeep.HoleGapsAll': WHATEVER THE INPUT: true; the input reads as it did. -/
def holeGapsAllSpec : ChangeSpec := { name := "holeGapsAll", fn := fun _ => fun
  | [d1, d2] => { results := [.lit (.bool true)], args := [d1, d2] }
  | _ => none }
def holeGapsAllRow : OpenClaim := { program := "ytlgehakaedokeaa", sum := "ad9b1348db153834f17bf884d86dc7297f7cb865efcf4bff8e92844366ec46c6", func := "packthread/packthreadkeep.HoleGapsAll", spec := "holeGapsAll", apart := false }
def HoleGapsAllSaid : Prop := holeGapsAllRow.holds Try.pinned (OpenSpec.ofChange holeGapsAllSpec)

/-- ITS FALSE NEIGHBOUR: 'it returns false'. Refute it at one input. -/
def holeGapsAllWrong : ChangeSpec := { name := "holeGapsAll", fn := fun _ => fun
  | [d1, d2] => { results := [.lit (.bool false)], args := [d1, d2] }
  | _ => none }
def HoleGapsAllWrongFalsely : Prop := holeGapsAllRow.holds Try.pinned (OpenSpec.ofChange holeGapsAllWrong)

/-- 'packthreadkeep.SacksFirst': WHATEVER THE INPUT: true; the input reads as it did. -/
def sacksFirstSpec : ChangeSpec := { name := "sacksFirst", fn := fun _ => fun
  | [d1, d2, d3] => { results := [.lit (.bool true)], args := [d1, d2, d3] }
  | _ => none }
def sacksFirstRow : OpenClaim := { program := "ytlgehakaedokeaa", sum := "ad9b1348db153834f17bf884d86dc7297f7cb865efcf4bff8e92844366ec46c6", func := "packthread/packthreadkeep.SacksFirst", spec := "sacksFirst", unfollowed := true, recurses := true, apart := false }
def SacksFirstSaid : Prop := sacksFirstRow.holds Try.pinned (OpenSpec.ofChange sacksFirstSpec)

/-- ITS FALSE NEIGHBOUR: 'it returns false'. Refute it at one input. -/
def sacksFirstWrong : ChangeSpec := { name := "sacksFirst", fn := fun _ => fun
  | [d1, d2, d3] => { results := [.lit (.bool false)], args := [d1, d2, d3] }
  | _ => none }
def SacksFirstWrongFalsely : Prop := sacksFirstRow.holds Try.pinned (OpenSpec.ofChange sacksFirstWrong)

/-- 'packthreadkeep.FairOrder': WHATEVER THE INPUT: true; the input reads as it did. -/
def fairOrderSpec : ChangeSpec := { name := "fairOrder", fn := fun _ => fun
  | [d1, d2] => { results := [.lit (.bool true)], args := [d1, d2] }
  | _ => none }
def fairOrderRow : OpenClaim := { program := "ytlgehakaedokeaa", sum := "ad9b1348db153834f17bf884d86dc7297f7cb865efcf4bff8e92844366ec46c6", func := "packthread/packthreadkeep.FairOrder", spec := "fairOrder", unfollowed := true, recurses := true, apart := false }
def FairOrderSaid : Prop := fairOrderRow.holds Try.pinned (OpenSpec.ofChange fairOrderSpec)

/-- ITS FALSE NEIGHBOUR: 'it returns false'. Refute it at one input. -/
def fairOrderWrong : ChangeSpec := { name := "fairOrder", fn := fun _ => fun
  | [d1, d2] => { results := [.lit (.bool false)], args := [d1, d2] }
  | _ => none }
def FairOrderWrongFalsely : Prop := fairOrderRow.holds Try.pinned (OpenSpec.ofChange fairOrderWrong)

/-- 'packthreadkeep.FairShare': WHATEVER THE INPUT: true; the input reads as it did. -/
def fairShareSpec : ChangeSpec := { name := "fairShare", fn := fun _ => fun
  | [d1, d2, d3] => { results := [.lit (.bool true)], args := [d1, d2, d3] }
  | _ => none }
def fairShareRow : OpenClaim := { program := "ytlgehakaedokeaa", sum := "ad9b1348db153834f17bf884d86dc7297f7cb865efcf4bff8e92844366ec46c6", func := "packthread/packthreadkeep.FairShare", spec := "fairShare", unfollowed := true, recurses := true, apart := false }
def FairShareSaid : Prop := fairShareRow.holds Try.pinned (OpenSpec.ofChange fairShareSpec)

/-- ITS FALSE NEIGHBOUR: 'it returns false'. Refute it at one input. -/
def fairShareWrong : ChangeSpec := { name := "fairShare", fn := fun _ => fun
  | [d1, d2, d3] => { results := [.lit (.bool false)], args := [d1, d2, d3] }
  | _ => none }
def FairShareWrongFalsely : Prop := fairShareRow.holds Try.pinned (OpenSpec.ofChange fairShareWrong)

/-- 'packthreadkeep.FairAlone': WHATEVER THE INPUT: true; the input reads as it did. -/
def fairAloneSpec : ChangeSpec := { name := "fairAlone", fn := fun _ => fun
  | [d1, d2, d3] => { results := [.lit (.bool true)], args := [d1, d2, d3] }
  | _ => none }
def fairAloneRow : OpenClaim := { program := "ytlgehakaedokeaa", sum := "ad9b1348db153834f17bf884d86dc7297f7cb865efcf4bff8e92844366ec46c6", func := "packthread/packthreadkeep.FairAlone", spec := "fairAlone", unfollowed := true, recurses := true, apart := false }
def FairAloneSaid : Prop := fairAloneRow.holds Try.pinned (OpenSpec.ofChange fairAloneSpec)

/-- ITS FALSE NEIGHBOUR: 'it returns false'. Refute it at one input. -/
def fairAloneWrong : ChangeSpec := { name := "fairAlone", fn := fun _ => fun
  | [d1, d2, d3] => { results := [.lit (.bool false)], args := [d1, d2, d3] }
  | _ => none }
def FairAloneWrongFalsely : Prop := fairAloneRow.holds Try.pinned (OpenSpec.ofChange fairAloneWrong)

/-- 'packthreadkeep.FairScale': WHATEVER THE INPUT: true; the input reads as it did. -/
def fairScaleSpec : ChangeSpec := { name := "fairScale", fn := fun _ => fun
  | [d1, d2] => { results := [.lit (.bool true)], args := [d1, d2] }
  | _ => none }
def fairScaleRow : OpenClaim := { program := "ytlgehakaedokeaa", sum := "ad9b1348db153834f17bf884d86dc7297f7cb865efcf4bff8e92844366ec46c6", func := "packthread/packthreadkeep.FairScale", spec := "fairScale", unfollowed := true, recurses := true, apart := false }
def FairScaleSaid : Prop := fairScaleRow.holds Try.pinned (OpenSpec.ofChange fairScaleSpec)

/-- ITS FALSE NEIGHBOUR: 'it returns false'. Refute it at one input. -/
def fairScaleWrong : ChangeSpec := { name := "fairScale", fn := fun _ => fun
  | [d1, d2] => { results := [.lit (.bool false)], args := [d1, d2] }
  | _ => none }
def FairScaleWrongFalsely : Prop := fairScaleRow.holds Try.pinned (OpenSpec.ofChange fairScaleWrong)

/-- 'packthreadkeep.FairAll': WHATEVER THE INPUT: true; the input reads as it did. -/
def fairAllSpec : ChangeSpec := { name := "fairAll", fn := fun _ => fun
  | [d1, d2] => { results := [.lit (.bool true)], args := [d1, d2] }
  | _ => none }
def fairAllRow : OpenClaim := { program := "ytlgehakaedokeaa", sum := "ad9b1348db153834f17bf884d86dc7297f7cb865efcf4bff8e92844366ec46c6", func := "packthread/packthreadkeep.FairAll", spec := "fairAll", unfollowed := true, recurses := true, apart := false }
def FairAllSaid : Prop := fairAllRow.holds Try.pinned (OpenSpec.ofChange fairAllSpec)

/-- ITS FALSE NEIGHBOUR: 'it returns false'. Refute it at one input. -/
def fairAllWrong : ChangeSpec := { name := "fairAll", fn := fun _ => fun
  | [d1, d2] => { results := [.lit (.bool false)], args := [d1, d2] }
  | _ => none }
def FairAllWrongFalsely : Prop := fairAllRow.holds Try.pinned (OpenSpec.ofChange fairAllWrong)

/-- 'packthreadkeep.FetchAll': WHATEVER THE INPUT: true; the input reads as it did. -/
def fetchAllSpec : ChangeSpec := { name := "fetchAll", fn := fun _ => fun
  | [d1, d2, d3] => { results := [.lit (.bool true)], args := [d1, d2, d3] }
  | _ => none }
def fetchAllRow : OpenClaim := { program := "ytlgehakaedokeaa", sum := "ad9b1348db153834f17bf884d86dc7297f7cb865efcf4bff8e92844366ec46c6", func := "packthread/packthreadkeep.FetchAll", spec := "fetchAll", unfollowed := true, recurses := true, apart := false }
def FetchAllSaid : Prop := fetchAllRow.holds Try.pinned (OpenSpec.ofChange fetchAllSpec)

/-- ITS FALSE NEIGHBOUR: 'it returns false'. Refute it at one input. -/
def fetchAllWrong : ChangeSpec := { name := "fetchAll", fn := fun _ => fun
  | [d1, d2, d3] => { results := [.lit (.bool false)], args := [d1, d2, d3] }
  | _ => none }
def FetchAllWrongFalsely : Prop := fetchAllRow.holds Try.pinned (OpenSpec.ofChange fetchAllWrong)

/-- 'packthreadkeep.FetchStill': WHATEVER THE INPUT: true; the input reads as it did. -/
def fetchStillSpec : ChangeSpec := { name := "fetchStill", fn := fun _ => fun
  | [d1, d2, d3, d4] => { results := [.lit (.bool true)], args := [d1, d2, d3, d4] }
  | _ => none }
def fetchStillRow : OpenClaim := { program := "ytlgehakaedokeaa", sum := "ad9b1348db153834f17bf884d86dc7297f7cb865efcf4bff8e92844366ec46c6", func := "packthread/packthreadkeep.FetchStill", spec := "fetchStill", unfollowed := true, recurses := true, apart := false }
def FetchStillSaid : Prop := fetchStillRow.holds Try.pinned (OpenSpec.ofChange fetchStillSpec)

/-- ITS FALSE NEIGHBOUR: 'it returns false'. Refute it at one input. -/
def fetchStillWrong : ChangeSpec := { name := "fetchStill", fn := fun _ => fun
  | [d1, d2, d3, d4] => { results := [.lit (.bool false)], args := [d1, d2, d3, d4] }
  | _ => none }
def FetchStillWrongFalsely : Prop := fetchStillRow.holds Try.pinned (OpenSpec.ofChange fetchStillWrong)

/- THE SECOND FORM. 'bulk': how many values and letters a reading holds, each counted each time it is reached (what is shared counts as often as it is met; a slice's spare places count too). A statement '..UptoSaid' is the law's where the arguments, and the package variables that the reading takes, are together of bulk at most 1048576: NARROWER than '..Said'. Prove '..Said' where nothing that the law and all that it calls make is longer than what came in: it says more and counts as full. Else prove '..UptoSaid'. A law counts once. -/
mutual
def uptoBulk {H : Type} : DataW H → Nat
  | .lit (.string bytes) => bytes.length + 1
  | .lit _ => 1
  | .nil => 1
  | .ptr d => uptoBulk d + 1
  | .slice elems spare => uptoBulkAll elems + uptoBulkAll spare + 1
  | .agg parts => uptoBulkAll parts + 1
  | .iface _ d => uptoBulk d + 1
  | .map entries => uptoBulkEntries entries + 1
  | .held _ => 1
def uptoBulkAll {H : Type} : List (DataW H) → Nat
  | [] => 0
  | d :: r => uptoBulk d + uptoBulkAll r
def uptoBulkEntries {H : Type} : List (Lit × DataW H) → Nat
  | [] => 0
  | x :: r => uptoBulkEntry x + uptoBulkEntries r
def uptoBulkEntry {H : Type} : Lit × DataW H → Nat
  | (.string bytes, d) => bytes.length + uptoBulk d + 1
  | (_, d) => uptoBulk d + 1
 end
def uptoSmall : (H : Type) → List (DataW H) → Bool := fun _ ds => decide (uptoBulkAll ds ≤ 1048576)
def OpenSpec.upto (s : _root_.Go.ChangeSpec) : _root_.Go.OpenSpec := { _root_.Go.OpenSpec.ofChange s with cond := some uptoSmall }

/-- 'packthreadkeep.HoleKnows', WHERE WHAT IT READS IS OF BULK AT MOST 1048576: true; the input reads as it did. -/
def holeKnowsUptoRow : OpenClaim := { program := "ytlgehakaedokeaa", sum := "ad9b1348db153834f17bf884d86dc7297f7cb865efcf4bff8e92844366ec46c6", func := "packthread/packthreadkeep.HoleKnows", spec := "holeKnows", apart := false, narrowed := true }
def HoleKnowsUptoSaid : Prop := holeKnowsUptoRow.holds Try.pinned (OpenSpec.upto holeKnowsSpec)

/-- 'packthreadkeep.HoleGrows', WHERE WHAT IT READS IS OF BULK AT MOST 1048576: true; the input reads as it did. -/
def holeGrowsUptoRow : OpenClaim := { program := "ytlgehakaedokeaa", sum := "ad9b1348db153834f17bf884d86dc7297f7cb865efcf4bff8e92844366ec46c6", func := "packthread/packthreadkeep.HoleGrows", spec := "holeGrows", apart := false, narrowed := true }
def HoleGrowsUptoSaid : Prop := holeGrowsUptoRow.holds Try.pinned (OpenSpec.upto holeGrowsSpec)

/-- 'packthreadkeep.HoleGapsAll', WHERE WHAT IT READS IS OF BULK AT MOST 1048576: true; the input reads as it did. -/
def holeGapsAllUptoRow : OpenClaim := { program := "ytlgehakaedokeaa", sum := "ad9b1348db153834f17bf884d86dc7297f7cb865efcf4bff8e92844366ec46c6", func := "packthread/packthreadkeep.HoleGapsAll", spec := "holeGapsAll", apart := false, narrowed := true }
def HoleGapsAllUptoSaid : Prop := holeGapsAllUptoRow.holds Try.pinned (OpenSpec.upto holeGapsAllSpec)

/-- 'packthreadkeep.SacksFirst', WHERE WHAT IT READS IS OF BULK AT MOST 1048576: true; the input reads as it did. -/
def sacksFirstUptoRow : OpenClaim := { program := "ytlgehakaedokeaa", sum := "ad9b1348db153834f17bf884d86dc7297f7cb865efcf4bff8e92844366ec46c6", func := "packthread/packthreadkeep.SacksFirst", spec := "sacksFirst", unfollowed := true, recurses := true, apart := false, narrowed := true }
def SacksFirstUptoSaid : Prop := sacksFirstUptoRow.holds Try.pinned (OpenSpec.upto sacksFirstSpec)

/-- 'packthreadkeep.FairOrder', WHERE WHAT IT READS IS OF BULK AT MOST 1048576: true; the input reads as it did. -/
def fairOrderUptoRow : OpenClaim := { program := "ytlgehakaedokeaa", sum := "ad9b1348db153834f17bf884d86dc7297f7cb865efcf4bff8e92844366ec46c6", func := "packthread/packthreadkeep.FairOrder", spec := "fairOrder", unfollowed := true, recurses := true, apart := false, narrowed := true }
def FairOrderUptoSaid : Prop := fairOrderUptoRow.holds Try.pinned (OpenSpec.upto fairOrderSpec)

/-- 'packthreadkeep.FairShare', WHERE WHAT IT READS IS OF BULK AT MOST 1048576: true; the input reads as it did. -/
def fairShareUptoRow : OpenClaim := { program := "ytlgehakaedokeaa", sum := "ad9b1348db153834f17bf884d86dc7297f7cb865efcf4bff8e92844366ec46c6", func := "packthread/packthreadkeep.FairShare", spec := "fairShare", unfollowed := true, recurses := true, apart := false, narrowed := true }
def FairShareUptoSaid : Prop := fairShareUptoRow.holds Try.pinned (OpenSpec.upto fairShareSpec)

/-- 'packthreadkeep.FairAlone', WHERE WHAT IT READS IS OF BULK AT MOST 1048576: true; the input reads as it did. -/
def fairAloneUptoRow : OpenClaim := { program := "ytlgehakaedokeaa", sum := "ad9b1348db153834f17bf884d86dc7297f7cb865efcf4bff8e92844366ec46c6", func := "packthread/packthreadkeep.FairAlone", spec := "fairAlone", unfollowed := true, recurses := true, apart := false, narrowed := true }
def FairAloneUptoSaid : Prop := fairAloneUptoRow.holds Try.pinned (OpenSpec.upto fairAloneSpec)

/-- 'packthreadkeep.FairScale', WHERE WHAT IT READS IS OF BULK AT MOST 1048576: true; the input reads as it did. -/
def fairScaleUptoRow : OpenClaim := { program := "ytlgehakaedokeaa", sum := "ad9b1348db153834f17bf884d86dc7297f7cb865efcf4bff8e92844366ec46c6", func := "packthread/packthreadkeep.FairScale", spec := "fairScale", unfollowed := true, recurses := true, apart := false, narrowed := true }
def FairScaleUptoSaid : Prop := fairScaleUptoRow.holds Try.pinned (OpenSpec.upto fairScaleSpec)

/-- 'packthreadkeep.FairAll', WHERE WHAT IT READS IS OF BULK AT MOST 1048576: true; the input reads as it did. -/
def fairAllUptoRow : OpenClaim := { program := "ytlgehakaedokeaa", sum := "ad9b1348db153834f17bf884d86dc7297f7cb865efcf4bff8e92844366ec46c6", func := "packthread/packthreadkeep.FairAll", spec := "fairAll", unfollowed := true, recurses := true, apart := false, narrowed := true }
def FairAllUptoSaid : Prop := fairAllUptoRow.holds Try.pinned (OpenSpec.upto fairAllSpec)

/-- 'packthreadkeep.FetchAll', WHERE WHAT IT READS IS OF BULK AT MOST 1048576: true; the input reads as it did. -/
def fetchAllUptoRow : OpenClaim := { program := "ytlgehakaedokeaa", sum := "ad9b1348db153834f17bf884d86dc7297f7cb865efcf4bff8e92844366ec46c6", func := "packthread/packthreadkeep.FetchAll", spec := "fetchAll", unfollowed := true, recurses := true, apart := false, narrowed := true }
def FetchAllUptoSaid : Prop := fetchAllUptoRow.holds Try.pinned (OpenSpec.upto fetchAllSpec)

/-- 'packthreadkeep.FetchStill', WHERE WHAT IT READS IS OF BULK AT MOST 1048576: true; the input reads as it did. -/
def fetchStillUptoRow : OpenClaim := { program := "ytlgehakaedokeaa", sum := "ad9b1348db153834f17bf884d86dc7297f7cb865efcf4bff8e92844366ec46c6", func := "packthread/packthreadkeep.FetchStill", spec := "fetchStill", unfollowed := true, recurses := true, apart := false, narrowed := true }
def FetchStillUptoSaid : Prop := fetchStillUptoRow.holds Try.pinned (OpenSpec.upto fetchStillSpec)

end Rows
end Go.Proofs.Ytlgehakaedokeaa
