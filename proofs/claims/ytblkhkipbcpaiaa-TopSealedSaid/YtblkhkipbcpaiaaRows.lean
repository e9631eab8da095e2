/-
  No cell of these rows narrows 'for every input' (looked for: loops, veiled, ifaces, maps, wideKeys, modest, calm, conditions, laid).
  DERIVED. THE GIVEN ROWS OF THIS SEAT. 5 by the template 'for every input the law returns true; each argument reads behind the call as it read before'; 0 by the template 'total and deterministic' (their statements: YtblkhkipbcpaiaaTotals.lean).
  GIVEN WITH THE SEED: the statements are not yours to turn. If you find one false, say at which input.
  Laid BY PROGRAM, IN A SANDBOX (cutbox-rows.mjs): the forced cells as the released guide's own fill.sh prints them over the translation a54f54c2be248dd2… (all of the seat's roots in one cut). By AI agents, Wed Nov 11 2026. No macro, syntax, notation, axiom, sorry.
-/
import Derived.Test.YtblkhkipbcpaiaaChecked
import GoSem.Claim
import GoSem.ClaimJoined
import GoSem.ClaimMapViews
import Derived.JoinedTies
import Derived.KernelRfl
namespace Go.Proofs.Ytblkhkipbcpaiaa
/- THE CELL 'sum', in the pinned program and in every row, IS THE sha256 OF THE DUMP (.gsa) THAT YtblkhkipbcpaiaaProg.lean LOADS. Nothing in Lean hashes anything: it is a label: what it is worth is what the hold of that sum in a sandbox is worth. -/
noncomputable def Try.pinned : Pinned := { name := "ytblkhkipbcpaiaa", sum := "a54f54c2be248dd2b127ce3c5171dd4b2f04ed3ded1fe3a64a4dd5f7f4e6f9ca", checked := Try.checked }
namespace Rows
def none {H : Type} : Left H := { results := [], args := [] }

/-- 'packthreadkeep.SegBack': WHATEVER THE INPUT: true; the input reads as it did. -/
def segBackSpec : ChangeSpec := { name := "segBack", fn := fun _ => fun
  | [d1, d2, d3, d4, d5, d6] => { results := [.lit (.bool true)], args := [d1, d2, d3, d4, d5, d6] }
  | _ => none }
def segBackRow : OpenClaim := { program := "ytblkhkipbcpaiaa", sum := "a54f54c2be248dd2b127ce3c5171dd4b2f04ed3ded1fe3a64a4dd5f7f4e6f9ca", func := "packthread/packthreadkeep.SegBack", spec := "segBack", unfollowed := true, recurses := true, apart := false }
def SegBackSaid : Prop := segBackRow.holds Try.pinned (OpenSpec.ofChange segBackSpec)

/-- ITS FALSE NEIGHBOUR: 'it returns false'. Refute it at one input. -/
def segBackWrong : ChangeSpec := { name := "segBack", fn := fun _ => fun
  | [d1, d2, d3, d4, d5, d6] => { results := [.lit (.bool false)], args := [d1, d2, d3, d4, d5, d6] }
  | _ => none }
def SegBackWrongFalsely : Prop := segBackRow.holds Try.pinned (OpenSpec.ofChange segBackWrong)

/-- 'packthreadkeep.SegSees': WHATEVER THE INPUT: true; the input reads as it did. -/
def segSeesSpec : ChangeSpec := { name := "segSees", fn := fun _ => fun
  | [d1, d2, d3, d4, d5, d6, d7, d8] => { results := [.lit (.bool true)], args := [d1, d2, d3, d4, d5, d6, d7, d8] }
  | _ => none }
def segSeesRow : OpenClaim := { program := "ytblkhkipbcpaiaa", sum := "a54f54c2be248dd2b127ce3c5171dd4b2f04ed3ded1fe3a64a4dd5f7f4e6f9ca", func := "packthread/packthreadkeep.SegSees", spec := "segSees", unfollowed := true, recurses := true, apart := false }
def SegSeesSaid : Prop := segSeesRow.holds Try.pinned (OpenSpec.ofChange segSeesSpec)

/-- ITS FALSE NEIGHBOUR: 'it returns false'. Refute it at one input. -/
def segSeesWrong : ChangeSpec := { name := "segSees", fn := fun _ => fun
  | [d1, d2, d3, d4, d5, d6, d7, d8] => { results := [.lit (.bool false)], args := [d1, d2, d3, d4, d5, d6, d7, d8] }
  | _ => none }
def SegSeesWrongFalsely : Prop := segSeesRow.holds Try.pinned (OpenSpec.ofChange segSeesWrong)

/-- 'packthreadkeep.SegFixed': WHATEVER THE INPUT: true; the input reads as it did. -/
def segFixedSpec : ChangeSpec := { name := "segFixed", fn := fun _ => fun
  | [d] => { results := [.lit (.bool true)], args := [d] }
  | _ => none }
def segFixedRow : OpenClaim := { program := "ytblkhkipbcpaiaa", sum := "a54f54c2be248dd2b127ce3c5171dd4b2f04ed3ded1fe3a64a4dd5f7f4e6f9ca", func := "packthread/packthreadkeep.SegFixed", spec := "segFixed", unfollowed := true, recurses := true, apart := false }
def SegFixedSaid : Prop := segFixedRow.holds Try.pinned (OpenSpec.ofChange segFixedSpec)

/-- ITS FALSE NEIGHBOUR: 'it returns false'. Refute it at one input. -/
def segFixedWrong : ChangeSpec := { name := "segFixed", fn := fun _ => fun
  | [d] => { results := [.lit (.bool false)], args := [d] }
  | _ => none }
def SegFixedWrongFalsely : Prop := segFixedRow.holds Try.pinned (OpenSpec.ofChange segFixedWrong)

/-- 'packthreadkeep.PatchParts': WHATEVER THE INPUT: true; the input reads as it did. -/
def patchPartsSpec : ChangeSpec := { name := "patchParts", fn := fun _ => fun
  | [d1, d2, d3] => { results := [.lit (.bool true)], args := [d1, d2, d3] }
  | _ => none }
def patchPartsRow : OpenClaim := { program := "ytblkhkipbcpaiaa", sum := "a54f54c2be248dd2b127ce3c5171dd4b2f04ed3ded1fe3a64a4dd5f7f4e6f9ca", func := "packthread/packthreadkeep.PatchParts", spec := "patchParts", unfollowed := true, recurses := true, apart := false }
def PatchPartsSaid : Prop := patchPartsRow.holds Try.pinned (OpenSpec.ofChange patchPartsSpec)

/-- ITS FALSE NEIGHBOUR: 'it returns false'. Refute it at one input. -/
def patchPartsWrong : ChangeSpec := { name := "patchParts", fn := fun _ => fun
  | [d1, d2, d3] => { results := [.lit (.bool false)], args := [d1, d2, d3] }
  | _ => none }
def PatchPartsWrongFalsely : Prop := patchPartsRow.holds Try.pinned (OpenSpec.ofChange patchPartsWrong)

/-- 'packthreadtop.TopSealed': WHATEVER THE INPUT: true; the input reads as it did. -/
def topSealedSpec : ChangeSpec := { name := "topSealed", fn := fun _ => fun
  | [d1, d2, d3, d4, d5] => { results := [.lit (.bool true)], args := [d1, d2, d3, d4, d5] }
  | _ => none }
def topSealedRow : OpenClaim := { program := "ytblkhkipbcpaiaa", sum := "a54f54c2be248dd2b127ce3c5171dd4b2f04ed3ded1fe3a64a4dd5f7f4e6f9ca", func := "packthread/packthreadtop.TopSealed", spec := "topSealed", unfollowed := true, recurses := true, apart := false }
def TopSealedSaid : Prop := topSealedRow.holds Try.pinned (OpenSpec.ofChange topSealedSpec)

/-- ITS FALSE NEIGHBOUR: 'it returns false'. Refute it at one input. -/
def topSealedWrong : ChangeSpec := { name := "topSealed", fn := fun _ => fun
  | [d1, d2, d3, d4, d5] => { results := [.lit (.bool false)], args := [d1, d2, d3, d4, d5] }
  | _ => none }
def TopSealedWrongFalsely : Prop := topSealedRow.holds Try.pinned (OpenSpec.ofChange topSealedWrong)

/- THE SECOND FORM. 'bulk': how many values and letters a reading holds, each counted each time it is reached (what is shared counts as often as it is met; a slice's spare places count too). A statement '..UptoSaid' is the law's where the arguments, and the package variables that the reading takes, are together of bulk at most 1048576: NARROWER than '..Said'. Prove '..Said' where nothing that the law and all that it calls make is longer than what came in: it says more and counts as full. Else prove '..UptoSaid'. A law counts once. -/
mutual
def uptoBulk {H : Type} : DataW H → Nat
  | .lit (.string bytes) => bytes.length + 1
  | .lit _ => 1
  | .nil => 1
  | .ptr d => uptoBulk d + 1
  | .slice elems spare => uptoBulkAll elems + uptoBulkAll spare + 1
  | .agg parts => uptoBulkAll parts + 1
  | .iface _ d => uptoBulk d + 1
  | .map entries => uptoBulkEntries entries + 1
  | .held _ => 1
def uptoBulkAll {H : Type} : List (DataW H) → Nat
  | [] => 0
  | d :: r => uptoBulk d + uptoBulkAll r
def uptoBulkEntries {H : Type} : List (Lit × DataW H) → Nat
  | [] => 0
  | x :: r => uptoBulkEntry x + uptoBulkEntries r
def uptoBulkEntry {H : Type} : Lit × DataW H → Nat
  | (.string bytes, d) => bytes.length + uptoBulk d + 1
  | (_, d) => uptoBulk d + 1
 end
def uptoSmall : (H : Type) → List (DataW H) → Bool := fun _ ds => decide (uptoBulkAll ds ≤ 1048576)
def OpenSpec.upto (s : _root_.Go.ChangeSpec) : _root_.Go.OpenSpec := { _root_.Go.OpenSpec.ofChange s with cond := some uptoSmall }

/-- 'packthreadkeep.SegBack', WHERE WHAT IT READS IS OF BULK AT MOST 1048576: true; the input reads as it did. -/
def segBackUptoRow : OpenClaim := { program := "ytblkhkipbcpaiaa", sum := "a54f54c2be248dd2b127ce3c5171dd4b2f04ed3ded1fe3a64a4dd5f7f4e6f9ca", func := "packthread/packthreadkeep.SegBack", spec := "segBack", unfollowed := true, recurses := true, apart := false, narrowed := true }
def SegBackUptoSaid : Prop := segBackUptoRow.holds Try.pinned (OpenSpec.upto segBackSpec)

/-- 'packthreadkeep.SegSees', WHERE WHAT IT READS IS OF BULK AT MOST 1048576: true; the input reads as it did. -/
def segSeesUptoRow : OpenClaim := { program := "ytblkhkipbcpaiaa", sum := "a54f54c2be248dd2b127ce3c5171dd4b2f04ed3ded1fe3a64a4dd5f7f4e6f9ca", func := "packthread/packthreadkeep.SegSees", spec := "segSees", unfollowed := true, recurses := true, apart := false, narrowed := true }
def SegSeesUptoSaid : Prop := segSeesUptoRow.holds Try.pinned (OpenSpec.upto segSeesSpec)

/-- 'packthreadkeep.SegFixed', WHERE WHAT IT READS IS OF BULK AT MOST 1048576: true; the input reads as it did. -/
def segFixedUptoRow : OpenClaim := { program := "ytblkhkipbcpaiaa", sum := "a54f54c2be248dd2b127ce3c5171dd4b2f04ed3ded1fe3a64a4dd5f7f4e6f9ca", func := "packthread/packthreadkeep.SegFixed", spec := "segFixed", unfollowed := true, recurses := true, apart := false, narrowed := true }
def SegFixedUptoSaid : Prop := segFixedUptoRow.holds Try.pinned (OpenSpec.upto segFixedSpec)

/-- 'packthreadkeep.PatchParts', WHERE WHAT IT READS IS OF BULK AT MOST 1048576: true; the input reads as it did. -/
def patchPartsUptoRow : OpenClaim := { program := "ytblkhkipbcpaiaa", sum := "a54f54c2be248dd2b127ce3c5171dd4b2f04ed3ded1fe3a64a4dd5f7f4e6f9ca", func := "packthread/packthreadkeep.PatchParts", spec := "patchParts", unfollowed := true, recurses := true, apart := false, narrowed := true }
def PatchPartsUptoSaid : Prop := patchPartsUptoRow.holds Try.pinned (OpenSpec.upto patchPartsSpec)

/-- 'packthreadtop.TopSealed', WHERE WHAT IT READS IS OF BULK AT MOST 1048576: true; the input reads as it did. -/
def topSealedUptoRow : OpenClaim := { program := "ytblkhkipbcpaiaa", sum := "a54f54c2be248dd2b127ce3c5171dd4b2f04ed3ded1fe3a64a4dd5f7f4e6f9ca", func := "packthread/packthreadtop.TopSealed", spec := "topSealed", unfollowed := true, recurses := true, apart := false, narrowed := true }
def TopSealedUptoSaid : Prop := topSealedUptoRow.holds Try.pinned (OpenSpec.upto topSealedSpec)

end Rows
end Go.Proofs.Ytblkhkipbcpaiaa
