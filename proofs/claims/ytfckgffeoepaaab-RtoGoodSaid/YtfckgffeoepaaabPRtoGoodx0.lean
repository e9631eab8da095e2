/- Printed by a program of this session (wip/myprint.py): Go functions of the law as Lean functions, and the proof that the code comes to these answers. -/
import Derived.Test.YtfckgffeoepaaabProg
import Derived.Below
import Derived.Deep.Draws
import Derived.Deep.AppendLies
import Derived.Maps.AppendAt
import Derived.OwnWalk
import Derived.Laws.BytesArg
import Derived.Laws.MakeOwn
import Derived.Laws.OwnMore
import Derived.Deep.OwnRows
import Derived.Tactics
import Derived.Lib.ConvBytes
import Derived.Laws.Slices
import Derived.WalkKit
import Derived.KernelRfl
import Derived.RowKit3
import Derived.Deep.LoopGhost
import Derived.Deep.QuietTactic
import Derived.BigQuiet
import Derived.WideLaws
import Derived.Deep.DeepCutAuto
import Derived.Deep.CutBlock
import Derived.Deep.RegionHeld3
import Derived.Laws.Rows
import Derived.Lib.AppendStr
import Derived.ArgAppend
import Derived.Laws.IdiomCopy
import Derived.OrdersHeld
import Derived.Laws.BitsLemmas
import Derived.RowKit
import Derived.Test.YtfckgffeoepaaabWWords
import Derived.Test.YtfckgffeoepaaabWLast
import Derived.Test.YtfckgffeoepaaabWTab
import Derived.Test.YtfckgffeoepaaabWFour
import Derived.Test.YtfckgffeoepaaabWQPut
import Derived.Test.YtfckgffeoepaaabWApart
import Derived.Test.YtfckgffeoepaaabWArr
import Derived.Test.YtfckgffeoepaaabWZeros
import Derived.Test.YtfckgffeoepaaabWFoot
import Derived.Test.YtfckgffeoepaaabWKept
import Derived.Test.YtfckgffeoepaaabWShare
import Derived.Test.YtfckgffeoepaaabWN
import Derived.Test.YtfckgffeoepaaabWFootNe
import Derived.Test.YtfckgffeoepaaabWAt
import Derived.Test.YtfckgffeoepaaabWEqStruct
import Derived.Test.YtfckgffeoepaaabWRepsOne
import Derived.Test.YtfckgffeoepaaabWInv
import Derived.Test.YtfckgffeoepaaabWInvWords
import Derived.Test.YtfckgffeoepaaabWGuard
import Derived.Test.YtfckgffeoepaaabWNEv
import Derived.Test.YtfckgffeoepaaabWMore
namespace Go.Proofs.Ytfckgffeoepaaab.PRtoGood
open Go.RowKit Go.Proofs.YtfckgffeoepaaabW.PrintWords Go.Proofs.YtfckgffeoepaaabW.PrintLast Go.Proofs.YtfckgffeoepaaabW.PrintMore
attribute [local go_sem] max2_int min2_int max_two min_two max_three min_three max_four min_four   -- for this text's walks alone
set_option linter.unusedVariables false
set_option linter.unusedSimpArgs false



theorem sA_ {α : Type} (l : List α) (i : Nat) (a : α) : l.toArray.setIfInBounds i a = (l.set i a).toArray := List.setIfInBounds_toArray ..
theorem sZ_ {α : Type} (x a : α) (l : List α) : (x :: l).set 0 a = a :: l := rfl
theorem sS_ {α : Type} (x a : α) (l : List α) (n : Nat) : (x :: l).set (n + 1) a = x :: l.set n a := rfl
theorem rr_len_ {α : Type} {R : α → List Value → Prop} {s : Nat} {w : World} {A : Option Addr} {a b : Nat} {ps : List α} (h : a = b) (p : ReadsRow R s w A a ps) : ReadsRow R s w A b ps := h ▸ p
def errW : Option Int → Value
  | none => .nilIface
  | some c => .iface 0 (.int .i64 c)
theorem errW_none : errW none = .nilIface := rfl
theorem errW_some (c : Int) : errW (some c) = .iface 0 (.int .i64 c) := rfl

-- the values' own types

end Go.Proofs.Ytfckgffeoepaaab.PRtoGood
