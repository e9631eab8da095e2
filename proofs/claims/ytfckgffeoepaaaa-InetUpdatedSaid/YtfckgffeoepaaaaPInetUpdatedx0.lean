/- Printed by a program of this session (wip/myprint.py): Go functions of the law as Lean functions, and the proof that the code comes to these answers. -/
import Derived.Test.YtfckgffeoepaaaaProg
import Derived.Below
import Derived.Deep.Draws
import Derived.Deep.AppendLies
import Derived.Maps.AppendAt
import Derived.OwnWalk
import Derived.Laws.BytesArg
import Derived.Laws.MakeOwn
import Derived.Laws.OwnMore
import Derived.Deep.OwnRows
import Derived.Tactics
import Derived.Lib.ConvBytes
import Derived.Laws.Slices
import Derived.WalkKit
import Derived.KernelRfl
import Derived.RowKit3
import Derived.Deep.LoopGhost
import Derived.Deep.QuietTactic
import Derived.BigQuiet
import Derived.WideLaws
import Derived.Deep.DeepCutAuto
import Derived.Deep.CutBlock
import Derived.Deep.RegionHeld3
import Derived.Laws.Rows
import Derived.Lib.AppendStr
import Derived.ArgAppend
import Derived.Laws.IdiomCopy
import Derived.OrdersHeld
import Derived.Laws.BitsLemmas
import Derived.RowKit
import Derived.Test.YtfckgffeoepaaaaWWords
import Derived.Test.YtfckgffeoepaaaaWLast
import Derived.Test.YtfckgffeoepaaaaWTab
import Derived.Test.YtfckgffeoepaaaaWFour
import Derived.Test.YtfckgffeoepaaaaWQPut
import Derived.Test.YtfckgffeoepaaaaWApart
import Derived.Test.YtfckgffeoepaaaaWArr
import Derived.Test.YtfckgffeoepaaaaWZeros
import Derived.Test.YtfckgffeoepaaaaWFoot
import Derived.Test.YtfckgffeoepaaaaWKept
import Derived.Test.YtfckgffeoepaaaaWShare
import Derived.Test.YtfckgffeoepaaaaWN
import Derived.Test.YtfckgffeoepaaaaWFootNe
import Derived.Test.YtfckgffeoepaaaaWAt
import Derived.Test.YtfckgffeoepaaaaWEqStruct
import Derived.Test.YtfckgffeoepaaaaWRepsOne
import Derived.Test.YtfckgffeoepaaaaWInv
import Derived.Test.YtfckgffeoepaaaaWInvWords
import Derived.Test.YtfckgffeoepaaaaWGuard
import Derived.Test.YtfckgffeoepaaaaWNEv
import Derived.Test.YtfckgffeoepaaaaWMore
namespace Go.Proofs.Ytfckgffeoepaaaa.PInetUpdated
open Go.RowKit Go.Proofs.YtfckgffeoepaaaaW.PrintWords Go.Proofs.YtfckgffeoepaaaaW.PrintLast Go.Proofs.YtfckgffeoepaaaaW.PrintMore
attribute [local go_sem] max2_int min2_int max_two min_two max_three min_three max_four min_four   -- for this text's walks alone
set_option linter.unusedVariables false
set_option linter.unusedSimpArgs false



theorem rr_len_ {α : Type} {R : α → List Value → Prop} {s : Nat} {w : World} {A : Option Addr} {a b : Nat} {ps : List α} (h : a = b) (p : ReadsRow R s w A a ps) : ReadsRow R s w A b ps := h ▸ p
def errW : Option Int → Value
  | none => .nilIface
  | some c => .iface 0 (.int .i64 c)
theorem errW_none : errW none = .nilIface := rfl
theorem errW_some (c : Int) : errW (some c) = .iface 0 (.int .i64 c) := rfl

theorem info3 : (Try.prog.info? 3).map (fun i => (i.zero, i.size, i.bytes)) = some (some (.int .i64 0), 1, 8) := by kernel_rfl
theorem info5 : (Try.prog.info? 5).map (fun i => (i.zero, i.size, i.bytes)) = some (some (.int .u8 0), 1, 1) := by kernel_rfl
-- the values' own types

end Go.Proofs.Ytfckgffeoepaaaa.PInetUpdated
