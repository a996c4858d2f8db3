-- WRITTEN BY wip/drive.py, a program of this claim's, out of the translation. Not trusted: Lean checks it.
import Derived.Test.YtomdihpleoipkaaProg
import Derived.Below
import Derived.Deep.Draws
import Derived.Deep.AppendLies
import Derived.Maps.AppendAt
import Derived.OwnWalk
import Derived.Laws.BytesArg
import Derived.Laws.MakeOwn
import Derived.Laws.OwnMore
import Derived.Deep.OwnRows
import Derived.Tactics
import Derived.Lib.ConvBytes
import Derived.Laws.Slices
import Derived.WalkKit
import Derived.KernelRfl
import Derived.RowKit3
import Derived.Deep.LoopGhost
import Derived.Deep.QuietTactic
import Derived.BigQuiet
import Derived.WideLaws
import Derived.Deep.DeepCutAuto
import Derived.Deep.CutBlock
import Derived.Deep.RegionHeld3
import Derived.Laws.Rows
import Derived.Lib.AppendStr
import Derived.ArgAppend
import Derived.Laws.IdiomCopy
import Derived.OrdersHeld
import Derived.Laws.BitsLemmas
import Derived.RowKit
import Derived.Test.YtomdihpleoipkaaHand
import Derived.Test.YtomdihpleoipkaaWWords
import Derived.Test.YtomdihpleoipkaaWLast
import Derived.Test.YtomdihpleoipkaaWTab
import Derived.Test.YtomdihpleoipkaaWFour
import Derived.Test.YtomdihpleoipkaaWQPut
import Derived.Test.YtomdihpleoipkaaWApart
import Derived.Test.YtomdihpleoipkaaWArr
import Derived.Test.YtomdihpleoipkaaWZeros
import Derived.Test.YtomdihpleoipkaaWFoot
import Derived.Test.YtomdihpleoipkaaWKept
import Derived.Test.YtomdihpleoipkaaWShare
import Derived.Test.YtomdihpleoipkaaWN
import Derived.Test.YtomdihpleoipkaaWFootNe
import Derived.Test.YtomdihpleoipkaaWAt
import Derived.Test.YtomdihpleoipkaaWEqStruct
import Derived.Test.YtomdihpleoipkaaWRepsOne
import Derived.Test.YtomdihpleoipkaaWInv
import Derived.Test.YtomdihpleoipkaaWInvWords
import Derived.Test.YtomdihpleoipkaaWGuard
import Derived.Test.YtomdihpleoipkaaWNEv
import Derived.Test.YtomdihpleoipkaaWMore
namespace Go.Proofs.Ytomdihpleoipkaa.PC
open Go.RowKit Go.Proofs.YtomdihpleoipkaaW.PrintWords Go.Proofs.YtomdihpleoipkaaW.PrintLast Go.Proofs.YtomdihpleoipkaaW.PrintMore
attribute [local go_sem] max2_int min2_int max_two min_two max_three min_three max_four min_four   -- for this text's walks alone
set_option linter.unusedVariables false
set_option linter.unusedSimpArgs false



def errW : Option Int → Value
  | none => .nilIface
  | some c => .iface 0 (.int .i64 c)
theorem errW_none : errW none = .nilIface := rfl
theorem errW_some (c : Int) : errW (some c) = .iface 0 (.int .i64 c) := rfl

theorem info5 : (Try.prog.info? 5).map (fun i => (i.zero, i.size, i.bytes)) = some (some (.int .u8 0), 1, 1) := by kernel_rfl
-- the values' own types

end Go.Proofs.Ytomdihpleoipkaa.PC
