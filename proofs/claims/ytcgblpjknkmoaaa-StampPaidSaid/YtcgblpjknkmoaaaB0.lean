-- written for this claim by a program of this session, a turned copy of the kit's print (GIVEN contracts); Lean checks it
import Derived.Test.YtcgblpjknkmoaaaProg
import Derived.Below
import Derived.Deep.Draws
import Derived.Deep.AppendLies
import Derived.Maps.AppendAt
import Derived.OwnWalk
import Derived.Laws.BytesArg
import Derived.Laws.MakeOwn
import Derived.Laws.OwnMore
import Derived.Deep.OwnRows
import Derived.Tactics
import Derived.Lib.ConvBytes
import Derived.Laws.Slices
import Derived.WalkKit
import Derived.KernelRfl
import Derived.RowKit3
import Derived.Deep.LoopGhost
import Derived.Deep.QuietTactic
import Derived.BigQuiet
import Derived.WideLaws
import Derived.Deep.DeepCutAuto
import Derived.Deep.CutBlock
import Derived.Deep.RegionHeld3
import Derived.Laws.Rows
import Derived.Lib.AppendStr
import Derived.ArgAppend
import Derived.Laws.IdiomCopy
import Derived.OrdersHeld
import Derived.Laws.BitsLemmas
import Derived.RowKit
import Derived.Test.YtcgblpjknkmoaaaWWords
import Derived.Test.YtcgblpjknkmoaaaWLast
import Derived.Test.YtcgblpjknkmoaaaWTab
import Derived.Test.YtcgblpjknkmoaaaWFour
import Derived.Test.YtcgblpjknkmoaaaWQPut
import Derived.Test.YtcgblpjknkmoaaaWApart
import Derived.Test.YtcgblpjknkmoaaaWArr
import Derived.Test.YtcgblpjknkmoaaaWZeros
import Derived.Test.YtcgblpjknkmoaaaWFoot
import Derived.Test.YtcgblpjknkmoaaaWKept
import Derived.Test.YtcgblpjknkmoaaaWShare
import Derived.Test.YtcgblpjknkmoaaaWN
import Derived.Test.YtcgblpjknkmoaaaWFootNe
import Derived.Test.YtcgblpjknkmoaaaWAt
import Derived.Test.YtcgblpjknkmoaaaWEqStruct
import Derived.Test.YtcgblpjknkmoaaaWRepsOne
import Derived.Test.YtcgblpjknkmoaaaWInv
import Derived.Test.YtcgblpjknkmoaaaWInvWords
import Derived.Test.YtcgblpjknkmoaaaWGuard
import Derived.Test.YtcgblpjknkmoaaaWNEv
import Derived.Test.YtcgblpjknkmoaaaWMore
namespace Go.Proofs.Ytcgblpjknkmoaaa.B
open Go.RowKit Go.Proofs.YtcgblpjknkmoaaaW.PrintWords Go.Proofs.YtcgblpjknkmoaaaW.PrintLast Go.Proofs.YtcgblpjknkmoaaaW.PrintMore
attribute [local go_sem] max2_int min2_int max_two min_two max_three min_three max_four min_four   -- for this text's walks alone
set_option linter.unusedVariables false
set_option linter.unusedSimpArgs false



def errW : Option Int → Value
  | none => .nilIface
  | some c => .iface 0 (.int .i64 c)
theorem errW_none : errW none = .nilIface := rfl
theorem errW_some (c : Int) : errW (some c) = .iface 0 (.int .i64 c) := rfl

theorem info3 : (Try.prog.info? 3).map (fun i => (i.zero, i.size, i.bytes)) = some (some (.int .i64 0), 1, 8) := by kernel_rfl
-- the values' own types

end Go.Proofs.Ytcgblpjknkmoaaa.B
