/- The kinds of data of this program. -/
import Derived.Test.YteolgjmeigifbaaGreatU25
namespace Go.VE
set_option linter.unusedVariables false
@[reducible] def tRange : Ty := (.pair .str .str)
abbrev vab : Type := (ByteArray × ByteArray)
@[reducible] def tWrite : Ty := (.pair .str (.pair .str .bool))
abbrev vaf : Type := (ByteArray × (ByteArray × Bool))
@[reducible] def tVersion : Ty := (.pair .str (.pair .str (.pair .bool (.int .i64))))
abbrev vaa : Type := (ByteArray × (ByteArray × (Bool × Int)))
@[reducible] def tPut : Ty := (.pair (.int .i64) .str)
abbrev dPut : Type := (Int × ByteArray)
@[reducible] def tTxn : Ty := (.pair (.int .i64) (.pair (.int .i64) (.pair (.int .i64) (.pair (.int .i64) (.pair (.slice tRange) (.pair (.slice tWrite) (.pair .bool .str)))))))
abbrev dTxn : Type := (Int × (Int × (Int × (Int × ((List vab) × ((List vaf) × (Bool × ByteArray)))))))
@[reducible] def tBase : Ty := (.pair (.slice tVersion) (.pair (.slice tTxn) (.pair (.slice tTxn) (.pair (.int .i64) (.int .i64)))))
abbrev vmb : Type := ((List vaa) × ((List dTxn) × ((List dTxn) × (Int × Int))))
@[reducible] def tEngine : Ty := (.pair tBase (.slice tTxn))
abbrev vbb : Type := (vmb × (List dTxn))
@[reducible] def vy4 : Ty := (.pair (.int .i64) (.pair tTxn (.pair .str (.pair .bool tBase))))
abbrev wtz : Type := (Int × (dTxn × (ByteArray × (Bool × vmb))))
@[reducible] def wdv : Ty := (.pair (.slice .str) (.slice tPut))
abbrev wt0 : Type := ((List ByteArray) × (List dPut))
@[reducible] def wm4 : Ty := (.pair tEngine wdv)
abbrev wt1 : Type := (vbb × wt0)
end Go.VE
