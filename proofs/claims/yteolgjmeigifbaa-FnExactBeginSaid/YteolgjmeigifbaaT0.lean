/- The kinds of data of this program. -/
import Derived.Test.YteolgjmeigifbaaU25
namespace Go.VE
set_option linter.unusedVariables false
@[reducible] def tRange : Ty := (.pair .str .str)
abbrev van : Type := (ByteArray × ByteArray)
@[reducible] def tWrite : Ty := (.pair .str (.pair .str .bool))
abbrev vaj : Type := (ByteArray × (ByteArray × Bool))
@[reducible] def tVersion : Ty := (.pair .str (.pair .str (.pair .bool (.int .i64))))
abbrev vac : Type := (ByteArray × (ByteArray × (Bool × Int)))
@[reducible] def tPut : Ty := (.pair (.int .i64) .str)
abbrev dPut : Type := (Int × ByteArray)
@[reducible] def tTxn : Ty := (.pair (.int .i64) (.pair (.int .i64) (.pair (.int .i64) (.pair (.int .i64) (.pair (.slice tRange) (.pair (.slice tWrite) (.pair .bool .str)))))))
abbrev dTxn : Type := (Int × (Int × (Int × (Int × ((List van) × ((List vaj) × (Bool × ByteArray)))))))
@[reducible] def tBase : Ty := (.pair (.slice tVersion) (.pair (.slice tTxn) (.pair (.slice tTxn) (.pair (.int .i64) (.int .i64)))))
abbrev vha : Type := ((List vac) × ((List dTxn) × ((List dTxn) × (Int × Int))))
@[reducible] def tEngine : Ty := (.pair tBase (.slice tTxn))
abbrev va7 : Type := (vha × (List dTxn))
@[reducible] def v2k : Ty := (.pair (.int .i64) (.pair tTxn (.pair .str (.pair .bool tBase))))
abbrev w3y : Type := (Int × (dTxn × (ByteArray × (Bool × vha))))
@[reducible] def w3z : Ty := (.pair (.slice .str) (.slice tPut))
abbrev w30 : Type := ((List ByteArray) × (List dPut))
@[reducible] def w34 : Ty := (.pair tEngine w3z)
abbrev w35 : Type := (va7 × w30)
end Go.VE
