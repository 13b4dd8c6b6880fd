/- The kinds of data of this program. -/
import Derived.Test.YteolgjmeigifbaaU25
namespace Go.VE
set_option linter.unusedVariables false
@[reducible] def tRange : Ty := (.pair .str .str)
abbrev vag : Type := (ByteArray × ByteArray)
@[reducible] def tWrite : Ty := (.pair .str (.pair .str .bool))
abbrev vaa : Type := (ByteArray × (ByteArray × Bool))
@[reducible] def tVersion : Ty := (.pair .str (.pair .str (.pair .bool (.int .i64))))
abbrev vac : Type := (ByteArray × (ByteArray × (Bool × Int)))
@[reducible] def tPut : Ty := (.pair (.int .i64) .str)
abbrev dPut : Type := (Int × ByteArray)
@[reducible] def tTxn : Ty := (.pair (.int .i64) (.pair (.int .i64) (.pair (.int .i64) (.pair (.int .i64) (.pair (.slice tRange) (.pair (.slice tWrite) (.pair .bool .str)))))))
abbrev dTxn : Type := (Int × (Int × (Int × (Int × ((List vag) × ((List vaa) × (Bool × ByteArray)))))))
@[reducible] def tBase : Ty := (.pair (.slice tVersion) (.pair (.slice tTxn) (.pair (.slice tTxn) (.pair (.int .i64) (.int .i64)))))
abbrev vk6 : Type := ((List vac) × ((List dTxn) × ((List dTxn) × (Int × Int))))
@[reducible] def tEngine : Ty := (.pair tBase (.slice tTxn))
abbrev va8 : Type := (vk6 × (List dTxn))
@[reducible] def vxt : Ty := (.pair (.int .i64) (.pair tTxn (.pair .str (.pair .bool tBase))))
abbrev wlv : Type := (Int × (dTxn × (ByteArray × (Bool × vk6))))
@[reducible] def wlx : Ty := (.pair (.slice .str) (.slice tPut))
abbrev wlu : Type := ((List ByteArray) × (List dPut))
@[reducible] def wly : Ty := (.pair tEngine wlx)
abbrev wl0 : Type := (va8 × wlu)
end Go.VE
