/- The kinds of data of this program. -/
import Derived.Test.YtiajamilfgkecaaU25
namespace Go.VE
set_option linter.unusedVariables false
@[reducible] def tRange : Ty := (.pair .str .str)
abbrev vca : Type := (ByteArray × ByteArray)
@[reducible] def tWrite : Ty := (.pair .str (.pair .str .bool))
abbrev vak : Type := (ByteArray × (ByteArray × Bool))
@[reducible] def tVersion : Ty := (.pair .str (.pair .str (.pair .bool (.int .i64))))
abbrev vaa : Type := (ByteArray × (ByteArray × (Bool × Int)))
@[reducible] def tPut : Ty := (.pair (.int .i64) .str)
abbrev dPut : Type := (Int × ByteArray)
@[reducible] def tTxn : Ty := (.pair (.int .i64) (.pair (.int .i64) (.pair (.int .i64) (.pair (.int .i64) (.pair (.slice tRange) (.pair (.slice tWrite) (.pair .bool .str)))))))
abbrev dTxn : Type := (Int × (Int × (Int × (Int × ((List vca) × ((List vak) × (Bool × ByteArray)))))))
@[reducible] def vm4 : Ty := (.pair (.slice tVersion) (.pair (.slice tTxn) (.pair (.slice tTxn) (.pair (.int .i64) (.int .i64)))))
abbrev v8e : Type := ((List vaa) × ((List dTxn) × ((List dTxn) × (Int × Int))))
@[reducible] def vlk : Ty := (.pair vm4 (.slice tTxn))
abbrev v52 : Type := (v8e × (List dTxn))
@[reducible] def v81 : Ty := (.pair (.int .i64) (.pair tTxn (.pair .str (.pair .bool vm4))))
abbrev v8y : Type := (Int × (dTxn × (ByteArray × (Bool × v8e))))
@[reducible] def v80 : Ty := (.pair (.slice .str) (.slice tPut))
abbrev v8z : Type := ((List ByteArray) × (List dPut))
@[reducible] def v83 : Ty := (.pair vlk v80)
abbrev v87 : Type := (v52 × v8z)
end Go.VE
