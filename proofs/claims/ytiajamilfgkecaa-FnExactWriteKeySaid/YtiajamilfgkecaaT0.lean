/- The kinds of data of this program. -/
import Derived.Test.YtiajamilfgkecaaU25
namespace Go.VE
set_option linter.unusedVariables false
@[reducible] def tRange : Ty := (.pair .str .str)
abbrev vab : Type := (ByteArray × ByteArray)
@[reducible] def tWrite : Ty := (.pair .str (.pair .str .bool))
abbrev vaa : Type := (ByteArray × (ByteArray × Bool))
@[reducible] def vc4 : Ty := (.pair .str (.pair .str (.pair .bool (.int .i64))))
abbrev v4d : Type := (ByteArray × (ByteArray × (Bool × Int)))
@[reducible] def tPut : Ty := (.pair (.int .i64) .str)
abbrev dPut : Type := (Int × ByteArray)
@[reducible] def tTxn : Ty := (.pair (.int .i64) (.pair (.int .i64) (.pair (.int .i64) (.pair (.int .i64) (.pair (.slice tRange) (.pair (.slice tWrite) (.pair .bool .str)))))))
abbrev dTxn : Type := (Int × (Int × (Int × (Int × ((List vab) × ((List vaa) × (Bool × ByteArray)))))))
@[reducible] def vpc : Ty := (.pair (.slice vc4) (.pair (.slice tTxn) (.pair (.slice tTxn) (.pair (.int .i64) (.int .i64)))))
abbrev v90 : Type := ((List v4d) × ((List dTxn) × ((List dTxn) × (Int × Int))))
@[reducible] def vnw : Ty := (.pair vpc (.slice tTxn))
abbrev v7t : Type := (v90 × (List dTxn))
@[reducible] def v92 : Ty := (.pair (.int .i64) (.pair tTxn (.pair .str (.pair .bool vpc))))
abbrev v95 : Type := (Int × (dTxn × (ByteArray × (Bool × v90))))
@[reducible] def v96 : Ty := (.pair (.slice .str) (.slice tPut))
abbrev v94 : Type := ((List ByteArray) × (List dPut))
@[reducible] def waa : Ty := (.pair vnw v96)
abbrev v98 : Type := (v7t × v94)
end Go.VE
