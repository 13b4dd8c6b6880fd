/- The kinds of data of this program. -/
import Derived.Test.YtiajamilfgkecaaU25
namespace Go.VE
set_option linter.unusedVariables false
@[reducible] def ver : Ty := (.pair .str .str)
abbrev v1x : Type := (ByteArray × ByteArray)
@[reducible] def tWrite : Ty := (.pair .str (.pair .str .bool))
abbrev vad : Type := (ByteArray × (ByteArray × Bool))
@[reducible] def tVersion : Ty := (.pair .str (.pair .str (.pair .bool (.int .i64))))
abbrev vaa : Type := (ByteArray × (ByteArray × (Bool × Int)))
@[reducible] def tPut : Ty := (.pair (.int .i64) .str)
abbrev dPut : Type := (Int × ByteArray)
@[reducible] def tTxn : Ty := (.pair (.int .i64) (.pair (.int .i64) (.pair (.int .i64) (.pair (.int .i64) (.pair (.slice ver) (.pair (.slice tWrite) (.pair .bool .str)))))))
abbrev dTxn : Type := (Int × (Int × (Int × (Int × ((List v1x) × ((List vad) × (Bool × ByteArray)))))))
@[reducible] def vmc : Ty := (.pair (.slice tVersion) (.pair (.slice tTxn) (.pair (.slice tTxn) (.pair (.int .i64) (.int .i64)))))
abbrev v1n : Type := ((List vaa) × ((List dTxn) × ((List dTxn) × (Int × Int))))
@[reducible] def vlk : Ty := (.pair vmc (.slice tTxn))
abbrev v0p : Type := (v1n × (List dTxn))
@[reducible] def v2u : Ty := (.pair (.int .i64) (.pair tTxn (.pair .str (.pair .bool vmc))))
abbrev v2y : Type := (Int × (dTxn × (ByteArray × (Bool × v1n))))
@[reducible] def v2w : Ty := (.pair (.slice .str) (.slice tPut))
abbrev v2t : Type := ((List ByteArray) × (List dPut))
@[reducible] def v21 : Ty := (.pair vlk v2w)
abbrev v22 : Type := (v0p × v2t)
end Go.VE
