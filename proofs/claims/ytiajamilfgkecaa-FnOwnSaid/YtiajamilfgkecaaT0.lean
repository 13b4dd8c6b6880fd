/- The kinds of data of this program. -/
import Derived.Test.YtiajamilfgkecaaU25
namespace Go.VE
set_option linter.unusedVariables false
@[reducible] def tRange : Ty := (.pair .str .str)
abbrev vai : Type := (ByteArray × ByteArray)
@[reducible] def tWrite : Ty := (.pair .str (.pair .str .bool))
abbrev vah : Type := (ByteArray × (ByteArray × Bool))
@[reducible] def tVersion : Ty := (.pair .str (.pair .str (.pair .bool (.int .i64))))
abbrev vaa : Type := (ByteArray × (ByteArray × (Bool × Int)))
@[reducible] def tPut : Ty := (.pair (.int .i64) .str)
abbrev dPut : Type := (Int × ByteArray)
@[reducible] def tTxn : Ty := (.pair (.int .i64) (.pair (.int .i64) (.pair (.int .i64) (.pair (.int .i64) (.pair (.slice tRange) (.pair (.slice tWrite) (.pair .bool .str)))))))
abbrev dTxn : Type := (Int × (Int × (Int × (Int × ((List vai) × ((List vah) × (Bool × ByteArray)))))))
@[reducible] def vnj : Ty := (.pair (.slice tVersion) (.pair (.slice tTxn) (.pair (.slice tTxn) (.pair (.int .i64) (.int .i64)))))
abbrev v7i : Type := ((List vaa) × ((List dTxn) × ((List dTxn) × (Int × Int))))
@[reducible] def vm2 : Ty := (.pair vnj (.slice tTxn))
abbrev v6n : Type := (v7i × (List dTxn))
@[reducible] def v81 : Ty := (.pair (.int .i64) (.pair tTxn (.pair .str (.pair .bool vnj))))
abbrev v87 : Type := (Int × (dTxn × (ByteArray × (Bool × v7i))))
@[reducible] def v85 : Ty := (.pair (.slice .str) (.slice tPut))
abbrev v83 : Type := ((List ByteArray) × (List dPut))
@[reducible] def v9d : Ty := (.pair vm2 v85)
abbrev v9b : Type := (v6n × v83)
end Go.VE
