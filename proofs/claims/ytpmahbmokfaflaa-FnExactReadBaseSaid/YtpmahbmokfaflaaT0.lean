/- The kinds of data of this program. -/
import Derived.Test.YtpmahbmokfaflaaU25
namespace Go.VE
set_option linter.unusedVariables false
@[reducible] def tRange : Ty := (.pair .str .str)
abbrev van : Type := (ByteArray × ByteArray)
@[reducible] def tWrite : Ty := (.pair .str (.pair .str .bool))
abbrev vam : Type := (ByteArray × (ByteArray × Bool))
@[reducible] def tVersion : Ty := (.pair .str (.pair .str (.pair .bool (.int .i64))))
abbrev vac : Type := (ByteArray × (ByteArray × (Bool × Int)))
@[reducible] def tPut : Ty := (.pair (.int .i64) .str)
abbrev dPut : Type := (Int × ByteArray)
@[reducible] def tTxn : Ty := (.pair (.int .i64) (.pair (.int .i64) (.pair (.int .i64) (.pair (.int .i64) (.pair (.slice tRange) (.pair (.slice tWrite) (.pair .bool .str)))))))
abbrev dTxn : Type := (Int × (Int × (Int × (Int × ((List van) × ((List vam) × (Bool × ByteArray)))))))
@[reducible] def tBase : Ty := (.pair (.slice tVersion) (.pair (.slice tTxn) (.pair (.slice tTxn) (.pair (.int .i64) (.int .i64)))))
abbrev vn7 : Type := ((List vac) × ((List dTxn) × ((List dTxn) × (Int × Int))))
@[reducible] def vlg : Ty := (.pair tBase (.slice tTxn))
abbrev wvc : Type := (vn7 × (List dTxn))
@[reducible] def v2x : Ty := (.pair (.int .i64) (.pair tTxn (.pair .str (.pair .bool tBase))))
abbrev w3s : Type := (Int × (dTxn × (ByteArray × (Bool × vn7))))
@[reducible] def v3r : Ty := (.pair (.slice .str) (.slice tPut))
abbrev w3q : Type := ((List ByteArray) × (List dPut))
@[reducible] def wc2 : Ty := (.pair vlg v3r)
abbrev w3w : Type := (wvc × w3q)
end Go.VE
