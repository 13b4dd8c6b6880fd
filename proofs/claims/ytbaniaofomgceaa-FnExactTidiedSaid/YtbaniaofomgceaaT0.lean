/- The kinds of data of this program. -/
import Derived.Test.YtbaniaofomgceaaU25
namespace Go.VE
set_option linter.unusedVariables false
@[reducible] def tRange:Ty:=(.pair .str .str)
abbrev vaj:Type:=(ByteArray×ByteArray)
@[reducible] def tWrite:Ty:=(.pair .str (.pair .str .bool))
abbrev vak:Type:=(ByteArray×(ByteArray×Bool))
@[reducible] def tVersion:Ty:=(.pair .str (.pair .str (.pair .bool (.int .i64))))
abbrev vaa:Type:=(ByteArray×(ByteArray×(Bool×Int)))
@[reducible] def tPut:Ty:=(.pair (.int .i64) .str)
abbrev dPut:Type:=(Int×ByteArray)
@[reducible] def tTxn:Ty:=(.pair (.int .i64) (.pair (.int .i64) (.pair (.int .i64) (.pair (.int .i64) (.pair (.slice tRange) (.pair (.slice tWrite) (.pair .bool .str)))))))
abbrev dTxn:Type:=(Int×(Int×(Int×(Int×((List vaj)×((List vak)×(Bool×ByteArray)))))))
@[reducible] def tBase:Ty:=(.pair (.slice tVersion) (.pair (.slice tTxn) (.pair (.slice tTxn) (.pair (.int .i64) (.int .i64)))))
abbrev vcn:Type:=((List vaa)×((List dTxn)×((List dTxn)×(Int×Int))))
@[reducible] def vpd:Ty:=(.pair tBase (.slice tTxn))
abbrev wdu:Type:=(vcn×(List dTxn))
@[reducible] def wg5:Ty:=(.pair (.int .i64) (.pair tTxn (.pair .str (.pair .bool tBase))))
abbrev wha:Type:=(Int×(dTxn×(ByteArray×(Bool×vcn))))
@[reducible] def wg6:Ty:=(.pair (.slice .str) (.slice tPut))
abbrev wg9:Type:=((List ByteArray)×(List dPut))
@[reducible] def whd:Ty:=(.pair vpd wg6)
abbrev whb:Type:=(wdu×wg9)
end Go.VE
