/- The kinds of data of this program. -/
import Derived.Test.YtcccpkohlkfhoaaU25
namespace Go.VE
set_option linter.unusedVariables false
@[reducible] def tRange:Ty:=(.pair .str .str)
abbrev vbx:Type:=(ByteArray×ByteArray)
@[reducible] def tWrite:Ty:=(.pair .str (.pair .str .bool))
abbrev vbw:Type:=(ByteArray×(ByteArray×Bool))
@[reducible] def tVersion:Ty:=(.pair .str (.pair .str (.pair .bool (.int .i64))))
abbrev vaf:Type:=(ByteArray×(ByteArray×(Bool×Int)))
@[reducible] def tPut:Ty:=(.pair (.int .i64) .str)
abbrev dPut:Type:=(Int×ByteArray)
@[reducible] def tTxn:Ty:=(.pair (.int .i64) (.pair (.int .i64) (.pair (.int .i64) (.pair (.int .i64) (.pair (.slice tRange) (.pair (.slice tWrite) (.pair .bool .str)))))))
abbrev dTxn:Type:=(Int×(Int×(Int×(Int×((List vbx)×((List vbw)×(Bool×ByteArray)))))))
@[reducible] def tBase:Ty:=(.pair (.slice tVersion) (.pair (.slice tTxn) (.pair (.slice tTxn) (.pair (.int .i64) (.int .i64)))))
abbrev vqu:Type:=((List vaf)×((List dTxn)×((List dTxn)×(Int×Int))))
@[reducible] def tEngine:Ty:=(.pair tBase (.slice tTxn))
abbrev vhe:Type:=(vqu×(List dTxn))
@[reducible] def v7f:Ty:=(.pair (.int .i64) (.pair tTxn (.pair .str (.pair .bool tBase))))
abbrev v7j:Type:=(Int×(dTxn×(ByteArray×(Bool×vqu))))
@[reducible] def vzt:Ty:=(.pair (.slice .str) (.slice tPut))
abbrev vsl:Type:=((List ByteArray)×(List dPut))
@[reducible] def v2u:Ty:=(.pair tEngine vzt)
abbrev vm4:Type:=(vhe×vsl)
end Go.VE
