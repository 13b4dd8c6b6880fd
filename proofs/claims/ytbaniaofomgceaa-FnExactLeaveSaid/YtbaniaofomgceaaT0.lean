/- The kinds of data of this program. -/
import Derived.Test.YtbaniaofomgceaaU25
namespace Go.VE
set_option linter.unusedVariables false
@[reducible] def tRange:Ty:=(.pair .str .str)
abbrev vam:Type:=(ByteArray×ByteArray)
@[reducible] def tWrite:Ty:=(.pair .str (.pair .str .bool))
abbrev val:Type:=(ByteArray×(ByteArray×Bool))
@[reducible] def tVersion:Ty:=(.pair .str (.pair .str (.pair .bool (.int .i64))))
abbrev vaa:Type:=(ByteArray×(ByteArray×(Bool×Int)))
@[reducible] def tPut:Ty:=(.pair (.int .i64) .str)
abbrev dPut:Type:=(Int×ByteArray)
@[reducible] def tTxn:Ty:=(.pair (.int .i64) (.pair (.int .i64) (.pair (.int .i64) (.pair (.int .i64) (.pair (.slice tRange) (.pair (.slice tWrite) (.pair .bool .str)))))))
abbrev dTxn:Type:=(Int×(Int×(Int×(Int×((List vam)×((List val)×(Bool×ByteArray)))))))
@[reducible] def tBase:Ty:=(.pair (.slice tVersion) (.pair (.slice tTxn) (.pair (.slice tTxn) (.pair (.int .i64) (.int .i64)))))
abbrev vc9:Type:=((List vaa)×((List dTxn)×((List dTxn)×(Int×Int))))
@[reducible] def tEngine:Ty:=(.pair tBase (.slice tTxn))
abbrev va7:Type:=(vc9×(List dTxn))
@[reducible] def wmn:Ty:=(.pair (.int .i64) (.pair tTxn (.pair .str (.pair .bool tBase))))
abbrev wmm:Type:=(Int×(dTxn×(ByteArray×(Bool×vc9))))
@[reducible] def wml:Ty:=(.pair (.slice .str) (.slice tPut))
abbrev wmj:Type:=((List ByteArray)×(List dPut))
@[reducible] def wmp:Ty:=(.pair tEngine wml)
abbrev wmq:Type:=(va7×wmj)
end Go.VE
