/- The kinds of data of this program. -/
import Derived.Test.YtbaniaofomgceaaU25
namespace Go.VE
set_option linter.unusedVariables false
@[reducible] def tRange:Ty:=(.pair .str .str)
abbrev vak:Type:=(ByteArray×ByteArray)
@[reducible] def tWrite:Ty:=(.pair .str (.pair .str .bool))
abbrev vai:Type:=(ByteArray×(ByteArray×Bool))
@[reducible] def tVersion:Ty:=(.pair .str (.pair .str (.pair .bool (.int .i64))))
abbrev vaa:Type:=(ByteArray×(ByteArray×(Bool×Int)))
@[reducible] def tPut:Ty:=(.pair (.int .i64) .str)
abbrev dPut:Type:=(Int×ByteArray)
@[reducible] def tTxn:Ty:=(.pair (.int .i64) (.pair (.int .i64) (.pair (.int .i64) (.pair (.int .i64) (.pair (.slice tRange) (.pair (.slice tWrite) (.pair .bool .str)))))))
abbrev dTxn:Type:=(Int×(Int×(Int×(Int×((List vak)×((List vai)×(Bool×ByteArray)))))))
@[reducible] def tBase:Ty:=(.pair (.slice tVersion) (.pair (.slice tTxn) (.pair (.slice tTxn) (.pair (.int .i64) (.int .i64)))))
abbrev vdk:Type:=((List vaa)×((List dTxn)×((List dTxn)×(Int×Int))))
@[reducible] def vny:Ty:=(.pair tBase (.slice tTxn))
abbrev v9i:Type:=(vdk×(List dTxn))
@[reducible] def wcf:Ty:=(.pair (.int .i64) (.pair tTxn (.pair .str (.pair .bool tBase))))
abbrev wch:Type:=(Int×(dTxn×(ByteArray×(Bool×vdk))))
@[reducible] def wck:Ty:=(.pair (.slice .str) (.slice tPut))
abbrev wci:Type:=((List ByteArray)×(List dPut))
@[reducible] def wco:Ty:=(.pair vny wck)
abbrev wcq:Type:=(v9i×wci)
end Go.VE
