/- The kinds of data of this program. -/
import Derived.Test.YteolgjmeigifbaaGreatU25
namespace Go.VE
set_option linter.unusedVariables false
@[reducible] def tRange:Ty:=(.pair .str .str)
abbrev vai:Type:=(ByteArray×ByteArray)
@[reducible] def tWrite:Ty:=(.pair .str (.pair .str .bool))
abbrev vag:Type:=(ByteArray×(ByteArray×Bool))
@[reducible] def tVersion:Ty:=(.pair .str (.pair .str (.pair .bool (.int .i64))))
abbrev vaa:Type:=(ByteArray×(ByteArray×(Bool×Int)))
@[reducible] def tPut:Ty:=(.pair (.int .i64) .str)
abbrev dPut:Type:=(Int×ByteArray)
@[reducible] def tTxn:Ty:=(.pair (.int .i64) (.pair (.int .i64) (.pair (.int .i64) (.pair (.int .i64) (.pair (.slice tRange) (.pair (.slice tWrite) (.pair .bool .str)))))))
abbrev dTxn:Type:=(Int×(Int×(Int×(Int×((List vai)×((List vag)×(Bool×ByteArray)))))))
@[reducible] def tBase:Ty:=(.pair (.slice tVersion) (.pair (.slice tTxn) (.pair (.slice tTxn) (.pair (.int .i64) (.int .i64)))))
abbrev vfd:Type:=((List vaa)×((List dTxn)×((List dTxn)×(Int×Int))))
@[reducible] def vsf:Ty:=(.pair tBase (.slice tTxn))
abbrev wz3:Type:=(vfd×(List dTxn))
@[reducible] def tRecord:Ty:=(.pair (.int .i64) (.pair tTxn (.pair .str (.pair .bool tBase))))
abbrev vcd:Type:=(Int×(dTxn×(ByteArray×(Bool×vfd))))
@[reducible] def wmq:Ty:=(.pair (.slice .str) (.slice tPut))
abbrev w4h:Type:=((List ByteArray)×(List dPut))
@[reducible] def wwh:Ty:=(.pair vsf wmq)
abbrev w4j:Type:=(wz3×w4h)
end Go.VE
