/- The kinds of data of this program. -/
import Derived.Test.YteolgjmeigifbaaU25
namespace Go.VE
set_option linter.unusedVariables false
@[reducible] def tRange:Ty:=(.pair .str .str)
abbrev vad:Type:=(ByteArray×ByteArray)
@[reducible] def tWrite:Ty:=(.pair .str (.pair .str .bool))
abbrev vaa:Type:=(ByteArray×(ByteArray×Bool))
@[reducible] def tVersion:Ty:=(.pair .str (.pair .str (.pair .bool (.int .i64))))
abbrev vah:Type:=(ByteArray×(ByteArray×(Bool×Int)))
@[reducible] def tPut:Ty:=(.pair (.int .i64) .str)
abbrev dPut:Type:=(Int×ByteArray)
@[reducible] def tTxn:Ty:=(.pair (.int .i64) (.pair (.int .i64) (.pair (.int .i64) (.pair (.int .i64) (.pair (.slice tRange) (.pair (.slice tWrite) (.pair .bool .str)))))))
abbrev dTxn:Type:=(Int×(Int×(Int×(Int×((List vad)×((List vaa)×(Bool×ByteArray)))))))
@[reducible] def vog:Ty:=(.pair (.slice tVersion) (.pair (.slice tTxn) (.pair (.slice tTxn) (.pair (.int .i64) (.int .i64)))))
abbrev wq9:Type:=((List vah)×((List dTxn)×((List dTxn)×(Int×Int))))
@[reducible] def vro:Ty:=(.pair vog (.slice tTxn))
abbrev wom:Type:=(wq9×(List dTxn))
@[reducible] def vx0:Ty:=(.pair (.int .i64) (.pair tTxn (.pair .str (.pair .bool vog))))
abbrev wsx:Type:=(Int×(dTxn×(ByteArray×(Bool×wq9))))
@[reducible] def wsz:Ty:=(.pair (.slice .str) (.slice tPut))
abbrev wst:Type:=((List ByteArray)×(List dPut))
@[reducible] def ws3:Ty:=(.pair vro wsz)
abbrev ws5:Type:=(wom×wst)
end Go.VE
