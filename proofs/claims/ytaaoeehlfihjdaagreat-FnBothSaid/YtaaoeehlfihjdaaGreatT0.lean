/- The kinds of data of this program. -/
import Derived.Test.YtaaoeehlfihjdaaGreatU25
namespace Go.VE
set_option linter.unusedVariables false
@[reducible] def tRange:Ty:=(.pair .str .str)
abbrev vb6:Type:=(ByteArray×ByteArray)
@[reducible] def tWrite:Ty:=(.pair .str (.pair .str .bool))
abbrev vbt:Type:=(ByteArray×(ByteArray×Bool))
@[reducible] def tVersion:Ty:=(.pair .str (.pair .str (.pair .bool (.int .i64))))
abbrev vak:Type:=(ByteArray×(ByteArray×(Bool×Int)))
@[reducible] def tPut:Ty:=(.pair (.int .i64) .str)
abbrev dPut:Type:=(Int×ByteArray)
@[reducible] def tTxn:Ty:=(.pair (.int .i64) (.pair (.int .i64) (.pair (.int .i64) (.pair (.int .i64) (.pair (.slice tRange) (.pair (.slice tWrite) (.pair .bool .str)))))))
abbrev dTxn:Type:=(Int×(Int×(Int×(Int×((List vb6)×((List vbt)×(Bool×ByteArray)))))))
@[reducible] def tBase:Ty:=(.pair (.slice tVersion) (.pair (.slice tTxn) (.pair (.slice tTxn) (.pair (.int .i64) (.int .i64)))))
abbrev vh8:Type:=((List vak)×((List dTxn)×((List dTxn)×(Int×Int))))
@[reducible] def tEngine:Ty:=(.pair tBase (.slice tTxn))
abbrev vbs:Type:=(vh8×(List dTxn))
@[reducible] def v2y:Ty:=(.pair (.int .i64) (.pair tTxn (.pair .str (.pair .bool tBase))))
abbrev w2e:Type:=(Int×(dTxn×(ByteArray×(Bool×vh8))))
@[reducible] def wl5:Ty:=(.pair (.slice .str) (.slice tPut))
abbrev w2i:Type:=((List ByteArray)×(List dPut))
@[reducible] def wul:Ty:=(.pair tEngine wl5)
abbrev w2p:Type:=(vbs×w2i)
end Go.VE
