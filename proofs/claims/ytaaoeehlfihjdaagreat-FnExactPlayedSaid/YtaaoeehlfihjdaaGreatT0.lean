/- The kinds of data of this program. -/
import Derived.Test.YtaaoeehlfihjdaaGreatU25
namespace Go.VE
set_option linter.unusedVariables false
@[reducible] def tRange:Ty:=(.pair .str .str)
abbrev vbz:Type:=(ByteArray×ByteArray)
@[reducible] def tWrite:Ty:=(.pair .str (.pair .str .bool))
abbrev vb9:Type:=(ByteArray×(ByteArray×Bool))
@[reducible] def tVersion:Ty:=(.pair .str (.pair .str (.pair .bool (.int .i64))))
abbrev vah:Type:=(ByteArray×(ByteArray×(Bool×Int)))
@[reducible] def tPut:Ty:=(.pair (.int .i64) .str)
abbrev dPut:Type:=(Int×ByteArray)
@[reducible] def tTxn:Ty:=(.pair (.int .i64) (.pair (.int .i64) (.pair (.int .i64) (.pair (.int .i64) (.pair (.slice tRange) (.pair (.slice tWrite) (.pair .bool .str)))))))
abbrev dTxn:Type:=(Int×(Int×(Int×(Int×((List vbz)×((List vb9)×(Bool×ByteArray)))))))
@[reducible] def tBase:Ty:=(.pair (.slice tVersion) (.pair (.slice tTxn) (.pair (.slice tTxn) (.pair (.int .i64) (.int .i64)))))
abbrev va3:Type:=((List vah)×((List dTxn)×((List dTxn)×(Int×Int))))
@[reducible] def v37:Ty:=(.pair tBase (.slice tTxn))
abbrev w85:Type:=(va3×(List dTxn))
@[reducible] def tRecord:Ty:=(.pair (.int .i64) (.pair tTxn (.pair .str (.pair .bool tBase))))
abbrev vcg:Type:=(Int×(dTxn×(ByteArray×(Bool×va3))))
@[reducible] def wu6:Ty:=(.pair (.slice .str) (.slice tPut))
abbrev xc6:Type:=((List ByteArray)×(List dPut))
@[reducible] def w4j:Ty:=(.pair v37 wu6)
abbrev xc9:Type:=(w85×xc6)
end Go.VE
