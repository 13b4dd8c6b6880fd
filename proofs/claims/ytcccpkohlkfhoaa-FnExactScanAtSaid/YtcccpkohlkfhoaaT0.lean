/- The kinds of data of this program. -/
import Derived.Test.YtcccpkohlkfhoaaU25
namespace Go.VE
set_option linter.unusedVariables false
@[reducible] def tRange:Ty:=(.pair .str .str)
abbrev vaf:Type:=(ByteArray×ByteArray)
@[reducible] def vnr:Ty:=(.pair .str (.pair .str .bool))
abbrev v2t:Type:=(ByteArray×(ByteArray×Bool))
@[reducible] def tVersion:Ty:=(.pair .str (.pair .str (.pair .bool (.int .i64))))
abbrev vaa:Type:=(ByteArray×(ByteArray×(Bool×Int)))
@[reducible] def tPut:Ty:=(.pair (.int .i64) .str)
abbrev dPut:Type:=(Int×ByteArray)
@[reducible] def tTxn:Ty:=(.pair (.int .i64) (.pair (.int .i64) (.pair (.int .i64) (.pair (.int .i64) (.pair (.slice tRange) (.pair (.slice vnr) (.pair .bool .str)))))))
abbrev dTxn:Type:=(Int×(Int×(Int×(Int×((List vaf)×((List v2t)×(Bool×ByteArray)))))))
@[reducible] def vu9:Ty:=(.pair (.slice tVersion) (.pair (.slice tTxn) (.pair (.slice tTxn) (.pair (.int .i64) (.int .i64)))))
abbrev v2m:Type:=((List vaa)×((List dTxn)×((List dTxn)×(Int×Int))))
@[reducible] def vlb:Ty:=(.pair vu9 (.slice tTxn))
abbrev v1n:Type:=(v2m×(List dTxn))
@[reducible] def v3u:Ty:=(.pair (.int .i64) (.pair tTxn (.pair .str (.pair .bool vu9))))
abbrev v3z:Type:=(Int×(dTxn×(ByteArray×(Bool×v2m))))
@[reducible] def vw5:Ty:=(.pair (.slice .str) (.slice tPut))
abbrev v3y:Type:=((List ByteArray)×(List dPut))
@[reducible] def v0p:Ty:=(.pair vlb vw5)
abbrev v32:Type:=(v1n×v3y)
end Go.VE
