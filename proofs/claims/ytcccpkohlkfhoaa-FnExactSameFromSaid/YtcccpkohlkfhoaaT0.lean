/- The kinds of data of this program. -/
import Derived.Test.YtcccpkohlkfhoaaU25
namespace Go.VE
set_option linter.unusedVariables false
@[reducible] def tRange:Ty:=(.pair .str .str)
abbrev vam:Type:=(ByteArray×ByteArray)
@[reducible] def vnn:Ty:=(.pair .str (.pair .str .bool))
abbrev v2o:Type:=(ByteArray×(ByteArray×Bool))
@[reducible] def tVersion:Ty:=(.pair .str (.pair .str (.pair .bool (.int .i64))))
abbrev vaa:Type:=(ByteArray×(ByteArray×(Bool×Int)))
@[reducible] def tPut:Ty:=(.pair (.int .i64) .str)
abbrev dPut:Type:=(Int×ByteArray)
@[reducible] def tTxn:Ty:=(.pair (.int .i64) (.pair (.int .i64) (.pair (.int .i64) (.pair (.int .i64) (.pair (.slice tRange) (.pair (.slice vnn) (.pair .bool .str)))))))
abbrev dTxn:Type:=(Int×(Int×(Int×(Int×((List vam)×((List v2o)×(Bool×ByteArray)))))))
@[reducible] def vvg:Ty:=(.pair (.slice tVersion) (.pair (.slice tTxn) (.pair (.slice tTxn) (.pair (.int .i64) (.int .i64)))))
abbrev v3r:Type:=((List vaa)×((List dTxn)×((List dTxn)×(Int×Int))))
@[reducible] def vlk:Ty:=(.pair vvg (.slice tTxn))
abbrev v2b:Type:=(v3r×(List dTxn))
@[reducible] def v32:Ty:=(.pair (.int .i64) (.pair tTxn (.pair .str (.pair .bool vvg))))
abbrev v3x:Type:=(Int×(dTxn×(ByteArray×(Bool×v3r))))
@[reducible] def vyh:Ty:=(.pair (.slice .str) (.slice tPut))
abbrev v33:Type:=((List ByteArray)×(List dPut))
@[reducible] def v1e:Ty:=(.pair vlk vyh)
abbrev v35:Type:=(v2b×v33)
end Go.VE
