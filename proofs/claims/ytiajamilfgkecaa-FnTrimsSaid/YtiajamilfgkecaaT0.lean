/- The kinds of data of this program. -/
import Derived.Test.YtiajamilfgkecaaU25
namespace Go.VE
set_option linter.unusedVariables false
@[reducible] def tRange:Ty:=(.pair .str .str)
abbrev vam:Type:=(ByteArray×ByteArray)
@[reducible] def tWrite:Ty:=(.pair .str (.pair .str .bool))
abbrev va3:Type:=(ByteArray×(ByteArray×Bool))
@[reducible] def tVersion:Ty:=(.pair .str (.pair .str (.pair .bool (.int .i64))))
abbrev vaa:Type:=(ByteArray×(ByteArray×(Bool×Int)))
@[reducible] def tPut:Ty:=(.pair (.int .i64) .str)
abbrev dPut:Type:=(Int×ByteArray)
@[reducible] def tTxn:Ty:=(.pair (.int .i64) (.pair (.int .i64) (.pair (.int .i64) (.pair (.int .i64) (.pair (.slice tRange) (.pair (.slice tWrite) (.pair .bool .str)))))))
abbrev dTxn:Type:=(Int×(Int×(Int×(Int×((List vam)×((List va3)×(Bool×ByteArray)))))))
@[reducible] def vpv:Ty:=(.pair (.slice tVersion) (.pair (.slice tTxn) (.pair (.slice tTxn) (.pair (.int .i64) (.int .i64)))))
abbrev wdk:Type:=((List vaa)×((List dTxn)×((List dTxn)×(Int×Int))))
@[reducible] def vo6:Ty:=(.pair vpv (.slice tTxn))
abbrev wcu:Type:=(wdk×(List dTxn))
@[reducible] def wfv:Ty:=(.pair (.int .i64) (.pair tTxn (.pair .str (.pair .bool vpv))))
abbrev wfs:Type:=(Int×(dTxn×(ByteArray×(Bool×wdk))))
@[reducible] def wfw:Ty:=(.pair (.slice .str) (.slice tPut))
abbrev wfr:Type:=((List ByteArray)×(List dPut))
@[reducible] def wf1:Ty:=(.pair vo6 wfw)
abbrev wf0:Type:=(wcu×wfr)
end Go.VE
