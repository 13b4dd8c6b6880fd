/- The kinds of data of this program. -/
import Derived.Test.YtpljjegocfmbeaaGreatX2
namespace Go.VE
set_option linter.unusedVariables false

@[reducible] def tRange : Ty := (.pair .str .str)
abbrev dRange : Type := (ByteArray × ByteArray)
@[reducible] def tWrite : Ty := (.pair .str (.pair .str .bool))
abbrev dWrite : Type := (ByteArray × (ByteArray × Bool))
@[reducible] def tVersion : Ty := (.pair .str (.pair .str (.pair .bool (.int .i64))))
abbrev dVersion : Type := (ByteArray × (ByteArray × (Bool × Int)))
@[reducible] def tPut : Ty := (.pair (.int .i64) .str)
abbrev dPut : Type := (Int × ByteArray)
@[reducible] def tTxn : Ty := (.pair (.int .i64) (.pair (.int .i64) (.pair (.int .i64) (.pair (.int .i64) (.pair (.slice tRange) (.pair (.slice tWrite) (.pair .bool .str)))))))
abbrev dTxn : Type := (Int × (Int × (Int × (Int × ((List dRange) × ((List dWrite) × (Bool × ByteArray)))))))
@[reducible] def tBase : Ty := (.pair (.slice tVersion) (.pair (.slice tTxn) (.pair (.slice tTxn) (.pair (.int .i64) (.int .i64)))))
abbrev dBase : Type := ((List dVersion) × ((List dTxn) × ((List dTxn) × (Int × Int))))
@[reducible] def tEngine : Ty := (.pair tBase (.slice tTxn))
abbrev dEngine : Type := (dBase × (List dTxn))
@[reducible] def tRecord : Ty := (.pair (.int .i64) (.pair tTxn (.pair .str (.pair .bool tBase))))
abbrev dRecord : Type := (Int × (dTxn × (ByteArray × (Bool × dBase))))
@[reducible] def tDisk : Ty := (.pair (.slice .str) (.slice tPut))
abbrev dDisk : Type := ((List ByteArray) × (List dPut))
@[reducible] def tStore : Ty := (.pair tEngine tDisk)
abbrev dStore : Type := (dEngine × dDisk)
def zTxn : dTxn := Ty.zero tTxn
def zVersion : dVersion := Ty.zero tVersion
def zWrite : dWrite := Ty.zero tWrite
def zRange : dRange := Ty.zero tRange
def zPut : dPut := Ty.zero tPut
def zStr : ByteArray := Ty.zero .str

end Go.VE
