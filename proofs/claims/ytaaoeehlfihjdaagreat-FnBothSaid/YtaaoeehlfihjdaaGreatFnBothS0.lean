/- The seat: its types; written by gen.py. -/
import Derived.Test.YtaaoeehlfihjdaaGreatFnBothN
import Derived.Test.YtaaoeehlfihjdaaGreatProg
import Derived.KernelRfl
import Derived.Test.YtaaoeehlfihjdaaGreatFnBothI
namespace Go.VE
open Go.Proofs Go.Proofs.Tryz
noncomputable section
set_option linter.unusedVariables false
set_option linter.unusedSimpArgs false
set_option maxRecDepth 100000
def tab:List TInfo:=[
 ⟨2,false,(.int .i64),[]⟩,
 ⟨3,false,(.int .i64),[]⟩,
 ⟨4,false,.bool,[]⟩,
 ⟨5,false,(.int .u8),[]⟩,
 ⟨6,false,(.int .u8),[]⟩,
 ⟨7,true,(.pair (.int .i64) (.pair (.int .i64) (.pair .bool (.int .u8)))),[(0,false,(.int .i64)),(1,false,(.int .i64)),(2,false,.bool),(3,false,(.int .u8))]⟩,
 ⟨8,true,(.pair (.int .i64) (.pair (.int .i64) (.pair .bool (.int .u8)))),[(0,false,(.int .i64)),(1,false,(.int .i64)),(2,false,.bool),(3,false,(.int .u8))]⟩,
 ⟨9,false,.str,[]⟩,
 ⟨10,false,.str,[]⟩,
 ⟨11,false,.str,[]⟩,
 ⟨12,false,(.int .u64),[]⟩,
 ⟨13,true,(.pair .str (.int .u64)),[(0,false,.str),(1,false,(.int .u64))]⟩,
 ⟨14,true,(.pair .str (.int .u64)),[(0,false,.str),(1,false,(.int .u64))]⟩,
 ⟨21,false,(.int .i32),[]⟩,
 ⟨22,false,(.slice tVersion),[]⟩,
 ⟨23,false,(.slice tTxn),[]⟩,
 ⟨24,true,tBase,[(0,false,(.slice tVersion)),(1,false,(.slice tTxn)),(2,false,(.slice tTxn)),(3,false,(.int .i64)),(4,false,(.int .i64))]⟩,
 ⟨25,true,tBase,[(0,false,(.slice tVersion)),(1,false,(.slice tTxn)),(2,false,(.slice tTxn)),(3,false,(.int .i64)),(4,false,(.int .i64))]⟩,
 ⟨26,false,(.slice tRange),[]⟩,
 ⟨27,false,(.slice tWrite),[]⟩,
 ⟨28,true,tTxn,[(0,false,(.int .i64)),(1,false,(.int .i64)),(2,false,(.int .i64)),(3,false,(.int .i64)),(4,false,(.slice tRange)),(5,false,(.slice tWrite)),(6,false,.bool),(7,false,.str)]⟩,
 ⟨29,true,tTxn,[(0,false,(.int .i64)),(1,false,(.int .i64)),(2,false,(.int .i64)),(3,false,(.int .i64)),(4,false,(.slice tRange)),(5,false,(.slice tWrite)),(6,false,.bool),(7,false,.str)]⟩,
 ⟨30,true,v2y,[(0,false,(.int .i64)),(1,true,tTxn),(9,false,.str),(10,false,.bool),(11,true,tBase)]⟩,
 ⟨31,true,v2y,[(0,false,(.int .i64)),(1,true,tTxn),(9,false,.str),(10,false,.bool),(11,true,tBase)]⟩,
 ⟨34,false,(.slice tVersion),[]⟩,
 ⟨35,false,(.slice tTxn),[]⟩,
 ⟨36,true,tBase,[(0,false,(.slice tVersion)),(1,false,(.slice tTxn)),(2,false,(.slice tTxn)),(3,false,(.int .i64)),(4,false,(.int .i64))]⟩,
 ⟨37,true,tBase,[(0,false,(.slice tVersion)),(1,false,(.slice tTxn)),(2,false,(.slice tTxn)),(3,false,(.int .i64)),(4,false,(.int .i64))]⟩,
 ⟨41,false,(.slice tRange),[]⟩,
 ⟨42,false,(.slice tWrite),[]⟩,
 ⟨43,true,tTxn,[(0,false,(.int .i64)),(1,false,(.int .i64)),(2,false,(.int .i64)),(3,false,(.int .i64)),(4,false,(.slice tRange)),(5,false,(.slice tWrite)),(6,false,.bool),(7,false,.str)]⟩,
 ⟨44,true,tTxn,[(0,false,(.int .i64)),(1,false,(.int .i64)),(2,false,(.int .i64)),(3,false,(.int .i64)),(4,false,(.slice tRange)),(5,false,(.slice tWrite)),(6,false,.bool),(7,false,.str)]⟩,
 ⟨45,true,v2y,[(0,false,(.int .i64)),(1,true,tTxn),(9,false,.str),(10,false,.bool),(11,true,tBase)]⟩,
 ⟨46,true,v2y,[(0,false,(.int .i64)),(1,true,tTxn),(9,false,.str),(10,false,.bool),(11,true,tBase)]⟩,
 ⟨53,false,(.slice (.int .u8)),[]⟩,
 ⟨55,false,(.slice (.int .i64)),[]⟩,
 ⟨57,true,tEngine,[(0,true,tBase),(5,false,(.slice tTxn))]⟩,
 ⟨58,true,tEngine,[(0,true,tBase),(5,false,(.slice tTxn))]⟩,
 ⟨62,false,(.slice .str),[]⟩,
 ⟨67,true,tWrite,[(0,false,.str),(1,false,.str),(2,false,.bool)]⟩,
 ⟨68,true,tWrite,[(0,false,.str),(1,false,.str),(2,false,.bool)]⟩,
 ⟨90,false,(.slice tRange),[]⟩,
 ⟨92,true,tRange,[(0,false,.str),(1,false,.str)]⟩,
 ⟨93,true,tRange,[(0,false,.str),(1,false,.str)]⟩,
 ⟨139,true,tVersion,[(0,false,.str),(1,false,.str),(2,false,.bool),(3,false,(.int .i64))]⟩,
 ⟨140,true,tVersion,[(0,false,.str),(1,false,.str),(2,false,.bool),(3,false,(.int .i64))]⟩,
 ⟨144,true,tRange,[(0,false,.str),(1,false,.str)]⟩,
 ⟨145,true,tRange,[(0,false,.str),(1,false,.str)]⟩,
 ⟨151,true,tVersion,[(0,false,.str),(1,false,.str),(2,false,.bool),(3,false,(.int .i64))]⟩,
 ⟨164,true,(.pair (.slice (.int .u8)) (.pair (.int .i64) (.int .i64))),[(0,false,(.slice (.int .u8))),(1,false,(.int .i64)),(2,false,(.int .i64))]⟩,
 ⟨165,true,(.pair (.slice (.int .u8)) (.pair (.int .i64) (.int .i64))),[(0,false,(.slice (.int .u8))),(1,false,(.int .i64)),(2,false,(.int .i64))]⟩,
 ⟨166,false,(.int .u64),[]⟩,
 ⟨171,false,(.slice (.slice tTxn)),[]⟩,
 ⟨175,false,(.slice tPut),[]⟩,
 ⟨176,true,wl5,[(0,false,(.slice .str)),(1,false,(.slice tPut))]⟩,
 ⟨177,true,wl5,[(0,false,(.slice .str)),(1,false,(.slice tPut))]⟩,
 ⟨178,true,wul,[(0,true,tEngine),(6,true,wl5)]⟩,
 ⟨179,true,wul,[(0,true,tEngine),(6,true,wl5)]⟩,
 ⟨193,true,tRange,[(0,false,.str),(1,false,.str)]⟩,
 ⟨195,true,tWrite,[(0,false,.str),(1,false,.str),(2,false,.bool)]⟩,
 ⟨254,false,(.int .u32),[]⟩,
 ⟨261,true,(.pair .str (.pair (.int .i64) .bool)),[(0,false,.str),(1,false,(.int .i64)),(2,false,.bool)]⟩,
 ⟨262,true,(.pair .str (.pair (.int .i64) .bool)),[(0,false,.str),(1,false,(.int .i64)),(2,false,.bool)]⟩,
 ⟨271,true,tPut,[(0,false,(.int .i64)),(1,false,.str)]⟩,
 ⟨272,true,tPut,[(0,false,(.int .i64)),(1,false,.str)]⟩,
 ⟨288,false,(.int .u8),[]⟩,
 ⟨289,false,(.int .u8),[]⟩,
 ⟨292,false,(.int .i32),[]⟩,
 ⟨293,false,(.int .i32),[]⟩]
def eqs:List (Nat×Ty):=[(93,tRange)]
def inp:List Nat:=[16,17,72,73,74,101,145,146,164,184,197]
def ones:List Nat:=[1,15,16,17,32,33,39,40,47,48,49,50,51,52,54,56,59,61,64,66,70,71,72,73,74,75,76,77,79,81,82,83,85,86,87,88,89,91,94,95,97,98,100,101,102,103,104,105,106,107,108,109,110,111,112,113,114,115,116,117,118,119,120,121,122,123,125,126,127,128,129,130,131,132,133,134,135,136,137,138,141,142,143,146,147,148,149,150,152,153,154,155,156,157,158,159,160,161,162,163,167,168,169,170,172,173,174,180,181,182,183,184,185,186,187,188,189,190,191,192,194,196,197,198,199,200,201,202,203,204,205,206,207,208,209,210,211,212,213,214,216,217,218,219,221,222,224,225,226,227,228,229,230,231,232,233,234,235,236,237,238,239,240,241,242,243,244,245,246,247,248,249,251,252,253,255,256,257,259,260,263,264,266,268,269,270,273,274,275,276,278,279,280,282,290,291]
theorem wxk:tab.all (v8a prog)=true:=by kernel_rfl
theorem wx0:eqs.all (fun p=>wk6 prog p.1 p.2)=true:=by kernel_rfl
theorem wv5:v6m tab eqs=true:=by kernel_rfl
theorem wsm:ones.all (v4w prog)=true:=by kernel_rfl
theorem follows:prog.follows .mixedOrders=true:=by kernel_rfl
def G0:Glob:=w0l tab eqs inp ones
theorem G0_ok:GlobOk prog G0:=wsq wxk wx0 wv5 wsm
end
end Go.VE
