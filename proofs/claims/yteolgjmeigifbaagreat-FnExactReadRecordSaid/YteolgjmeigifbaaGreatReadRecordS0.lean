/- The seat: its types; written by gen.py. -/
import Derived.Test.YteolgjmeigifbaaGreatReadRecordN
import Derived.Test.YteolgjmeigifbaaGreatProg
import Derived.KernelRfl
namespace Go.VE
open Go.Proofs
noncomputable section
set_option linter.unusedVariables false
set_option linter.unusedSimpArgs false
set_option maxRecDepth 100000
def tab:List TInfo:=[
 ⟨2,false,(.int .i64),[]⟩,
 ⟨3,false,(.int .i64),[]⟩,
 ⟨4,false,.bool,[]⟩,
 ⟨5,false,(.int .u8),[]⟩,
 ⟨6,false,(.int .u8),[]⟩,
 ⟨7,true,(.pair (.int .i64) (.pair (.int .i64) (.pair .bool (.int .u8)))),[(0,false,(.int .i64)),(1,false,(.int .i64)),(2,false,.bool),(3,false,(.int .u8))]⟩,
 ⟨8,true,(.pair (.int .i64) (.pair (.int .i64) (.pair .bool (.int .u8)))),[(0,false,(.int .i64)),(1,false,(.int .i64)),(2,false,.bool),(3,false,(.int .u8))]⟩,
 ⟨9,false,.str,[]⟩,
 ⟨10,false,.str,[]⟩,
 ⟨11,false,.str,[]⟩,
 ⟨12,false,(.int .u64),[]⟩,
 ⟨13,true,(.pair .str (.int .u64)),[(0,false,.str),(1,false,(.int .u64))]⟩,
 ⟨14,true,(.pair .str (.int .u64)),[(0,false,.str),(1,false,(.int .u64))]⟩,
 ⟨21,false,(.int .i32),[]⟩,
 ⟨22,false,(.slice tRange),[]⟩,
 ⟨23,false,(.slice tWrite),[]⟩,
 ⟨24,true,tTxn,[(0,false,(.int .i64)),(1,false,(.int .i64)),(2,false,(.int .i64)),(3,false,(.int .i64)),(4,false,(.slice tRange)),(5,false,(.slice tWrite)),(6,false,.bool),(7,false,.str)]⟩,
 ⟨25,true,tTxn,[(0,false,(.int .i64)),(1,false,(.int .i64)),(2,false,(.int .i64)),(3,false,(.int .i64)),(4,false,(.slice tRange)),(5,false,(.slice tWrite)),(6,false,.bool),(7,false,.str)]⟩,
 ⟨26,false,(.slice tVersion),[]⟩,
 ⟨27,false,(.slice tTxn),[]⟩,
 ⟨28,true,tBase,[(0,false,(.slice tVersion)),(1,false,(.slice tTxn)),(2,false,(.slice tTxn)),(3,false,(.int .i64)),(4,false,(.int .i64))]⟩,
 ⟨29,true,tBase,[(0,false,(.slice tVersion)),(1,false,(.slice tTxn)),(2,false,(.slice tTxn)),(3,false,(.int .i64)),(4,false,(.int .i64))]⟩,
 ⟨30,true,tRecord,[(0,false,(.int .i64)),(1,true,tTxn),(9,false,.str),(10,false,.bool),(11,true,tBase)]⟩,
 ⟨31,true,tRecord,[(0,false,(.int .i64)),(1,true,tTxn),(9,false,.str),(10,false,.bool),(11,true,tBase)]⟩,
 ⟨37,false,(.slice tVersion),[]⟩,
 ⟨38,false,(.slice tTxn),[]⟩,
 ⟨39,true,tBase,[(0,false,(.slice tVersion)),(1,false,(.slice tTxn)),(2,false,(.slice tTxn)),(3,false,(.int .i64)),(4,false,(.int .i64))]⟩,
 ⟨40,true,tBase,[(0,false,(.slice tVersion)),(1,false,(.slice tTxn)),(2,false,(.slice tTxn)),(3,false,(.int .i64)),(4,false,(.int .i64))]⟩,
 ⟨41,true,vsf,[(0,true,tBase),(5,false,(.slice tTxn))]⟩,
 ⟨42,true,vsf,[(0,true,tBase),(5,false,(.slice tTxn))]⟩,
 ⟨43,true,tRange,[(0,false,.str),(1,false,.str)]⟩,
 ⟨44,true,tRange,[(0,false,.str),(1,false,.str)]⟩,
 ⟨47,true,vsf,[(0,true,tBase),(5,false,(.slice tTxn))]⟩,
 ⟨48,true,vsf,[(0,true,tBase),(5,false,(.slice tTxn))]⟩,
 ⟨49,false,(.slice tRange),[]⟩,
 ⟨53,true,tRange,[(0,false,.str),(1,false,.str)]⟩,
 ⟨60,false,(.slice tRange),[]⟩,
 ⟨61,false,(.slice tWrite),[]⟩,
 ⟨62,true,tTxn,[(0,false,(.int .i64)),(1,false,(.int .i64)),(2,false,(.int .i64)),(3,false,(.int .i64)),(4,false,(.slice tRange)),(5,false,(.slice tWrite)),(6,false,.bool),(7,false,.str)]⟩,
 ⟨63,true,tTxn,[(0,false,(.int .i64)),(1,false,(.int .i64)),(2,false,(.int .i64)),(3,false,(.int .i64)),(4,false,(.slice tRange)),(5,false,(.slice tWrite)),(6,false,.bool),(7,false,.str)]⟩,
 ⟨64,true,tRecord,[(0,false,(.int .i64)),(1,true,tTxn),(9,false,.str),(10,false,.bool),(11,true,tBase)]⟩,
 ⟨65,true,tRecord,[(0,false,(.int .i64)),(1,true,tTxn),(9,false,.str),(10,false,.bool),(11,true,tBase)]⟩,
 ⟨75,false,(.slice (.int .u8)),[]⟩,
 ⟨101,true,tWrite,[(0,false,.str),(1,false,.str),(2,false,.bool)]⟩,
 ⟨102,true,tWrite,[(0,false,.str),(1,false,.str),(2,false,.bool)]⟩,
 ⟨106,true,(.pair .str (.pair (.int .i64) .bool)),[(0,false,.str),(1,false,(.int .i64)),(2,false,.bool)]⟩,
 ⟨107,true,(.pair .str (.pair (.int .i64) .bool)),[(0,false,.str),(1,false,(.int .i64)),(2,false,.bool)]⟩,
 ⟨116,true,(.pair .str (.pair (.int .i64) .bool)),[(0,false,.str),(1,false,(.int .i64)),(2,false,.bool)]⟩,
 ⟨117,true,(.pair .str (.pair (.int .i64) .bool)),[(0,false,.str),(1,false,(.int .i64)),(2,false,.bool)]⟩,
 ⟨133,true,tRange,[(0,false,.str),(1,false,.str)]⟩,
 ⟨134,true,tRange,[(0,false,.str),(1,false,.str)]⟩,
 ⟨154,true,tVersion,[(0,false,.str),(1,false,.str),(2,false,.bool),(3,false,(.int .i64))]⟩,
 ⟨155,true,tVersion,[(0,false,.str),(1,false,.str),(2,false,.bool),(3,false,(.int .i64))]⟩,
 ⟨161,false,(.slice (.int .i64)),[]⟩,
 ⟨162,false,(.slice .str),[]⟩,
 ⟨168,false,(.int .u32),[]⟩,
 ⟨181,true,(.slice (.int .u8)),[(0,false,(.slice (.int .u8)))]⟩,
 ⟨182,true,(.slice (.int .u8)),[(0,false,(.slice (.int .u8)))]⟩,
 ⟨195,true,tVersion,[(0,false,.str),(1,false,.str),(2,false,.bool),(3,false,(.int .i64))]⟩,
 ⟨202,false,(.slice tPut),[]⟩,
 ⟨203,true,wmq,[(0,false,(.slice .str)),(1,false,(.slice tPut))]⟩,
 ⟨204,true,wmq,[(0,false,(.slice .str)),(1,false,(.slice tPut))]⟩,
 ⟨205,true,wwh,[(0,true,vsf),(6,true,wmq)]⟩,
 ⟨206,true,wwh,[(0,true,vsf),(6,true,wmq)]⟩,
 ⟨208,true,(.pair (.slice (.int .u8)) (.pair (.int .i64) (.int .i64))),[(0,false,(.slice (.int .u8))),(1,false,(.int .i64)),(2,false,(.int .i64))]⟩,
 ⟨209,true,(.pair (.slice (.int .u8)) (.pair (.int .i64) (.int .i64))),[(0,false,(.slice (.int .u8))),(1,false,(.int .i64)),(2,false,(.int .i64))]⟩,
 ⟨222,false,(.slice (.slice tTxn)),[]⟩,
 ⟨227,false,(.int .u64),[]⟩,
 ⟨240,true,tWrite,[(0,false,.str),(1,false,.str),(2,false,.bool)]⟩,
 ⟨256,false,(.int .i64),[]⟩,
 ⟨266,false,(.int .u64),[]⟩,
 ⟨282,false,(.int .u64),[]⟩,
 ⟨319,true,tPut,[(0,false,(.int .i64)),(1,false,.str)]⟩,
 ⟨320,true,tPut,[(0,false,(.int .i64)),(1,false,.str)]⟩,
 ⟨329,false,(.int .u8),[]⟩,
 ⟨330,false,(.int .u8),[]⟩,
 ⟨333,false,(.int .i32),[]⟩,
 ⟨334,false,(.int .i32),[]⟩]
def eqs:List (Nat×Ty):=[]
def inp:List Nat:=[12,22,23,33,79,93,106,115,170,171,182,183,215,219]
def ones:List Nat:=[1,15,16,17,33,34,35,36,45,46,51,52,54,55,56,57,58,59,66,67,69,70,71,72,73,74,76,77,78,79,80,81,83,85,86,87,89,90,91,92,93,94,95,97,98,100,103,104,105,108,109,111,113,114,115,118,119,120,121,122,123,124,125,127,128,129,131,132,135,136,137,138,139,140,141,142,143,144,145,146,147,148,149,150,151,152,153,156,157,158,159,160,163,164,165,166,167,169,171,172,173,174,175,176,177,178,179,180,183,184,185,186,187,188,189,190,191,192,193,194,196,197,198,199,200,201,207,210,211,212,213,214,215,216,217,218,219,220,221,223,224,225,226,228,230,231,232,233,234,235,236,237,238,239,241,242,243,244,245,246,247,248,249,250,251,252,253,254,255,258,259,260,261,263,264,265,267,268,269,270,272,274,275,276,277,279,280,281,283,284,285,286,287,289,290,291,293,294,295,296,297,298,299,300,301,302,304,305,306,307,308,309,310,311,312,313,314,316,317,318,321,322,323,331,332]
theorem wzr:tab.all (v99 Tryz.prog)=true:=by kernel_rfl
theorem wyt:eqs.all (fun p=>wor Tryz.prog p.1 p.2)=true:=by kernel_rfl
theorem w0a:wax tab eqs=true:=by kernel_rfl
theorem wvw:ones.all (v5k Tryz.prog)=true:=by kernel_rfl
theorem follows:Tryz.prog.follows .mixedOrders=true:=by kernel_rfl
def G0:Glob:=w3b tab eqs inp ones
theorem G0_ok:GlobOk Tryz.prog G0:=wso wzr wyt w0a wvw
end
end Go.VE
