/- The seat: its types; written by gen.py. -/
import Derived.Test.YteolgjmeigifbaaFnTxnsN
import Derived.Test.YteolgjmeigifbaaProg
import Derived.KernelRfl
import Derived.Test.YteolgjmeigifbaaFnTxnsI
namespace Go.VE
open Go.Proofs
noncomputable section
set_option linter.unusedVariables false
set_option linter.unusedSimpArgs false
set_option maxRecDepth 100000
def tab:List TInfo:=[
 ⟨2,false,(.int .i64),[]⟩,
 ⟨3,false,(.int .i64),[]⟩,
 ⟨4,false,.bool,[]⟩,
 ⟨5,false,(.int .u8),[]⟩,
 ⟨6,false,(.int .u8),[]⟩,
 ⟨7,true,(.pair (.int .i64) (.pair (.int .i64) (.pair .bool (.int .u8)))),[(0,false,(.int .i64)),(1,false,(.int .i64)),(2,false,.bool),(3,false,(.int .u8))]⟩,
 ⟨8,true,(.pair (.int .i64) (.pair (.int .i64) (.pair .bool (.int .u8)))),[(0,false,(.int .i64)),(1,false,(.int .i64)),(2,false,.bool),(3,false,(.int .u8))]⟩,
 ⟨9,false,.str,[]⟩,
 ⟨10,false,.str,[]⟩,
 ⟨11,false,.str,[]⟩,
 ⟨12,false,(.int .u64),[]⟩,
 ⟨13,true,(.pair .str (.int .u64)),[(0,false,.str),(1,false,(.int .u64))]⟩,
 ⟨14,true,(.pair .str (.int .u64)),[(0,false,.str),(1,false,(.int .u64))]⟩,
 ⟨21,false,(.int .i32),[]⟩,
 ⟨22,false,(.slice tRange),[]⟩,
 ⟨23,false,(.slice tWrite),[]⟩,
 ⟨24,true,tTxn,[(0,false,(.int .i64)),(1,false,(.int .i64)),(2,false,(.int .i64)),(3,false,(.int .i64)),(4,false,(.slice tRange)),(5,false,(.slice tWrite)),(6,false,.bool),(7,false,.str)]⟩,
 ⟨25,true,tTxn,[(0,false,(.int .i64)),(1,false,(.int .i64)),(2,false,(.int .i64)),(3,false,(.int .i64)),(4,false,(.slice tRange)),(5,false,(.slice tWrite)),(6,false,.bool),(7,false,.str)]⟩,
 ⟨26,false,(.slice tVersion),[]⟩,
 ⟨27,true,tRange,[(0,false,.str),(1,false,.str)]⟩,
 ⟨28,true,tRange,[(0,false,.str),(1,false,.str)]⟩,
 ⟨32,false,(.slice tRange),[]⟩,
 ⟨34,false,(.slice tRange),[]⟩,
 ⟨35,false,(.slice tWrite),[]⟩,
 ⟨36,true,tTxn,[(0,false,(.int .i64)),(1,false,(.int .i64)),(2,false,(.int .i64)),(3,false,(.int .i64)),(4,false,(.slice tRange)),(5,false,(.slice tWrite)),(6,false,.bool),(7,false,.str)]⟩,
 ⟨37,true,tTxn,[(0,false,(.int .i64)),(1,false,(.int .i64)),(2,false,(.int .i64)),(3,false,(.int .i64)),(4,false,(.slice tRange)),(5,false,(.slice tWrite)),(6,false,.bool),(7,false,.str)]⟩,
 ⟨39,false,(.slice tVersion),[]⟩,
 ⟨41,true,tRange,[(0,false,.str),(1,false,.str)]⟩,
 ⟨50,false,(.slice tTxn),[]⟩,
 ⟨51,true,vog,[(0,false,(.slice tVersion)),(1,false,(.slice tTxn)),(2,false,(.slice tTxn)),(3,false,(.int .i64)),(4,false,(.int .i64))]⟩,
 ⟨52,true,vog,[(0,false,(.slice tVersion)),(1,false,(.slice tTxn)),(2,false,(.slice tTxn)),(3,false,(.int .i64)),(4,false,(.int .i64))]⟩,
 ⟨53,true,vx0,[(0,false,(.int .i64)),(1,true,tTxn),(9,false,.str),(10,false,.bool),(11,true,vog)]⟩,
 ⟨54,true,vx0,[(0,false,(.int .i64)),(1,true,tTxn),(9,false,.str),(10,false,.bool),(11,true,vog)]⟩,
 ⟨58,false,(.slice tTxn),[]⟩,
 ⟨59,true,vog,[(0,false,(.slice tVersion)),(1,false,(.slice tTxn)),(2,false,(.slice tTxn)),(3,false,(.int .i64)),(4,false,(.int .i64))]⟩,
 ⟨60,true,vog,[(0,false,(.slice tVersion)),(1,false,(.slice tTxn)),(2,false,(.slice tTxn)),(3,false,(.int .i64)),(4,false,(.int .i64))]⟩,
 ⟨61,true,vx0,[(0,false,(.int .i64)),(1,true,tTxn),(9,false,.str),(10,false,.bool),(11,true,vog)]⟩,
 ⟨62,true,vx0,[(0,false,(.int .i64)),(1,true,tTxn),(9,false,.str),(10,false,.bool),(11,true,vog)]⟩,
 ⟨66,false,(.slice (.int .u8)),[]⟩,
 ⟨78,true,tWrite,[(0,false,.str),(1,false,.str),(2,false,.bool)]⟩,
 ⟨79,true,tWrite,[(0,false,.str),(1,false,.str),(2,false,.bool)]⟩,
 ⟨88,true,vro,[(0,true,vog),(5,false,(.slice tTxn))]⟩,
 ⟨89,true,vro,[(0,true,vog),(5,false,(.slice tTxn))]⟩,
 ⟨90,true,tWrite,[(0,false,.str),(1,false,.str),(2,false,.bool)]⟩,
 ⟨93,true,vro,[(0,true,vog),(5,false,(.slice tTxn))]⟩,
 ⟨94,true,vro,[(0,true,vog),(5,false,(.slice tTxn))]⟩,
 ⟨112,true,tVersion,[(0,false,.str),(1,false,.str),(2,false,.bool),(3,false,(.int .i64))]⟩,
 ⟨113,true,tVersion,[(0,false,.str),(1,false,.str),(2,false,.bool),(3,false,(.int .i64))]⟩,
 ⟨114,true,tVersion,[(0,false,.str),(1,false,.str),(2,false,.bool),(3,false,(.int .i64))]⟩,
 ⟨115,false,(.slice .str),[]⟩,
 ⟨117,true,tRange,[(0,false,.str),(1,false,.str)]⟩,
 ⟨118,true,tRange,[(0,false,.str),(1,false,.str)]⟩,
 ⟨139,true,(.slice (.int .u8)),[(0,false,(.slice (.int .u8)))]⟩,
 ⟨140,true,(.slice (.int .u8)),[(0,false,(.slice (.int .u8)))]⟩,
 ⟨148,true,(.pair .str (.pair (.int .i64) .bool)),[(0,false,.str),(1,false,(.int .i64)),(2,false,.bool)]⟩,
 ⟨149,true,(.pair .str (.pair (.int .i64) .bool)),[(0,false,.str),(1,false,(.int .i64)),(2,false,.bool)]⟩,
 ⟨154,true,(.pair .str (.pair (.int .i64) .bool)),[(0,false,.str),(1,false,(.int .i64)),(2,false,.bool)]⟩,
 ⟨155,true,(.pair .str (.pair (.int .i64) .bool)),[(0,false,.str),(1,false,(.int .i64)),(2,false,.bool)]⟩,
 ⟨187,false,(.int .u64),[]⟩,
 ⟨192,false,(.int .u32),[]⟩,
 ⟨195,false,(.slice (.slice tTxn)),[]⟩,
 ⟨196,false,(.slice (.int .i64)),[]⟩,
 ⟨197,true,(.pair (.slice (.int .u8)) (.pair (.int .i64) (.int .i64))),[(0,false,(.slice (.int .u8))),(1,false,(.int .i64)),(2,false,(.int .i64))]⟩,
 ⟨198,true,(.pair (.slice (.int .u8)) (.pair (.int .i64) (.int .i64))),[(0,false,(.slice (.int .u8))),(1,false,(.int .i64)),(2,false,(.int .i64))]⟩,
 ⟨226,false,(.int .i64),[]⟩,
 ⟨235,false,(.int .u64),[]⟩,
 ⟨242,false,(.slice (.slice tVersion)),[]⟩,
 ⟨244,false,(.int .u64),[]⟩,
 ⟨262,false,(.int .u8),[]⟩,
 ⟨263,false,(.int .u8),[]⟩,
 ⟨266,false,(.int .i32),[]⟩,
 ⟨267,false,(.int .i32),[]⟩]
def eqs:List (Nat×Ty):=[(41,tRange),(79,tWrite)]
def inp:List Nat:=[20,21,22,55,72,73,79,80,135,136,181,228,229]
def ones:List Nat:=[1,15,16,17,29,30,31,33,38,40,42,43,44,45,46,47,48,49,55,57,63,64,65,67,68,69,71,73,75,77,81,82,84,85,86,87,91,92,96,97,98,99,100,101,103,104,105,106,107,108,109,110,111,116,119,120,121,122,123,124,125,126,127,128,129,130,131,132,133,134,135,136,137,138,141,142,143,144,145,146,147,150,151,152,153,156,157,158,159,160,161,162,163,164,165,166,167,168,169,170,171,172,173,174,175,176,177,178,179,180,181,182,183,184,185,186,188,189,190,191,193,194,199,200,201,202,203,204,205,207,209,210,211,212,213,214,215,216,217,218,219,220,221,222,223,224,225,228,229,230,232,233,234,236,237,238,239,240,241,243,245,246,247,248,249,250,251,253,254,255,256,264,265]
theorem wno:tab.all (v2t Try.prog)=true:=by kernel_rfl
theorem woo:eqs.all (fun p=>we2 Try.prog p.1 p.2)=true:=by kernel_rfl
theorem woa:v17 tab eqs=true:=by kernel_rfl
theorem wjt:ones.all (vzs Try.prog)=true:=by kernel_rfl
theorem follows:Try.prog.follows .mixedOrders=true:=by kernel_rfl
def G0:Glob:=wqx tab eqs inp ones
theorem G0_ok:GlobOk Try.prog G0:=whx wno woo woa wjt
end
end Go.VE
