/- The seat: its types; written by gen.py. -/
import Derived.Test.YtiajamilfgkecaaFnTrimsN
import Derived.Test.YtiajamilfgkecaaProg
import Derived.KernelRfl
import Derived.Test.YtiajamilfgkecaaFnTrimsH
namespace Go.VE
open Go.Proofs
noncomputable section
set_option linter.unusedVariables false
set_option linter.unusedSimpArgs false
set_option maxRecDepth 100000
def tab:List TInfo:=[
 ⟨2,false,(.int .i64),[]⟩,
 ⟨3,false,(.int .i64),[]⟩,
 ⟨4,false,.bool,[]⟩,
 ⟨5,false,(.int .u8),[]⟩,
 ⟨6,false,(.int .u8),[]⟩,
 ⟨7,true,(.pair (.int .i64) (.pair (.int .i64) (.pair .bool (.int .u8)))),[(0,false,(.int .i64)),(1,false,(.int .i64)),(2,false,.bool),(3,false,(.int .u8))]⟩,
 ⟨8,true,(.pair (.int .i64) (.pair (.int .i64) (.pair .bool (.int .u8)))),[(0,false,(.int .i64)),(1,false,(.int .i64)),(2,false,.bool),(3,false,(.int .u8))]⟩,
 ⟨9,false,.str,[]⟩,
 ⟨10,false,.str,[]⟩,
 ⟨11,false,.str,[]⟩,
 ⟨12,false,(.int .u64),[]⟩,
 ⟨13,true,(.pair .str (.int .u64)),[(0,false,.str),(1,false,(.int .u64))]⟩,
 ⟨14,true,(.pair .str (.int .u64)),[(0,false,.str),(1,false,(.int .u64))]⟩,
 ⟨21,false,(.int .i32),[]⟩,
 ⟨22,false,(.slice tVersion),[]⟩,
 ⟨23,false,(.slice tWrite),[]⟩,
 ⟨26,false,(.slice tVersion),[]⟩,
 ⟨29,false,(.slice tWrite),[]⟩,
 ⟨36,false,(.slice tRange),[]⟩,
 ⟨37,true,tTxn,[(0,false,(.int .i64)),(1,false,(.int .i64)),(2,false,(.int .i64)),(3,false,(.int .i64)),(4,false,(.slice tRange)),(5,false,(.slice tWrite)),(6,false,.bool),(7,false,.str)]⟩,
 ⟨38,true,tTxn,[(0,false,(.int .i64)),(1,false,(.int .i64)),(2,false,(.int .i64)),(3,false,(.int .i64)),(4,false,(.slice tRange)),(5,false,(.slice tWrite)),(6,false,.bool),(7,false,.str)]⟩,
 ⟨39,true,tWrite,[(0,false,.str),(1,false,.str),(2,false,.bool)]⟩,
 ⟨40,true,tWrite,[(0,false,.str),(1,false,.str),(2,false,.bool)]⟩,
 ⟨43,false,(.slice tRange),[]⟩,
 ⟨44,true,tTxn,[(0,false,(.int .i64)),(1,false,(.int .i64)),(2,false,(.int .i64)),(3,false,(.int .i64)),(4,false,(.slice tRange)),(5,false,(.slice tWrite)),(6,false,.bool),(7,false,.str)]⟩,
 ⟨45,true,tTxn,[(0,false,(.int .i64)),(1,false,(.int .i64)),(2,false,(.int .i64)),(3,false,(.int .i64)),(4,false,(.slice tRange)),(5,false,(.slice tWrite)),(6,false,.bool),(7,false,.str)]⟩,
 ⟨49,true,tWrite,[(0,false,.str),(1,false,.str),(2,false,.bool)]⟩,
 ⟨54,false,(.slice tTxn),[]⟩,
 ⟨55,true,vpv,[(0,false,(.slice tVersion)),(1,false,(.slice tTxn)),(2,false,(.slice tTxn)),(3,false,(.int .i64)),(4,false,(.int .i64))]⟩,
 ⟨56,true,vpv,[(0,false,(.slice tVersion)),(1,false,(.slice tTxn)),(2,false,(.slice tTxn)),(3,false,(.int .i64)),(4,false,(.int .i64))]⟩,
 ⟨58,false,(.slice tTxn),[]⟩,
 ⟨59,true,vpv,[(0,false,(.slice tVersion)),(1,false,(.slice tTxn)),(2,false,(.slice tTxn)),(3,false,(.int .i64)),(4,false,(.int .i64))]⟩,
 ⟨60,true,vpv,[(0,false,(.slice tVersion)),(1,false,(.slice tTxn)),(2,false,(.slice tTxn)),(3,false,(.int .i64)),(4,false,(.int .i64))]⟩,
 ⟨72,true,vo6,[(0,true,vpv),(5,false,(.slice tTxn))]⟩,
 ⟨73,true,vo6,[(0,true,vpv),(5,false,(.slice tTxn))]⟩,
 ⟨75,true,vo6,[(0,true,vpv),(5,false,(.slice tTxn))]⟩,
 ⟨76,true,vo6,[(0,true,vpv),(5,false,(.slice tTxn))]⟩,
 ⟨83,false,(.slice (.int .u8)),[]⟩,
 ⟨87,false,(.slice tRange),[]⟩,
 ⟨89,true,tRange,[(0,false,.str),(1,false,.str)]⟩,
 ⟨90,true,tRange,[(0,false,.str),(1,false,.str)]⟩,
 ⟨94,true,tRange,[(0,false,.str),(1,false,.str)]⟩,
 ⟨95,true,tRange,[(0,false,.str),(1,false,.str)]⟩,
 ⟨103,false,(.slice (.int .i64)),[]⟩,
 ⟨114,true,tVersion,[(0,false,.str),(1,false,.str),(2,false,.bool),(3,false,(.int .i64))]⟩,
 ⟨115,true,tVersion,[(0,false,.str),(1,false,.str),(2,false,.bool),(3,false,(.int .i64))]⟩,
 ⟨116,true,tVersion,[(0,false,.str),(1,false,.str),(2,false,.bool),(3,false,(.int .i64))]⟩,
 ⟨145,false,(.slice .str),[]⟩,
 ⟨168,true,tRange,[(0,false,.str),(1,false,.str)]⟩,
 ⟨176,true,(.pair (.slice (.int .u8)) (.pair (.int .i64) (.int .i64))),[(0,false,(.slice (.int .u8))),(1,false,(.int .i64)),(2,false,(.int .i64))]⟩,
 ⟨177,true,(.pair (.slice (.int .u8)) (.pair (.int .i64) (.int .i64))),[(0,false,(.slice (.int .u8))),(1,false,(.int .i64)),(2,false,(.int .i64))]⟩,
 ⟨180,false,(.int .u64),[]⟩,
 ⟨185,false,(.slice (.slice tVersion)),[]⟩,
 ⟨188,false,(.int .i64),[]⟩,
 ⟨197,false,(.int .u32),[]⟩,
 ⟨199,false,(.int .u64),[]⟩,
 ⟨201,false,(.int .u64),[]⟩,
 ⟨218,false,(.int .u8),[]⟩,
 ⟨219,false,(.int .u8),[]⟩,
 ⟨222,false,(.int .i32),[]⟩,
 ⟨223,false,(.int .i32),[]⟩]
def eqs:List (Nat×Ty):=[(95,tRange),(116,tVersion)]
def inp:List Nat:=[19,20,29,36,43,49,80,96,101,116,117,151,168]
def ones:List Nat:=[1,15,16,17,24,25,27,28,30,31,32,33,34,35,41,42,47,48,50,51,52,53,57,61,62,63,64,65,66,67,68,69,70,71,74,78,79,80,81,82,84,85,86,88,91,93,96,97,98,99,101,102,104,105,107,109,111,112,113,117,118,119,120,121,122,123,124,125,126,127,128,129,130,131,132,133,134,135,136,137,138,139,140,141,142,143,144,146,147,148,149,150,151,152,153,154,155,156,157,158,159,160,161,162,163,164,165,166,167,169,170,171,172,173,174,175,178,179,181,182,183,184,186,187,190,191,192,193,195,196,198,200,202,203,204,205,206,207,208,210,211,217,220,221]
theorem wct:tab.all (vtu Try.prog)=true:=by kernel_rfl
theorem wcd:eqs.all (fun p=>v4y Try.prog p.1 p.2)=true:=by kernel_rfl
theorem wbx:vui tab eqs=true:=by kernel_rfl
theorem v7v:ones.all (vs4 Try.prog)=true:=by kernel_rfl
theorem follows:Try.prog.follows .mixedOrders=true:=by kernel_rfl
def G0:Glob:=wdm tab eqs inp ones
theorem G0_ok:GlobOk Try.prog G0:=v6x wct wcd wbx v7v
end
end Go.VE
