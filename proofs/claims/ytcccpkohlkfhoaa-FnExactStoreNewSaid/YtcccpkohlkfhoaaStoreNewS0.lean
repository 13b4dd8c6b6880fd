/- The seat: its types; written by gen.py. -/
import Derived.Test.YtcccpkohlkfhoaaStoreNewN
import Derived.Test.YtcccpkohlkfhoaaProg
import Derived.KernelRfl
import Derived.Test.YtcccpkohlkfhoaaStoreNewH
namespace Go.VE
open Go.Proofs
noncomputable section
set_option linter.unusedVariables false
set_option linter.unusedSimpArgs false
set_option maxRecDepth 100000
def tab:List TInfo:=[
 ⟨2,false,(.int .i64),[]⟩,
 ⟨3,false,(.int .i64),[]⟩,
 ⟨4,false,.bool,[]⟩,
 ⟨5,false,(.int .u8),[]⟩,
 ⟨6,false,(.int .u8),[]⟩,
 ⟨7,true,(.pair (.int .i64) (.pair (.int .i64) (.pair .bool (.int .u8)))),[(0,false,(.int .i64)),(1,false,(.int .i64)),(2,false,.bool),(3,false,(.int .u8))]⟩,
 ⟨8,true,(.pair (.int .i64) (.pair (.int .i64) (.pair .bool (.int .u8)))),[(0,false,(.int .i64)),(1,false,(.int .i64)),(2,false,.bool),(3,false,(.int .u8))]⟩,
 ⟨9,false,.str,[]⟩,
 ⟨10,false,.str,[]⟩,
 ⟨11,false,.str,[]⟩,
 ⟨12,false,(.int .u64),[]⟩,
 ⟨13,true,(.pair .str (.int .u64)),[(0,false,.str),(1,false,(.int .u64))]⟩,
 ⟨14,true,(.pair .str (.int .u64)),[(0,false,.str),(1,false,(.int .u64))]⟩,
 ⟨21,false,(.int .i32),[]⟩,
 ⟨22,false,(.slice tVersion),[]⟩,
 ⟨23,true,tRange,[(0,false,.str),(1,false,.str)]⟩,
 ⟨24,true,tRange,[(0,false,.str),(1,false,.str)]⟩,
 ⟨27,false,(.slice tRange),[]⟩,
 ⟨29,false,(.slice tVersion),[]⟩,
 ⟨31,true,tRange,[(0,false,.str),(1,false,.str)]⟩,
 ⟨40,false,(.slice tTxn),[]⟩,
 ⟨41,true,tBase,[(0,false,(.slice tVersion)),(1,false,(.slice tTxn)),(2,false,(.slice tTxn)),(3,false,(.int .i64)),(4,false,(.int .i64))]⟩,
 ⟨42,true,tBase,[(0,false,(.slice tVersion)),(1,false,(.slice tTxn)),(2,false,(.slice tTxn)),(3,false,(.int .i64)),(4,false,(.int .i64))]⟩,
 ⟨43,true,tEngine,[(0,true,tBase),(5,false,(.slice tTxn))]⟩,
 ⟨44,true,tEngine,[(0,true,tBase),(5,false,(.slice tTxn))]⟩,
 ⟨45,false,(.slice .str),[]⟩,
 ⟨46,false,(.slice tPut),[]⟩,
 ⟨47,true,vzt,[(0,false,(.slice .str)),(1,false,(.slice tPut))]⟩,
 ⟨48,true,vzt,[(0,false,(.slice .str)),(1,false,(.slice tPut))]⟩,
 ⟨49,true,v2u,[(0,true,tEngine),(6,true,vzt)]⟩,
 ⟨50,true,v2u,[(0,true,tEngine),(6,true,vzt)]⟩,
 ⟨56,true,tVersion,[(0,false,.str),(1,false,.str),(2,false,.bool),(3,false,(.int .i64))]⟩,
 ⟨57,true,tVersion,[(0,false,.str),(1,false,.str),(2,false,.bool),(3,false,(.int .i64))]⟩,
 ⟨61,true,tRange,[(0,false,.str),(1,false,.str)]⟩,
 ⟨62,true,tRange,[(0,false,.str),(1,false,.str)]⟩,
 ⟨63,true,tVersion,[(0,false,.str),(1,false,.str),(2,false,.bool),(3,false,(.int .i64))]⟩,
 ⟨82,false,(.slice (.int .u8)),[]⟩,
 ⟨83,false,(.slice (.slice tVersion)),[]⟩,
 ⟨99,false,(.int .u64),[]⟩,
 ⟨104,false,(.slice tRange),[]⟩,
 ⟨105,false,(.slice tWrite),[]⟩,
 ⟨106,true,tTxn,[(0,false,(.int .i64)),(1,false,(.int .i64)),(2,false,(.int .i64)),(3,false,(.int .i64)),(4,false,(.slice tRange)),(5,false,(.slice tWrite)),(6,false,.bool),(7,false,.str)]⟩,
 ⟨107,true,tTxn,[(0,false,(.int .i64)),(1,false,(.int .i64)),(2,false,(.int .i64)),(3,false,(.int .i64)),(4,false,(.slice tRange)),(5,false,(.slice tWrite)),(6,false,.bool),(7,false,.str)]⟩,
 ⟨109,true,tPut,[(0,false,(.int .i64)),(1,false,.str)]⟩,
 ⟨110,true,tPut,[(0,false,(.int .i64)),(1,false,.str)]⟩,
 ⟨114,false,(.int .i64),[]⟩,
 ⟨123,false,(.int .u32),[]⟩,
 ⟨125,false,(.int .u64),[]⟩,
 ⟨139,true,tWrite,[(0,false,.str),(1,false,.str),(2,false,.bool)]⟩,
 ⟨140,true,tWrite,[(0,false,.str),(1,false,.str),(2,false,.bool)]⟩,
 ⟨141,false,(.int .u64),[]⟩,
 ⟨166,false,(.int .u8),[]⟩,
 ⟨167,false,(.int .u8),[]⟩,
 ⟨169,false,(.int .i32),[]⟩,
 ⟨170,false,(.int .i32),[]⟩]
def eqs:List (Nat×Ty):=[]
def inp:List Nat:=[14,15,22,46,47,52,53,55,65,66,67,68,81,82]
def ones:List Nat:=[1,15,16,17,25,26,28,30,32,33,34,35,36,37,38,39,51,52,53,54,55,58,60,64,65,66,67,68,69,70,71,72,73,74,75,76,77,78,79,80,81,84,85,87,88,89,90,91,92,93,94,95,96,97,98,100,101,102,103,108,111,112,113,116,117,118,119,121,122,124,126,128,129,132,136,137,138,142,143,144,145,146,147,149,151,152,153,154,155,157,159,160,168]
theorem v4n:tab.all (vq1 Try.prog)=true:=by kernel_rfl
theorem v4w:eqs.all (fun p=>vyd Try.prog p.1 p.2)=true:=by kernel_rfl
theorem v41:vql tab eqs=true:=by kernel_rfl
theorem v19:ones.all (vpi Try.prog)=true:=by kernel_rfl
theorem follows:Try.prog.follows .mixedOrders=true:=by kernel_rfl
def G0:Glob:=v59 tab eqs inp ones
theorem G0_ok:GlobOk Try.prog G0:=v1o v4n v4w v41 v19
end
end Go.VE
