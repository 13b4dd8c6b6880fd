/- The seat: its types; written by gen.py. -/
import Derived.Test.YtbaniaofomgceaaLeaveN
import Derived.Test.YtbaniaofomgceaaProg
import Derived.KernelRfl
namespace Go.VE
open Go.Proofs
noncomputable section
set_option linter.unusedVariables false
set_option linter.unusedSimpArgs false
set_option maxRecDepth 100000
def tab:List TInfo:=[
 ⟨2,false,(.int .i64),[]⟩,
 ⟨3,false,(.int .i64),[]⟩,
 ⟨4,false,.bool,[]⟩,
 ⟨5,false,(.int .u8),[]⟩,
 ⟨6,false,(.int .u8),[]⟩,
 ⟨7,true,(.pair (.int .i64) (.pair (.int .i64) (.pair .bool (.int .u8)))),[(0,false,(.int .i64)),(1,false,(.int .i64)),(2,false,.bool),(3,false,(.int .u8))]⟩,
 ⟨8,true,(.pair (.int .i64) (.pair (.int .i64) (.pair .bool (.int .u8)))),[(0,false,(.int .i64)),(1,false,(.int .i64)),(2,false,.bool),(3,false,(.int .u8))]⟩,
 ⟨9,false,.str,[]⟩,
 ⟨10,false,.str,[]⟩,
 ⟨11,false,.str,[]⟩,
 ⟨12,false,(.int .u64),[]⟩,
 ⟨13,true,(.pair .str (.int .u64)),[(0,false,.str),(1,false,(.int .u64))]⟩,
 ⟨14,true,(.pair .str (.int .u64)),[(0,false,.str),(1,false,(.int .u64))]⟩,
 ⟨21,false,(.int .i32),[]⟩,
 ⟨22,false,(.slice tVersion),[]⟩,
 ⟨23,false,(.slice tTxn),[]⟩,
 ⟨24,true,tBase,[(0,false,(.slice tVersion)),(1,false,(.slice tTxn)),(2,false,(.slice tTxn)),(3,false,(.int .i64)),(4,false,(.int .i64))]⟩,
 ⟨25,true,tBase,[(0,false,(.slice tVersion)),(1,false,(.slice tTxn)),(2,false,(.slice tTxn)),(3,false,(.int .i64)),(4,false,(.int .i64))]⟩,
 ⟨27,false,(.slice tVersion),[]⟩,
 ⟨28,false,(.slice tTxn),[]⟩,
 ⟨29,true,tBase,[(0,false,(.slice tVersion)),(1,false,(.slice tTxn)),(2,false,(.slice tTxn)),(3,false,(.int .i64)),(4,false,(.int .i64))]⟩,
 ⟨30,true,tBase,[(0,false,(.slice tVersion)),(1,false,(.slice tTxn)),(2,false,(.slice tTxn)),(3,false,(.int .i64)),(4,false,(.int .i64))]⟩,
 ⟨42,true,tEngine,[(0,true,tBase),(5,false,(.slice tTxn))]⟩,
 ⟨43,true,tEngine,[(0,true,tBase),(5,false,(.slice tTxn))]⟩,
 ⟨45,true,tEngine,[(0,true,tBase),(5,false,(.slice tTxn))]⟩,
 ⟨46,true,tEngine,[(0,true,tBase),(5,false,(.slice tTxn))]⟩,
 ⟨55,false,(.slice tRange),[]⟩,
 ⟨56,false,(.slice tWrite),[]⟩,
 ⟨57,true,tTxn,[(0,false,(.int .i64)),(1,false,(.int .i64)),(2,false,(.int .i64)),(3,false,(.int .i64)),(4,false,(.slice tRange)),(5,false,(.slice tWrite)),(6,false,.bool),(7,false,.str)]⟩,
 ⟨58,true,tTxn,[(0,false,(.int .i64)),(1,false,(.int .i64)),(2,false,(.int .i64)),(3,false,(.int .i64)),(4,false,(.slice tRange)),(5,false,(.slice tWrite)),(6,false,.bool),(7,false,.str)]⟩,
 ⟨66,false,(.slice tRange),[]⟩,
 ⟨67,false,(.slice tWrite),[]⟩,
 ⟨68,true,tTxn,[(0,false,(.int .i64)),(1,false,(.int .i64)),(2,false,(.int .i64)),(3,false,(.int .i64)),(4,false,(.slice tRange)),(5,false,(.slice tWrite)),(6,false,.bool),(7,false,.str)]⟩,
 ⟨69,true,tTxn,[(0,false,(.int .i64)),(1,false,(.int .i64)),(2,false,(.int .i64)),(3,false,(.int .i64)),(4,false,(.slice tRange)),(5,false,(.slice tWrite)),(6,false,.bool),(7,false,.str)]⟩,
 ⟨82,true,tVersion,[(0,false,.str),(1,false,.str),(2,false,.bool),(3,false,(.int .i64))]⟩,
 ⟨83,true,tVersion,[(0,false,.str),(1,false,.str),(2,false,.bool),(3,false,(.int .i64))]⟩,
 ⟨85,true,tVersion,[(0,false,.str),(1,false,.str),(2,false,.bool),(3,false,(.int .i64))]⟩,
 ⟨97,true,tRange,[(0,false,.str),(1,false,.str)]⟩,
 ⟨98,true,tRange,[(0,false,.str),(1,false,.str)]⟩,
 ⟨99,true,tWrite,[(0,false,.str),(1,false,.str),(2,false,.bool)]⟩,
 ⟨100,true,tWrite,[(0,false,.str),(1,false,.str),(2,false,.bool)]⟩,
 ⟨101,false,(.slice (.int .u8)),[]⟩,
 ⟨103,true,tRange,[(0,false,.str),(1,false,.str)]⟩,
 ⟨105,true,tWrite,[(0,false,.str),(1,false,.str),(2,false,.bool)]⟩,
 ⟨117,false,(.int .u32),[]⟩,
 ⟨118,false,(.int .u8),[]⟩,
 ⟨119,false,(.int .u8),[]⟩,
 ⟨122,false,(.int .i32),[]⟩,
 ⟨123,false,(.int .i32),[]⟩]
def eqs:List (Nat×Ty):=[]
def inp:List Nat:=[11,18,24,31,34,45,46]
def ones:List Nat:=[1,15,16,17,26,31,32,33,34,35,36,37,38,39,40,41,44,48,49,50,51,52,53,54,59,60,61,62,63,64,65,70,71,72,73,74,75,76,77,78,79,80,81,84,86,87,88,89,90,91,92,93,94,95,96,102,104,106,107,108,109,110,116,120,121]
theorem wis:tab.all (vx7 Try.prog)=true:=by kernel_rfl
theorem wi2:eqs.all (fun p=>v7q Try.prog p.1 p.2)=true:=by kernel_rfl
theorem wi7:vy3 tab eqs=true:=by kernel_rfl
theorem wdz:ones.all (vwl Try.prog)=true:=by kernel_rfl
theorem follows:Try.prog.follows .mixedOrders=true:=by kernel_rfl
def G0:Glob:=wkj tab eqs inp ones
theorem G0_ok:GlobOk Try.prog G0:=wct wis wi2 wi7 wdz
end
end Go.VE
