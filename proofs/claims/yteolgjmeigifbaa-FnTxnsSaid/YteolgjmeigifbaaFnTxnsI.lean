/- slices.Insert, laid at this program. -/
import Derived.Test.YteolgjmeigifbaaProg
import Derived.Test.YteolgjmeigifbaaU29a
import Derived.KernelRfl
namespace Go.Proofs
open Go.Shelf Go.RowKit Go.VE
def Try.insRena:Ren:=⟨fun n=>bif n==22 then 181 else bif n==29 then 223 else 224,fun n=>bif n==0 then 0 else bif n==3 then 3 else bif n==4 then 4 else bif n==9 then 79 else 35,fun n=>n⟩
theorem Try.insLaya:InsLay Try.prog Try.insRena 3 (.agg #[.string ⟨#[]⟩,.string ⟨#[]⟩,.bool false]) 40 where
 mixed:=by kernel_rfl
 f22 := ⟨ "slices.Insert[[]loop.example/g00327/impl.Write,loop.example/g00327/impl.Write]", by kernel_rfl⟩
 ov:=fun args w=>run_callFunc_extern (f:=223) (e:=Extern.SlicesOverlaps.overlaps #[35,35] #[4]) Try.func223 (by kernel_rfl) (by kernel_rfl) (by kernel_rfl) (by kernel_rfl) args w
 t0:=Try.underlying0
 a0:=Try.isAgg0
 z0:=Try.sizeOf0
 v0:=Try.zeroValue0
 t3:=Try.underlying3
 a3:=Try.isAgg3
 z3:=Try.sizeOf3
 v3:=Try.zeroValue3
 t4:=Try.underlying4
 a4:=Try.isAgg4
 z4:=Try.sizeOf4
 v4:=Try.zeroValue4
 a9:=Try.isAgg79
 z9:=Try.sizeOf79
 v9:=Try.zeroValue79
 t24:=Try.underlying35
 a24:=Try.isAgg35
 z24:=Try.sizeOf35
 v24:=Try.zeroValue35
 i9:=by kernel_rfl
end Go.Proofs
