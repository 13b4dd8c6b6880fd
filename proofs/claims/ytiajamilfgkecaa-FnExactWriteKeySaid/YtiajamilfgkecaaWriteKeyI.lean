/- slices.Insert, laid at this program. -/
import Derived.Test.YtiajamilfgkecaaProg
import Derived.Test.YtiajamilfgkecaaU29a
import Derived.KernelRfl
namespace Go.Proofs
open Go.Shelf Go.RowKit Go.VE
def Try.insRena : Ren := ⟨fun n => bif n == 22 then 151 else bif n == 29 then 172 else 173, fun n => bif n == 0 then 0 else bif n == 3 then 3 else bif n == 4 then 4 else bif n == 9 then 49 else 29, fun n => n⟩
theorem Try.insLaya : InsLay Try.prog Try.insRena 3 (.agg #[.string ⟨#[]⟩, .string ⟨#[]⟩, .bool false]) 40 where
  mixed := by kernel_rfl
  f22 := ⟨ "slices.Insert[[]loop.example/g00327/impl.Write,loop.example/g00327/impl.Write]", by kernel_rfl⟩
  ov := fun args w => run_callFunc_extern (f := 172) (e := Extern.SlicesOverlaps.overlaps #[29, 29] #[4]) Try.func172 (by kernel_rfl) (by kernel_rfl) (by kernel_rfl) (by kernel_rfl) args w
  t0 := Try.underlying0
  a0 := Try.isAgg0
  z0 := Try.sizeOf0
  v0 := Try.zeroValue0
  t3 := Try.underlying3
  a3 := Try.isAgg3
  z3 := Try.sizeOf3
  v3 := Try.zeroValue3
  t4 := Try.underlying4
  a4 := Try.isAgg4
  z4 := Try.sizeOf4
  v4 := Try.zeroValue4
  a9 := Try.isAgg49
  z9 := Try.sizeOf49
  v9 := Try.zeroValue49
  t24 := Try.underlying29
  a24 := Try.isAgg29
  z24 := Try.sizeOf29
  v24 := Try.zeroValue29
  i9 := by kernel_rfl
end Go.Proofs
