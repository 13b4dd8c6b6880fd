/- slices.Insert, laid at this program. -/
import Derived.Test.YtiajamilfgkecaaProg
import Derived.Test.YtiajamilfgkecaaU29b
import Derived.KernelRfl
namespace Go.Proofs
open Go.Shelf Go.RowKit Go.VE
def Try.insRenb : Ren := ⟨fun n => bif n == 22 then 80 else bif n == 29 then 142 else 143, fun n => bif n == 0 then 0 else bif n == 3 then 3 else bif n == 4 then 4 else bif n == 9 then 116 else 26, fun n => n⟩
theorem Try.insLayb : InsLay Try.prog Try.insRenb 4 (.agg #[.string ⟨#[]⟩, .string ⟨#[]⟩, .bool false, .int .i64 0]) 48 where
  mixed := by kernel_rfl
  f22 := ⟨ "slices.Insert[[]loop.example/g00327/impl.Version,loop.example/g00327/impl.Version]", by kernel_rfl⟩
  ov := fun args w => run_callFunc_extern (f := 142) (e := Extern.SlicesOverlaps.overlaps #[26, 26] #[4]) Try.func142 (by kernel_rfl) (by kernel_rfl) (by kernel_rfl) (by kernel_rfl) args w
  t0 := Try.underlying0
  a0 := Try.isAgg0
  z0 := Try.sizeOf0
  v0 := Try.zeroValue0
  t3 := Try.underlying3
  a3 := Try.isAgg3
  z3 := Try.sizeOf3
  v3 := Try.zeroValue3
  t4 := Try.underlying4
  a4 := Try.isAgg4
  z4 := Try.sizeOf4
  v4 := Try.zeroValue4
  a9 := Try.isAgg116
  z9 := Try.sizeOf116
  v9 := Try.zeroValue116
  t24 := Try.underlying26
  a24 := Try.isAgg26
  z24 := Try.sizeOf26
  v24 := Try.zeroValue26
  i9 := by kernel_rfl
end Go.Proofs
