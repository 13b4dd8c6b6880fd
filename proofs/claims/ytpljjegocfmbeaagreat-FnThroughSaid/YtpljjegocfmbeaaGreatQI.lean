/- slices.Insert, laid at this program. -/
import Derived.Test.YtpljjegocfmbeaaGreatProg
import Derived.Test.YtpljjegocfmbeaaGreatV29b
import Derived.KernelRfl
namespace Go.Proofs
open Go.Shelf Go.RowKit Go.VE
def Tryz.insRenb : Ren := ⟨fun n => bif n == 22 then 103 else bif n == 29 then 122 else 123, fun n => bif n == 0 then 0 else bif n == 3 then 3 else bif n == 4 then 4 else bif n == 9 then 76 else 24, fun n => n⟩
theorem Tryz.insLayb : InsLay Tryz.prog Tryz.insRenb 4 (.agg #[.string ⟨#[]⟩, .string ⟨#[]⟩, .bool false, .int .i64 0]) 48 where
  mixed := by kernel_rfl
  f22 := ⟨ "slices.Insert[[]loop.example/g00327/impl.Version,loop.example/g00327/impl.Version]", by kernel_rfl⟩
  ov := fun args w => run_callFunc_extern (f := 122) (e := Extern.SlicesOverlaps.overlaps #[24, 24] #[4]) Tryz.func122 (by kernel_rfl) (by kernel_rfl) (by kernel_rfl) (by kernel_rfl) args w
  t0 := Tryz.underlying0
  a0 := Tryz.isAgg0
  z0 := Tryz.sizeOf0
  v0 := Tryz.zeroValue0
  t3 := Tryz.underlying3
  a3 := Tryz.isAgg3
  z3 := Tryz.sizeOf3
  v3 := Tryz.zeroValue3
  t4 := Tryz.underlying4
  a4 := Tryz.isAgg4
  z4 := Tryz.sizeOf4
  v4 := Tryz.zeroValue4
  a9 := Tryz.isAgg76
  z9 := Tryz.sizeOf76
  v9 := Tryz.zeroValue76
  t24 := Tryz.underlying24
  a24 := Tryz.isAgg24
  z24 := Tryz.sizeOf24
  v24 := Tryz.zeroValue24
  i9 := by kernel_rfl
end Go.Proofs
