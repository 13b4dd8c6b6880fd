/- Each function told by its native program; written by gen.py. -/

import Derived.Test.YtdcgbmpmiehemaaEngineNewS0

namespace Go.VE

open Go.Proofs

noncomputable section

set_option linter.unusedVariables false
set_option linter.unusedSimpArgs false
set_option maxRecDepth 100000


/-! ### loop.example/g00327/spec.BaseNew -/

def spec_BaseNew_loops : Nat → Option LoopSpec
  | _ => none

theorem spec_BaseNew_x  : execFn G0 spec_BaseNew_loops Try.f52 [] [] = spec_BaseNew_d  (fun (y : (Int × Int)) => some ⟨.ret, [.agg [.nilS, .nilS, .nilS, .int .i64 y.1, .int .i64 y.2]], []⟩) := by kernel_rfl

theorem spec_BaseNew_y  : execFn G0 spec_BaseNew_loops Try.f52 [] [] = spec_BaseNew_k  (fun (y : (Int × Int)) => some ⟨.ret, [.agg [.nilS, .nilS, .nilS, .int .i64 y.1, .int .i64 y.2]], []⟩) := (spec_BaseNew_x ).trans (by rw [spec_BaseNew_e])

theorem spec_BaseNew_l : LoopsOk G0 ⟨0, 2, spec_BaseNew_loops⟩ (Try.f52.body.getD .skip) :=
  loopsOk_of (ids := []) (by kernel_rfl) (by kernel_rfl) trivial

theorem spec_BaseNew_c : Contract Try.prog 52 spec_BaseNew_g := by
  refine told G0_ok follows Try.func52 (c := Try.f52.body.getD .skip) (by kernel_rfl) ?_
  intro args s k r hk
  unfold spec_BaseNew_g at hk
  rcases onPats_inv hk with ⟨p, q, rfl, rfl⟩ | hk
  · exact ⟨spec_BaseNew_loops, spec_BaseNew_q , spec_BaseNew_y , spec_BaseNew_l⟩
  cases hk

def G1 : Glob := G0.add 52 spec_BaseNew_g

theorem G1_ok : GlobOk Try.prog G1 := G0_ok.add ⟨Try.f52, Try.func52, by kernel_rfl, by kernel_rfl⟩ spec_BaseNew_c

/-! ### loop.example/g00327/spec.EngineNew -/

def spec_EngineNew_loops : Nat → Option LoopSpec
  | _ => none

theorem spec_EngineNew_x  : execFn G1 spec_EngineNew_loops Try.f62 [] [] = spec_EngineNew_d  (fun (y : (Int × Int)) => some ⟨.ret, [.agg [.nilS, .nilS, .nilS, .int .i64 y.1, .int .i64 y.2, .nilS]], []⟩) := by kernel_rfl

theorem spec_EngineNew_y  : execFn G1 spec_EngineNew_loops Try.f62 [] [] = spec_EngineNew_k  (fun (y : (Int × Int)) => some ⟨.ret, [.agg [.nilS, .nilS, .nilS, .int .i64 y.1, .int .i64 y.2, .nilS]], []⟩) := (spec_EngineNew_x ).trans (by rw [spec_EngineNew_e])

theorem spec_EngineNew_l : LoopsOk G1 ⟨0, 3, spec_EngineNew_loops⟩ (Try.f62.body.getD .skip) :=
  loopsOk_of (ids := []) (by kernel_rfl) (by kernel_rfl) trivial

theorem spec_EngineNew_c : Contract Try.prog 62 spec_EngineNew_g := by
  refine told G1_ok follows Try.func62 (c := Try.f62.body.getD .skip) (by kernel_rfl) ?_
  intro args s k r hk
  unfold spec_EngineNew_g at hk
  rcases onPats_inv hk with ⟨p, q, rfl, rfl⟩ | hk
  · exact ⟨spec_EngineNew_loops, spec_EngineNew_q , spec_EngineNew_y , spec_EngineNew_l⟩
  cases hk

def G2 : Glob := G1.add 62 spec_EngineNew_g

theorem G2_ok : GlobOk Try.prog G2 := G1_ok.add ⟨Try.f62, Try.func62, by kernel_rfl, by kernel_rfl⟩ spec_EngineNew_c

/-! ### loop.example/g00327/impl.BaseNew -/

def impl_BaseNew_loops : Nat → Option LoopSpec
  | _ => none

theorem impl_BaseNew_x  : execFn G2 impl_BaseNew_loops Try.f53 [] [] = impl_BaseNew_d  (fun (y : (Int × Int)) => some ⟨.ret, [.agg [.nilS, .nilS, .nilS, .int .i64 y.1, .int .i64 y.2]], []⟩) := by kernel_rfl

theorem impl_BaseNew_y  : execFn G2 impl_BaseNew_loops Try.f53 [] [] = impl_BaseNew_k  (fun (y : (Int × Int)) => some ⟨.ret, [.agg [.nilS, .nilS, .nilS, .int .i64 y.1, .int .i64 y.2]], []⟩) := (impl_BaseNew_x ).trans (by rw [impl_BaseNew_e])

theorem impl_BaseNew_l : LoopsOk G2 ⟨0, 2, impl_BaseNew_loops⟩ (Try.f53.body.getD .skip) :=
  loopsOk_of (ids := []) (by kernel_rfl) (by kernel_rfl) trivial

theorem impl_BaseNew_c : Contract Try.prog 53 impl_BaseNew_g := by
  refine told G2_ok follows Try.func53 (c := Try.f53.body.getD .skip) (by kernel_rfl) ?_
  intro args s k r hk
  unfold impl_BaseNew_g at hk
  rcases onPats_inv hk with ⟨p, q, rfl, rfl⟩ | hk
  · exact ⟨impl_BaseNew_loops, impl_BaseNew_q , impl_BaseNew_y , impl_BaseNew_l⟩
  cases hk

def G3 : Glob := G2.add 53 impl_BaseNew_g

theorem G3_ok : GlobOk Try.prog G3 := G2_ok.add ⟨Try.f53, Try.func53, by kernel_rfl, by kernel_rfl⟩ impl_BaseNew_c

/-! ### loop.example/g00327/impl.EngineNew -/

def impl_EngineNew_loops : Nat → Option LoopSpec
  | _ => none

theorem impl_EngineNew_x  : execFn G3 impl_EngineNew_loops Try.f63 [] [] = impl_EngineNew_d  (fun (y : (Int × Int)) => some ⟨.ret, [.agg [.nilS, .nilS, .nilS, .int .i64 y.1, .int .i64 y.2, .nilS]], []⟩) := by kernel_rfl

theorem impl_EngineNew_y  : execFn G3 impl_EngineNew_loops Try.f63 [] [] = impl_EngineNew_k  (fun (y : (Int × Int)) => some ⟨.ret, [.agg [.nilS, .nilS, .nilS, .int .i64 y.1, .int .i64 y.2, .nilS]], []⟩) := (impl_EngineNew_x ).trans (by rw [impl_EngineNew_e])

theorem impl_EngineNew_l : LoopsOk G3 ⟨0, 3, impl_EngineNew_loops⟩ (Try.f63.body.getD .skip) :=
  loopsOk_of (ids := []) (by kernel_rfl) (by kernel_rfl) trivial

theorem impl_EngineNew_c : Contract Try.prog 63 impl_EngineNew_g := by
  refine told G3_ok follows Try.func63 (c := Try.f63.body.getD .skip) (by kernel_rfl) ?_
  intro args s k r hk
  unfold impl_EngineNew_g at hk
  rcases onPats_inv hk with ⟨p, q, rfl, rfl⟩ | hk
  · exact ⟨impl_EngineNew_loops, impl_EngineNew_q , impl_EngineNew_y , impl_EngineNew_l⟩
  cases hk

def G4 : Glob := G3.add 63 impl_EngineNew_g

theorem G4_ok : GlobOk Try.prog G4 := G3_ok.add ⟨Try.f63, Try.func63, by kernel_rfl, by kernel_rfl⟩ impl_EngineNew_c

/-! ### loop.example/g00327/laws.eqVersion -/

def laws_eqVersion_loops : Nat → Option LoopSpec
  | _ => none

theorem laws_eqVersion_x (a0 : ByteArray) (a1 : ByteArray) (a2 : Bool) (a3 : Int) (a4 : ByteArray) (a5 : ByteArray) (a6 : Bool) (a7 : Int) : execFn G4 laws_eqVersion_loops Try.f127 [.agg [.str a0, .str a1, .bool a2, .int .i64 a3], .agg [.str a4, .str a5, .bool a6, .int .i64 a7]] [] = laws_eqVersion_d (a0, (a1, (a2, a3))) (a4, (a5, (a6, a7))) (fun (y : Bool) => some ⟨.ret, [.bool y], []⟩) := by kernel_rfl

theorem laws_eqVersion_y (a0 : ByteArray) (a1 : ByteArray) (a2 : Bool) (a3 : Int) (a4 : ByteArray) (a5 : ByteArray) (a6 : Bool) (a7 : Int) : execFn G4 laws_eqVersion_loops Try.f127 [.agg [.str a0, .str a1, .bool a2, .int .i64 a3], .agg [.str a4, .str a5, .bool a6, .int .i64 a7]] [] = laws_eqVersion_k (a0, (a1, (a2, a3))) (a4, (a5, (a6, a7))) (fun (y : Bool) => some ⟨.ret, [.bool y], []⟩) := (laws_eqVersion_x a0 a1 a2 a3 a4 a5 a6 a7).trans (by rw [laws_eqVersion_e])

theorem laws_eqVersion_l : LoopsOk G4 ⟨0, 25, laws_eqVersion_loops⟩ (Try.f127.body.getD .skip) :=
  loopsOk_of (ids := []) (by kernel_rfl) (by kernel_rfl) trivial

theorem laws_eqVersion_c : Contract Try.prog 127 laws_eqVersion_g := by
  refine told G4_ok follows Try.func127 (c := Try.f127.body.getD .skip) (by kernel_rfl) ?_
  intro args s k r hk
  unfold laws_eqVersion_g at hk
  rcases onPats_inv hk with ⟨p, q, rfl, rfl⟩ | hk
  · exact ⟨laws_eqVersion_loops, laws_eqVersion_q p.1.1 p.1.2.1 p.1.2.2.1 p.1.2.2.2.1 p.2.1.1 p.2.1.2.1 p.2.1.2.2.1 p.2.1.2.2.2.1, laws_eqVersion_y p.1.1 p.1.2.1 p.1.2.2.1 p.1.2.2.2.1 p.2.1.1 p.2.1.2.1 p.2.1.2.2.1 p.2.1.2.2.2.1, laws_eqVersion_l⟩
  cases hk

def G5 : Glob := G4.add 127 laws_eqVersion_g

theorem G5_ok : GlobOk Try.prog G5 := G4_ok.add ⟨Try.f127, Try.func127, by kernel_rfl, by kernel_rfl⟩ laws_eqVersion_c

/-! ### loop.example/g00327/laws.eqVersionS -/

def laws_eqVersionS_loops : Nat → Option LoopSpec
  | 0 => some ⟨[0, 1, 4, 5], [], fun vals st k => onPats [.lst tVersion, .lst tVersion, .bool, .int .i64] [] vals st (fun p q => loopK laws_eqVersionS_b0 Fuel (p.1, p.2.1, p.2.2.1, p.2.2.2.1) (Sum.elim (fun z => k .ret [.lst tVersion z.1, .lst tVersion z.2.1, .bool z.2.2.1, .int .i64 z.2.2.2] []) (fun z => k (.exit 0) [.lst tVersion z.1, .lst tVersion z.2.1, .bool z.2.2.1, .int .i64 z.2.2.2] [])))
      (none)⟩
  | _ => none

def laws_eqVersionS_v0 : ((List dVersion) × (List dVersion) × Bool × Int) → List AV := (fun x => [.lst tVersion x.1, .lst tVersion x.2.1, .bool x.2.2.1, .int .i64 x.2.2.2])
def laws_eqVersionS_s0 : ((List dVersion) × (List dVersion) × Bool × Int) → St := (fun x => [])
def laws_eqVersionS_e0 : (((List dVersion) × (List dVersion) × Bool × Int) ⊕ ((List dVersion) × (List dVersion) × Bool × Int)) → Out × List AV × St := (Sum.elim (fun z => (.ret, [.lst tVersion z.1, .lst tVersion z.2.1, .bool z.2.2.1, .int .i64 z.2.2.2], [])) (fun z => ((.exit 0), [.lst tVersion z.1, .lst tVersion z.2.1, .bool z.2.2.1, .int .i64 z.2.2.2], [])))

theorem laws_eqVersionS_bx0 (x : ((List dVersion) × (List dVersion) × Bool × Int)) : exec G5 ⟨0, 27, laws_eqVersionS_loops⟩ (loopBody Try.f61 0) (bodyK ⟨0, 27, laws_eqVersionS_loops⟩ [0, 1, 4, 5] []) (setEs (deads 27) [0, 1, 4, 5] (laws_eqVersionS_v0 x)) (laws_eqVersionS_s0 x) = laws_eqVersionS_b0 x (Sum.elim (fun y => some ⟨.norm, laws_eqVersionS_v0 y, laws_eqVersionS_s0 y⟩) fun z => some ⟨(laws_eqVersionS_e0 z).1, (laws_eqVersionS_e0 z).2.1, (laws_eqVersionS_e0 z).2.2⟩) := by
  kernel_rfl

theorem laws_eqVersionS_lo0 : ∀ sp, (laws_eqVersionS_loops 0) = some sp → LoopOk G5 ⟨0, 27, laws_eqVersionS_loops⟩ sp (loopBody Try.f61 0) := by
  intro sp hsp vals st k r h
  cases hsp
  dsimp only at h
  rcases onPats_inv2 h with ⟨p, q, rfl, rfl, h⟩ | h
  · exact loop_runs2 laws_eqVersionS_bp0 laws_eqVersionS_v0 laws_eqVersionS_s0 laws_eqVersionS_e0 (fun z => by rcases z with z | z <;> (intro h; cases h)) laws_eqVersionS_bx0 Fuel (p.1, p.2.1, p.2.2.1, p.2.2.2.1) _ k r (fun z => by rcases z with z | z <;> rfl) h
  cases h

theorem laws_eqVersionS_x (a0 : (List dVersion)) (a1 : (List dVersion)) : execFn G5 laws_eqVersionS_loops Try.f61 [.lst tVersion a0, .lst tVersion a1] [] = laws_eqVersionS_d a0 a1 (fun (y : Bool) => some ⟨.ret, [.bool y], []⟩) := by kernel_rfl

theorem laws_eqVersionS_y (a0 : (List dVersion)) (a1 : (List dVersion)) : execFn G5 laws_eqVersionS_loops Try.f61 [.lst tVersion a0, .lst tVersion a1] [] = laws_eqVersionS_k a0 a1 (fun (y : Bool) => some ⟨.ret, [.bool y], []⟩) := (laws_eqVersionS_x a0 a1).trans (by rw [laws_eqVersionS_e])

theorem laws_eqVersionS_l : LoopsOk G5 ⟨0, 27, laws_eqVersionS_loops⟩ (Try.f61.body.getD .skip) :=
  loopsOk_of (ids := [0]) (by kernel_rfl) (by kernel_rfl) ⟨laws_eqVersionS_lo0, trivial⟩

theorem laws_eqVersionS_c : Contract Try.prog 61 laws_eqVersionS_g := by
  refine told G5_ok follows Try.func61 (c := Try.f61.body.getD .skip) (by kernel_rfl) ?_
  intro args s k r hk
  unfold laws_eqVersionS_g at hk
  rcases onPats_inv hk with ⟨p, q, rfl, rfl⟩ | hk
  · exact ⟨laws_eqVersionS_loops, laws_eqVersionS_q p.1 p.2.1, laws_eqVersionS_y p.1 p.2.1, laws_eqVersionS_l⟩
  cases hk

def G6 : Glob := G5.add 61 laws_eqVersionS_g

theorem G6_ok : GlobOk Try.prog G6 := G5_ok.add ⟨Try.f61, Try.func61, by kernel_rfl, by kernel_rfl⟩ laws_eqVersionS_c

/-! ### loop.example/g00327/laws.eqRange -/

def laws_eqRange_loops : Nat → Option LoopSpec
  | _ => none

theorem laws_eqRange_x (a0 : ByteArray) (a1 : ByteArray) (a2 : ByteArray) (a3 : ByteArray) : execFn G6 laws_eqRange_loops Try.f132 [.agg [.str a0, .str a1], .agg [.str a2, .str a3]] [] = laws_eqRange_d (a0, a1) (a2, a3) (fun (y : Bool) => some ⟨.ret, [.bool y], []⟩) := by kernel_rfl

theorem laws_eqRange_y (a0 : ByteArray) (a1 : ByteArray) (a2 : ByteArray) (a3 : ByteArray) : execFn G6 laws_eqRange_loops Try.f132 [.agg [.str a0, .str a1], .agg [.str a2, .str a3]] [] = laws_eqRange_k (a0, a1) (a2, a3) (fun (y : Bool) => some ⟨.ret, [.bool y], []⟩) := (laws_eqRange_x a0 a1 a2 a3).trans (by rw [laws_eqRange_e])

theorem laws_eqRange_l : LoopsOk G6 ⟨0, 15, laws_eqRange_loops⟩ (Try.f132.body.getD .skip) :=
  loopsOk_of (ids := []) (by kernel_rfl) (by kernel_rfl) trivial

theorem laws_eqRange_c : Contract Try.prog 132 laws_eqRange_g := by
  refine told G6_ok follows Try.func132 (c := Try.f132.body.getD .skip) (by kernel_rfl) ?_
  intro args s k r hk
  unfold laws_eqRange_g at hk
  rcases onPats_inv hk with ⟨p, q, rfl, rfl⟩ | hk
  · exact ⟨laws_eqRange_loops, laws_eqRange_q p.1.1 p.1.2.1 p.2.1.1 p.2.1.2.1, laws_eqRange_y p.1.1 p.1.2.1 p.2.1.1 p.2.1.2.1, laws_eqRange_l⟩
  cases hk

def G7 : Glob := G6.add 132 laws_eqRange_g

theorem G7_ok : GlobOk Try.prog G7 := G6_ok.add ⟨Try.f132, Try.func132, by kernel_rfl, by kernel_rfl⟩ laws_eqRange_c

/-! ### loop.example/g00327/laws.eqRangeS -/

def laws_eqRangeS_loops : Nat → Option LoopSpec
  | 0 => some ⟨[0, 1, 4, 5], [], fun vals st k => onPats [.lst tRange, .lst tRange, .bool, .int .i64] [] vals st (fun p q => loopK laws_eqRangeS_b0 Fuel (p.1, p.2.1, p.2.2.1, p.2.2.2.1) (Sum.elim (fun z => k .ret [.lst tRange z.1, .lst tRange z.2.1, .bool z.2.2.1, .int .i64 z.2.2.2] []) (fun z => k (.exit 0) [.lst tRange z.1, .lst tRange z.2.1, .bool z.2.2.1, .int .i64 z.2.2.2] [])))
      (none)⟩
  | _ => none

def laws_eqRangeS_v0 : ((List dRange) × (List dRange) × Bool × Int) → List AV := (fun x => [.lst tRange x.1, .lst tRange x.2.1, .bool x.2.2.1, .int .i64 x.2.2.2])
def laws_eqRangeS_s0 : ((List dRange) × (List dRange) × Bool × Int) → St := (fun x => [])
def laws_eqRangeS_e0 : (((List dRange) × (List dRange) × Bool × Int) ⊕ ((List dRange) × (List dRange) × Bool × Int)) → Out × List AV × St := (Sum.elim (fun z => (.ret, [.lst tRange z.1, .lst tRange z.2.1, .bool z.2.2.1, .int .i64 z.2.2.2], [])) (fun z => ((.exit 0), [.lst tRange z.1, .lst tRange z.2.1, .bool z.2.2.1, .int .i64 z.2.2.2], [])))

theorem laws_eqRangeS_bx0 (x : ((List dRange) × (List dRange) × Bool × Int)) : exec G7 ⟨0, 27, laws_eqRangeS_loops⟩ (loopBody Try.f76 0) (bodyK ⟨0, 27, laws_eqRangeS_loops⟩ [0, 1, 4, 5] []) (setEs (deads 27) [0, 1, 4, 5] (laws_eqRangeS_v0 x)) (laws_eqRangeS_s0 x) = laws_eqRangeS_b0 x (Sum.elim (fun y => some ⟨.norm, laws_eqRangeS_v0 y, laws_eqRangeS_s0 y⟩) fun z => some ⟨(laws_eqRangeS_e0 z).1, (laws_eqRangeS_e0 z).2.1, (laws_eqRangeS_e0 z).2.2⟩) := by
  kernel_rfl

theorem laws_eqRangeS_lo0 : ∀ sp, (laws_eqRangeS_loops 0) = some sp → LoopOk G7 ⟨0, 27, laws_eqRangeS_loops⟩ sp (loopBody Try.f76 0) := by
  intro sp hsp vals st k r h
  cases hsp
  dsimp only at h
  rcases onPats_inv2 h with ⟨p, q, rfl, rfl, h⟩ | h
  · exact loop_runs2 laws_eqRangeS_bp0 laws_eqRangeS_v0 laws_eqRangeS_s0 laws_eqRangeS_e0 (fun z => by rcases z with z | z <;> (intro h; cases h)) laws_eqRangeS_bx0 Fuel (p.1, p.2.1, p.2.2.1, p.2.2.2.1) _ k r (fun z => by rcases z with z | z <;> rfl) h
  cases h

theorem laws_eqRangeS_x (a0 : (List dRange)) (a1 : (List dRange)) : execFn G7 laws_eqRangeS_loops Try.f76 [.lst tRange a0, .lst tRange a1] [] = laws_eqRangeS_d a0 a1 (fun (y : Bool) => some ⟨.ret, [.bool y], []⟩) := by kernel_rfl

theorem laws_eqRangeS_y (a0 : (List dRange)) (a1 : (List dRange)) : execFn G7 laws_eqRangeS_loops Try.f76 [.lst tRange a0, .lst tRange a1] [] = laws_eqRangeS_k a0 a1 (fun (y : Bool) => some ⟨.ret, [.bool y], []⟩) := (laws_eqRangeS_x a0 a1).trans (by rw [laws_eqRangeS_e])

theorem laws_eqRangeS_l : LoopsOk G7 ⟨0, 27, laws_eqRangeS_loops⟩ (Try.f76.body.getD .skip) :=
  loopsOk_of (ids := [0]) (by kernel_rfl) (by kernel_rfl) ⟨laws_eqRangeS_lo0, trivial⟩

theorem laws_eqRangeS_c : Contract Try.prog 76 laws_eqRangeS_g := by
  refine told G7_ok follows Try.func76 (c := Try.f76.body.getD .skip) (by kernel_rfl) ?_
  intro args s k r hk
  unfold laws_eqRangeS_g at hk
  rcases onPats_inv hk with ⟨p, q, rfl, rfl⟩ | hk
  · exact ⟨laws_eqRangeS_loops, laws_eqRangeS_q p.1 p.2.1, laws_eqRangeS_y p.1 p.2.1, laws_eqRangeS_l⟩
  cases hk

def G8 : Glob := G7.add 76 laws_eqRangeS_g

theorem G8_ok : GlobOk Try.prog G8 := G7_ok.add ⟨Try.f76, Try.func76, by kernel_rfl, by kernel_rfl⟩ laws_eqRangeS_c

/-! ### loop.example/g00327/laws.eqWrite -/

def laws_eqWrite_loops : Nat → Option LoopSpec
  | _ => none

theorem laws_eqWrite_x (a0 : ByteArray) (a1 : ByteArray) (a2 : Bool) (a3 : ByteArray) (a4 : ByteArray) (a5 : Bool) : execFn G8 laws_eqWrite_loops Try.f133 [.agg [.str a0, .str a1, .bool a2], .agg [.str a3, .str a4, .bool a5]] [] = laws_eqWrite_d (a0, (a1, a2)) (a3, (a4, a5)) (fun (y : Bool) => some ⟨.ret, [.bool y], []⟩) := by kernel_rfl

theorem laws_eqWrite_y (a0 : ByteArray) (a1 : ByteArray) (a2 : Bool) (a3 : ByteArray) (a4 : ByteArray) (a5 : Bool) : execFn G8 laws_eqWrite_loops Try.f133 [.agg [.str a0, .str a1, .bool a2], .agg [.str a3, .str a4, .bool a5]] [] = laws_eqWrite_k (a0, (a1, a2)) (a3, (a4, a5)) (fun (y : Bool) => some ⟨.ret, [.bool y], []⟩) := (laws_eqWrite_x a0 a1 a2 a3 a4 a5).trans (by rw [laws_eqWrite_e])

theorem laws_eqWrite_l : LoopsOk G8 ⟨0, 20, laws_eqWrite_loops⟩ (Try.f133.body.getD .skip) :=
  loopsOk_of (ids := []) (by kernel_rfl) (by kernel_rfl) trivial

theorem laws_eqWrite_c : Contract Try.prog 133 laws_eqWrite_g := by
  refine told G8_ok follows Try.func133 (c := Try.f133.body.getD .skip) (by kernel_rfl) ?_
  intro args s k r hk
  unfold laws_eqWrite_g at hk
  rcases onPats_inv hk with ⟨p, q, rfl, rfl⟩ | hk
  · exact ⟨laws_eqWrite_loops, laws_eqWrite_q p.1.1 p.1.2.1 p.1.2.2.1 p.2.1.1 p.2.1.2.1 p.2.1.2.2.1, laws_eqWrite_y p.1.1 p.1.2.1 p.1.2.2.1 p.2.1.1 p.2.1.2.1 p.2.1.2.2.1, laws_eqWrite_l⟩
  cases hk

def G9 : Glob := G8.add 133 laws_eqWrite_g

theorem G9_ok : GlobOk Try.prog G9 := G8_ok.add ⟨Try.f133, Try.func133, by kernel_rfl, by kernel_rfl⟩ laws_eqWrite_c

/-! ### loop.example/g00327/laws.eqWriteS -/

def laws_eqWriteS_loops : Nat → Option LoopSpec
  | 0 => some ⟨[0, 1, 4, 5], [], fun vals st k => onPats [.lst tWrite, .lst tWrite, .bool, .int .i64] [] vals st (fun p q => loopK laws_eqWriteS_b0 Fuel (p.1, p.2.1, p.2.2.1, p.2.2.2.1) (Sum.elim (fun z => k .ret [.lst tWrite z.1, .lst tWrite z.2.1, .bool z.2.2.1, .int .i64 z.2.2.2] []) (fun z => k (.exit 0) [.lst tWrite z.1, .lst tWrite z.2.1, .bool z.2.2.1, .int .i64 z.2.2.2] [])))
      (none)⟩
  | _ => none

def laws_eqWriteS_v0 : ((List dWrite) × (List dWrite) × Bool × Int) → List AV := (fun x => [.lst tWrite x.1, .lst tWrite x.2.1, .bool x.2.2.1, .int .i64 x.2.2.2])
def laws_eqWriteS_s0 : ((List dWrite) × (List dWrite) × Bool × Int) → St := (fun x => [])
def laws_eqWriteS_e0 : (((List dWrite) × (List dWrite) × Bool × Int) ⊕ ((List dWrite) × (List dWrite) × Bool × Int)) → Out × List AV × St := (Sum.elim (fun z => (.ret, [.lst tWrite z.1, .lst tWrite z.2.1, .bool z.2.2.1, .int .i64 z.2.2.2], [])) (fun z => ((.exit 0), [.lst tWrite z.1, .lst tWrite z.2.1, .bool z.2.2.1, .int .i64 z.2.2.2], [])))

theorem laws_eqWriteS_bx0 (x : ((List dWrite) × (List dWrite) × Bool × Int)) : exec G9 ⟨0, 27, laws_eqWriteS_loops⟩ (loopBody Try.f77 0) (bodyK ⟨0, 27, laws_eqWriteS_loops⟩ [0, 1, 4, 5] []) (setEs (deads 27) [0, 1, 4, 5] (laws_eqWriteS_v0 x)) (laws_eqWriteS_s0 x) = laws_eqWriteS_b0 x (Sum.elim (fun y => some ⟨.norm, laws_eqWriteS_v0 y, laws_eqWriteS_s0 y⟩) fun z => some ⟨(laws_eqWriteS_e0 z).1, (laws_eqWriteS_e0 z).2.1, (laws_eqWriteS_e0 z).2.2⟩) := by
  kernel_rfl

theorem laws_eqWriteS_lo0 : ∀ sp, (laws_eqWriteS_loops 0) = some sp → LoopOk G9 ⟨0, 27, laws_eqWriteS_loops⟩ sp (loopBody Try.f77 0) := by
  intro sp hsp vals st k r h
  cases hsp
  dsimp only at h
  rcases onPats_inv2 h with ⟨p, q, rfl, rfl, h⟩ | h
  · exact loop_runs2 laws_eqWriteS_bp0 laws_eqWriteS_v0 laws_eqWriteS_s0 laws_eqWriteS_e0 (fun z => by rcases z with z | z <;> (intro h; cases h)) laws_eqWriteS_bx0 Fuel (p.1, p.2.1, p.2.2.1, p.2.2.2.1) _ k r (fun z => by rcases z with z | z <;> rfl) h
  cases h

theorem laws_eqWriteS_x (a0 : (List dWrite)) (a1 : (List dWrite)) : execFn G9 laws_eqWriteS_loops Try.f77 [.lst tWrite a0, .lst tWrite a1] [] = laws_eqWriteS_d a0 a1 (fun (y : Bool) => some ⟨.ret, [.bool y], []⟩) := by kernel_rfl

theorem laws_eqWriteS_y (a0 : (List dWrite)) (a1 : (List dWrite)) : execFn G9 laws_eqWriteS_loops Try.f77 [.lst tWrite a0, .lst tWrite a1] [] = laws_eqWriteS_k a0 a1 (fun (y : Bool) => some ⟨.ret, [.bool y], []⟩) := (laws_eqWriteS_x a0 a1).trans (by rw [laws_eqWriteS_e])

theorem laws_eqWriteS_l : LoopsOk G9 ⟨0, 27, laws_eqWriteS_loops⟩ (Try.f77.body.getD .skip) :=
  loopsOk_of (ids := [0]) (by kernel_rfl) (by kernel_rfl) ⟨laws_eqWriteS_lo0, trivial⟩

theorem laws_eqWriteS_c : Contract Try.prog 77 laws_eqWriteS_g := by
  refine told G9_ok follows Try.func77 (c := Try.f77.body.getD .skip) (by kernel_rfl) ?_
  intro args s k r hk
  unfold laws_eqWriteS_g at hk
  rcases onPats_inv hk with ⟨p, q, rfl, rfl⟩ | hk
  · exact ⟨laws_eqWriteS_loops, laws_eqWriteS_q p.1 p.2.1, laws_eqWriteS_y p.1 p.2.1, laws_eqWriteS_l⟩
  cases hk

def G10 : Glob := G9.add 77 laws_eqWriteS_g

theorem G10_ok : GlobOk Try.prog G10 := G9_ok.add ⟨Try.f77, Try.func77, by kernel_rfl, by kernel_rfl⟩ laws_eqWriteS_c

/-! ### loop.example/g00327/laws.eqTxn -/

def laws_eqTxn_loops : Nat → Option LoopSpec
  | _ => none

theorem laws_eqTxn_x (a0 : Int) (a1 : Int) (a2 : Int) (a3 : Int) (a4 : (List dRange)) (a5 : (List dWrite)) (a6 : Bool) (a7 : ByteArray) (a8 : Int) (a9 : Int) (a10 : Int) (a11 : Int) (a12 : (List dRange)) (a13 : (List dWrite)) (a14 : Bool) (a15 : ByteArray) : execFn G10 laws_eqTxn_loops Try.f19 [.agg [.int .i64 a0, .int .i64 a1, .int .i64 a2, .int .i64 a3, .lst tRange a4, .lst tWrite a5, .bool a6, .str a7], .agg [.int .i64 a8, .int .i64 a9, .int .i64 a10, .int .i64 a11, .lst tRange a12, .lst tWrite a13, .bool a14, .str a15]] [] = laws_eqTxn_d (a0, (a1, (a2, (a3, (a4, (a5, (a6, a7))))))) (a8, (a9, (a10, (a11, (a12, (a13, (a14, a15))))))) (fun (y : Bool) => some ⟨.ret, [.bool y], []⟩) := by kernel_rfl

theorem laws_eqTxn_y (a0 : Int) (a1 : Int) (a2 : Int) (a3 : Int) (a4 : (List dRange)) (a5 : (List dWrite)) (a6 : Bool) (a7 : ByteArray) (a8 : Int) (a9 : Int) (a10 : Int) (a11 : Int) (a12 : (List dRange)) (a13 : (List dWrite)) (a14 : Bool) (a15 : ByteArray) : execFn G10 laws_eqTxn_loops Try.f19 [.agg [.int .i64 a0, .int .i64 a1, .int .i64 a2, .int .i64 a3, .lst tRange a4, .lst tWrite a5, .bool a6, .str a7], .agg [.int .i64 a8, .int .i64 a9, .int .i64 a10, .int .i64 a11, .lst tRange a12, .lst tWrite a13, .bool a14, .str a15]] [] = laws_eqTxn_k (a0, (a1, (a2, (a3, (a4, (a5, (a6, a7))))))) (a8, (a9, (a10, (a11, (a12, (a13, (a14, a15))))))) (fun (y : Bool) => some ⟨.ret, [.bool y], []⟩) := (laws_eqTxn_x a0 a1 a2 a3 a4 a5 a6 a7 a8 a9 a10 a11 a12 a13 a14 a15).trans (by rw [laws_eqTxn_e])

theorem laws_eqTxn_l : LoopsOk G10 ⟨0, 47, laws_eqTxn_loops⟩ (Try.f19.body.getD .skip) :=
  loopsOk_of (ids := []) (by kernel_rfl) (by kernel_rfl) trivial

theorem laws_eqTxn_c : Contract Try.prog 19 laws_eqTxn_g := by
  refine told G10_ok follows Try.func19 (c := Try.f19.body.getD .skip) (by kernel_rfl) ?_
  intro args s k r hk
  unfold laws_eqTxn_g at hk
  rcases onPats_inv hk with ⟨p, q, rfl, rfl⟩ | hk
  · exact ⟨laws_eqTxn_loops, laws_eqTxn_q p.1.1 p.1.2.1 p.1.2.2.1 p.1.2.2.2.1 p.1.2.2.2.2.1 p.1.2.2.2.2.2.1 p.1.2.2.2.2.2.2.1 p.1.2.2.2.2.2.2.2.1 p.2.1.1 p.2.1.2.1 p.2.1.2.2.1 p.2.1.2.2.2.1 p.2.1.2.2.2.2.1 p.2.1.2.2.2.2.2.1 p.2.1.2.2.2.2.2.2.1 p.2.1.2.2.2.2.2.2.2.1, laws_eqTxn_y p.1.1 p.1.2.1 p.1.2.2.1 p.1.2.2.2.1 p.1.2.2.2.2.1 p.1.2.2.2.2.2.1 p.1.2.2.2.2.2.2.1 p.1.2.2.2.2.2.2.2.1 p.2.1.1 p.2.1.2.1 p.2.1.2.2.1 p.2.1.2.2.2.1 p.2.1.2.2.2.2.1 p.2.1.2.2.2.2.2.1 p.2.1.2.2.2.2.2.2.1 p.2.1.2.2.2.2.2.2.2.1, laws_eqTxn_l⟩
  cases hk

def G11 : Glob := G10.add 19 laws_eqTxn_g

theorem G11_ok : GlobOk Try.prog G11 := G10_ok.add ⟨Try.f19, Try.func19, by kernel_rfl, by kernel_rfl⟩ laws_eqTxn_c

/-! ### loop.example/g00327/laws.eqTxnS -/

def laws_eqTxnS_loops : Nat → Option LoopSpec
  | 0 => some ⟨[0, 1, 4, 5], [], fun vals st k => onPats [.lst tTxn, .lst tTxn, .bool, .int .i64] [] vals st (fun p q => loopK laws_eqTxnS_b0 Fuel (p.1, p.2.1, p.2.2.1, p.2.2.2.1) (Sum.elim (fun z => k .ret [.lst tTxn z.1, .lst tTxn z.2.1, .bool z.2.2.1, .int .i64 z.2.2.2] []) (fun z => k (.exit 0) [.lst tTxn z.1, .lst tTxn z.2.1, .bool z.2.2.1, .int .i64 z.2.2.2] [])))
      (none)⟩
  | _ => none

def laws_eqTxnS_v0 : ((List dTxn) × (List dTxn) × Bool × Int) → List AV := (fun x => [.lst tTxn x.1, .lst tTxn x.2.1, .bool x.2.2.1, .int .i64 x.2.2.2])
def laws_eqTxnS_s0 : ((List dTxn) × (List dTxn) × Bool × Int) → St := (fun x => [])
def laws_eqTxnS_e0 : (((List dTxn) × (List dTxn) × Bool × Int) ⊕ ((List dTxn) × (List dTxn) × Bool × Int)) → Out × List AV × St := (Sum.elim (fun z => (.ret, [.lst tTxn z.1, .lst tTxn z.2.1, .bool z.2.2.1, .int .i64 z.2.2.2], [])) (fun z => ((.exit 0), [.lst tTxn z.1, .lst tTxn z.2.1, .bool z.2.2.1, .int .i64 z.2.2.2], [])))

theorem laws_eqTxnS_bx0 (x : ((List dTxn) × (List dTxn) × Bool × Int)) : exec G11 ⟨0, 27, laws_eqTxnS_loops⟩ (loopBody Try.f32 0) (bodyK ⟨0, 27, laws_eqTxnS_loops⟩ [0, 1, 4, 5] []) (setEs (deads 27) [0, 1, 4, 5] (laws_eqTxnS_v0 x)) (laws_eqTxnS_s0 x) = laws_eqTxnS_b0 x (Sum.elim (fun y => some ⟨.norm, laws_eqTxnS_v0 y, laws_eqTxnS_s0 y⟩) fun z => some ⟨(laws_eqTxnS_e0 z).1, (laws_eqTxnS_e0 z).2.1, (laws_eqTxnS_e0 z).2.2⟩) := by
  kernel_rfl

theorem laws_eqTxnS_lo0 : ∀ sp, (laws_eqTxnS_loops 0) = some sp → LoopOk G11 ⟨0, 27, laws_eqTxnS_loops⟩ sp (loopBody Try.f32 0) := by
  intro sp hsp vals st k r h
  cases hsp
  dsimp only at h
  rcases onPats_inv2 h with ⟨p, q, rfl, rfl, h⟩ | h
  · exact loop_runs2 laws_eqTxnS_bp0 laws_eqTxnS_v0 laws_eqTxnS_s0 laws_eqTxnS_e0 (fun z => by rcases z with z | z <;> (intro h; cases h)) laws_eqTxnS_bx0 Fuel (p.1, p.2.1, p.2.2.1, p.2.2.2.1) _ k r (fun z => by rcases z with z | z <;> rfl) h
  cases h

theorem laws_eqTxnS_x (a0 : (List dTxn)) (a1 : (List dTxn)) : execFn G11 laws_eqTxnS_loops Try.f32 [.lst tTxn a0, .lst tTxn a1] [] = laws_eqTxnS_d a0 a1 (fun (y : Bool) => some ⟨.ret, [.bool y], []⟩) := by kernel_rfl

theorem laws_eqTxnS_y (a0 : (List dTxn)) (a1 : (List dTxn)) : execFn G11 laws_eqTxnS_loops Try.f32 [.lst tTxn a0, .lst tTxn a1] [] = laws_eqTxnS_k a0 a1 (fun (y : Bool) => some ⟨.ret, [.bool y], []⟩) := (laws_eqTxnS_x a0 a1).trans (by rw [laws_eqTxnS_e])

theorem laws_eqTxnS_l : LoopsOk G11 ⟨0, 27, laws_eqTxnS_loops⟩ (Try.f32.body.getD .skip) :=
  loopsOk_of (ids := [0]) (by kernel_rfl) (by kernel_rfl) ⟨laws_eqTxnS_lo0, trivial⟩

theorem laws_eqTxnS_c : Contract Try.prog 32 laws_eqTxnS_g := by
  refine told G11_ok follows Try.func32 (c := Try.f32.body.getD .skip) (by kernel_rfl) ?_
  intro args s k r hk
  unfold laws_eqTxnS_g at hk
  rcases onPats_inv hk with ⟨p, q, rfl, rfl⟩ | hk
  · exact ⟨laws_eqTxnS_loops, laws_eqTxnS_q p.1 p.2.1, laws_eqTxnS_y p.1 p.2.1, laws_eqTxnS_l⟩
  cases hk

def G12 : Glob := G11.add 32 laws_eqTxnS_g

theorem G12_ok : GlobOk Try.prog G12 := G11_ok.add ⟨Try.f32, Try.func32, by kernel_rfl, by kernel_rfl⟩ laws_eqTxnS_c

/-! ### loop.example/g00327/laws.eqBase -/

def laws_eqBase_loops : Nat → Option LoopSpec
  | _ => none

theorem laws_eqBase_x (a0 : (List dVersion)) (a1 : (List dTxn)) (a2 : (List dTxn)) (a3 : Int) (a4 : Int) (a5 : (List dVersion)) (a6 : (List dTxn)) (a7 : (List dTxn)) (a8 : Int) (a9 : Int) : execFn G12 laws_eqBase_loops Try.f54 [.agg [.lst tVersion a0, .lst tTxn a1, .lst tTxn a2, .int .i64 a3, .int .i64 a4], .agg [.lst tVersion a5, .lst tTxn a6, .lst tTxn a7, .int .i64 a8, .int .i64 a9]] [] = laws_eqBase_d (a0, (a1, (a2, (a3, a4)))) (a5, (a6, (a7, (a8, a9)))) (fun (y : Bool) => some ⟨.ret, [.bool y], []⟩) := by kernel_rfl

theorem laws_eqBase_y (a0 : (List dVersion)) (a1 : (List dTxn)) (a2 : (List dTxn)) (a3 : Int) (a4 : Int) (a5 : (List dVersion)) (a6 : (List dTxn)) (a7 : (List dTxn)) (a8 : Int) (a9 : Int) : execFn G12 laws_eqBase_loops Try.f54 [.agg [.lst tVersion a0, .lst tTxn a1, .lst tTxn a2, .int .i64 a3, .int .i64 a4], .agg [.lst tVersion a5, .lst tTxn a6, .lst tTxn a7, .int .i64 a8, .int .i64 a9]] [] = laws_eqBase_k (a0, (a1, (a2, (a3, a4)))) (a5, (a6, (a7, (a8, a9)))) (fun (y : Bool) => some ⟨.ret, [.bool y], []⟩) := (laws_eqBase_x a0 a1 a2 a3 a4 a5 a6 a7 a8 a9).trans (by rw [laws_eqBase_e])

theorem laws_eqBase_l : LoopsOk G12 ⟨0, 33, laws_eqBase_loops⟩ (Try.f54.body.getD .skip) :=
  loopsOk_of (ids := []) (by kernel_rfl) (by kernel_rfl) trivial

theorem laws_eqBase_c : Contract Try.prog 54 laws_eqBase_g := by
  refine told G12_ok follows Try.func54 (c := Try.f54.body.getD .skip) (by kernel_rfl) ?_
  intro args s k r hk
  unfold laws_eqBase_g at hk
  rcases onPats_inv hk with ⟨p, q, rfl, rfl⟩ | hk
  · exact ⟨laws_eqBase_loops, laws_eqBase_q p.1.1 p.1.2.1 p.1.2.2.1 p.1.2.2.2.1 p.1.2.2.2.2.1 p.2.1.1 p.2.1.2.1 p.2.1.2.2.1 p.2.1.2.2.2.1 p.2.1.2.2.2.2.1, laws_eqBase_y p.1.1 p.1.2.1 p.1.2.2.1 p.1.2.2.2.1 p.1.2.2.2.2.1 p.2.1.1 p.2.1.2.1 p.2.1.2.2.1 p.2.1.2.2.2.1 p.2.1.2.2.2.2.1, laws_eqBase_l⟩
  cases hk

def G13 : Glob := G12.add 54 laws_eqBase_g

theorem G13_ok : GlobOk Try.prog G13 := G12_ok.add ⟨Try.f54, Try.func54, by kernel_rfl, by kernel_rfl⟩ laws_eqBase_c

/-! ### loop.example/g00327/laws.eqEngine -/

def laws_eqEngine_loops : Nat → Option LoopSpec
  | _ => none

theorem laws_eqEngine_x (a0 : (List dVersion)) (a1 : (List dTxn)) (a2 : (List dTxn)) (a3 : Int) (a4 : Int) (a5 : (List dTxn)) (a6 : (List dVersion)) (a7 : (List dTxn)) (a8 : (List dTxn)) (a9 : Int) (a10 : Int) (a11 : (List dTxn)) : execFn G13 laws_eqEngine_loops Try.f64 [.agg [.lst tVersion a0, .lst tTxn a1, .lst tTxn a2, .int .i64 a3, .int .i64 a4, .lst tTxn a5], .agg [.lst tVersion a6, .lst tTxn a7, .lst tTxn a8, .int .i64 a9, .int .i64 a10, .lst tTxn a11]] [] = laws_eqEngine_d ((a0, (a1, (a2, (a3, a4)))), a5) ((a6, (a7, (a8, (a9, a10)))), a11) (fun (y : Bool) => some ⟨.ret, [.bool y], []⟩) := by kernel_rfl

theorem laws_eqEngine_y (a0 : (List dVersion)) (a1 : (List dTxn)) (a2 : (List dTxn)) (a3 : Int) (a4 : Int) (a5 : (List dTxn)) (a6 : (List dVersion)) (a7 : (List dTxn)) (a8 : (List dTxn)) (a9 : Int) (a10 : Int) (a11 : (List dTxn)) : execFn G13 laws_eqEngine_loops Try.f64 [.agg [.lst tVersion a0, .lst tTxn a1, .lst tTxn a2, .int .i64 a3, .int .i64 a4, .lst tTxn a5], .agg [.lst tVersion a6, .lst tTxn a7, .lst tTxn a8, .int .i64 a9, .int .i64 a10, .lst tTxn a11]] [] = laws_eqEngine_k ((a0, (a1, (a2, (a3, a4)))), a5) ((a6, (a7, (a8, (a9, a10)))), a11) (fun (y : Bool) => some ⟨.ret, [.bool y], []⟩) := (laws_eqEngine_x a0 a1 a2 a3 a4 a5 a6 a7 a8 a9 a10 a11).trans (by rw [laws_eqEngine_e])

theorem laws_eqEngine_l : LoopsOk G13 ⟨0, 17, laws_eqEngine_loops⟩ (Try.f64.body.getD .skip) :=
  loopsOk_of (ids := []) (by kernel_rfl) (by kernel_rfl) trivial

theorem laws_eqEngine_c : Contract Try.prog 64 laws_eqEngine_g := by
  refine told G13_ok follows Try.func64 (c := Try.f64.body.getD .skip) (by kernel_rfl) ?_
  intro args s k r hk
  unfold laws_eqEngine_g at hk
  rcases onPats_inv hk with ⟨p, q, rfl, rfl⟩ | hk
  · exact ⟨laws_eqEngine_loops, laws_eqEngine_q p.1.1 p.1.2.1 p.1.2.2.1 p.1.2.2.2.1 p.1.2.2.2.2.1 p.1.2.2.2.2.2.1 p.2.1.1 p.2.1.2.1 p.2.1.2.2.1 p.2.1.2.2.2.1 p.2.1.2.2.2.2.1 p.2.1.2.2.2.2.2.1, laws_eqEngine_y p.1.1 p.1.2.1 p.1.2.2.1 p.1.2.2.2.1 p.1.2.2.2.2.1 p.1.2.2.2.2.2.1 p.2.1.1 p.2.1.2.1 p.2.1.2.2.1 p.2.1.2.2.2.1 p.2.1.2.2.2.2.1 p.2.1.2.2.2.2.2.1, laws_eqEngine_l⟩
  cases hk

def G14 : Glob := G13.add 64 laws_eqEngine_g

theorem G14_ok : GlobOk Try.prog G14 := G13_ok.add ⟨Try.f64, Try.func64, by kernel_rfl, by kernel_rfl⟩ laws_eqEngine_c

/-! ### loop.example/g00327/laws.markText -/

def laws_markText_loops : Nat → Option LoopSpec
  | 0 => some ⟨[0, 3], [], fun vals st k => onPats [.int .i64, .str] [] vals st (fun p q => loopK laws_markText_b0 Fuel (p.1, p.2.1) (fun z => k (.exit 0) [.int .i64 z.1, .str z.2] []))
      (none)⟩
  | _ => none

def laws_markText_v0 : (Int × ByteArray) → List AV := (fun x => [.int .i64 x.1, .str x.2])
def laws_markText_s0 : (Int × ByteArray) → St := (fun x => [])
def laws_markText_e0 : (Int × ByteArray) → Out × List AV × St := (fun z => ((.exit 0), [.int .i64 z.1, .str z.2], []))

theorem laws_markText_bx0 (x : (Int × ByteArray)) : exec G14 ⟨0, 20, laws_markText_loops⟩ (loopBody Try.f148 0) (bodyK ⟨0, 20, laws_markText_loops⟩ [0, 3] []) (setEs (deads 20) [0, 3] (laws_markText_v0 x)) (laws_markText_s0 x) = laws_markText_b0 x (Sum.elim (fun y => some ⟨.norm, laws_markText_v0 y, laws_markText_s0 y⟩) fun z => some ⟨(laws_markText_e0 z).1, (laws_markText_e0 z).2.1, (laws_markText_e0 z).2.2⟩) := by
  kernel_rfl

theorem laws_markText_lo0 : ∀ sp, (laws_markText_loops 0) = some sp → LoopOk G14 ⟨0, 20, laws_markText_loops⟩ sp (loopBody Try.f148 0) := by
  intro sp hsp vals st k r h
  cases hsp
  dsimp only at h
  rcases onPats_inv2 h with ⟨p, q, rfl, rfl, h⟩ | h
  · exact loop_runs2 laws_markText_bp0 laws_markText_v0 laws_markText_s0 laws_markText_e0 (fun z => by (intro h; cases h)) laws_markText_bx0 Fuel (p.1, p.2.1) _ k r (fun z => rfl) h
  cases h

theorem laws_markText_x (a0 : Int) : execFn G14 laws_markText_loops Try.f148 [.int .i64 a0] [] = laws_markText_d a0 (fun (y : ByteArray) => some ⟨.ret, [.str y], []⟩) := by kernel_rfl

theorem laws_markText_y (a0 : Int) : execFn G14 laws_markText_loops Try.f148 [.int .i64 a0] [] = laws_markText_k a0 (fun (y : ByteArray) => some ⟨.ret, [.str y], []⟩) := (laws_markText_x a0).trans (by rw [laws_markText_e])

theorem laws_markText_l : LoopsOk G14 ⟨0, 20, laws_markText_loops⟩ (Try.f148.body.getD .skip) :=
  loopsOk_of (ids := [0]) (by kernel_rfl) (by kernel_rfl) ⟨laws_markText_lo0, trivial⟩

theorem laws_markText_c : Contract Try.prog 148 laws_markText_g := by
  refine told G14_ok follows Try.func148 (c := Try.f148.body.getD .skip) (by kernel_rfl) ?_
  intro args s k r hk
  unfold laws_markText_g at hk
  rcases onPats_inv hk with ⟨p, q, rfl, rfl⟩ | hk
  · exact ⟨laws_markText_loops, laws_markText_q p.1, laws_markText_y p.1, laws_markText_l⟩
  cases hk

def G15 : Glob := G14.add 148 laws_markText_g

theorem G15_ok : GlobOk Try.prog G15 := G14_ok.add ⟨Try.f148, Try.func148, by kernel_rfl, by kernel_rfl⟩ laws_markText_c

/-! ### loop.example/g00327/laws.markVersionS -/

def laws_markVersionS_vn_loops : Nat → Option LoopSpec
  | 0 => some ⟨[0, 1, 5], [], fun vals st k => onPats [.nilS, .int .i64, .int .i64] [] vals st (fun p q => loopK laws_markVersionS_vn_b0 Fuel (p.2.1, p.2.2.1) (fun z => k (.exit 0) [.nilS, .int .i64 z.1, .int .i64 z.2] []))
      (none)⟩
  | _ => none

def laws_markVersionS_vn_v0 : (Int × Int) → List AV := (fun x => [.nilS, .int .i64 x.1, .int .i64 x.2])
def laws_markVersionS_vn_s0 : (Int × Int) → St := (fun x => [])
def laws_markVersionS_vn_e0 : (Int × Int) → Out × List AV × St := (fun z => ((.exit 0), [.nilS, .int .i64 z.1, .int .i64 z.2], []))

theorem laws_markVersionS_vn_bx0 (x : (Int × Int)) : exec G15 ⟨0, 45, laws_markVersionS_vn_loops⟩ (loopBody Try.f120 0) (bodyK ⟨0, 45, laws_markVersionS_vn_loops⟩ [0, 1, 5] []) (setEs (deads 45) [0, 1, 5] (laws_markVersionS_vn_v0 x)) (laws_markVersionS_vn_s0 x) = laws_markVersionS_vn_b0 x (Sum.elim (fun y => some ⟨.norm, laws_markVersionS_vn_v0 y, laws_markVersionS_vn_s0 y⟩) fun z => some ⟨(laws_markVersionS_vn_e0 z).1, (laws_markVersionS_vn_e0 z).2.1, (laws_markVersionS_vn_e0 z).2.2⟩) := by
  kernel_rfl

theorem laws_markVersionS_vn_lo0 : ∀ sp, (laws_markVersionS_vn_loops 0) = some sp → LoopOk G15 ⟨0, 45, laws_markVersionS_vn_loops⟩ sp (loopBody Try.f120 0) := by
  intro sp hsp vals st k r h
  cases hsp
  dsimp only at h
  rcases onPats_inv2 h with ⟨p, q, rfl, rfl, h⟩ | h
  · exact loop_runs2 laws_markVersionS_vn_bp0 laws_markVersionS_vn_v0 laws_markVersionS_vn_s0 laws_markVersionS_vn_e0 (fun z => by (intro h; cases h)) laws_markVersionS_vn_bx0 Fuel (p.2.1, p.2.2.1) _ k r (fun z => rfl) h
  cases h

theorem laws_markVersionS_vn_x (a0 : Int) : execFn G15 laws_markVersionS_vn_loops Try.f120 [.nilS, .int .i64 a0] [] = laws_markVersionS_vn_d a0 (fun (y : Int) => some ⟨.ret, [.int .i64 y], []⟩) := by kernel_rfl

theorem laws_markVersionS_vn_y (a0 : Int) : execFn G15 laws_markVersionS_vn_loops Try.f120 [.nilS, .int .i64 a0] [] = laws_markVersionS_vn_k a0 (fun (y : Int) => some ⟨.ret, [.int .i64 y], []⟩) := (laws_markVersionS_vn_x a0).trans (by rw [laws_markVersionS_vn_e])

theorem laws_markVersionS_vn_l : LoopsOk G15 ⟨0, 45, laws_markVersionS_vn_loops⟩ (Try.f120.body.getD .skip) :=
  loopsOk_of (ids := [0]) (by kernel_rfl) (by kernel_rfl) ⟨laws_markVersionS_vn_lo0, trivial⟩

theorem laws_markVersionS_c : Contract Try.prog 120 laws_markVersionS_g := by
  refine told G15_ok follows Try.func120 (c := Try.f120.body.getD .skip) (by kernel_rfl) ?_
  intro args s k r hk
  unfold laws_markVersionS_g at hk
  rcases onPats_inv hk with ⟨p, q, rfl, rfl⟩ | hk
  · exact ⟨laws_markVersionS_vn_loops, laws_markVersionS_vn_q p.2.1, laws_markVersionS_vn_y p.2.1, laws_markVersionS_vn_l⟩
  cases hk

def G16 : Glob := G15.add 120 laws_markVersionS_g

theorem G16_ok : GlobOk Try.prog G16 := G15_ok.add ⟨Try.f120, Try.func120, by kernel_rfl, by kernel_rfl⟩ laws_markVersionS_c

/-! ### loop.example/g00327/laws.markTxnS -/

def laws_markTxnS_vn_loops : Nat → Option LoopSpec
  | 0 => some ⟨[0, 1, 5], [], fun vals st k => onPats [.nilS, .int .i64, .int .i64] [] vals st (fun p q => loopK laws_markTxnS_vn_b0 Fuel (p.2.1, p.2.2.1) (fun z => k (.exit 0) [.nilS, .int .i64 z.1, .int .i64 z.2] []))
      (none)⟩
  | _ => none

def laws_markTxnS_vn_v0 : (Int × Int) → List AV := (fun x => [.nilS, .int .i64 x.1, .int .i64 x.2])
def laws_markTxnS_vn_s0 : (Int × Int) → St := (fun x => [])
def laws_markTxnS_vn_e0 : (Int × Int) → Out × List AV × St := (fun z => ((.exit 0), [.nilS, .int .i64 z.1, .int .i64 z.2], []))

theorem laws_markTxnS_vn_bx0 (x : (Int × Int)) : exec G16 ⟨0, 72, laws_markTxnS_vn_loops⟩ (loopBody Try.f121 0) (bodyK ⟨0, 72, laws_markTxnS_vn_loops⟩ [0, 1, 5] []) (setEs (deads 72) [0, 1, 5] (laws_markTxnS_vn_v0 x)) (laws_markTxnS_vn_s0 x) = laws_markTxnS_vn_b0 x (Sum.elim (fun y => some ⟨.norm, laws_markTxnS_vn_v0 y, laws_markTxnS_vn_s0 y⟩) fun z => some ⟨(laws_markTxnS_vn_e0 z).1, (laws_markTxnS_vn_e0 z).2.1, (laws_markTxnS_vn_e0 z).2.2⟩) := by
  kernel_rfl

theorem laws_markTxnS_vn_lo0 : ∀ sp, (laws_markTxnS_vn_loops 0) = some sp → LoopOk G16 ⟨0, 72, laws_markTxnS_vn_loops⟩ sp (loopBody Try.f121 0) := by
  intro sp hsp vals st k r h
  cases hsp
  dsimp only at h
  rcases onPats_inv2 h with ⟨p, q, rfl, rfl, h⟩ | h
  · exact loop_runs2 laws_markTxnS_vn_bp0 laws_markTxnS_vn_v0 laws_markTxnS_vn_s0 laws_markTxnS_vn_e0 (fun z => by (intro h; cases h)) laws_markTxnS_vn_bx0 Fuel (p.2.1, p.2.2.1) _ k r (fun z => rfl) h
  cases h

theorem laws_markTxnS_vn_x (a0 : Int) : execFn G16 laws_markTxnS_vn_loops Try.f121 [.nilS, .int .i64 a0] [] = laws_markTxnS_vn_d a0 (fun (y : Int) => some ⟨.ret, [.int .i64 y], []⟩) := by kernel_rfl

theorem laws_markTxnS_vn_y (a0 : Int) : execFn G16 laws_markTxnS_vn_loops Try.f121 [.nilS, .int .i64 a0] [] = laws_markTxnS_vn_k a0 (fun (y : Int) => some ⟨.ret, [.int .i64 y], []⟩) := (laws_markTxnS_vn_x a0).trans (by rw [laws_markTxnS_vn_e])

theorem laws_markTxnS_vn_l : LoopsOk G16 ⟨0, 72, laws_markTxnS_vn_loops⟩ (Try.f121.body.getD .skip) :=
  loopsOk_of (ids := [0]) (by kernel_rfl) (by kernel_rfl) ⟨laws_markTxnS_vn_lo0, trivial⟩

theorem laws_markTxnS_c : Contract Try.prog 121 laws_markTxnS_g := by
  refine told G16_ok follows Try.func121 (c := Try.f121.body.getD .skip) (by kernel_rfl) ?_
  intro args s k r hk
  unfold laws_markTxnS_g at hk
  rcases onPats_inv hk with ⟨p, q, rfl, rfl⟩ | hk
  · exact ⟨laws_markTxnS_vn_loops, laws_markTxnS_vn_q p.2.1, laws_markTxnS_vn_y p.2.1, laws_markTxnS_vn_l⟩
  cases hk

def G17 : Glob := G16.add 121 laws_markTxnS_g

theorem G17_ok : GlobOk Try.prog G17 := G16_ok.add ⟨Try.f121, Try.func121, by kernel_rfl, by kernel_rfl⟩ laws_markTxnS_c

/-! ### loop.example/g00327/laws.markBase -/

def laws_markBase_va_loops : Nat → Option LoopSpec
  | _ => none

theorem laws_markBase_va_x (a0 : Int) (a1 : Int) (a2 : Int) : execFn G17 laws_markBase_va_loops Try.f55 [.agg [.nilS, .nilS, .nilS, .int .i64 a0, .int .i64 a1], .int .i64 a2] [] = laws_markBase_va_d a0 a1 a2 (fun (y : Int) => some ⟨.ret, [.int .i64 y], []⟩) := by kernel_rfl

theorem laws_markBase_va_y (a0 : Int) (a1 : Int) (a2 : Int) : execFn G17 laws_markBase_va_loops Try.f55 [.agg [.nilS, .nilS, .nilS, .int .i64 a0, .int .i64 a1], .int .i64 a2] [] = laws_markBase_va_k a0 a1 a2 (fun (y : Int) => some ⟨.ret, [.int .i64 y], []⟩) := (laws_markBase_va_x a0 a1 a2).trans (by rw [laws_markBase_va_e])

theorem laws_markBase_va_l : LoopsOk G17 ⟨0, 18, laws_markBase_va_loops⟩ (Try.f55.body.getD .skip) :=
  loopsOk_of (ids := []) (by kernel_rfl) (by kernel_rfl) trivial

theorem laws_markBase_c : Contract Try.prog 55 laws_markBase_g := by
  refine told G17_ok follows Try.func55 (c := Try.f55.body.getD .skip) (by kernel_rfl) ?_
  intro args s k r hk
  unfold laws_markBase_g at hk
  rcases onPats_inv hk with ⟨p, q, rfl, rfl⟩ | hk
  · exact ⟨laws_markBase_va_loops, laws_markBase_va_q p.1.2.2.2.1 p.1.2.2.2.2.1 p.2.1, laws_markBase_va_y p.1.2.2.2.1 p.1.2.2.2.2.1 p.2.1, laws_markBase_va_l⟩
  cases hk

def G18 : Glob := G17.add 55 laws_markBase_g

theorem G18_ok : GlobOk Try.prog G18 := G17_ok.add ⟨Try.f55, Try.func55, by kernel_rfl, by kernel_rfl⟩ laws_markBase_c

/-! ### loop.example/g00327/laws.markEngine -/

def laws_markEngine_va_loops : Nat → Option LoopSpec
  | _ => none

theorem laws_markEngine_va_x (a0 : Int) (a1 : Int) (a2 : Int) : execFn G18 laws_markEngine_va_loops Try.f65 [.agg [.nilS, .nilS, .nilS, .int .i64 a0, .int .i64 a1, .nilS], .int .i64 a2] [] = laws_markEngine_va_d a0 a1 a2 (fun (y : Int) => some ⟨.ret, [.int .i64 y], []⟩) := by kernel_rfl

theorem laws_markEngine_va_y (a0 : Int) (a1 : Int) (a2 : Int) : execFn G18 laws_markEngine_va_loops Try.f65 [.agg [.nilS, .nilS, .nilS, .int .i64 a0, .int .i64 a1, .nilS], .int .i64 a2] [] = laws_markEngine_va_k a0 a1 a2 (fun (y : Int) => some ⟨.ret, [.int .i64 y], []⟩) := (laws_markEngine_va_x a0 a1 a2).trans (by rw [laws_markEngine_va_e])

theorem laws_markEngine_va_l : LoopsOk G18 ⟨0, 14, laws_markEngine_va_loops⟩ (Try.f65.body.getD .skip) :=
  loopsOk_of (ids := []) (by kernel_rfl) (by kernel_rfl) trivial

theorem laws_markEngine_c : Contract Try.prog 65 laws_markEngine_g := by
  refine told G18_ok follows Try.func65 (c := Try.f65.body.getD .skip) (by kernel_rfl) ?_
  intro args s k r hk
  unfold laws_markEngine_g at hk
  rcases onPats_inv hk with ⟨p, q, rfl, rfl⟩ | hk
  · exact ⟨laws_markEngine_va_loops, laws_markEngine_va_q p.1.2.2.2.1 p.1.2.2.2.2.1 p.2.1, laws_markEngine_va_y p.1.2.2.2.1 p.1.2.2.2.2.1 p.2.1, laws_markEngine_va_l⟩
  cases hk

def G19 : Glob := G18.add 65 laws_markEngine_g

theorem G19_ok : GlobOk Try.prog G19 := G18_ok.add ⟨Try.f65, Try.func65, by kernel_rfl, by kernel_rfl⟩ laws_markEngine_c

/-! ### loop.example/g00327/laws.heldVersionS -/

def laws_heldVersionS_loops : Nat → Option LoopSpec
  | 0 => some ⟨[0, 1, 4, 5], [], fun vals st k => onPats [.lst tVersion, .int .i64, .int .i64, .int .i64] [] vals st (fun p q => loopK laws_heldVersionS_b0 Fuel (p.1, p.2.1, p.2.2.1, p.2.2.2.1) (Sum.elim (fun z => k .ret [.lst tVersion z.1, .int .i64 z.2.1, .int .i64 z.2.2.1, .int .i64 z.2.2.2] []) (fun z => k (.exit 0) [.lst tVersion z.1, .int .i64 z.2.1, .int .i64 z.2.2.1, .int .i64 z.2.2.2] [])))
      (none)⟩
  | _ => none

def laws_heldVersionS_v0 : ((List dVersion) × Int × Int × Int) → List AV := (fun x => [.lst tVersion x.1, .int .i64 x.2.1, .int .i64 x.2.2.1, .int .i64 x.2.2.2])
def laws_heldVersionS_s0 : ((List dVersion) × Int × Int × Int) → St := (fun x => [])
def laws_heldVersionS_e0 : (((List dVersion) × Int × Int × Int) ⊕ ((List dVersion) × Int × Int × Int)) → Out × List AV × St := (Sum.elim (fun z => (.ret, [.lst tVersion z.1, .int .i64 z.2.1, .int .i64 z.2.2.1, .int .i64 z.2.2.2], [])) (fun z => ((.exit 0), [.lst tVersion z.1, .int .i64 z.2.1, .int .i64 z.2.2.1, .int .i64 z.2.2.2], [])))

theorem laws_heldVersionS_bx0 (x : ((List dVersion) × Int × Int × Int)) : exec G19 ⟨0, 53, laws_heldVersionS_loops⟩ (loopBody Try.f122 0) (bodyK ⟨0, 53, laws_heldVersionS_loops⟩ [0, 1, 4, 5] []) (setEs (deads 53) [0, 1, 4, 5] (laws_heldVersionS_v0 x)) (laws_heldVersionS_s0 x) = laws_heldVersionS_b0 x (Sum.elim (fun y => some ⟨.norm, laws_heldVersionS_v0 y, laws_heldVersionS_s0 y⟩) fun z => some ⟨(laws_heldVersionS_e0 z).1, (laws_heldVersionS_e0 z).2.1, (laws_heldVersionS_e0 z).2.2⟩) := by
  kernel_rfl

theorem laws_heldVersionS_lo0 : ∀ sp, (laws_heldVersionS_loops 0) = some sp → LoopOk G19 ⟨0, 53, laws_heldVersionS_loops⟩ sp (loopBody Try.f122 0) := by
  intro sp hsp vals st k r h
  cases hsp
  dsimp only at h
  rcases onPats_inv2 h with ⟨p, q, rfl, rfl, h⟩ | h
  · exact loop_runs2 laws_heldVersionS_bp0 laws_heldVersionS_v0 laws_heldVersionS_s0 laws_heldVersionS_e0 (fun z => by rcases z with z | z <;> (intro h; cases h)) laws_heldVersionS_bx0 Fuel (p.1, p.2.1, p.2.2.1, p.2.2.2.1) _ k r (fun z => by rcases z with z | z <;> rfl) h
  cases h

theorem laws_heldVersionS_x (a0 : (List dVersion)) (a1 : Int) : execFn G19 laws_heldVersionS_loops Try.f122 [.lst tVersion a0, .int .i64 a1] [] = laws_heldVersionS_d a0 a1 (fun (y : Int) => some ⟨.ret, [.int .i64 y], []⟩) := by kernel_rfl

theorem laws_heldVersionS_y (a0 : (List dVersion)) (a1 : Int) : execFn G19 laws_heldVersionS_loops Try.f122 [.lst tVersion a0, .int .i64 a1] [] = laws_heldVersionS_k a0 a1 (fun (y : Int) => some ⟨.ret, [.int .i64 y], []⟩) := (laws_heldVersionS_x a0 a1).trans (by rw [laws_heldVersionS_e])

theorem laws_heldVersionS_l : LoopsOk G19 ⟨0, 53, laws_heldVersionS_loops⟩ (Try.f122.body.getD .skip) :=
  loopsOk_of (ids := [0]) (by kernel_rfl) (by kernel_rfl) ⟨laws_heldVersionS_lo0, trivial⟩

theorem laws_heldVersionS_c : Contract Try.prog 122 laws_heldVersionS_g := by
  refine told G19_ok follows Try.func122 (c := Try.f122.body.getD .skip) (by kernel_rfl) ?_
  intro args s k r hk
  unfold laws_heldVersionS_g at hk
  rcases onPats_inv hk with ⟨p, q, rfl, rfl⟩ | hk
  · exact ⟨laws_heldVersionS_loops, laws_heldVersionS_q p.1 p.2.1, laws_heldVersionS_y p.1 p.2.1, laws_heldVersionS_l⟩
  cases hk

def G20 : Glob := G19.add 122 laws_heldVersionS_g

theorem G20_ok : GlobOk Try.prog G20 := G19_ok.add ⟨Try.f122, Try.func122, by kernel_rfl, by kernel_rfl⟩ laws_heldVersionS_c

/-! ### loop.example/g00327/laws.heldRangeS -/

def laws_heldRangeS_loops : Nat → Option LoopSpec
  | 0 => some ⟨[0, 1, 4, 5], [], fun vals st k => onPats [.lst tRange, .int .i64, .int .i64, .int .i64] [] vals st (fun p q => loopK laws_heldRangeS_b0 Fuel (p.1, p.2.1, p.2.2.1, p.2.2.2.1) (Sum.elim (fun z => k .ret [.lst tRange z.1, .int .i64 z.2.1, .int .i64 z.2.2.1, .int .i64 z.2.2.2] []) (fun z => k (.exit 0) [.lst tRange z.1, .int .i64 z.2.1, .int .i64 z.2.2.1, .int .i64 z.2.2.2] [])))
      (none)⟩
  | _ => none

def laws_heldRangeS_v0 : ((List dRange) × Int × Int × Int) → List AV := (fun x => [.lst tRange x.1, .int .i64 x.2.1, .int .i64 x.2.2.1, .int .i64 x.2.2.2])
def laws_heldRangeS_s0 : ((List dRange) × Int × Int × Int) → St := (fun x => [])
def laws_heldRangeS_e0 : (((List dRange) × Int × Int × Int) ⊕ ((List dRange) × Int × Int × Int)) → Out × List AV × St := (Sum.elim (fun z => (.ret, [.lst tRange z.1, .int .i64 z.2.1, .int .i64 z.2.2.1, .int .i64 z.2.2.2], [])) (fun z => ((.exit 0), [.lst tRange z.1, .int .i64 z.2.1, .int .i64 z.2.2.1, .int .i64 z.2.2.2], [])))

theorem laws_heldRangeS_bx0 (x : ((List dRange) × Int × Int × Int)) : exec G20 ⟨0, 33, laws_heldRangeS_loops⟩ (loopBody Try.f151 0) (bodyK ⟨0, 33, laws_heldRangeS_loops⟩ [0, 1, 4, 5] []) (setEs (deads 33) [0, 1, 4, 5] (laws_heldRangeS_v0 x)) (laws_heldRangeS_s0 x) = laws_heldRangeS_b0 x (Sum.elim (fun y => some ⟨.norm, laws_heldRangeS_v0 y, laws_heldRangeS_s0 y⟩) fun z => some ⟨(laws_heldRangeS_e0 z).1, (laws_heldRangeS_e0 z).2.1, (laws_heldRangeS_e0 z).2.2⟩) := by
  kernel_rfl

theorem laws_heldRangeS_lo0 : ∀ sp, (laws_heldRangeS_loops 0) = some sp → LoopOk G20 ⟨0, 33, laws_heldRangeS_loops⟩ sp (loopBody Try.f151 0) := by
  intro sp hsp vals st k r h
  cases hsp
  dsimp only at h
  rcases onPats_inv2 h with ⟨p, q, rfl, rfl, h⟩ | h
  · exact loop_runs2 laws_heldRangeS_bp0 laws_heldRangeS_v0 laws_heldRangeS_s0 laws_heldRangeS_e0 (fun z => by rcases z with z | z <;> (intro h; cases h)) laws_heldRangeS_bx0 Fuel (p.1, p.2.1, p.2.2.1, p.2.2.2.1) _ k r (fun z => by rcases z with z | z <;> rfl) h
  cases h

theorem laws_heldRangeS_x (a0 : (List dRange)) (a1 : Int) : execFn G20 laws_heldRangeS_loops Try.f151 [.lst tRange a0, .int .i64 a1] [] = laws_heldRangeS_d a0 a1 (fun (y : Int) => some ⟨.ret, [.int .i64 y], []⟩) := by kernel_rfl

theorem laws_heldRangeS_y (a0 : (List dRange)) (a1 : Int) : execFn G20 laws_heldRangeS_loops Try.f151 [.lst tRange a0, .int .i64 a1] [] = laws_heldRangeS_k a0 a1 (fun (y : Int) => some ⟨.ret, [.int .i64 y], []⟩) := (laws_heldRangeS_x a0 a1).trans (by rw [laws_heldRangeS_e])

theorem laws_heldRangeS_l : LoopsOk G20 ⟨0, 33, laws_heldRangeS_loops⟩ (Try.f151.body.getD .skip) :=
  loopsOk_of (ids := [0]) (by kernel_rfl) (by kernel_rfl) ⟨laws_heldRangeS_lo0, trivial⟩

theorem laws_heldRangeS_c : Contract Try.prog 151 laws_heldRangeS_g := by
  refine told G20_ok follows Try.func151 (c := Try.f151.body.getD .skip) (by kernel_rfl) ?_
  intro args s k r hk
  unfold laws_heldRangeS_g at hk
  rcases onPats_inv hk with ⟨p, q, rfl, rfl⟩ | hk
  · exact ⟨laws_heldRangeS_loops, laws_heldRangeS_q p.1 p.2.1, laws_heldRangeS_y p.1 p.2.1, laws_heldRangeS_l⟩
  cases hk

def G21 : Glob := G20.add 151 laws_heldRangeS_g

theorem G21_ok : GlobOk Try.prog G21 := G20_ok.add ⟨Try.f151, Try.func151, by kernel_rfl, by kernel_rfl⟩ laws_heldRangeS_c

/-! ### loop.example/g00327/laws.heldWriteS -/

def laws_heldWriteS_loops : Nat → Option LoopSpec
  | 0 => some ⟨[0, 1, 4, 5], [], fun vals st k => onPats [.lst tWrite, .int .i64, .int .i64, .int .i64] [] vals st (fun p q => loopK laws_heldWriteS_b0 Fuel (p.1, p.2.1, p.2.2.1, p.2.2.2.1) (Sum.elim (fun z => k .ret [.lst tWrite z.1, .int .i64 z.2.1, .int .i64 z.2.2.1, .int .i64 z.2.2.2] []) (fun z => k (.exit 0) [.lst tWrite z.1, .int .i64 z.2.1, .int .i64 z.2.2.1, .int .i64 z.2.2.2] [])))
      (none)⟩
  | _ => none

def laws_heldWriteS_v0 : ((List dWrite) × Int × Int × Int) → List AV := (fun x => [.lst tWrite x.1, .int .i64 x.2.1, .int .i64 x.2.2.1, .int .i64 x.2.2.2])
def laws_heldWriteS_s0 : ((List dWrite) × Int × Int × Int) → St := (fun x => [])
def laws_heldWriteS_e0 : (((List dWrite) × Int × Int × Int) ⊕ ((List dWrite) × Int × Int × Int)) → Out × List AV × St := (Sum.elim (fun z => (.ret, [.lst tWrite z.1, .int .i64 z.2.1, .int .i64 z.2.2.1, .int .i64 z.2.2.2], [])) (fun z => ((.exit 0), [.lst tWrite z.1, .int .i64 z.2.1, .int .i64 z.2.2.1, .int .i64 z.2.2.2], [])))

theorem laws_heldWriteS_bx0 (x : ((List dWrite) × Int × Int × Int)) : exec G21 ⟨0, 44, laws_heldWriteS_loops⟩ (loopBody Try.f152 0) (bodyK ⟨0, 44, laws_heldWriteS_loops⟩ [0, 1, 4, 5] []) (setEs (deads 44) [0, 1, 4, 5] (laws_heldWriteS_v0 x)) (laws_heldWriteS_s0 x) = laws_heldWriteS_b0 x (Sum.elim (fun y => some ⟨.norm, laws_heldWriteS_v0 y, laws_heldWriteS_s0 y⟩) fun z => some ⟨(laws_heldWriteS_e0 z).1, (laws_heldWriteS_e0 z).2.1, (laws_heldWriteS_e0 z).2.2⟩) := by
  kernel_rfl

theorem laws_heldWriteS_lo0 : ∀ sp, (laws_heldWriteS_loops 0) = some sp → LoopOk G21 ⟨0, 44, laws_heldWriteS_loops⟩ sp (loopBody Try.f152 0) := by
  intro sp hsp vals st k r h
  cases hsp
  dsimp only at h
  rcases onPats_inv2 h with ⟨p, q, rfl, rfl, h⟩ | h
  · exact loop_runs2 laws_heldWriteS_bp0 laws_heldWriteS_v0 laws_heldWriteS_s0 laws_heldWriteS_e0 (fun z => by rcases z with z | z <;> (intro h; cases h)) laws_heldWriteS_bx0 Fuel (p.1, p.2.1, p.2.2.1, p.2.2.2.1) _ k r (fun z => by rcases z with z | z <;> rfl) h
  cases h

theorem laws_heldWriteS_x (a0 : (List dWrite)) (a1 : Int) : execFn G21 laws_heldWriteS_loops Try.f152 [.lst tWrite a0, .int .i64 a1] [] = laws_heldWriteS_d a0 a1 (fun (y : Int) => some ⟨.ret, [.int .i64 y], []⟩) := by kernel_rfl

theorem laws_heldWriteS_y (a0 : (List dWrite)) (a1 : Int) : execFn G21 laws_heldWriteS_loops Try.f152 [.lst tWrite a0, .int .i64 a1] [] = laws_heldWriteS_k a0 a1 (fun (y : Int) => some ⟨.ret, [.int .i64 y], []⟩) := (laws_heldWriteS_x a0 a1).trans (by rw [laws_heldWriteS_e])

theorem laws_heldWriteS_l : LoopsOk G21 ⟨0, 44, laws_heldWriteS_loops⟩ (Try.f152.body.getD .skip) :=
  loopsOk_of (ids := [0]) (by kernel_rfl) (by kernel_rfl) ⟨laws_heldWriteS_lo0, trivial⟩

theorem laws_heldWriteS_c : Contract Try.prog 152 laws_heldWriteS_g := by
  refine told G21_ok follows Try.func152 (c := Try.f152.body.getD .skip) (by kernel_rfl) ?_
  intro args s k r hk
  unfold laws_heldWriteS_g at hk
  rcases onPats_inv hk with ⟨p, q, rfl, rfl⟩ | hk
  · exact ⟨laws_heldWriteS_loops, laws_heldWriteS_q p.1 p.2.1, laws_heldWriteS_y p.1 p.2.1, laws_heldWriteS_l⟩
  cases hk

def G22 : Glob := G21.add 152 laws_heldWriteS_g

theorem G22_ok : GlobOk Try.prog G22 := G21_ok.add ⟨Try.f152, Try.func152, by kernel_rfl, by kernel_rfl⟩ laws_heldWriteS_c

/-! ### loop.example/g00327/laws.heldTxnS -/

def laws_heldTxnS_loops : Nat → Option LoopSpec
  | 0 => some ⟨[0, 1, 4, 5], [], fun vals st k => onPats [.lst tTxn, .int .i64, .int .i64, .int .i64] [] vals st (fun p q => loopK laws_heldTxnS_b0 Fuel (p.1, p.2.1, p.2.2.1, p.2.2.2.1) (Sum.elim (fun z => k .ret [.lst tTxn z.1, .int .i64 z.2.1, .int .i64 z.2.2.1, .int .i64 z.2.2.2] []) (fun z => k (.exit 0) [.lst tTxn z.1, .int .i64 z.2.1, .int .i64 z.2.2.1, .int .i64 z.2.2.2] [])))
      (none)⟩
  | _ => none

def laws_heldTxnS_v0 : ((List dTxn) × Int × Int × Int) → List AV := (fun x => [.lst tTxn x.1, .int .i64 x.2.1, .int .i64 x.2.2.1, .int .i64 x.2.2.2])
def laws_heldTxnS_s0 : ((List dTxn) × Int × Int × Int) → St := (fun x => [])
def laws_heldTxnS_e0 : (((List dTxn) × Int × Int × Int) ⊕ ((List dTxn) × Int × Int × Int)) → Out × List AV × St := (Sum.elim (fun z => (.ret, [.lst tTxn z.1, .int .i64 z.2.1, .int .i64 z.2.2.1, .int .i64 z.2.2.2], [])) (fun z => ((.exit 0), [.lst tTxn z.1, .int .i64 z.2.1, .int .i64 z.2.2.1, .int .i64 z.2.2.2], [])))

theorem laws_heldTxnS_bx0 (x : ((List dTxn) × Int × Int × Int)) : exec G22 ⟨0, 88, laws_heldTxnS_loops⟩ (loopBody Try.f123 0) (bodyK ⟨0, 88, laws_heldTxnS_loops⟩ [0, 1, 4, 5] []) (setEs (deads 88) [0, 1, 4, 5] (laws_heldTxnS_v0 x)) (laws_heldTxnS_s0 x) = laws_heldTxnS_b0 x (Sum.elim (fun y => some ⟨.norm, laws_heldTxnS_v0 y, laws_heldTxnS_s0 y⟩) fun z => some ⟨(laws_heldTxnS_e0 z).1, (laws_heldTxnS_e0 z).2.1, (laws_heldTxnS_e0 z).2.2⟩) := by
  kernel_rfl

theorem laws_heldTxnS_lo0 : ∀ sp, (laws_heldTxnS_loops 0) = some sp → LoopOk G22 ⟨0, 88, laws_heldTxnS_loops⟩ sp (loopBody Try.f123 0) := by
  intro sp hsp vals st k r h
  cases hsp
  dsimp only at h
  rcases onPats_inv2 h with ⟨p, q, rfl, rfl, h⟩ | h
  · exact loop_runs2 laws_heldTxnS_bp0 laws_heldTxnS_v0 laws_heldTxnS_s0 laws_heldTxnS_e0 (fun z => by rcases z with z | z <;> (intro h; cases h)) laws_heldTxnS_bx0 Fuel (p.1, p.2.1, p.2.2.1, p.2.2.2.1) _ k r (fun z => by rcases z with z | z <;> rfl) h
  cases h

theorem laws_heldTxnS_x (a0 : (List dTxn)) (a1 : Int) : execFn G22 laws_heldTxnS_loops Try.f123 [.lst tTxn a0, .int .i64 a1] [] = laws_heldTxnS_d a0 a1 (fun (y : Int) => some ⟨.ret, [.int .i64 y], []⟩) := by kernel_rfl

theorem laws_heldTxnS_y (a0 : (List dTxn)) (a1 : Int) : execFn G22 laws_heldTxnS_loops Try.f123 [.lst tTxn a0, .int .i64 a1] [] = laws_heldTxnS_k a0 a1 (fun (y : Int) => some ⟨.ret, [.int .i64 y], []⟩) := (laws_heldTxnS_x a0 a1).trans (by rw [laws_heldTxnS_e])

theorem laws_heldTxnS_l : LoopsOk G22 ⟨0, 88, laws_heldTxnS_loops⟩ (Try.f123.body.getD .skip) :=
  loopsOk_of (ids := [0]) (by kernel_rfl) (by kernel_rfl) ⟨laws_heldTxnS_lo0, trivial⟩

theorem laws_heldTxnS_c : Contract Try.prog 123 laws_heldTxnS_g := by
  refine told G22_ok follows Try.func123 (c := Try.f123.body.getD .skip) (by kernel_rfl) ?_
  intro args s k r hk
  unfold laws_heldTxnS_g at hk
  rcases onPats_inv hk with ⟨p, q, rfl, rfl⟩ | hk
  · exact ⟨laws_heldTxnS_loops, laws_heldTxnS_q p.1 p.2.1, laws_heldTxnS_y p.1 p.2.1, laws_heldTxnS_l⟩
  cases hk

def G23 : Glob := G22.add 123 laws_heldTxnS_g

theorem G23_ok : GlobOk Try.prog G23 := G22_ok.add ⟨Try.f123, Try.func123, by kernel_rfl, by kernel_rfl⟩ laws_heldTxnS_c

/-! ### loop.example/g00327/laws.heldBase -/

def laws_heldBase_loops : Nat → Option LoopSpec
  | _ => none

theorem laws_heldBase_x (a0 : (List dVersion)) (a1 : (List dTxn)) (a2 : (List dTxn)) (a3 : Int) (a4 : Int) (a5 : Int) : execFn G23 laws_heldBase_loops Try.f56 [.agg [.lst tVersion a0, .lst tTxn a1, .lst tTxn a2, .int .i64 a3, .int .i64 a4], .int .i64 a5] [] = laws_heldBase_d (a0, (a1, (a2, (a3, a4)))) a5 (fun (y : Int) => some ⟨.ret, [.int .i64 y], []⟩) := by kernel_rfl

theorem laws_heldBase_y (a0 : (List dVersion)) (a1 : (List dTxn)) (a2 : (List dTxn)) (a3 : Int) (a4 : Int) (a5 : Int) : execFn G23 laws_heldBase_loops Try.f56 [.agg [.lst tVersion a0, .lst tTxn a1, .lst tTxn a2, .int .i64 a3, .int .i64 a4], .int .i64 a5] [] = laws_heldBase_k (a0, (a1, (a2, (a3, a4)))) a5 (fun (y : Int) => some ⟨.ret, [.int .i64 y], []⟩) := (laws_heldBase_x a0 a1 a2 a3 a4 a5).trans (by rw [laws_heldBase_e])

theorem laws_heldBase_l : LoopsOk G23 ⟨0, 24, laws_heldBase_loops⟩ (Try.f56.body.getD .skip) :=
  loopsOk_of (ids := []) (by kernel_rfl) (by kernel_rfl) trivial

theorem laws_heldBase_c : Contract Try.prog 56 laws_heldBase_g := by
  refine told G23_ok follows Try.func56 (c := Try.f56.body.getD .skip) (by kernel_rfl) ?_
  intro args s k r hk
  unfold laws_heldBase_g at hk
  rcases onPats_inv hk with ⟨p, q, rfl, rfl⟩ | hk
  · exact ⟨laws_heldBase_loops, laws_heldBase_q p.1.1 p.1.2.1 p.1.2.2.1 p.1.2.2.2.1 p.1.2.2.2.2.1 p.2.1, laws_heldBase_y p.1.1 p.1.2.1 p.1.2.2.1 p.1.2.2.2.1 p.1.2.2.2.2.1 p.2.1, laws_heldBase_l⟩
  cases hk

def G24 : Glob := G23.add 56 laws_heldBase_g

theorem G24_ok : GlobOk Try.prog G24 := G23_ok.add ⟨Try.f56, Try.func56, by kernel_rfl, by kernel_rfl⟩ laws_heldBase_c

/-! ### loop.example/g00327/laws.heldEngine -/

def laws_heldEngine_loops : Nat → Option LoopSpec
  | _ => none

theorem laws_heldEngine_x (a0 : (List dVersion)) (a1 : (List dTxn)) (a2 : (List dTxn)) (a3 : Int) (a4 : Int) (a5 : (List dTxn)) (a6 : Int) : execFn G24 laws_heldEngine_loops Try.f66 [.agg [.lst tVersion a0, .lst tTxn a1, .lst tTxn a2, .int .i64 a3, .int .i64 a4, .lst tTxn a5], .int .i64 a6] [] = laws_heldEngine_d ((a0, (a1, (a2, (a3, a4)))), a5) a6 (fun (y : Int) => some ⟨.ret, [.int .i64 y], []⟩) := by kernel_rfl

theorem laws_heldEngine_y (a0 : (List dVersion)) (a1 : (List dTxn)) (a2 : (List dTxn)) (a3 : Int) (a4 : Int) (a5 : (List dTxn)) (a6 : Int) : execFn G24 laws_heldEngine_loops Try.f66 [.agg [.lst tVersion a0, .lst tTxn a1, .lst tTxn a2, .int .i64 a3, .int .i64 a4, .lst tTxn a5], .int .i64 a6] [] = laws_heldEngine_k ((a0, (a1, (a2, (a3, a4)))), a5) a6 (fun (y : Int) => some ⟨.ret, [.int .i64 y], []⟩) := (laws_heldEngine_x a0 a1 a2 a3 a4 a5 a6).trans (by rw [laws_heldEngine_e])

theorem laws_heldEngine_l : LoopsOk G24 ⟨0, 18, laws_heldEngine_loops⟩ (Try.f66.body.getD .skip) :=
  loopsOk_of (ids := []) (by kernel_rfl) (by kernel_rfl) trivial

theorem laws_heldEngine_c : Contract Try.prog 66 laws_heldEngine_g := by
  refine told G24_ok follows Try.func66 (c := Try.f66.body.getD .skip) (by kernel_rfl) ?_
  intro args s k r hk
  unfold laws_heldEngine_g at hk
  rcases onPats_inv hk with ⟨p, q, rfl, rfl⟩ | hk
  · exact ⟨laws_heldEngine_loops, laws_heldEngine_q p.1.1 p.1.2.1 p.1.2.2.1 p.1.2.2.2.1 p.1.2.2.2.2.1 p.1.2.2.2.2.2.1 p.2.1, laws_heldEngine_y p.1.1 p.1.2.1 p.1.2.2.1 p.1.2.2.2.1 p.1.2.2.2.2.1 p.1.2.2.2.2.2.1 p.2.1, laws_heldEngine_l⟩
  cases hk

def G25 : Glob := G24.add 66 laws_heldEngine_g

theorem G25_ok : GlobOk Try.prog G25 := G24_ok.add ⟨Try.f66, Try.func66, by kernel_rfl, by kernel_rfl⟩ laws_heldEngine_c

/-! ### loop.example/g00327/laws.FnExactEngineNew -/

def laws_FnExactEngineNew_loops : Nat → Option LoopSpec
  | _ => none

theorem laws_FnExactEngineNew_x  : execFn G25 laws_FnExactEngineNew_loops Try.f13 [] [] = laws_FnExactEngineNew_d  (fun (y : Bool) => some ⟨.ret, [.bool y], []⟩) := by kernel_rfl

theorem laws_FnExactEngineNew_y  : execFn G25 laws_FnExactEngineNew_loops Try.f13 [] [] = laws_FnExactEngineNew_k  (fun (y : Bool) => some ⟨.ret, [.bool y], []⟩) := (laws_FnExactEngineNew_x ).trans (by rw [laws_FnExactEngineNew_e])

theorem laws_FnExactEngineNew_l : LoopsOk G25 ⟨0, 36, laws_FnExactEngineNew_loops⟩ (Try.f13.body.getD .skip) :=
  loopsOk_of (ids := []) (by kernel_rfl) (by kernel_rfl) trivial

theorem laws_FnExactEngineNew_c : Contract Try.prog 13 laws_FnExactEngineNew_g := by
  refine told G25_ok follows Try.func13 (c := Try.f13.body.getD .skip) (by kernel_rfl) ?_
  intro args s k r hk
  unfold laws_FnExactEngineNew_g at hk
  rcases onPats_inv hk with ⟨p, q, rfl, rfl⟩ | hk
  · exact ⟨laws_FnExactEngineNew_loops, laws_FnExactEngineNew_q , laws_FnExactEngineNew_y , laws_FnExactEngineNew_l⟩
  cases hk

def G26 : Glob := G25.add 13 laws_FnExactEngineNew_g

theorem G26_ok : GlobOk Try.prog G26 := G25_ok.add ⟨Try.f13, Try.func13, by kernel_rfl, by kernel_rfl⟩ laws_FnExactEngineNew_c

end

end Go.VE
