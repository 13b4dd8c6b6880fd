/- Each function told by its native program; written by gen.py. -/

import Derived.Test.YtdcgbmpmiehemaaOldestOfS0

namespace Go.VE

open Go.Proofs

noncomputable section

set_option linter.unusedVariables false
set_option linter.unusedSimpArgs false
set_option maxRecDepth 100000


/-! ### loop.example/g00327/laws.szVersion -/

def laws_szVersion_loops : Nat → Option LoopSpec
  | _ => none

theorem laws_szVersion_x (a0 : ByteArray) (a1 : ByteArray) (a2 : Bool) (a3 : Int) (a4 : Int) : execFn G0 laws_szVersion_loops Try.f124 [.agg [.str a0, .str a1, .bool a2, .int .i64 a3], .int .i64 a4] [] = laws_szVersion_d (a0, (a1, (a2, a3))) a4 (fun (y : Int) => some ⟨.ret, [.int .i64 y], []⟩) := by kernel_rfl

theorem laws_szVersion_y (a0 : ByteArray) (a1 : ByteArray) (a2 : Bool) (a3 : Int) (a4 : Int) : execFn G0 laws_szVersion_loops Try.f124 [.agg [.str a0, .str a1, .bool a2, .int .i64 a3], .int .i64 a4] [] = laws_szVersion_k (a0, (a1, (a2, a3))) a4 (fun (y : Int) => some ⟨.ret, [.int .i64 y], []⟩) := (laws_szVersion_x a0 a1 a2 a3 a4).trans (by rw [laws_szVersion_e])

theorem laws_szVersion_l : LoopsOk G0 ⟨0, 20, laws_szVersion_loops⟩ (Try.f124.body.getD .skip) :=
  loopsOk_of (ids := []) (by kernel_rfl) (by kernel_rfl) trivial

theorem laws_szVersion_c : Contract Try.prog 124 laws_szVersion_g := by
  refine told G0_ok follows Try.func124 (c := Try.f124.body.getD .skip) (by kernel_rfl) ?_
  intro args s k r hk
  unfold laws_szVersion_g at hk
  rcases onPats_inv hk with ⟨p, q, rfl, rfl⟩ | hk
  · exact ⟨laws_szVersion_loops, laws_szVersion_q p.1.1 p.1.2.1 p.1.2.2.1 p.1.2.2.2.1 p.2.1, laws_szVersion_y p.1.1 p.1.2.1 p.1.2.2.1 p.1.2.2.2.1 p.2.1, laws_szVersion_l⟩
  cases hk

def G1 : Glob := G0.add 124 laws_szVersion_g

theorem G1_ok : GlobOk Try.prog G1 := G0_ok.add ⟨Try.f124, Try.func124, by kernel_rfl, by kernel_rfl⟩ laws_szVersion_c

/-! ### loop.example/g00327/laws.szVersionS -/

def laws_szVersionS_loops : Nat → Option LoopSpec
  | 0 => some ⟨[0, 1, 4, 5], [], fun vals st k => onPats [.lst tVersion, .int .i64, .int .i64, .int .i64] [] vals st (fun p q => loopK laws_szVersionS_b0 Fuel (p.1, p.2.1, p.2.2.1, p.2.2.2.1) (Sum.elim (fun z => k .ret [.lst tVersion z.1, .int .i64 z.2.1, .int .i64 z.2.2.1, .int .i64 z.2.2.2] []) (fun z => k (.exit 0) [.lst tVersion z.1, .int .i64 z.2.1, .int .i64 z.2.2.1, .int .i64 z.2.2.2] [])))
      (none)⟩
  | _ => none

def laws_szVersionS_v0 : ((List dVersion) × Int × Int × Int) → List AV := (fun x => [.lst tVersion x.1, .int .i64 x.2.1, .int .i64 x.2.2.1, .int .i64 x.2.2.2])
def laws_szVersionS_s0 : ((List dVersion) × Int × Int × Int) → St := (fun x => [])
def laws_szVersionS_e0 : (((List dVersion) × Int × Int × Int) ⊕ ((List dVersion) × Int × Int × Int)) → Out × List AV × St := (Sum.elim (fun z => (.ret, [.lst tVersion z.1, .int .i64 z.2.1, .int .i64 z.2.2.1, .int .i64 z.2.2.2], [])) (fun z => ((.exit 0), [.lst tVersion z.1, .int .i64 z.2.1, .int .i64 z.2.2.1, .int .i64 z.2.2.2], [])))

theorem laws_szVersionS_bx0 (x : ((List dVersion) × Int × Int × Int)) : exec G1 ⟨0, 27, laws_szVersionS_loops⟩ (loopBody Try.f57 0) (bodyK ⟨0, 27, laws_szVersionS_loops⟩ [0, 1, 4, 5] []) (setEs (deads 27) [0, 1, 4, 5] (laws_szVersionS_v0 x)) (laws_szVersionS_s0 x) = laws_szVersionS_b0 x (Sum.elim (fun y => some ⟨.norm, laws_szVersionS_v0 y, laws_szVersionS_s0 y⟩) fun z => some ⟨(laws_szVersionS_e0 z).1, (laws_szVersionS_e0 z).2.1, (laws_szVersionS_e0 z).2.2⟩) := by
  kernel_rfl

theorem laws_szVersionS_lo0 : ∀ sp, (laws_szVersionS_loops 0) = some sp → LoopOk G1 ⟨0, 27, laws_szVersionS_loops⟩ sp (loopBody Try.f57 0) := by
  intro sp hsp vals st k r h
  cases hsp
  dsimp only at h
  rcases onPats_inv2 h with ⟨p, q, rfl, rfl, h⟩ | h
  · exact loop_runs2 laws_szVersionS_bp0 laws_szVersionS_v0 laws_szVersionS_s0 laws_szVersionS_e0 (fun z => by rcases z with z | z <;> (intro h; cases h)) laws_szVersionS_bx0 Fuel (p.1, p.2.1, p.2.2.1, p.2.2.2.1) _ k r (fun z => by rcases z with z | z <;> rfl) h
  cases h

theorem laws_szVersionS_x (a0 : (List dVersion)) (a1 : Int) : execFn G1 laws_szVersionS_loops Try.f57 [.lst tVersion a0, .int .i64 a1] [] = laws_szVersionS_d a0 a1 (fun (y : Int) => some ⟨.ret, [.int .i64 y], []⟩) := by kernel_rfl

theorem laws_szVersionS_y (a0 : (List dVersion)) (a1 : Int) : execFn G1 laws_szVersionS_loops Try.f57 [.lst tVersion a0, .int .i64 a1] [] = laws_szVersionS_k a0 a1 (fun (y : Int) => some ⟨.ret, [.int .i64 y], []⟩) := (laws_szVersionS_x a0 a1).trans (by rw [laws_szVersionS_e])

theorem laws_szVersionS_l : LoopsOk G1 ⟨0, 27, laws_szVersionS_loops⟩ (Try.f57.body.getD .skip) :=
  loopsOk_of (ids := [0]) (by kernel_rfl) (by kernel_rfl) ⟨laws_szVersionS_lo0, trivial⟩

theorem laws_szVersionS_c : Contract Try.prog 57 laws_szVersionS_g := by
  refine told G1_ok follows Try.func57 (c := Try.f57.body.getD .skip) (by kernel_rfl) ?_
  intro args s k r hk
  unfold laws_szVersionS_g at hk
  rcases onPats_inv hk with ⟨p, q, rfl, rfl⟩ | hk
  · exact ⟨laws_szVersionS_loops, laws_szVersionS_q p.1 p.2.1, laws_szVersionS_y p.1 p.2.1, laws_szVersionS_l⟩
  cases hk

def G2 : Glob := G1.add 57 laws_szVersionS_g

theorem G2_ok : GlobOk Try.prog G2 := G1_ok.add ⟨Try.f57, Try.func57, by kernel_rfl, by kernel_rfl⟩ laws_szVersionS_c

/-! ### loop.example/g00327/laws.szRange -/

def laws_szRange_loops : Nat → Option LoopSpec
  | _ => none

theorem laws_szRange_x (a0 : ByteArray) (a1 : ByteArray) (a2 : Int) : execFn G2 laws_szRange_loops Try.f128 [.agg [.str a0, .str a1], .int .i64 a2] [] = laws_szRange_d (a0, a1) a2 (fun (y : Int) => some ⟨.ret, [.int .i64 y], []⟩) := by kernel_rfl

theorem laws_szRange_y (a0 : ByteArray) (a1 : ByteArray) (a2 : Int) : execFn G2 laws_szRange_loops Try.f128 [.agg [.str a0, .str a1], .int .i64 a2] [] = laws_szRange_k (a0, a1) a2 (fun (y : Int) => some ⟨.ret, [.int .i64 y], []⟩) := (laws_szRange_x a0 a1 a2).trans (by rw [laws_szRange_e])

theorem laws_szRange_l : LoopsOk G2 ⟨0, 20, laws_szRange_loops⟩ (Try.f128.body.getD .skip) :=
  loopsOk_of (ids := []) (by kernel_rfl) (by kernel_rfl) trivial

theorem laws_szRange_c : Contract Try.prog 128 laws_szRange_g := by
  refine told G2_ok follows Try.func128 (c := Try.f128.body.getD .skip) (by kernel_rfl) ?_
  intro args s k r hk
  unfold laws_szRange_g at hk
  rcases onPats_inv hk with ⟨p, q, rfl, rfl⟩ | hk
  · exact ⟨laws_szRange_loops, laws_szRange_q p.1.1 p.1.2.1 p.2.1, laws_szRange_y p.1.1 p.1.2.1 p.2.1, laws_szRange_l⟩
  cases hk

def G3 : Glob := G2.add 128 laws_szRange_g

theorem G3_ok : GlobOk Try.prog G3 := G2_ok.add ⟨Try.f128, Try.func128, by kernel_rfl, by kernel_rfl⟩ laws_szRange_c

/-! ### loop.example/g00327/laws.szRangeS -/

def laws_szRangeS_loops : Nat → Option LoopSpec
  | 0 => some ⟨[0, 1, 4, 5], [], fun vals st k => onPats [.lst tRange, .int .i64, .int .i64, .int .i64] [] vals st (fun p q => loopK laws_szRangeS_b0 Fuel (p.1, p.2.1, p.2.2.1, p.2.2.2.1) (Sum.elim (fun z => k .ret [.lst tRange z.1, .int .i64 z.2.1, .int .i64 z.2.2.1, .int .i64 z.2.2.2] []) (fun z => k (.exit 0) [.lst tRange z.1, .int .i64 z.2.1, .int .i64 z.2.2.1, .int .i64 z.2.2.2] [])))
      (none)⟩
  | _ => none

def laws_szRangeS_v0 : ((List dRange) × Int × Int × Int) → List AV := (fun x => [.lst tRange x.1, .int .i64 x.2.1, .int .i64 x.2.2.1, .int .i64 x.2.2.2])
def laws_szRangeS_s0 : ((List dRange) × Int × Int × Int) → St := (fun x => [])
def laws_szRangeS_e0 : (((List dRange) × Int × Int × Int) ⊕ ((List dRange) × Int × Int × Int)) → Out × List AV × St := (Sum.elim (fun z => (.ret, [.lst tRange z.1, .int .i64 z.2.1, .int .i64 z.2.2.1, .int .i64 z.2.2.2], [])) (fun z => ((.exit 0), [.lst tRange z.1, .int .i64 z.2.1, .int .i64 z.2.2.1, .int .i64 z.2.2.2], [])))

theorem laws_szRangeS_bx0 (x : ((List dRange) × Int × Int × Int)) : exec G3 ⟨0, 27, laws_szRangeS_loops⟩ (loopBody Try.f71 0) (bodyK ⟨0, 27, laws_szRangeS_loops⟩ [0, 1, 4, 5] []) (setEs (deads 27) [0, 1, 4, 5] (laws_szRangeS_v0 x)) (laws_szRangeS_s0 x) = laws_szRangeS_b0 x (Sum.elim (fun y => some ⟨.norm, laws_szRangeS_v0 y, laws_szRangeS_s0 y⟩) fun z => some ⟨(laws_szRangeS_e0 z).1, (laws_szRangeS_e0 z).2.1, (laws_szRangeS_e0 z).2.2⟩) := by
  kernel_rfl

theorem laws_szRangeS_lo0 : ∀ sp, (laws_szRangeS_loops 0) = some sp → LoopOk G3 ⟨0, 27, laws_szRangeS_loops⟩ sp (loopBody Try.f71 0) := by
  intro sp hsp vals st k r h
  cases hsp
  dsimp only at h
  rcases onPats_inv2 h with ⟨p, q, rfl, rfl, h⟩ | h
  · exact loop_runs2 laws_szRangeS_bp0 laws_szRangeS_v0 laws_szRangeS_s0 laws_szRangeS_e0 (fun z => by rcases z with z | z <;> (intro h; cases h)) laws_szRangeS_bx0 Fuel (p.1, p.2.1, p.2.2.1, p.2.2.2.1) _ k r (fun z => by rcases z with z | z <;> rfl) h
  cases h

theorem laws_szRangeS_x (a0 : (List dRange)) (a1 : Int) : execFn G3 laws_szRangeS_loops Try.f71 [.lst tRange a0, .int .i64 a1] [] = laws_szRangeS_d a0 a1 (fun (y : Int) => some ⟨.ret, [.int .i64 y], []⟩) := by kernel_rfl

theorem laws_szRangeS_y (a0 : (List dRange)) (a1 : Int) : execFn G3 laws_szRangeS_loops Try.f71 [.lst tRange a0, .int .i64 a1] [] = laws_szRangeS_k a0 a1 (fun (y : Int) => some ⟨.ret, [.int .i64 y], []⟩) := (laws_szRangeS_x a0 a1).trans (by rw [laws_szRangeS_e])

theorem laws_szRangeS_l : LoopsOk G3 ⟨0, 27, laws_szRangeS_loops⟩ (Try.f71.body.getD .skip) :=
  loopsOk_of (ids := [0]) (by kernel_rfl) (by kernel_rfl) ⟨laws_szRangeS_lo0, trivial⟩

theorem laws_szRangeS_c : Contract Try.prog 71 laws_szRangeS_g := by
  refine told G3_ok follows Try.func71 (c := Try.f71.body.getD .skip) (by kernel_rfl) ?_
  intro args s k r hk
  unfold laws_szRangeS_g at hk
  rcases onPats_inv hk with ⟨p, q, rfl, rfl⟩ | hk
  · exact ⟨laws_szRangeS_loops, laws_szRangeS_q p.1 p.2.1, laws_szRangeS_y p.1 p.2.1, laws_szRangeS_l⟩
  cases hk

def G4 : Glob := G3.add 71 laws_szRangeS_g

theorem G4_ok : GlobOk Try.prog G4 := G3_ok.add ⟨Try.f71, Try.func71, by kernel_rfl, by kernel_rfl⟩ laws_szRangeS_c

/-! ### loop.example/g00327/laws.szWrite -/

def laws_szWrite_loops : Nat → Option LoopSpec
  | _ => none

theorem laws_szWrite_x (a0 : ByteArray) (a1 : ByteArray) (a2 : Bool) (a3 : Int) : execFn G4 laws_szWrite_loops Try.f129 [.agg [.str a0, .str a1, .bool a2], .int .i64 a3] [] = laws_szWrite_d (a0, (a1, a2)) a3 (fun (y : Int) => some ⟨.ret, [.int .i64 y], []⟩) := by kernel_rfl

theorem laws_szWrite_y (a0 : ByteArray) (a1 : ByteArray) (a2 : Bool) (a3 : Int) : execFn G4 laws_szWrite_loops Try.f129 [.agg [.str a0, .str a1, .bool a2], .int .i64 a3] [] = laws_szWrite_k (a0, (a1, a2)) a3 (fun (y : Int) => some ⟨.ret, [.int .i64 y], []⟩) := (laws_szWrite_x a0 a1 a2 a3).trans (by rw [laws_szWrite_e])

theorem laws_szWrite_l : LoopsOk G4 ⟨0, 20, laws_szWrite_loops⟩ (Try.f129.body.getD .skip) :=
  loopsOk_of (ids := []) (by kernel_rfl) (by kernel_rfl) trivial

theorem laws_szWrite_c : Contract Try.prog 129 laws_szWrite_g := by
  refine told G4_ok follows Try.func129 (c := Try.f129.body.getD .skip) (by kernel_rfl) ?_
  intro args s k r hk
  unfold laws_szWrite_g at hk
  rcases onPats_inv hk with ⟨p, q, rfl, rfl⟩ | hk
  · exact ⟨laws_szWrite_loops, laws_szWrite_q p.1.1 p.1.2.1 p.1.2.2.1 p.2.1, laws_szWrite_y p.1.1 p.1.2.1 p.1.2.2.1 p.2.1, laws_szWrite_l⟩
  cases hk

def G5 : Glob := G4.add 129 laws_szWrite_g

theorem G5_ok : GlobOk Try.prog G5 := G4_ok.add ⟨Try.f129, Try.func129, by kernel_rfl, by kernel_rfl⟩ laws_szWrite_c

/-! ### loop.example/g00327/laws.szWriteS -/

def laws_szWriteS_loops : Nat → Option LoopSpec
  | 0 => some ⟨[0, 1, 4, 5], [], fun vals st k => onPats [.lst tWrite, .int .i64, .int .i64, .int .i64] [] vals st (fun p q => loopK laws_szWriteS_b0 Fuel (p.1, p.2.1, p.2.2.1, p.2.2.2.1) (Sum.elim (fun z => k .ret [.lst tWrite z.1, .int .i64 z.2.1, .int .i64 z.2.2.1, .int .i64 z.2.2.2] []) (fun z => k (.exit 0) [.lst tWrite z.1, .int .i64 z.2.1, .int .i64 z.2.2.1, .int .i64 z.2.2.2] [])))
      (none)⟩
  | _ => none

def laws_szWriteS_v0 : ((List dWrite) × Int × Int × Int) → List AV := (fun x => [.lst tWrite x.1, .int .i64 x.2.1, .int .i64 x.2.2.1, .int .i64 x.2.2.2])
def laws_szWriteS_s0 : ((List dWrite) × Int × Int × Int) → St := (fun x => [])
def laws_szWriteS_e0 : (((List dWrite) × Int × Int × Int) ⊕ ((List dWrite) × Int × Int × Int)) → Out × List AV × St := (Sum.elim (fun z => (.ret, [.lst tWrite z.1, .int .i64 z.2.1, .int .i64 z.2.2.1, .int .i64 z.2.2.2], [])) (fun z => ((.exit 0), [.lst tWrite z.1, .int .i64 z.2.1, .int .i64 z.2.2.1, .int .i64 z.2.2.2], [])))

theorem laws_szWriteS_bx0 (x : ((List dWrite) × Int × Int × Int)) : exec G5 ⟨0, 27, laws_szWriteS_loops⟩ (loopBody Try.f72 0) (bodyK ⟨0, 27, laws_szWriteS_loops⟩ [0, 1, 4, 5] []) (setEs (deads 27) [0, 1, 4, 5] (laws_szWriteS_v0 x)) (laws_szWriteS_s0 x) = laws_szWriteS_b0 x (Sum.elim (fun y => some ⟨.norm, laws_szWriteS_v0 y, laws_szWriteS_s0 y⟩) fun z => some ⟨(laws_szWriteS_e0 z).1, (laws_szWriteS_e0 z).2.1, (laws_szWriteS_e0 z).2.2⟩) := by
  kernel_rfl

theorem laws_szWriteS_lo0 : ∀ sp, (laws_szWriteS_loops 0) = some sp → LoopOk G5 ⟨0, 27, laws_szWriteS_loops⟩ sp (loopBody Try.f72 0) := by
  intro sp hsp vals st k r h
  cases hsp
  dsimp only at h
  rcases onPats_inv2 h with ⟨p, q, rfl, rfl, h⟩ | h
  · exact loop_runs2 laws_szWriteS_bp0 laws_szWriteS_v0 laws_szWriteS_s0 laws_szWriteS_e0 (fun z => by rcases z with z | z <;> (intro h; cases h)) laws_szWriteS_bx0 Fuel (p.1, p.2.1, p.2.2.1, p.2.2.2.1) _ k r (fun z => by rcases z with z | z <;> rfl) h
  cases h

theorem laws_szWriteS_x (a0 : (List dWrite)) (a1 : Int) : execFn G5 laws_szWriteS_loops Try.f72 [.lst tWrite a0, .int .i64 a1] [] = laws_szWriteS_d a0 a1 (fun (y : Int) => some ⟨.ret, [.int .i64 y], []⟩) := by kernel_rfl

theorem laws_szWriteS_y (a0 : (List dWrite)) (a1 : Int) : execFn G5 laws_szWriteS_loops Try.f72 [.lst tWrite a0, .int .i64 a1] [] = laws_szWriteS_k a0 a1 (fun (y : Int) => some ⟨.ret, [.int .i64 y], []⟩) := (laws_szWriteS_x a0 a1).trans (by rw [laws_szWriteS_e])

theorem laws_szWriteS_l : LoopsOk G5 ⟨0, 27, laws_szWriteS_loops⟩ (Try.f72.body.getD .skip) :=
  loopsOk_of (ids := [0]) (by kernel_rfl) (by kernel_rfl) ⟨laws_szWriteS_lo0, trivial⟩

theorem laws_szWriteS_c : Contract Try.prog 72 laws_szWriteS_g := by
  refine told G5_ok follows Try.func72 (c := Try.f72.body.getD .skip) (by kernel_rfl) ?_
  intro args s k r hk
  unfold laws_szWriteS_g at hk
  rcases onPats_inv hk with ⟨p, q, rfl, rfl⟩ | hk
  · exact ⟨laws_szWriteS_loops, laws_szWriteS_q p.1 p.2.1, laws_szWriteS_y p.1 p.2.1, laws_szWriteS_l⟩
  cases hk

def G6 : Glob := G5.add 72 laws_szWriteS_g

theorem G6_ok : GlobOk Try.prog G6 := G5_ok.add ⟨Try.f72, Try.func72, by kernel_rfl, by kernel_rfl⟩ laws_szWriteS_c

/-! ### loop.example/g00327/laws.szTxn -/

def laws_szTxn_loops : Nat → Option LoopSpec
  | _ => none

theorem laws_szTxn_x (a0 : Int) (a1 : Int) (a2 : Int) (a3 : Int) (a4 : (List dRange)) (a5 : (List dWrite)) (a6 : Bool) (a7 : ByteArray) (a8 : Int) : execFn G6 laws_szTxn_loops Try.f15 [.agg [.int .i64 a0, .int .i64 a1, .int .i64 a2, .int .i64 a3, .lst tRange a4, .lst tWrite a5, .bool a6, .str a7], .int .i64 a8] [] = laws_szTxn_d (a0, (a1, (a2, (a3, (a4, (a5, (a6, a7))))))) a8 (fun (y : Int) => some ⟨.ret, [.int .i64 y], []⟩) := by kernel_rfl

theorem laws_szTxn_y (a0 : Int) (a1 : Int) (a2 : Int) (a3 : Int) (a4 : (List dRange)) (a5 : (List dWrite)) (a6 : Bool) (a7 : ByteArray) (a8 : Int) : execFn G6 laws_szTxn_loops Try.f15 [.agg [.int .i64 a0, .int .i64 a1, .int .i64 a2, .int .i64 a3, .lst tRange a4, .lst tWrite a5, .bool a6, .str a7], .int .i64 a8] [] = laws_szTxn_k (a0, (a1, (a2, (a3, (a4, (a5, (a6, a7))))))) a8 (fun (y : Int) => some ⟨.ret, [.int .i64 y], []⟩) := (laws_szTxn_x a0 a1 a2 a3 a4 a5 a6 a7 a8).trans (by rw [laws_szTxn_e])

theorem laws_szTxn_l : LoopsOk G6 ⟨0, 25, laws_szTxn_loops⟩ (Try.f15.body.getD .skip) :=
  loopsOk_of (ids := []) (by kernel_rfl) (by kernel_rfl) trivial

theorem laws_szTxn_c : Contract Try.prog 15 laws_szTxn_g := by
  refine told G6_ok follows Try.func15 (c := Try.f15.body.getD .skip) (by kernel_rfl) ?_
  intro args s k r hk
  unfold laws_szTxn_g at hk
  rcases onPats_inv hk with ⟨p, q, rfl, rfl⟩ | hk
  · exact ⟨laws_szTxn_loops, laws_szTxn_q p.1.1 p.1.2.1 p.1.2.2.1 p.1.2.2.2.1 p.1.2.2.2.2.1 p.1.2.2.2.2.2.1 p.1.2.2.2.2.2.2.1 p.1.2.2.2.2.2.2.2.1 p.2.1, laws_szTxn_y p.1.1 p.1.2.1 p.1.2.2.1 p.1.2.2.2.1 p.1.2.2.2.2.1 p.1.2.2.2.2.2.1 p.1.2.2.2.2.2.2.1 p.1.2.2.2.2.2.2.2.1 p.2.1, laws_szTxn_l⟩
  cases hk

def G7 : Glob := G6.add 15 laws_szTxn_g

theorem G7_ok : GlobOk Try.prog G7 := G6_ok.add ⟨Try.f15, Try.func15, by kernel_rfl, by kernel_rfl⟩ laws_szTxn_c

/-! ### loop.example/g00327/laws.szTxnS -/

def laws_szTxnS_loops : Nat → Option LoopSpec
  | 0 => some ⟨[0, 1, 4, 5], [], fun vals st k => onPats [.lst tTxn, .int .i64, .int .i64, .int .i64] [] vals st (fun p q => loopK laws_szTxnS_b0 Fuel (p.1, p.2.1, p.2.2.1, p.2.2.2.1) (Sum.elim (fun z => k .ret [.lst tTxn z.1, .int .i64 z.2.1, .int .i64 z.2.2.1, .int .i64 z.2.2.2] []) (fun z => k (.exit 0) [.lst tTxn z.1, .int .i64 z.2.1, .int .i64 z.2.2.1, .int .i64 z.2.2.2] [])))
      (none)⟩
  | _ => none

def laws_szTxnS_v0 : ((List dTxn) × Int × Int × Int) → List AV := (fun x => [.lst tTxn x.1, .int .i64 x.2.1, .int .i64 x.2.2.1, .int .i64 x.2.2.2])
def laws_szTxnS_s0 : ((List dTxn) × Int × Int × Int) → St := (fun x => [])
def laws_szTxnS_e0 : (((List dTxn) × Int × Int × Int) ⊕ ((List dTxn) × Int × Int × Int)) → Out × List AV × St := (Sum.elim (fun z => (.ret, [.lst tTxn z.1, .int .i64 z.2.1, .int .i64 z.2.2.1, .int .i64 z.2.2.2], [])) (fun z => ((.exit 0), [.lst tTxn z.1, .int .i64 z.2.1, .int .i64 z.2.2.1, .int .i64 z.2.2.2], [])))

theorem laws_szTxnS_bx0 (x : ((List dTxn) × Int × Int × Int)) : exec G7 ⟨0, 27, laws_szTxnS_loops⟩ (loopBody Try.f28 0) (bodyK ⟨0, 27, laws_szTxnS_loops⟩ [0, 1, 4, 5] []) (setEs (deads 27) [0, 1, 4, 5] (laws_szTxnS_v0 x)) (laws_szTxnS_s0 x) = laws_szTxnS_b0 x (Sum.elim (fun y => some ⟨.norm, laws_szTxnS_v0 y, laws_szTxnS_s0 y⟩) fun z => some ⟨(laws_szTxnS_e0 z).1, (laws_szTxnS_e0 z).2.1, (laws_szTxnS_e0 z).2.2⟩) := by
  kernel_rfl

theorem laws_szTxnS_lo0 : ∀ sp, (laws_szTxnS_loops 0) = some sp → LoopOk G7 ⟨0, 27, laws_szTxnS_loops⟩ sp (loopBody Try.f28 0) := by
  intro sp hsp vals st k r h
  cases hsp
  dsimp only at h
  rcases onPats_inv2 h with ⟨p, q, rfl, rfl, h⟩ | h
  · exact loop_runs2 laws_szTxnS_bp0 laws_szTxnS_v0 laws_szTxnS_s0 laws_szTxnS_e0 (fun z => by rcases z with z | z <;> (intro h; cases h)) laws_szTxnS_bx0 Fuel (p.1, p.2.1, p.2.2.1, p.2.2.2.1) _ k r (fun z => by rcases z with z | z <;> rfl) h
  cases h

theorem laws_szTxnS_x (a0 : (List dTxn)) (a1 : Int) : execFn G7 laws_szTxnS_loops Try.f28 [.lst tTxn a0, .int .i64 a1] [] = laws_szTxnS_d a0 a1 (fun (y : Int) => some ⟨.ret, [.int .i64 y], []⟩) := by kernel_rfl

theorem laws_szTxnS_y (a0 : (List dTxn)) (a1 : Int) : execFn G7 laws_szTxnS_loops Try.f28 [.lst tTxn a0, .int .i64 a1] [] = laws_szTxnS_k a0 a1 (fun (y : Int) => some ⟨.ret, [.int .i64 y], []⟩) := (laws_szTxnS_x a0 a1).trans (by rw [laws_szTxnS_e])

theorem laws_szTxnS_l : LoopsOk G7 ⟨0, 27, laws_szTxnS_loops⟩ (Try.f28.body.getD .skip) :=
  loopsOk_of (ids := [0]) (by kernel_rfl) (by kernel_rfl) ⟨laws_szTxnS_lo0, trivial⟩

theorem laws_szTxnS_c : Contract Try.prog 28 laws_szTxnS_g := by
  refine told G7_ok follows Try.func28 (c := Try.f28.body.getD .skip) (by kernel_rfl) ?_
  intro args s k r hk
  unfold laws_szTxnS_g at hk
  rcases onPats_inv hk with ⟨p, q, rfl, rfl⟩ | hk
  · exact ⟨laws_szTxnS_loops, laws_szTxnS_q p.1 p.2.1, laws_szTxnS_y p.1 p.2.1, laws_szTxnS_l⟩
  cases hk

def G8 : Glob := G7.add 28 laws_szTxnS_g

theorem G8_ok : GlobOk Try.prog G8 := G7_ok.add ⟨Try.f28, Try.func28, by kernel_rfl, by kernel_rfl⟩ laws_szTxnS_c

/-! ### loop.example/g00327/laws.szBase -/

def laws_szBase_loops : Nat → Option LoopSpec
  | _ => none

theorem laws_szBase_x (a0 : (List dVersion)) (a1 : (List dTxn)) (a2 : (List dTxn)) (a3 : Int) (a4 : Int) (a5 : Int) : execFn G8 laws_szBase_loops Try.f67 [.agg [.lst tVersion a0, .lst tTxn a1, .lst tTxn a2, .int .i64 a3, .int .i64 a4], .int .i64 a5] [] = laws_szBase_d (a0, (a1, (a2, (a3, a4)))) a5 (fun (y : Int) => some ⟨.ret, [.int .i64 y], []⟩) := by kernel_rfl

theorem laws_szBase_y (a0 : (List dVersion)) (a1 : (List dTxn)) (a2 : (List dTxn)) (a3 : Int) (a4 : Int) (a5 : Int) : execFn G8 laws_szBase_loops Try.f67 [.agg [.lst tVersion a0, .lst tTxn a1, .lst tTxn a2, .int .i64 a3, .int .i64 a4], .int .i64 a5] [] = laws_szBase_k (a0, (a1, (a2, (a3, a4)))) a5 (fun (y : Int) => some ⟨.ret, [.int .i64 y], []⟩) := (laws_szBase_x a0 a1 a2 a3 a4 a5).trans (by rw [laws_szBase_e])

theorem laws_szBase_l : LoopsOk G8 ⟨0, 24, laws_szBase_loops⟩ (Try.f67.body.getD .skip) :=
  loopsOk_of (ids := []) (by kernel_rfl) (by kernel_rfl) trivial

theorem laws_szBase_c : Contract Try.prog 67 laws_szBase_g := by
  refine told G8_ok follows Try.func67 (c := Try.f67.body.getD .skip) (by kernel_rfl) ?_
  intro args s k r hk
  unfold laws_szBase_g at hk
  rcases onPats_inv hk with ⟨p, q, rfl, rfl⟩ | hk
  · exact ⟨laws_szBase_loops, laws_szBase_q p.1.1 p.1.2.1 p.1.2.2.1 p.1.2.2.2.1 p.1.2.2.2.2.1 p.2.1, laws_szBase_y p.1.1 p.1.2.1 p.1.2.2.1 p.1.2.2.2.1 p.1.2.2.2.2.1 p.2.1, laws_szBase_l⟩
  cases hk

def G9 : Glob := G8.add 67 laws_szBase_g

theorem G9_ok : GlobOk Try.prog G9 := G8_ok.add ⟨Try.f67, Try.func67, by kernel_rfl, by kernel_rfl⟩ laws_szBase_c

/-! ### loop.example/g00327/laws.toVersion -/

def laws_toVersion_loops : Nat → Option LoopSpec
  | _ => none

theorem laws_toVersion_x (a0 : ByteArray) (a1 : ByteArray) (a2 : Bool) (a3 : Int) : execFn G9 laws_toVersion_loops Try.f125 [.agg [.str a0, .str a1, .bool a2, .int .i64 a3]] [] = laws_toVersion_d (a0, (a1, (a2, a3))) (fun (y : (ByteArray × ByteArray × Bool × Int)) => some ⟨.ret, [.agg [.str y.1, .str y.2.1, .bool y.2.2.1, .int .i64 y.2.2.2]], []⟩) := by kernel_rfl

theorem laws_toVersion_y (a0 : ByteArray) (a1 : ByteArray) (a2 : Bool) (a3 : Int) : execFn G9 laws_toVersion_loops Try.f125 [.agg [.str a0, .str a1, .bool a2, .int .i64 a3]] [] = laws_toVersion_k (a0, (a1, (a2, a3))) (fun (y : (ByteArray × ByteArray × Bool × Int)) => some ⟨.ret, [.agg [.str y.1, .str y.2.1, .bool y.2.2.1, .int .i64 y.2.2.2]], []⟩) := (laws_toVersion_x a0 a1 a2 a3).trans (by rw [laws_toVersion_e])

theorem laws_toVersion_l : LoopsOk G9 ⟨0, 17, laws_toVersion_loops⟩ (Try.f125.body.getD .skip) :=
  loopsOk_of (ids := []) (by kernel_rfl) (by kernel_rfl) trivial

theorem laws_toVersion_c : Contract Try.prog 125 laws_toVersion_g := by
  refine told G9_ok follows Try.func125 (c := Try.f125.body.getD .skip) (by kernel_rfl) ?_
  intro args s k r hk
  unfold laws_toVersion_g at hk
  rcases onPats_inv hk with ⟨p, q, rfl, rfl⟩ | hk
  · exact ⟨laws_toVersion_loops, laws_toVersion_q p.1.1 p.1.2.1 p.1.2.2.1 p.1.2.2.2.1, laws_toVersion_y p.1.1 p.1.2.1 p.1.2.2.1 p.1.2.2.2.1, laws_toVersion_l⟩
  cases hk

def G10 : Glob := G9.add 125 laws_toVersion_g

theorem G10_ok : GlobOk Try.prog G10 := G9_ok.add ⟨Try.f125, Try.func125, by kernel_rfl, by kernel_rfl⟩ laws_toVersion_c

/-! ### loop.example/g00327/laws.toVersionS -/

def laws_toVersionS_loops : Nat → Option LoopSpec
  | 0 => some ⟨[0, 3, 4], [], fun vals st k => onPats [.lst tVersion, .own 0, .int .i64] [.arr tVersion] vals st (fun p q => loopK laws_toVersionS_b0 Fuel (p.1, p.2.2.1, q.1) (fun z => k (.exit 0) [.lst tVersion z.1, .own 0, .int .i64 z.2.1] [.arr tVersion z.2.2]))
      (none)⟩
  | _ => none

def laws_toVersionS_v0 : ((List dVersion) × Int × (List dVersion)) → List AV := (fun x => [.lst tVersion x.1, .own 0, .int .i64 x.2.1])
def laws_toVersionS_s0 : ((List dVersion) × Int × (List dVersion)) → St := (fun x => [.arr tVersion x.2.2])
def laws_toVersionS_e0 : ((List dVersion) × Int × (List dVersion)) → Out × List AV × St := (fun z => ((.exit 0), [.lst tVersion z.1, .own 0, .int .i64 z.2.1], [.arr tVersion z.2.2]))

theorem laws_toVersionS_bx0 (x : ((List dVersion) × Int × (List dVersion))) : exec G10 ⟨0, 23, laws_toVersionS_loops⟩ (loopBody Try.f59 0) (bodyK ⟨0, 23, laws_toVersionS_loops⟩ [0, 3, 4] []) (setEs (deads 23) [0, 3, 4] (laws_toVersionS_v0 x)) (laws_toVersionS_s0 x) = laws_toVersionS_b0 x (Sum.elim (fun y => some ⟨.norm, laws_toVersionS_v0 y, laws_toVersionS_s0 y⟩) fun z => some ⟨(laws_toVersionS_e0 z).1, (laws_toVersionS_e0 z).2.1, (laws_toVersionS_e0 z).2.2⟩) := by
  kernel_rfl

theorem laws_toVersionS_lo0 : ∀ sp, (laws_toVersionS_loops 0) = some sp → LoopOk G10 ⟨0, 23, laws_toVersionS_loops⟩ sp (loopBody Try.f59 0) := by
  intro sp hsp vals st k r h
  cases hsp
  dsimp only at h
  rcases onPats_inv2 h with ⟨p, q, rfl, rfl, h⟩ | h
  · exact loop_runs2 laws_toVersionS_bp0 laws_toVersionS_v0 laws_toVersionS_s0 laws_toVersionS_e0 (fun z => by (intro h; cases h)) laws_toVersionS_bx0 Fuel (p.1, p.2.2.1, q.1) _ k r (fun z => rfl) h
  cases h

theorem laws_toVersionS_x (a0 : (List dVersion)) : execFn G10 laws_toVersionS_loops Try.f59 [.lst tVersion a0] [] = laws_toVersionS_d a0 (fun (y : (List dVersion)) => some ⟨.ret, [.own 0], [.arr tVersion y]⟩) := by kernel_rfl

theorem laws_toVersionS_y (a0 : (List dVersion)) : execFn G10 laws_toVersionS_loops Try.f59 [.lst tVersion a0] [] = laws_toVersionS_k a0 (fun (y : (List dVersion)) => some ⟨.ret, [.own 0], [.arr tVersion y]⟩) := (laws_toVersionS_x a0).trans (by rw [laws_toVersionS_e])

theorem laws_toVersionS_l : LoopsOk G10 ⟨0, 23, laws_toVersionS_loops⟩ (Try.f59.body.getD .skip) :=
  loopsOk_of (ids := [0]) (by kernel_rfl) (by kernel_rfl) ⟨laws_toVersionS_lo0, trivial⟩

theorem laws_toVersionS_c : Contract Try.prog 59 laws_toVersionS_g := by
  refine told G10_ok follows Try.func59 (c := Try.f59.body.getD .skip) (by kernel_rfl) ?_
  intro args s k r hk
  unfold laws_toVersionS_g at hk
  rcases onPats_inv hk with ⟨p, q, rfl, rfl⟩ | hk
  · exact ⟨laws_toVersionS_loops, laws_toVersionS_q p.1, laws_toVersionS_y p.1, laws_toVersionS_l⟩
  cases hk

def G11 : Glob := G10.add 59 laws_toVersionS_g

theorem G11_ok : GlobOk Try.prog G11 := G10_ok.add ⟨Try.f59, Try.func59, by kernel_rfl, by kernel_rfl⟩ laws_toVersionS_c

/-! ### loop.example/g00327/laws.toRange -/

def laws_toRange_loops : Nat → Option LoopSpec
  | _ => none

theorem laws_toRange_x (a0 : ByteArray) (a1 : ByteArray) : execFn G11 laws_toRange_loops Try.f130 [.agg [.str a0, .str a1]] [] = laws_toRange_d (a0, a1) (fun (y : (ByteArray × ByteArray)) => some ⟨.ret, [.agg [.str y.1, .str y.2]], []⟩) := by kernel_rfl

theorem laws_toRange_y (a0 : ByteArray) (a1 : ByteArray) : execFn G11 laws_toRange_loops Try.f130 [.agg [.str a0, .str a1]] [] = laws_toRange_k (a0, a1) (fun (y : (ByteArray × ByteArray)) => some ⟨.ret, [.agg [.str y.1, .str y.2]], []⟩) := (laws_toRange_x a0 a1).trans (by rw [laws_toRange_e])

theorem laws_toRange_l : LoopsOk G11 ⟨0, 11, laws_toRange_loops⟩ (Try.f130.body.getD .skip) :=
  loopsOk_of (ids := []) (by kernel_rfl) (by kernel_rfl) trivial

theorem laws_toRange_c : Contract Try.prog 130 laws_toRange_g := by
  refine told G11_ok follows Try.func130 (c := Try.f130.body.getD .skip) (by kernel_rfl) ?_
  intro args s k r hk
  unfold laws_toRange_g at hk
  rcases onPats_inv hk with ⟨p, q, rfl, rfl⟩ | hk
  · exact ⟨laws_toRange_loops, laws_toRange_q p.1.1 p.1.2.1, laws_toRange_y p.1.1 p.1.2.1, laws_toRange_l⟩
  cases hk

def G12 : Glob := G11.add 130 laws_toRange_g

theorem G12_ok : GlobOk Try.prog G12 := G11_ok.add ⟨Try.f130, Try.func130, by kernel_rfl, by kernel_rfl⟩ laws_toRange_c

/-! ### loop.example/g00327/laws.toRangeS -/

def laws_toRangeS_loops : Nat → Option LoopSpec
  | 0 => some ⟨[0, 3, 4], [], fun vals st k => onPats [.lst tRange, .own 0, .int .i64] [.arr tRange] vals st (fun p q => loopK laws_toRangeS_b0 Fuel (p.1, p.2.2.1, q.1) (fun z => k (.exit 0) [.lst tRange z.1, .own 0, .int .i64 z.2.1] [.arr tRange z.2.2]))
      (none)⟩
  | _ => none

def laws_toRangeS_v0 : ((List dRange) × Int × (List dRange)) → List AV := (fun x => [.lst tRange x.1, .own 0, .int .i64 x.2.1])
def laws_toRangeS_s0 : ((List dRange) × Int × (List dRange)) → St := (fun x => [.arr tRange x.2.2])
def laws_toRangeS_e0 : ((List dRange) × Int × (List dRange)) → Out × List AV × St := (fun z => ((.exit 0), [.lst tRange z.1, .own 0, .int .i64 z.2.1], [.arr tRange z.2.2]))

theorem laws_toRangeS_bx0 (x : ((List dRange) × Int × (List dRange))) : exec G12 ⟨0, 23, laws_toRangeS_loops⟩ (loopBody Try.f73 0) (bodyK ⟨0, 23, laws_toRangeS_loops⟩ [0, 3, 4] []) (setEs (deads 23) [0, 3, 4] (laws_toRangeS_v0 x)) (laws_toRangeS_s0 x) = laws_toRangeS_b0 x (Sum.elim (fun y => some ⟨.norm, laws_toRangeS_v0 y, laws_toRangeS_s0 y⟩) fun z => some ⟨(laws_toRangeS_e0 z).1, (laws_toRangeS_e0 z).2.1, (laws_toRangeS_e0 z).2.2⟩) := by
  kernel_rfl

theorem laws_toRangeS_lo0 : ∀ sp, (laws_toRangeS_loops 0) = some sp → LoopOk G12 ⟨0, 23, laws_toRangeS_loops⟩ sp (loopBody Try.f73 0) := by
  intro sp hsp vals st k r h
  cases hsp
  dsimp only at h
  rcases onPats_inv2 h with ⟨p, q, rfl, rfl, h⟩ | h
  · exact loop_runs2 laws_toRangeS_bp0 laws_toRangeS_v0 laws_toRangeS_s0 laws_toRangeS_e0 (fun z => by (intro h; cases h)) laws_toRangeS_bx0 Fuel (p.1, p.2.2.1, q.1) _ k r (fun z => rfl) h
  cases h

theorem laws_toRangeS_x (a0 : (List dRange)) : execFn G12 laws_toRangeS_loops Try.f73 [.lst tRange a0] [] = laws_toRangeS_d a0 (fun (y : (List dRange)) => some ⟨.ret, [.own 0], [.arr tRange y]⟩) := by kernel_rfl

theorem laws_toRangeS_y (a0 : (List dRange)) : execFn G12 laws_toRangeS_loops Try.f73 [.lst tRange a0] [] = laws_toRangeS_k a0 (fun (y : (List dRange)) => some ⟨.ret, [.own 0], [.arr tRange y]⟩) := (laws_toRangeS_x a0).trans (by rw [laws_toRangeS_e])

theorem laws_toRangeS_l : LoopsOk G12 ⟨0, 23, laws_toRangeS_loops⟩ (Try.f73.body.getD .skip) :=
  loopsOk_of (ids := [0]) (by kernel_rfl) (by kernel_rfl) ⟨laws_toRangeS_lo0, trivial⟩

theorem laws_toRangeS_c : Contract Try.prog 73 laws_toRangeS_g := by
  refine told G12_ok follows Try.func73 (c := Try.f73.body.getD .skip) (by kernel_rfl) ?_
  intro args s k r hk
  unfold laws_toRangeS_g at hk
  rcases onPats_inv hk with ⟨p, q, rfl, rfl⟩ | hk
  · exact ⟨laws_toRangeS_loops, laws_toRangeS_q p.1, laws_toRangeS_y p.1, laws_toRangeS_l⟩
  cases hk

def G13 : Glob := G12.add 73 laws_toRangeS_g

theorem G13_ok : GlobOk Try.prog G13 := G12_ok.add ⟨Try.f73, Try.func73, by kernel_rfl, by kernel_rfl⟩ laws_toRangeS_c

/-! ### loop.example/g00327/laws.toWrite -/

def laws_toWrite_loops : Nat → Option LoopSpec
  | _ => none

theorem laws_toWrite_x (a0 : ByteArray) (a1 : ByteArray) (a2 : Bool) : execFn G13 laws_toWrite_loops Try.f131 [.agg [.str a0, .str a1, .bool a2]] [] = laws_toWrite_d (a0, (a1, a2)) (fun (y : (ByteArray × ByteArray × Bool)) => some ⟨.ret, [.agg [.str y.1, .str y.2.1, .bool y.2.2]], []⟩) := by kernel_rfl

theorem laws_toWrite_y (a0 : ByteArray) (a1 : ByteArray) (a2 : Bool) : execFn G13 laws_toWrite_loops Try.f131 [.agg [.str a0, .str a1, .bool a2]] [] = laws_toWrite_k (a0, (a1, a2)) (fun (y : (ByteArray × ByteArray × Bool)) => some ⟨.ret, [.agg [.str y.1, .str y.2.1, .bool y.2.2]], []⟩) := (laws_toWrite_x a0 a1 a2).trans (by rw [laws_toWrite_e])

theorem laws_toWrite_l : LoopsOk G13 ⟨0, 14, laws_toWrite_loops⟩ (Try.f131.body.getD .skip) :=
  loopsOk_of (ids := []) (by kernel_rfl) (by kernel_rfl) trivial

theorem laws_toWrite_c : Contract Try.prog 131 laws_toWrite_g := by
  refine told G13_ok follows Try.func131 (c := Try.f131.body.getD .skip) (by kernel_rfl) ?_
  intro args s k r hk
  unfold laws_toWrite_g at hk
  rcases onPats_inv hk with ⟨p, q, rfl, rfl⟩ | hk
  · exact ⟨laws_toWrite_loops, laws_toWrite_q p.1.1 p.1.2.1 p.1.2.2.1, laws_toWrite_y p.1.1 p.1.2.1 p.1.2.2.1, laws_toWrite_l⟩
  cases hk

def G14 : Glob := G13.add 131 laws_toWrite_g

theorem G14_ok : GlobOk Try.prog G14 := G13_ok.add ⟨Try.f131, Try.func131, by kernel_rfl, by kernel_rfl⟩ laws_toWrite_c

/-! ### loop.example/g00327/laws.toWriteS -/

def laws_toWriteS_loops : Nat → Option LoopSpec
  | 0 => some ⟨[0, 3, 4], [], fun vals st k => onPats [.lst tWrite, .own 0, .int .i64] [.arr tWrite] vals st (fun p q => loopK laws_toWriteS_b0 Fuel (p.1, p.2.2.1, q.1) (fun z => k (.exit 0) [.lst tWrite z.1, .own 0, .int .i64 z.2.1] [.arr tWrite z.2.2]))
      (none)⟩
  | _ => none

def laws_toWriteS_v0 : ((List dWrite) × Int × (List dWrite)) → List AV := (fun x => [.lst tWrite x.1, .own 0, .int .i64 x.2.1])
def laws_toWriteS_s0 : ((List dWrite) × Int × (List dWrite)) → St := (fun x => [.arr tWrite x.2.2])
def laws_toWriteS_e0 : ((List dWrite) × Int × (List dWrite)) → Out × List AV × St := (fun z => ((.exit 0), [.lst tWrite z.1, .own 0, .int .i64 z.2.1], [.arr tWrite z.2.2]))

theorem laws_toWriteS_bx0 (x : ((List dWrite) × Int × (List dWrite))) : exec G14 ⟨0, 23, laws_toWriteS_loops⟩ (loopBody Try.f74 0) (bodyK ⟨0, 23, laws_toWriteS_loops⟩ [0, 3, 4] []) (setEs (deads 23) [0, 3, 4] (laws_toWriteS_v0 x)) (laws_toWriteS_s0 x) = laws_toWriteS_b0 x (Sum.elim (fun y => some ⟨.norm, laws_toWriteS_v0 y, laws_toWriteS_s0 y⟩) fun z => some ⟨(laws_toWriteS_e0 z).1, (laws_toWriteS_e0 z).2.1, (laws_toWriteS_e0 z).2.2⟩) := by
  kernel_rfl

theorem laws_toWriteS_lo0 : ∀ sp, (laws_toWriteS_loops 0) = some sp → LoopOk G14 ⟨0, 23, laws_toWriteS_loops⟩ sp (loopBody Try.f74 0) := by
  intro sp hsp vals st k r h
  cases hsp
  dsimp only at h
  rcases onPats_inv2 h with ⟨p, q, rfl, rfl, h⟩ | h
  · exact loop_runs2 laws_toWriteS_bp0 laws_toWriteS_v0 laws_toWriteS_s0 laws_toWriteS_e0 (fun z => by (intro h; cases h)) laws_toWriteS_bx0 Fuel (p.1, p.2.2.1, q.1) _ k r (fun z => rfl) h
  cases h

theorem laws_toWriteS_x (a0 : (List dWrite)) : execFn G14 laws_toWriteS_loops Try.f74 [.lst tWrite a0] [] = laws_toWriteS_d a0 (fun (y : (List dWrite)) => some ⟨.ret, [.own 0], [.arr tWrite y]⟩) := by kernel_rfl

theorem laws_toWriteS_y (a0 : (List dWrite)) : execFn G14 laws_toWriteS_loops Try.f74 [.lst tWrite a0] [] = laws_toWriteS_k a0 (fun (y : (List dWrite)) => some ⟨.ret, [.own 0], [.arr tWrite y]⟩) := (laws_toWriteS_x a0).trans (by rw [laws_toWriteS_e])

theorem laws_toWriteS_l : LoopsOk G14 ⟨0, 23, laws_toWriteS_loops⟩ (Try.f74.body.getD .skip) :=
  loopsOk_of (ids := [0]) (by kernel_rfl) (by kernel_rfl) ⟨laws_toWriteS_lo0, trivial⟩

theorem laws_toWriteS_c : Contract Try.prog 74 laws_toWriteS_g := by
  refine told G14_ok follows Try.func74 (c := Try.f74.body.getD .skip) (by kernel_rfl) ?_
  intro args s k r hk
  unfold laws_toWriteS_g at hk
  rcases onPats_inv hk with ⟨p, q, rfl, rfl⟩ | hk
  · exact ⟨laws_toWriteS_loops, laws_toWriteS_q p.1, laws_toWriteS_y p.1, laws_toWriteS_l⟩
  cases hk

def G15 : Glob := G14.add 74 laws_toWriteS_g

theorem G15_ok : GlobOk Try.prog G15 := G14_ok.add ⟨Try.f74, Try.func74, by kernel_rfl, by kernel_rfl⟩ laws_toWriteS_c

/-! ### loop.example/g00327/laws.toTxn -/

def laws_toTxn_loops : Nat → Option LoopSpec
  | _ => none

theorem laws_toTxn_x (a0 : Int) (a1 : Int) (a2 : Int) (a3 : Int) (a4 : (List dRange)) (a5 : (List dWrite)) (a6 : Bool) (a7 : ByteArray) : execFn G15 laws_toTxn_loops Try.f17 [.agg [.int .i64 a0, .int .i64 a1, .int .i64 a2, .int .i64 a3, .lst tRange a4, .lst tWrite a5, .bool a6, .str a7]] [] = laws_toTxn_d (a0, (a1, (a2, (a3, (a4, (a5, (a6, a7))))))) (fun (y : (Int × Int × Int × Int × Bool × ByteArray × (List dRange) × (List dWrite))) => some ⟨.ret, [.agg [.int .i64 y.1, .int .i64 y.2.1, .int .i64 y.2.2.1, .int .i64 y.2.2.2.1, .own 0, .own 1, .bool y.2.2.2.2.1, .str y.2.2.2.2.2.1]], [.arr tRange y.2.2.2.2.2.2.1, .arr tWrite y.2.2.2.2.2.2.2]⟩) := by kernel_rfl

theorem laws_toTxn_y (a0 : Int) (a1 : Int) (a2 : Int) (a3 : Int) (a4 : (List dRange)) (a5 : (List dWrite)) (a6 : Bool) (a7 : ByteArray) : execFn G15 laws_toTxn_loops Try.f17 [.agg [.int .i64 a0, .int .i64 a1, .int .i64 a2, .int .i64 a3, .lst tRange a4, .lst tWrite a5, .bool a6, .str a7]] [] = laws_toTxn_k (a0, (a1, (a2, (a3, (a4, (a5, (a6, a7))))))) (fun (y : (Int × Int × Int × Int × Bool × ByteArray × (List dRange) × (List dWrite))) => some ⟨.ret, [.agg [.int .i64 y.1, .int .i64 y.2.1, .int .i64 y.2.2.1, .int .i64 y.2.2.2.1, .own 0, .own 1, .bool y.2.2.2.2.1, .str y.2.2.2.2.2.1]], [.arr tRange y.2.2.2.2.2.2.1, .arr tWrite y.2.2.2.2.2.2.2]⟩) := (laws_toTxn_x a0 a1 a2 a3 a4 a5 a6 a7).trans (by rw [laws_toTxn_e])

theorem laws_toTxn_l : LoopsOk G15 ⟨0, 31, laws_toTxn_loops⟩ (Try.f17.body.getD .skip) :=
  loopsOk_of (ids := []) (by kernel_rfl) (by kernel_rfl) trivial

theorem laws_toTxn_c : Contract Try.prog 17 laws_toTxn_g := by
  refine told G15_ok follows Try.func17 (c := Try.f17.body.getD .skip) (by kernel_rfl) ?_
  intro args s k r hk
  unfold laws_toTxn_g at hk
  rcases onPats_inv hk with ⟨p, q, rfl, rfl⟩ | hk
  · exact ⟨laws_toTxn_loops, laws_toTxn_q p.1.1 p.1.2.1 p.1.2.2.1 p.1.2.2.2.1 p.1.2.2.2.2.1 p.1.2.2.2.2.2.1 p.1.2.2.2.2.2.2.1 p.1.2.2.2.2.2.2.2.1, laws_toTxn_y p.1.1 p.1.2.1 p.1.2.2.1 p.1.2.2.2.1 p.1.2.2.2.2.1 p.1.2.2.2.2.2.1 p.1.2.2.2.2.2.2.1 p.1.2.2.2.2.2.2.2.1, laws_toTxn_l⟩
  cases hk

def G16 : Glob := G15.add 17 laws_toTxn_g

theorem G16_ok : GlobOk Try.prog G16 := G15_ok.add ⟨Try.f17, Try.func17, by kernel_rfl, by kernel_rfl⟩ laws_toTxn_c

/-! ### loop.example/g00327/laws.toTxnS -/

def laws_toTxnS_loops : Nat → Option LoopSpec
  | 0 => some ⟨[0, 3, 4], [], fun vals st k => onPats [.lst tTxn, .own 0, .int .i64] [.arr tTxn] vals st (fun p q => loopK laws_toTxnS_b0 Fuel (p.1, p.2.2.1, q.1) (fun z => k (.exit 0) [.lst tTxn z.1, .own 0, .int .i64 z.2.1] [.arr tTxn z.2.2]))
      (none)⟩
  | _ => none

def laws_toTxnS_v0 : ((List dTxn) × Int × (List dTxn)) → List AV := (fun x => [.lst tTxn x.1, .own 0, .int .i64 x.2.1])
def laws_toTxnS_s0 : ((List dTxn) × Int × (List dTxn)) → St := (fun x => [.arr tTxn x.2.2])
def laws_toTxnS_e0 : ((List dTxn) × Int × (List dTxn)) → Out × List AV × St := (fun z => ((.exit 0), [.lst tTxn z.1, .own 0, .int .i64 z.2.1], [.arr tTxn z.2.2]))

theorem laws_toTxnS_bx0 (x : ((List dTxn) × Int × (List dTxn))) : exec G16 ⟨0, 23, laws_toTxnS_loops⟩ (loopBody Try.f30 0) (bodyK ⟨0, 23, laws_toTxnS_loops⟩ [0, 3, 4] []) (setEs (deads 23) [0, 3, 4] (laws_toTxnS_v0 x)) (laws_toTxnS_s0 x) = laws_toTxnS_b0 x (Sum.elim (fun y => some ⟨.norm, laws_toTxnS_v0 y, laws_toTxnS_s0 y⟩) fun z => some ⟨(laws_toTxnS_e0 z).1, (laws_toTxnS_e0 z).2.1, (laws_toTxnS_e0 z).2.2⟩) := by
  kernel_rfl

theorem laws_toTxnS_lo0 : ∀ sp, (laws_toTxnS_loops 0) = some sp → LoopOk G16 ⟨0, 23, laws_toTxnS_loops⟩ sp (loopBody Try.f30 0) := by
  intro sp hsp vals st k r h
  cases hsp
  dsimp only at h
  rcases onPats_inv2 h with ⟨p, q, rfl, rfl, h⟩ | h
  · exact loop_runs2 laws_toTxnS_bp0 laws_toTxnS_v0 laws_toTxnS_s0 laws_toTxnS_e0 (fun z => by (intro h; cases h)) laws_toTxnS_bx0 Fuel (p.1, p.2.2.1, q.1) _ k r (fun z => rfl) h
  cases h

theorem laws_toTxnS_x (a0 : (List dTxn)) : execFn G16 laws_toTxnS_loops Try.f30 [.lst tTxn a0] [] = laws_toTxnS_d a0 (fun (y : (List dTxn)) => some ⟨.ret, [.own 0], [.arr tTxn y]⟩) := by kernel_rfl

theorem laws_toTxnS_y (a0 : (List dTxn)) : execFn G16 laws_toTxnS_loops Try.f30 [.lst tTxn a0] [] = laws_toTxnS_k a0 (fun (y : (List dTxn)) => some ⟨.ret, [.own 0], [.arr tTxn y]⟩) := (laws_toTxnS_x a0).trans (by rw [laws_toTxnS_e])

theorem laws_toTxnS_l : LoopsOk G16 ⟨0, 23, laws_toTxnS_loops⟩ (Try.f30.body.getD .skip) :=
  loopsOk_of (ids := [0]) (by kernel_rfl) (by kernel_rfl) ⟨laws_toTxnS_lo0, trivial⟩

theorem laws_toTxnS_c : Contract Try.prog 30 laws_toTxnS_g := by
  refine told G16_ok follows Try.func30 (c := Try.f30.body.getD .skip) (by kernel_rfl) ?_
  intro args s k r hk
  unfold laws_toTxnS_g at hk
  rcases onPats_inv hk with ⟨p, q, rfl, rfl⟩ | hk
  · exact ⟨laws_toTxnS_loops, laws_toTxnS_q p.1, laws_toTxnS_y p.1, laws_toTxnS_l⟩
  cases hk

def G17 : Glob := G16.add 30 laws_toTxnS_g

theorem G17_ok : GlobOk Try.prog G17 := G16_ok.add ⟨Try.f30, Try.func30, by kernel_rfl, by kernel_rfl⟩ laws_toTxnS_c

/-! ### loop.example/g00327/laws.toBase -/

def laws_toBase_loops : Nat → Option LoopSpec
  | _ => none

theorem laws_toBase_x (a0 : (List dVersion)) (a1 : (List dTxn)) (a2 : (List dTxn)) (a3 : Int) (a4 : Int) : execFn G17 laws_toBase_loops Try.f69 [.agg [.lst tVersion a0, .lst tTxn a1, .lst tTxn a2, .int .i64 a3, .int .i64 a4]] [] = laws_toBase_d (a0, (a1, (a2, (a3, a4)))) (fun (y : (Int × Int × (List dVersion) × (List dTxn) × (List dTxn))) => some ⟨.ret, [.agg [.own 0, .own 1, .own 2, .int .i64 y.1, .int .i64 y.2.1]], [.arr tVersion y.2.2.1, .arr tTxn y.2.2.2.1, .arr tTxn y.2.2.2.2]⟩) := by kernel_rfl

theorem laws_toBase_y (a0 : (List dVersion)) (a1 : (List dTxn)) (a2 : (List dTxn)) (a3 : Int) (a4 : Int) : execFn G17 laws_toBase_loops Try.f69 [.agg [.lst tVersion a0, .lst tTxn a1, .lst tTxn a2, .int .i64 a3, .int .i64 a4]] [] = laws_toBase_k (a0, (a1, (a2, (a3, a4)))) (fun (y : (Int × Int × (List dVersion) × (List dTxn) × (List dTxn))) => some ⟨.ret, [.agg [.own 0, .own 1, .own 2, .int .i64 y.1, .int .i64 y.2.1]], [.arr tVersion y.2.2.1, .arr tTxn y.2.2.2.1, .arr tTxn y.2.2.2.2]⟩) := (laws_toBase_x a0 a1 a2 a3 a4).trans (by rw [laws_toBase_e])

theorem laws_toBase_l : LoopsOk G17 ⟨0, 23, laws_toBase_loops⟩ (Try.f69.body.getD .skip) :=
  loopsOk_of (ids := []) (by kernel_rfl) (by kernel_rfl) trivial

theorem laws_toBase_c : Contract Try.prog 69 laws_toBase_g := by
  refine told G17_ok follows Try.func69 (c := Try.f69.body.getD .skip) (by kernel_rfl) ?_
  intro args s k r hk
  unfold laws_toBase_g at hk
  rcases onPats_inv hk with ⟨p, q, rfl, rfl⟩ | hk
  · exact ⟨laws_toBase_loops, laws_toBase_q p.1.1 p.1.2.1 p.1.2.2.1 p.1.2.2.2.1 p.1.2.2.2.2.1, laws_toBase_y p.1.1 p.1.2.1 p.1.2.2.1 p.1.2.2.2.1 p.1.2.2.2.2.1, laws_toBase_l⟩
  cases hk

def G18 : Glob := G17.add 69 laws_toBase_g

theorem G18_ok : GlobOk Try.prog G18 := G17_ok.add ⟨Try.f69, Try.func69, by kernel_rfl, by kernel_rfl⟩ laws_toBase_c

/-! ### loop.example/g00327/spec.OldestOf -/

def spec_OldestOf_loops : Nat → Option LoopSpec
  | 0 => some ⟨[1, 5, 6], [], fun vals st k => onPats [.lst tTxn, .int .i64, .int .i64] [] vals st (fun p q => loopK spec_OldestOf_b0 Fuel (p.1, p.2.1, p.2.2.1) (fun z => k (.exit 0) [.lst tTxn z.1, .int .i64 z.2.1, .int .i64 z.2.2] []))
      (none)⟩
  | _ => none

def spec_OldestOf_v0 : ((List dTxn) × Int × Int) → List AV := (fun x => [.lst tTxn x.1, .int .i64 x.2.1, .int .i64 x.2.2])
def spec_OldestOf_s0 : ((List dTxn) × Int × Int) → St := (fun x => [])
def spec_OldestOf_e0 : ((List dTxn) × Int × Int) → Out × List AV × St := (fun z => ((.exit 0), [.lst tTxn z.1, .int .i64 z.2.1, .int .i64 z.2.2], []))

theorem spec_OldestOf_bx0 (x : ((List dTxn) × Int × Int)) : exec G18 ⟨0, 28, spec_OldestOf_loops⟩ (loopBody Try.f68 0) (bodyK ⟨0, 28, spec_OldestOf_loops⟩ [1, 5, 6] []) (setEs (deads 28) [1, 5, 6] (spec_OldestOf_v0 x)) (spec_OldestOf_s0 x) = spec_OldestOf_b0 x (Sum.elim (fun y => some ⟨.norm, spec_OldestOf_v0 y, spec_OldestOf_s0 y⟩) fun z => some ⟨(spec_OldestOf_e0 z).1, (spec_OldestOf_e0 z).2.1, (spec_OldestOf_e0 z).2.2⟩) := by
  kernel_rfl

theorem spec_OldestOf_lo0 : ∀ sp, (spec_OldestOf_loops 0) = some sp → LoopOk G18 ⟨0, 28, spec_OldestOf_loops⟩ sp (loopBody Try.f68 0) := by
  intro sp hsp vals st k r h
  cases hsp
  dsimp only at h
  rcases onPats_inv2 h with ⟨p, q, rfl, rfl, h⟩ | h
  · exact loop_runs2 spec_OldestOf_bp0 spec_OldestOf_v0 spec_OldestOf_s0 spec_OldestOf_e0 (fun z => by (intro h; cases h)) spec_OldestOf_bx0 Fuel (p.1, p.2.1, p.2.2.1) _ k r (fun z => rfl) h
  cases h

theorem spec_OldestOf_x (a0 : (List dVersion)) (a1 : (List dTxn)) (a2 : (List dTxn)) (a3 : Int) (a4 : Int) (a5 : (List dTxn)) : execFn G18 spec_OldestOf_loops Try.f68 [.agg [.lst tVersion a0, .lst tTxn a1, .lst tTxn a2, .int .i64 a3, .int .i64 a4], .lst tTxn a5] [] = spec_OldestOf_d (a0, (a1, (a2, (a3, a4)))) a5 (fun (y : Int) => some ⟨.ret, [.int .i64 y], []⟩) := by kernel_rfl

theorem spec_OldestOf_y (a0 : (List dVersion)) (a1 : (List dTxn)) (a2 : (List dTxn)) (a3 : Int) (a4 : Int) (a5 : (List dTxn)) : execFn G18 spec_OldestOf_loops Try.f68 [.agg [.lst tVersion a0, .lst tTxn a1, .lst tTxn a2, .int .i64 a3, .int .i64 a4], .lst tTxn a5] [] = spec_OldestOf_k (a0, (a1, (a2, (a3, a4)))) a5 (fun (y : Int) => some ⟨.ret, [.int .i64 y], []⟩) := (spec_OldestOf_x a0 a1 a2 a3 a4 a5).trans (by rw [spec_OldestOf_e])

theorem spec_OldestOf_l : LoopsOk G18 ⟨0, 28, spec_OldestOf_loops⟩ (Try.f68.body.getD .skip) :=
  loopsOk_of (ids := [0]) (by kernel_rfl) (by kernel_rfl) ⟨spec_OldestOf_lo0, trivial⟩

theorem spec_OldestOf_c : Contract Try.prog 68 spec_OldestOf_g := by
  refine told G18_ok follows Try.func68 (c := Try.f68.body.getD .skip) (by kernel_rfl) ?_
  intro args s k r hk
  unfold spec_OldestOf_g at hk
  rcases onPats_inv hk with ⟨p, q, rfl, rfl⟩ | hk
  · exact ⟨spec_OldestOf_loops, spec_OldestOf_q p.1.1 p.1.2.1 p.1.2.2.1 p.1.2.2.2.1 p.1.2.2.2.2.1 p.2.1, spec_OldestOf_y p.1.1 p.1.2.1 p.1.2.2.1 p.1.2.2.2.1 p.1.2.2.2.2.1 p.2.1, spec_OldestOf_l⟩
  cases hk

def G19 : Glob := G18.add 68 spec_OldestOf_g

theorem G19_ok : GlobOk Try.prog G19 := G18_ok.add ⟨Try.f68, Try.func68, by kernel_rfl, by kernel_rfl⟩ spec_OldestOf_c

/-! ### loop.example/g00327/impl.OldestOf -/

def impl_OldestOf_loops : Nat → Option LoopSpec
  | 0 => some ⟨[5, 10, 11, 12], [], fun vals st k => onPats [.int .i64, .lst tTxn, .int .i64, .int .i64] [] vals st (fun p q => loopK impl_OldestOf_b0 Fuel (p.1, p.2.1, p.2.2.1, p.2.2.2.1) (fun z => k (.exit 0) [.int .i64 z.1, .lst tTxn z.2.1, .int .i64 z.2.2.1, .int .i64 z.2.2.2] []))
      (none)⟩
  | _ => none

def impl_OldestOf_v0 : (Int × (List dTxn) × Int × Int) → List AV := (fun x => [.int .i64 x.1, .lst tTxn x.2.1, .int .i64 x.2.2.1, .int .i64 x.2.2.2])
def impl_OldestOf_s0 : (Int × (List dTxn) × Int × Int) → St := (fun x => [])
def impl_OldestOf_e0 : (Int × (List dTxn) × Int × Int) → Out × List AV × St := (fun z => ((.exit 0), [.int .i64 z.1, .lst tTxn z.2.1, .int .i64 z.2.2.1, .int .i64 z.2.2.2], []))

theorem impl_OldestOf_bx0 (x : (Int × (List dTxn) × Int × Int)) : exec G19 ⟨0, 22, impl_OldestOf_loops⟩ (loopBody Try.f70 0) (bodyK ⟨0, 22, impl_OldestOf_loops⟩ [5, 10, 11, 12] []) (setEs (deads 22) [5, 10, 11, 12] (impl_OldestOf_v0 x)) (impl_OldestOf_s0 x) = impl_OldestOf_b0 x (Sum.elim (fun y => some ⟨.norm, impl_OldestOf_v0 y, impl_OldestOf_s0 y⟩) fun z => some ⟨(impl_OldestOf_e0 z).1, (impl_OldestOf_e0 z).2.1, (impl_OldestOf_e0 z).2.2⟩) := by
  kernel_rfl

theorem impl_OldestOf_lo0 : ∀ sp, (impl_OldestOf_loops 0) = some sp → LoopOk G19 ⟨0, 22, impl_OldestOf_loops⟩ sp (loopBody Try.f70 0) := by
  intro sp hsp vals st k r h
  cases hsp
  dsimp only at h
  rcases onPats_inv2 h with ⟨p, q, rfl, rfl, h⟩ | h
  · exact loop_runs2 impl_OldestOf_bp0 impl_OldestOf_v0 impl_OldestOf_s0 impl_OldestOf_e0 (fun z => by (intro h; cases h)) impl_OldestOf_bx0 Fuel (p.1, p.2.1, p.2.2.1, p.2.2.2.1) _ k r (fun z => rfl) h
  cases h

theorem impl_OldestOf_x (a0 : (List dVersion)) (a1 : (List dTxn)) (a2 : (List dTxn)) (a3 : Int) (a4 : Int) (a5 : (List dTxn)) : execFn G19 impl_OldestOf_loops Try.f70 [.agg [.lst tVersion a0, .lst tTxn a1, .lst tTxn a2, .int .i64 a3, .int .i64 a4], .lst tTxn a5] [] = impl_OldestOf_d (a0, (a1, (a2, (a3, a4)))) a5 (fun (y : Int) => some ⟨.ret, [.int .i64 y], []⟩) := by kernel_rfl

theorem impl_OldestOf_y (a0 : (List dVersion)) (a1 : (List dTxn)) (a2 : (List dTxn)) (a3 : Int) (a4 : Int) (a5 : (List dTxn)) : execFn G19 impl_OldestOf_loops Try.f70 [.agg [.lst tVersion a0, .lst tTxn a1, .lst tTxn a2, .int .i64 a3, .int .i64 a4], .lst tTxn a5] [] = impl_OldestOf_k (a0, (a1, (a2, (a3, a4)))) a5 (fun (y : Int) => some ⟨.ret, [.int .i64 y], []⟩) := (impl_OldestOf_x a0 a1 a2 a3 a4 a5).trans (by rw [impl_OldestOf_e])

theorem impl_OldestOf_l : LoopsOk G19 ⟨0, 22, impl_OldestOf_loops⟩ (Try.f70.body.getD .skip) :=
  loopsOk_of (ids := [0]) (by kernel_rfl) (by kernel_rfl) ⟨impl_OldestOf_lo0, trivial⟩

theorem impl_OldestOf_c : Contract Try.prog 70 impl_OldestOf_g := by
  refine told G19_ok follows Try.func70 (c := Try.f70.body.getD .skip) (by kernel_rfl) ?_
  intro args s k r hk
  unfold impl_OldestOf_g at hk
  rcases onPats_inv hk with ⟨p, q, rfl, rfl⟩ | hk
  · exact ⟨impl_OldestOf_loops, impl_OldestOf_q p.1.1 p.1.2.1 p.1.2.2.1 p.1.2.2.2.1 p.1.2.2.2.2.1 p.2.1, impl_OldestOf_y p.1.1 p.1.2.1 p.1.2.2.1 p.1.2.2.2.1 p.1.2.2.2.2.1 p.2.1, impl_OldestOf_l⟩
  cases hk

def G20 : Glob := G19.add 70 impl_OldestOf_g

theorem G20_ok : GlobOk Try.prog G20 := G19_ok.add ⟨Try.f70, Try.func70, by kernel_rfl, by kernel_rfl⟩ impl_OldestOf_c

/-! ### loop.example/g00327/laws.eqVersion -/

def laws_eqVersion_loops : Nat → Option LoopSpec
  | _ => none

theorem laws_eqVersion_x (a0 : ByteArray) (a1 : ByteArray) (a2 : Bool) (a3 : Int) (a4 : ByteArray) (a5 : ByteArray) (a6 : Bool) (a7 : Int) : execFn G20 laws_eqVersion_loops Try.f127 [.agg [.str a0, .str a1, .bool a2, .int .i64 a3], .agg [.str a4, .str a5, .bool a6, .int .i64 a7]] [] = laws_eqVersion_d (a0, (a1, (a2, a3))) (a4, (a5, (a6, a7))) (fun (y : Bool) => some ⟨.ret, [.bool y], []⟩) := by kernel_rfl

theorem laws_eqVersion_y (a0 : ByteArray) (a1 : ByteArray) (a2 : Bool) (a3 : Int) (a4 : ByteArray) (a5 : ByteArray) (a6 : Bool) (a7 : Int) : execFn G20 laws_eqVersion_loops Try.f127 [.agg [.str a0, .str a1, .bool a2, .int .i64 a3], .agg [.str a4, .str a5, .bool a6, .int .i64 a7]] [] = laws_eqVersion_k (a0, (a1, (a2, a3))) (a4, (a5, (a6, a7))) (fun (y : Bool) => some ⟨.ret, [.bool y], []⟩) := (laws_eqVersion_x a0 a1 a2 a3 a4 a5 a6 a7).trans (by rw [laws_eqVersion_e])

theorem laws_eqVersion_l : LoopsOk G20 ⟨0, 25, laws_eqVersion_loops⟩ (Try.f127.body.getD .skip) :=
  loopsOk_of (ids := []) (by kernel_rfl) (by kernel_rfl) trivial

theorem laws_eqVersion_c : Contract Try.prog 127 laws_eqVersion_g := by
  refine told G20_ok follows Try.func127 (c := Try.f127.body.getD .skip) (by kernel_rfl) ?_
  intro args s k r hk
  unfold laws_eqVersion_g at hk
  rcases onPats_inv hk with ⟨p, q, rfl, rfl⟩ | hk
  · exact ⟨laws_eqVersion_loops, laws_eqVersion_q p.1.1 p.1.2.1 p.1.2.2.1 p.1.2.2.2.1 p.2.1.1 p.2.1.2.1 p.2.1.2.2.1 p.2.1.2.2.2.1, laws_eqVersion_y p.1.1 p.1.2.1 p.1.2.2.1 p.1.2.2.2.1 p.2.1.1 p.2.1.2.1 p.2.1.2.2.1 p.2.1.2.2.2.1, laws_eqVersion_l⟩
  cases hk

def G21 : Glob := G20.add 127 laws_eqVersion_g

theorem G21_ok : GlobOk Try.prog G21 := G20_ok.add ⟨Try.f127, Try.func127, by kernel_rfl, by kernel_rfl⟩ laws_eqVersion_c

/-! ### loop.example/g00327/laws.eqVersionS -/

def laws_eqVersionS_loops : Nat → Option LoopSpec
  | 0 => some ⟨[0, 1, 4, 5], [], fun vals st k => onPats [.lst tVersion, .lst tVersion, .bool, .int .i64] [] vals st (fun p q => loopK laws_eqVersionS_b0 Fuel (p.1, p.2.1, p.2.2.1, p.2.2.2.1) (Sum.elim (fun z => k .ret [.lst tVersion z.1, .lst tVersion z.2.1, .bool z.2.2.1, .int .i64 z.2.2.2] []) (fun z => k (.exit 0) [.lst tVersion z.1, .lst tVersion z.2.1, .bool z.2.2.1, .int .i64 z.2.2.2] [])))
      (none)⟩
  | _ => none

def laws_eqVersionS_v0 : ((List dVersion) × (List dVersion) × Bool × Int) → List AV := (fun x => [.lst tVersion x.1, .lst tVersion x.2.1, .bool x.2.2.1, .int .i64 x.2.2.2])
def laws_eqVersionS_s0 : ((List dVersion) × (List dVersion) × Bool × Int) → St := (fun x => [])
def laws_eqVersionS_e0 : (((List dVersion) × (List dVersion) × Bool × Int) ⊕ ((List dVersion) × (List dVersion) × Bool × Int)) → Out × List AV × St := (Sum.elim (fun z => (.ret, [.lst tVersion z.1, .lst tVersion z.2.1, .bool z.2.2.1, .int .i64 z.2.2.2], [])) (fun z => ((.exit 0), [.lst tVersion z.1, .lst tVersion z.2.1, .bool z.2.2.1, .int .i64 z.2.2.2], [])))

theorem laws_eqVersionS_bx0 (x : ((List dVersion) × (List dVersion) × Bool × Int)) : exec G21 ⟨0, 27, laws_eqVersionS_loops⟩ (loopBody Try.f61 0) (bodyK ⟨0, 27, laws_eqVersionS_loops⟩ [0, 1, 4, 5] []) (setEs (deads 27) [0, 1, 4, 5] (laws_eqVersionS_v0 x)) (laws_eqVersionS_s0 x) = laws_eqVersionS_b0 x (Sum.elim (fun y => some ⟨.norm, laws_eqVersionS_v0 y, laws_eqVersionS_s0 y⟩) fun z => some ⟨(laws_eqVersionS_e0 z).1, (laws_eqVersionS_e0 z).2.1, (laws_eqVersionS_e0 z).2.2⟩) := by
  kernel_rfl

theorem laws_eqVersionS_lo0 : ∀ sp, (laws_eqVersionS_loops 0) = some sp → LoopOk G21 ⟨0, 27, laws_eqVersionS_loops⟩ sp (loopBody Try.f61 0) := by
  intro sp hsp vals st k r h
  cases hsp
  dsimp only at h
  rcases onPats_inv2 h with ⟨p, q, rfl, rfl, h⟩ | h
  · exact loop_runs2 laws_eqVersionS_bp0 laws_eqVersionS_v0 laws_eqVersionS_s0 laws_eqVersionS_e0 (fun z => by rcases z with z | z <;> (intro h; cases h)) laws_eqVersionS_bx0 Fuel (p.1, p.2.1, p.2.2.1, p.2.2.2.1) _ k r (fun z => by rcases z with z | z <;> rfl) h
  cases h

theorem laws_eqVersionS_x (a0 : (List dVersion)) (a1 : (List dVersion)) : execFn G21 laws_eqVersionS_loops Try.f61 [.lst tVersion a0, .lst tVersion a1] [] = laws_eqVersionS_d a0 a1 (fun (y : Bool) => some ⟨.ret, [.bool y], []⟩) := by kernel_rfl

theorem laws_eqVersionS_y (a0 : (List dVersion)) (a1 : (List dVersion)) : execFn G21 laws_eqVersionS_loops Try.f61 [.lst tVersion a0, .lst tVersion a1] [] = laws_eqVersionS_k a0 a1 (fun (y : Bool) => some ⟨.ret, [.bool y], []⟩) := (laws_eqVersionS_x a0 a1).trans (by rw [laws_eqVersionS_e])

theorem laws_eqVersionS_l : LoopsOk G21 ⟨0, 27, laws_eqVersionS_loops⟩ (Try.f61.body.getD .skip) :=
  loopsOk_of (ids := [0]) (by kernel_rfl) (by kernel_rfl) ⟨laws_eqVersionS_lo0, trivial⟩

theorem laws_eqVersionS_c : Contract Try.prog 61 laws_eqVersionS_g := by
  refine told G21_ok follows Try.func61 (c := Try.f61.body.getD .skip) (by kernel_rfl) ?_
  intro args s k r hk
  unfold laws_eqVersionS_g at hk
  rcases onPats_inv hk with ⟨p, q, rfl, rfl⟩ | hk
  · exact ⟨laws_eqVersionS_loops, laws_eqVersionS_q p.1 p.2.1, laws_eqVersionS_y p.1 p.2.1, laws_eqVersionS_l⟩
  cases hk

def G22 : Glob := G21.add 61 laws_eqVersionS_g

theorem G22_ok : GlobOk Try.prog G22 := G21_ok.add ⟨Try.f61, Try.func61, by kernel_rfl, by kernel_rfl⟩ laws_eqVersionS_c

/-! ### loop.example/g00327/laws.eqRange -/

def laws_eqRange_loops : Nat → Option LoopSpec
  | _ => none

theorem laws_eqRange_x (a0 : ByteArray) (a1 : ByteArray) (a2 : ByteArray) (a3 : ByteArray) : execFn G22 laws_eqRange_loops Try.f132 [.agg [.str a0, .str a1], .agg [.str a2, .str a3]] [] = laws_eqRange_d (a0, a1) (a2, a3) (fun (y : Bool) => some ⟨.ret, [.bool y], []⟩) := by kernel_rfl

theorem laws_eqRange_y (a0 : ByteArray) (a1 : ByteArray) (a2 : ByteArray) (a3 : ByteArray) : execFn G22 laws_eqRange_loops Try.f132 [.agg [.str a0, .str a1], .agg [.str a2, .str a3]] [] = laws_eqRange_k (a0, a1) (a2, a3) (fun (y : Bool) => some ⟨.ret, [.bool y], []⟩) := (laws_eqRange_x a0 a1 a2 a3).trans (by rw [laws_eqRange_e])

theorem laws_eqRange_l : LoopsOk G22 ⟨0, 15, laws_eqRange_loops⟩ (Try.f132.body.getD .skip) :=
  loopsOk_of (ids := []) (by kernel_rfl) (by kernel_rfl) trivial

theorem laws_eqRange_c : Contract Try.prog 132 laws_eqRange_g := by
  refine told G22_ok follows Try.func132 (c := Try.f132.body.getD .skip) (by kernel_rfl) ?_
  intro args s k r hk
  unfold laws_eqRange_g at hk
  rcases onPats_inv hk with ⟨p, q, rfl, rfl⟩ | hk
  · exact ⟨laws_eqRange_loops, laws_eqRange_q p.1.1 p.1.2.1 p.2.1.1 p.2.1.2.1, laws_eqRange_y p.1.1 p.1.2.1 p.2.1.1 p.2.1.2.1, laws_eqRange_l⟩
  cases hk

def G23 : Glob := G22.add 132 laws_eqRange_g

theorem G23_ok : GlobOk Try.prog G23 := G22_ok.add ⟨Try.f132, Try.func132, by kernel_rfl, by kernel_rfl⟩ laws_eqRange_c

/-! ### loop.example/g00327/laws.eqRangeS -/

def laws_eqRangeS_loops : Nat → Option LoopSpec
  | 0 => some ⟨[0, 1, 4, 5], [], fun vals st k => onPats [.lst tRange, .lst tRange, .bool, .int .i64] [] vals st (fun p q => loopK laws_eqRangeS_b0 Fuel (p.1, p.2.1, p.2.2.1, p.2.2.2.1) (Sum.elim (fun z => k .ret [.lst tRange z.1, .lst tRange z.2.1, .bool z.2.2.1, .int .i64 z.2.2.2] []) (fun z => k (.exit 0) [.lst tRange z.1, .lst tRange z.2.1, .bool z.2.2.1, .int .i64 z.2.2.2] [])))
      (none)⟩
  | _ => none

def laws_eqRangeS_v0 : ((List dRange) × (List dRange) × Bool × Int) → List AV := (fun x => [.lst tRange x.1, .lst tRange x.2.1, .bool x.2.2.1, .int .i64 x.2.2.2])
def laws_eqRangeS_s0 : ((List dRange) × (List dRange) × Bool × Int) → St := (fun x => [])
def laws_eqRangeS_e0 : (((List dRange) × (List dRange) × Bool × Int) ⊕ ((List dRange) × (List dRange) × Bool × Int)) → Out × List AV × St := (Sum.elim (fun z => (.ret, [.lst tRange z.1, .lst tRange z.2.1, .bool z.2.2.1, .int .i64 z.2.2.2], [])) (fun z => ((.exit 0), [.lst tRange z.1, .lst tRange z.2.1, .bool z.2.2.1, .int .i64 z.2.2.2], [])))

theorem laws_eqRangeS_bx0 (x : ((List dRange) × (List dRange) × Bool × Int)) : exec G23 ⟨0, 27, laws_eqRangeS_loops⟩ (loopBody Try.f76 0) (bodyK ⟨0, 27, laws_eqRangeS_loops⟩ [0, 1, 4, 5] []) (setEs (deads 27) [0, 1, 4, 5] (laws_eqRangeS_v0 x)) (laws_eqRangeS_s0 x) = laws_eqRangeS_b0 x (Sum.elim (fun y => some ⟨.norm, laws_eqRangeS_v0 y, laws_eqRangeS_s0 y⟩) fun z => some ⟨(laws_eqRangeS_e0 z).1, (laws_eqRangeS_e0 z).2.1, (laws_eqRangeS_e0 z).2.2⟩) := by
  kernel_rfl

theorem laws_eqRangeS_lo0 : ∀ sp, (laws_eqRangeS_loops 0) = some sp → LoopOk G23 ⟨0, 27, laws_eqRangeS_loops⟩ sp (loopBody Try.f76 0) := by
  intro sp hsp vals st k r h
  cases hsp
  dsimp only at h
  rcases onPats_inv2 h with ⟨p, q, rfl, rfl, h⟩ | h
  · exact loop_runs2 laws_eqRangeS_bp0 laws_eqRangeS_v0 laws_eqRangeS_s0 laws_eqRangeS_e0 (fun z => by rcases z with z | z <;> (intro h; cases h)) laws_eqRangeS_bx0 Fuel (p.1, p.2.1, p.2.2.1, p.2.2.2.1) _ k r (fun z => by rcases z with z | z <;> rfl) h
  cases h

theorem laws_eqRangeS_x (a0 : (List dRange)) (a1 : (List dRange)) : execFn G23 laws_eqRangeS_loops Try.f76 [.lst tRange a0, .lst tRange a1] [] = laws_eqRangeS_d a0 a1 (fun (y : Bool) => some ⟨.ret, [.bool y], []⟩) := by kernel_rfl

theorem laws_eqRangeS_y (a0 : (List dRange)) (a1 : (List dRange)) : execFn G23 laws_eqRangeS_loops Try.f76 [.lst tRange a0, .lst tRange a1] [] = laws_eqRangeS_k a0 a1 (fun (y : Bool) => some ⟨.ret, [.bool y], []⟩) := (laws_eqRangeS_x a0 a1).trans (by rw [laws_eqRangeS_e])

theorem laws_eqRangeS_l : LoopsOk G23 ⟨0, 27, laws_eqRangeS_loops⟩ (Try.f76.body.getD .skip) :=
  loopsOk_of (ids := [0]) (by kernel_rfl) (by kernel_rfl) ⟨laws_eqRangeS_lo0, trivial⟩

theorem laws_eqRangeS_c : Contract Try.prog 76 laws_eqRangeS_g := by
  refine told G23_ok follows Try.func76 (c := Try.f76.body.getD .skip) (by kernel_rfl) ?_
  intro args s k r hk
  unfold laws_eqRangeS_g at hk
  rcases onPats_inv hk with ⟨p, q, rfl, rfl⟩ | hk
  · exact ⟨laws_eqRangeS_loops, laws_eqRangeS_q p.1 p.2.1, laws_eqRangeS_y p.1 p.2.1, laws_eqRangeS_l⟩
  cases hk

def G24 : Glob := G23.add 76 laws_eqRangeS_g

theorem G24_ok : GlobOk Try.prog G24 := G23_ok.add ⟨Try.f76, Try.func76, by kernel_rfl, by kernel_rfl⟩ laws_eqRangeS_c

/-! ### loop.example/g00327/laws.eqWrite -/

def laws_eqWrite_loops : Nat → Option LoopSpec
  | _ => none

theorem laws_eqWrite_x (a0 : ByteArray) (a1 : ByteArray) (a2 : Bool) (a3 : ByteArray) (a4 : ByteArray) (a5 : Bool) : execFn G24 laws_eqWrite_loops Try.f133 [.agg [.str a0, .str a1, .bool a2], .agg [.str a3, .str a4, .bool a5]] [] = laws_eqWrite_d (a0, (a1, a2)) (a3, (a4, a5)) (fun (y : Bool) => some ⟨.ret, [.bool y], []⟩) := by kernel_rfl

theorem laws_eqWrite_y (a0 : ByteArray) (a1 : ByteArray) (a2 : Bool) (a3 : ByteArray) (a4 : ByteArray) (a5 : Bool) : execFn G24 laws_eqWrite_loops Try.f133 [.agg [.str a0, .str a1, .bool a2], .agg [.str a3, .str a4, .bool a5]] [] = laws_eqWrite_k (a0, (a1, a2)) (a3, (a4, a5)) (fun (y : Bool) => some ⟨.ret, [.bool y], []⟩) := (laws_eqWrite_x a0 a1 a2 a3 a4 a5).trans (by rw [laws_eqWrite_e])

theorem laws_eqWrite_l : LoopsOk G24 ⟨0, 20, laws_eqWrite_loops⟩ (Try.f133.body.getD .skip) :=
  loopsOk_of (ids := []) (by kernel_rfl) (by kernel_rfl) trivial

theorem laws_eqWrite_c : Contract Try.prog 133 laws_eqWrite_g := by
  refine told G24_ok follows Try.func133 (c := Try.f133.body.getD .skip) (by kernel_rfl) ?_
  intro args s k r hk
  unfold laws_eqWrite_g at hk
  rcases onPats_inv hk with ⟨p, q, rfl, rfl⟩ | hk
  · exact ⟨laws_eqWrite_loops, laws_eqWrite_q p.1.1 p.1.2.1 p.1.2.2.1 p.2.1.1 p.2.1.2.1 p.2.1.2.2.1, laws_eqWrite_y p.1.1 p.1.2.1 p.1.2.2.1 p.2.1.1 p.2.1.2.1 p.2.1.2.2.1, laws_eqWrite_l⟩
  cases hk

def G25 : Glob := G24.add 133 laws_eqWrite_g

theorem G25_ok : GlobOk Try.prog G25 := G24_ok.add ⟨Try.f133, Try.func133, by kernel_rfl, by kernel_rfl⟩ laws_eqWrite_c

/-! ### loop.example/g00327/laws.eqWriteS -/

def laws_eqWriteS_loops : Nat → Option LoopSpec
  | 0 => some ⟨[0, 1, 4, 5], [], fun vals st k => onPats [.lst tWrite, .lst tWrite, .bool, .int .i64] [] vals st (fun p q => loopK laws_eqWriteS_b0 Fuel (p.1, p.2.1, p.2.2.1, p.2.2.2.1) (Sum.elim (fun z => k .ret [.lst tWrite z.1, .lst tWrite z.2.1, .bool z.2.2.1, .int .i64 z.2.2.2] []) (fun z => k (.exit 0) [.lst tWrite z.1, .lst tWrite z.2.1, .bool z.2.2.1, .int .i64 z.2.2.2] [])))
      (none)⟩
  | _ => none

def laws_eqWriteS_v0 : ((List dWrite) × (List dWrite) × Bool × Int) → List AV := (fun x => [.lst tWrite x.1, .lst tWrite x.2.1, .bool x.2.2.1, .int .i64 x.2.2.2])
def laws_eqWriteS_s0 : ((List dWrite) × (List dWrite) × Bool × Int) → St := (fun x => [])
def laws_eqWriteS_e0 : (((List dWrite) × (List dWrite) × Bool × Int) ⊕ ((List dWrite) × (List dWrite) × Bool × Int)) → Out × List AV × St := (Sum.elim (fun z => (.ret, [.lst tWrite z.1, .lst tWrite z.2.1, .bool z.2.2.1, .int .i64 z.2.2.2], [])) (fun z => ((.exit 0), [.lst tWrite z.1, .lst tWrite z.2.1, .bool z.2.2.1, .int .i64 z.2.2.2], [])))

theorem laws_eqWriteS_bx0 (x : ((List dWrite) × (List dWrite) × Bool × Int)) : exec G25 ⟨0, 27, laws_eqWriteS_loops⟩ (loopBody Try.f77 0) (bodyK ⟨0, 27, laws_eqWriteS_loops⟩ [0, 1, 4, 5] []) (setEs (deads 27) [0, 1, 4, 5] (laws_eqWriteS_v0 x)) (laws_eqWriteS_s0 x) = laws_eqWriteS_b0 x (Sum.elim (fun y => some ⟨.norm, laws_eqWriteS_v0 y, laws_eqWriteS_s0 y⟩) fun z => some ⟨(laws_eqWriteS_e0 z).1, (laws_eqWriteS_e0 z).2.1, (laws_eqWriteS_e0 z).2.2⟩) := by
  kernel_rfl

theorem laws_eqWriteS_lo0 : ∀ sp, (laws_eqWriteS_loops 0) = some sp → LoopOk G25 ⟨0, 27, laws_eqWriteS_loops⟩ sp (loopBody Try.f77 0) := by
  intro sp hsp vals st k r h
  cases hsp
  dsimp only at h
  rcases onPats_inv2 h with ⟨p, q, rfl, rfl, h⟩ | h
  · exact loop_runs2 laws_eqWriteS_bp0 laws_eqWriteS_v0 laws_eqWriteS_s0 laws_eqWriteS_e0 (fun z => by rcases z with z | z <;> (intro h; cases h)) laws_eqWriteS_bx0 Fuel (p.1, p.2.1, p.2.2.1, p.2.2.2.1) _ k r (fun z => by rcases z with z | z <;> rfl) h
  cases h

theorem laws_eqWriteS_x (a0 : (List dWrite)) (a1 : (List dWrite)) : execFn G25 laws_eqWriteS_loops Try.f77 [.lst tWrite a0, .lst tWrite a1] [] = laws_eqWriteS_d a0 a1 (fun (y : Bool) => some ⟨.ret, [.bool y], []⟩) := by kernel_rfl

theorem laws_eqWriteS_y (a0 : (List dWrite)) (a1 : (List dWrite)) : execFn G25 laws_eqWriteS_loops Try.f77 [.lst tWrite a0, .lst tWrite a1] [] = laws_eqWriteS_k a0 a1 (fun (y : Bool) => some ⟨.ret, [.bool y], []⟩) := (laws_eqWriteS_x a0 a1).trans (by rw [laws_eqWriteS_e])

theorem laws_eqWriteS_l : LoopsOk G25 ⟨0, 27, laws_eqWriteS_loops⟩ (Try.f77.body.getD .skip) :=
  loopsOk_of (ids := [0]) (by kernel_rfl) (by kernel_rfl) ⟨laws_eqWriteS_lo0, trivial⟩

theorem laws_eqWriteS_c : Contract Try.prog 77 laws_eqWriteS_g := by
  refine told G25_ok follows Try.func77 (c := Try.f77.body.getD .skip) (by kernel_rfl) ?_
  intro args s k r hk
  unfold laws_eqWriteS_g at hk
  rcases onPats_inv hk with ⟨p, q, rfl, rfl⟩ | hk
  · exact ⟨laws_eqWriteS_loops, laws_eqWriteS_q p.1 p.2.1, laws_eqWriteS_y p.1 p.2.1, laws_eqWriteS_l⟩
  cases hk

def G26 : Glob := G25.add 77 laws_eqWriteS_g

theorem G26_ok : GlobOk Try.prog G26 := G25_ok.add ⟨Try.f77, Try.func77, by kernel_rfl, by kernel_rfl⟩ laws_eqWriteS_c

/-! ### loop.example/g00327/laws.eqTxn -/

def laws_eqTxn_loops : Nat → Option LoopSpec
  | _ => none

theorem laws_eqTxn_x (a0 : Int) (a1 : Int) (a2 : Int) (a3 : Int) (a4 : (List dRange)) (a5 : (List dWrite)) (a6 : Bool) (a7 : ByteArray) (a8 : Int) (a9 : Int) (a10 : Int) (a11 : Int) (a12 : (List dRange)) (a13 : (List dWrite)) (a14 : Bool) (a15 : ByteArray) : execFn G26 laws_eqTxn_loops Try.f19 [.agg [.int .i64 a0, .int .i64 a1, .int .i64 a2, .int .i64 a3, .lst tRange a4, .lst tWrite a5, .bool a6, .str a7], .agg [.int .i64 a8, .int .i64 a9, .int .i64 a10, .int .i64 a11, .lst tRange a12, .lst tWrite a13, .bool a14, .str a15]] [] = laws_eqTxn_d (a0, (a1, (a2, (a3, (a4, (a5, (a6, a7))))))) (a8, (a9, (a10, (a11, (a12, (a13, (a14, a15))))))) (fun (y : Bool) => some ⟨.ret, [.bool y], []⟩) := by kernel_rfl

theorem laws_eqTxn_y (a0 : Int) (a1 : Int) (a2 : Int) (a3 : Int) (a4 : (List dRange)) (a5 : (List dWrite)) (a6 : Bool) (a7 : ByteArray) (a8 : Int) (a9 : Int) (a10 : Int) (a11 : Int) (a12 : (List dRange)) (a13 : (List dWrite)) (a14 : Bool) (a15 : ByteArray) : execFn G26 laws_eqTxn_loops Try.f19 [.agg [.int .i64 a0, .int .i64 a1, .int .i64 a2, .int .i64 a3, .lst tRange a4, .lst tWrite a5, .bool a6, .str a7], .agg [.int .i64 a8, .int .i64 a9, .int .i64 a10, .int .i64 a11, .lst tRange a12, .lst tWrite a13, .bool a14, .str a15]] [] = laws_eqTxn_k (a0, (a1, (a2, (a3, (a4, (a5, (a6, a7))))))) (a8, (a9, (a10, (a11, (a12, (a13, (a14, a15))))))) (fun (y : Bool) => some ⟨.ret, [.bool y], []⟩) := (laws_eqTxn_x a0 a1 a2 a3 a4 a5 a6 a7 a8 a9 a10 a11 a12 a13 a14 a15).trans (by rw [laws_eqTxn_e])

theorem laws_eqTxn_l : LoopsOk G26 ⟨0, 47, laws_eqTxn_loops⟩ (Try.f19.body.getD .skip) :=
  loopsOk_of (ids := []) (by kernel_rfl) (by kernel_rfl) trivial

theorem laws_eqTxn_c : Contract Try.prog 19 laws_eqTxn_g := by
  refine told G26_ok follows Try.func19 (c := Try.f19.body.getD .skip) (by kernel_rfl) ?_
  intro args s k r hk
  unfold laws_eqTxn_g at hk
  rcases onPats_inv hk with ⟨p, q, rfl, rfl⟩ | hk
  · exact ⟨laws_eqTxn_loops, laws_eqTxn_q p.1.1 p.1.2.1 p.1.2.2.1 p.1.2.2.2.1 p.1.2.2.2.2.1 p.1.2.2.2.2.2.1 p.1.2.2.2.2.2.2.1 p.1.2.2.2.2.2.2.2.1 p.2.1.1 p.2.1.2.1 p.2.1.2.2.1 p.2.1.2.2.2.1 p.2.1.2.2.2.2.1 p.2.1.2.2.2.2.2.1 p.2.1.2.2.2.2.2.2.1 p.2.1.2.2.2.2.2.2.2.1, laws_eqTxn_y p.1.1 p.1.2.1 p.1.2.2.1 p.1.2.2.2.1 p.1.2.2.2.2.1 p.1.2.2.2.2.2.1 p.1.2.2.2.2.2.2.1 p.1.2.2.2.2.2.2.2.1 p.2.1.1 p.2.1.2.1 p.2.1.2.2.1 p.2.1.2.2.2.1 p.2.1.2.2.2.2.1 p.2.1.2.2.2.2.2.1 p.2.1.2.2.2.2.2.2.1 p.2.1.2.2.2.2.2.2.2.1, laws_eqTxn_l⟩
  cases hk

def G27 : Glob := G26.add 19 laws_eqTxn_g

theorem G27_ok : GlobOk Try.prog G27 := G26_ok.add ⟨Try.f19, Try.func19, by kernel_rfl, by kernel_rfl⟩ laws_eqTxn_c

/-! ### loop.example/g00327/laws.eqTxnS -/

def laws_eqTxnS_loops : Nat → Option LoopSpec
  | 0 => some ⟨[0, 1, 4, 5], [], fun vals st k => onPats [.lst tTxn, .lst tTxn, .bool, .int .i64] [] vals st (fun p q => loopK laws_eqTxnS_b0 Fuel (p.1, p.2.1, p.2.2.1, p.2.2.2.1) (Sum.elim (fun z => k .ret [.lst tTxn z.1, .lst tTxn z.2.1, .bool z.2.2.1, .int .i64 z.2.2.2] []) (fun z => k (.exit 0) [.lst tTxn z.1, .lst tTxn z.2.1, .bool z.2.2.1, .int .i64 z.2.2.2] [])))
      (none)⟩
  | _ => none

def laws_eqTxnS_v0 : ((List dTxn) × (List dTxn) × Bool × Int) → List AV := (fun x => [.lst tTxn x.1, .lst tTxn x.2.1, .bool x.2.2.1, .int .i64 x.2.2.2])
def laws_eqTxnS_s0 : ((List dTxn) × (List dTxn) × Bool × Int) → St := (fun x => [])
def laws_eqTxnS_e0 : (((List dTxn) × (List dTxn) × Bool × Int) ⊕ ((List dTxn) × (List dTxn) × Bool × Int)) → Out × List AV × St := (Sum.elim (fun z => (.ret, [.lst tTxn z.1, .lst tTxn z.2.1, .bool z.2.2.1, .int .i64 z.2.2.2], [])) (fun z => ((.exit 0), [.lst tTxn z.1, .lst tTxn z.2.1, .bool z.2.2.1, .int .i64 z.2.2.2], [])))

theorem laws_eqTxnS_bx0 (x : ((List dTxn) × (List dTxn) × Bool × Int)) : exec G27 ⟨0, 27, laws_eqTxnS_loops⟩ (loopBody Try.f32 0) (bodyK ⟨0, 27, laws_eqTxnS_loops⟩ [0, 1, 4, 5] []) (setEs (deads 27) [0, 1, 4, 5] (laws_eqTxnS_v0 x)) (laws_eqTxnS_s0 x) = laws_eqTxnS_b0 x (Sum.elim (fun y => some ⟨.norm, laws_eqTxnS_v0 y, laws_eqTxnS_s0 y⟩) fun z => some ⟨(laws_eqTxnS_e0 z).1, (laws_eqTxnS_e0 z).2.1, (laws_eqTxnS_e0 z).2.2⟩) := by
  kernel_rfl

theorem laws_eqTxnS_lo0 : ∀ sp, (laws_eqTxnS_loops 0) = some sp → LoopOk G27 ⟨0, 27, laws_eqTxnS_loops⟩ sp (loopBody Try.f32 0) := by
  intro sp hsp vals st k r h
  cases hsp
  dsimp only at h
  rcases onPats_inv2 h with ⟨p, q, rfl, rfl, h⟩ | h
  · exact loop_runs2 laws_eqTxnS_bp0 laws_eqTxnS_v0 laws_eqTxnS_s0 laws_eqTxnS_e0 (fun z => by rcases z with z | z <;> (intro h; cases h)) laws_eqTxnS_bx0 Fuel (p.1, p.2.1, p.2.2.1, p.2.2.2.1) _ k r (fun z => by rcases z with z | z <;> rfl) h
  cases h

theorem laws_eqTxnS_x (a0 : (List dTxn)) (a1 : (List dTxn)) : execFn G27 laws_eqTxnS_loops Try.f32 [.lst tTxn a0, .lst tTxn a1] [] = laws_eqTxnS_d a0 a1 (fun (y : Bool) => some ⟨.ret, [.bool y], []⟩) := by kernel_rfl

theorem laws_eqTxnS_y (a0 : (List dTxn)) (a1 : (List dTxn)) : execFn G27 laws_eqTxnS_loops Try.f32 [.lst tTxn a0, .lst tTxn a1] [] = laws_eqTxnS_k a0 a1 (fun (y : Bool) => some ⟨.ret, [.bool y], []⟩) := (laws_eqTxnS_x a0 a1).trans (by rw [laws_eqTxnS_e])

theorem laws_eqTxnS_l : LoopsOk G27 ⟨0, 27, laws_eqTxnS_loops⟩ (Try.f32.body.getD .skip) :=
  loopsOk_of (ids := [0]) (by kernel_rfl) (by kernel_rfl) ⟨laws_eqTxnS_lo0, trivial⟩

theorem laws_eqTxnS_c : Contract Try.prog 32 laws_eqTxnS_g := by
  refine told G27_ok follows Try.func32 (c := Try.f32.body.getD .skip) (by kernel_rfl) ?_
  intro args s k r hk
  unfold laws_eqTxnS_g at hk
  rcases onPats_inv hk with ⟨p, q, rfl, rfl⟩ | hk
  · exact ⟨laws_eqTxnS_loops, laws_eqTxnS_q p.1 p.2.1, laws_eqTxnS_y p.1 p.2.1, laws_eqTxnS_l⟩
  cases hk

def G28 : Glob := G27.add 32 laws_eqTxnS_g

theorem G28_ok : GlobOk Try.prog G28 := G27_ok.add ⟨Try.f32, Try.func32, by kernel_rfl, by kernel_rfl⟩ laws_eqTxnS_c

/-! ### loop.example/g00327/laws.eqBase -/

def laws_eqBase_loops : Nat → Option LoopSpec
  | _ => none

theorem laws_eqBase_x (a0 : (List dVersion)) (a1 : (List dTxn)) (a2 : (List dTxn)) (a3 : Int) (a4 : Int) (a5 : (List dVersion)) (a6 : (List dTxn)) (a7 : (List dTxn)) (a8 : Int) (a9 : Int) : execFn G28 laws_eqBase_loops Try.f54 [.agg [.lst tVersion a0, .lst tTxn a1, .lst tTxn a2, .int .i64 a3, .int .i64 a4], .agg [.lst tVersion a5, .lst tTxn a6, .lst tTxn a7, .int .i64 a8, .int .i64 a9]] [] = laws_eqBase_d (a0, (a1, (a2, (a3, a4)))) (a5, (a6, (a7, (a8, a9)))) (fun (y : Bool) => some ⟨.ret, [.bool y], []⟩) := by kernel_rfl

theorem laws_eqBase_y (a0 : (List dVersion)) (a1 : (List dTxn)) (a2 : (List dTxn)) (a3 : Int) (a4 : Int) (a5 : (List dVersion)) (a6 : (List dTxn)) (a7 : (List dTxn)) (a8 : Int) (a9 : Int) : execFn G28 laws_eqBase_loops Try.f54 [.agg [.lst tVersion a0, .lst tTxn a1, .lst tTxn a2, .int .i64 a3, .int .i64 a4], .agg [.lst tVersion a5, .lst tTxn a6, .lst tTxn a7, .int .i64 a8, .int .i64 a9]] [] = laws_eqBase_k (a0, (a1, (a2, (a3, a4)))) (a5, (a6, (a7, (a8, a9)))) (fun (y : Bool) => some ⟨.ret, [.bool y], []⟩) := (laws_eqBase_x a0 a1 a2 a3 a4 a5 a6 a7 a8 a9).trans (by rw [laws_eqBase_e])

theorem laws_eqBase_l : LoopsOk G28 ⟨0, 33, laws_eqBase_loops⟩ (Try.f54.body.getD .skip) :=
  loopsOk_of (ids := []) (by kernel_rfl) (by kernel_rfl) trivial

theorem laws_eqBase_c : Contract Try.prog 54 laws_eqBase_g := by
  refine told G28_ok follows Try.func54 (c := Try.f54.body.getD .skip) (by kernel_rfl) ?_
  intro args s k r hk
  unfold laws_eqBase_g at hk
  rcases onPats_inv hk with ⟨p, q, rfl, rfl⟩ | hk
  · exact ⟨laws_eqBase_loops, laws_eqBase_q p.1.1 p.1.2.1 p.1.2.2.1 p.1.2.2.2.1 p.1.2.2.2.2.1 p.2.1.1 p.2.1.2.1 p.2.1.2.2.1 p.2.1.2.2.2.1 p.2.1.2.2.2.2.1, laws_eqBase_y p.1.1 p.1.2.1 p.1.2.2.1 p.1.2.2.2.1 p.1.2.2.2.2.1 p.2.1.1 p.2.1.2.1 p.2.1.2.2.1 p.2.1.2.2.2.1 p.2.1.2.2.2.2.1, laws_eqBase_l⟩
  cases hk

def G29 : Glob := G28.add 54 laws_eqBase_g

theorem G29_ok : GlobOk Try.prog G29 := G28_ok.add ⟨Try.f54, Try.func54, by kernel_rfl, by kernel_rfl⟩ laws_eqBase_c

/-! ### loop.example/g00327/laws.FnExactOldestOf -/

def laws_FnExactOldestOf_loops : Nat → Option LoopSpec
  | _ => none

theorem laws_FnExactOldestOf_x (a0 : (List dVersion)) (a1 : (List dTxn)) (a2 : (List dTxn)) (a3 : Int) (a4 : Int) (a5 : (List dTxn)) : execFn G29 laws_FnExactOldestOf_loops Try.f14 [.agg [.lst tVersion a0, .lst tTxn a1, .lst tTxn a2, .int .i64 a3, .int .i64 a4], .lst tTxn a5] [] = laws_FnExactOldestOf_d (a0, (a1, (a2, (a3, a4)))) a5 (fun (y : Bool) => some ⟨.ret, [.bool y], []⟩) := by kernel_rfl

theorem laws_FnExactOldestOf_y (a0 : (List dVersion)) (a1 : (List dTxn)) (a2 : (List dTxn)) (a3 : Int) (a4 : Int) (a5 : (List dTxn)) : execFn G29 laws_FnExactOldestOf_loops Try.f14 [.agg [.lst tVersion a0, .lst tTxn a1, .lst tTxn a2, .int .i64 a3, .int .i64 a4], .lst tTxn a5] [] = laws_FnExactOldestOf_k (a0, (a1, (a2, (a3, a4)))) a5 (fun (y : Bool) => some ⟨.ret, [.bool y], []⟩) := (laws_FnExactOldestOf_x a0 a1 a2 a3 a4 a5).trans (by rw [laws_FnExactOldestOf_e])

theorem laws_FnExactOldestOf_l : LoopsOk G29 ⟨0, 45, laws_FnExactOldestOf_loops⟩ (Try.f14.body.getD .skip) :=
  loopsOk_of (ids := []) (by kernel_rfl) (by kernel_rfl) trivial

theorem laws_FnExactOldestOf_c : Contract Try.prog 14 laws_FnExactOldestOf_g := by
  refine told G29_ok follows Try.func14 (c := Try.f14.body.getD .skip) (by kernel_rfl) ?_
  intro args s k r hk
  unfold laws_FnExactOldestOf_g at hk
  rcases onPats_inv hk with ⟨p, q, rfl, rfl⟩ | hk
  · exact ⟨laws_FnExactOldestOf_loops, laws_FnExactOldestOf_q p.1.1 p.1.2.1 p.1.2.2.1 p.1.2.2.2.1 p.1.2.2.2.2.1 p.2.1, laws_FnExactOldestOf_y p.1.1 p.1.2.1 p.1.2.2.1 p.1.2.2.2.1 p.1.2.2.2.2.1 p.2.1, laws_FnExactOldestOf_l⟩
  cases hk

def G30 : Glob := G29.add 14 laws_FnExactOldestOf_g

theorem G30_ok : GlobOk Try.prog G30 := G29_ok.add ⟨Try.f14, Try.func14, by kernel_rfl, by kernel_rfl⟩ laws_FnExactOldestOf_c

end

end Go.VE
