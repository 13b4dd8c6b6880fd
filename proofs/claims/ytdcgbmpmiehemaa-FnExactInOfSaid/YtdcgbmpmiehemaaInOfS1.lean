/- Each function told by its native program; written by gen.py. -/

import Derived.Test.YtdcgbmpmiehemaaInOfS0

namespace Go.VE

open Go.Proofs

noncomputable section

set_option linter.unusedVariables false
set_option linter.unusedSimpArgs false
set_option maxRecDepth 100000


/-! ### loop.example/g00327/laws.szRange -/

def laws_szRange_loops : Nat → Option LoopSpec
  | _ => none

theorem laws_szRange_x (a0 : ByteArray) (a1 : ByteArray) (a2 : Int) : execFn G0 laws_szRange_loops Try.f128 [.agg [.str a0, .str a1], .int .i64 a2] [] = laws_szRange_d (a0, a1) a2 (fun (y : Int) => some ⟨.ret, [.int .i64 y], []⟩) := by kernel_rfl

theorem laws_szRange_y (a0 : ByteArray) (a1 : ByteArray) (a2 : Int) : execFn G0 laws_szRange_loops Try.f128 [.agg [.str a0, .str a1], .int .i64 a2] [] = laws_szRange_k (a0, a1) a2 (fun (y : Int) => some ⟨.ret, [.int .i64 y], []⟩) := (laws_szRange_x a0 a1 a2).trans (by rw [laws_szRange_e])

theorem laws_szRange_l : LoopsOk G0 ⟨0, 20, laws_szRange_loops⟩ (Try.f128.body.getD .skip) :=
  loopsOk_of (ids := []) (by kernel_rfl) (by kernel_rfl) trivial

theorem laws_szRange_c : Contract Try.prog 128 laws_szRange_g := by
  refine told G0_ok follows Try.func128 (c := Try.f128.body.getD .skip) (by kernel_rfl) ?_
  intro args s k r hk
  unfold laws_szRange_g at hk
  rcases onPats_inv hk with ⟨p, q, rfl, rfl⟩ | hk
  · exact ⟨laws_szRange_loops, laws_szRange_q p.1.1 p.1.2.1 p.2.1, laws_szRange_y p.1.1 p.1.2.1 p.2.1, laws_szRange_l⟩
  cases hk

def G1 : Glob := G0.add 128 laws_szRange_g

theorem G1_ok : GlobOk Try.prog G1 := G0_ok.add ⟨Try.f128, Try.func128, by kernel_rfl, by kernel_rfl⟩ laws_szRange_c

/-! ### loop.example/g00327/laws.szRangeS -/

def laws_szRangeS_loops : Nat → Option LoopSpec
  | 0 => some ⟨[0, 1, 4, 5], [], fun vals st k => onPats [.lst tRange, .int .i64, .int .i64, .int .i64] [] vals st (fun p q => loopK laws_szRangeS_b0 Fuel (p.1, p.2.1, p.2.2.1, p.2.2.2.1) (Sum.elim (fun z => k .ret [.lst tRange z.1, .int .i64 z.2.1, .int .i64 z.2.2.1, .int .i64 z.2.2.2] []) (fun z => k (.exit 0) [.lst tRange z.1, .int .i64 z.2.1, .int .i64 z.2.2.1, .int .i64 z.2.2.2] [])))
      (none)⟩
  | _ => none

def laws_szRangeS_v0 : ((List dRange) × Int × Int × Int) → List AV := (fun x => [.lst tRange x.1, .int .i64 x.2.1, .int .i64 x.2.2.1, .int .i64 x.2.2.2])
def laws_szRangeS_s0 : ((List dRange) × Int × Int × Int) → St := (fun x => [])
def laws_szRangeS_e0 : (((List dRange) × Int × Int × Int) ⊕ ((List dRange) × Int × Int × Int)) → Out × List AV × St := (Sum.elim (fun z => (.ret, [.lst tRange z.1, .int .i64 z.2.1, .int .i64 z.2.2.1, .int .i64 z.2.2.2], [])) (fun z => ((.exit 0), [.lst tRange z.1, .int .i64 z.2.1, .int .i64 z.2.2.1, .int .i64 z.2.2.2], [])))

theorem laws_szRangeS_bx0 (x : ((List dRange) × Int × Int × Int)) : exec G1 ⟨0, 27, laws_szRangeS_loops⟩ (loopBody Try.f71 0) (bodyK ⟨0, 27, laws_szRangeS_loops⟩ [0, 1, 4, 5] []) (setEs (deads 27) [0, 1, 4, 5] (laws_szRangeS_v0 x)) (laws_szRangeS_s0 x) = laws_szRangeS_b0 x (Sum.elim (fun y => some ⟨.norm, laws_szRangeS_v0 y, laws_szRangeS_s0 y⟩) fun z => some ⟨(laws_szRangeS_e0 z).1, (laws_szRangeS_e0 z).2.1, (laws_szRangeS_e0 z).2.2⟩) := by
  kernel_rfl

theorem laws_szRangeS_lo0 : ∀ sp, (laws_szRangeS_loops 0) = some sp → LoopOk G1 ⟨0, 27, laws_szRangeS_loops⟩ sp (loopBody Try.f71 0) := by
  intro sp hsp vals st k r h
  cases hsp
  dsimp only at h
  rcases onPats_inv2 h with ⟨p, q, rfl, rfl, h⟩ | h
  · exact loop_runs2 laws_szRangeS_bp0 laws_szRangeS_v0 laws_szRangeS_s0 laws_szRangeS_e0 (fun z => by rcases z with z | z <;> (intro h; cases h)) laws_szRangeS_bx0 Fuel (p.1, p.2.1, p.2.2.1, p.2.2.2.1) _ k r (fun z => by rcases z with z | z <;> rfl) h
  cases h

theorem laws_szRangeS_x (a0 : (List dRange)) (a1 : Int) : execFn G1 laws_szRangeS_loops Try.f71 [.lst tRange a0, .int .i64 a1] [] = laws_szRangeS_d a0 a1 (fun (y : Int) => some ⟨.ret, [.int .i64 y], []⟩) := by kernel_rfl

theorem laws_szRangeS_y (a0 : (List dRange)) (a1 : Int) : execFn G1 laws_szRangeS_loops Try.f71 [.lst tRange a0, .int .i64 a1] [] = laws_szRangeS_k a0 a1 (fun (y : Int) => some ⟨.ret, [.int .i64 y], []⟩) := (laws_szRangeS_x a0 a1).trans (by rw [laws_szRangeS_e])

theorem laws_szRangeS_l : LoopsOk G1 ⟨0, 27, laws_szRangeS_loops⟩ (Try.f71.body.getD .skip) :=
  loopsOk_of (ids := [0]) (by kernel_rfl) (by kernel_rfl) ⟨laws_szRangeS_lo0, trivial⟩

theorem laws_szRangeS_c : Contract Try.prog 71 laws_szRangeS_g := by
  refine told G1_ok follows Try.func71 (c := Try.f71.body.getD .skip) (by kernel_rfl) ?_
  intro args s k r hk
  unfold laws_szRangeS_g at hk
  rcases onPats_inv hk with ⟨p, q, rfl, rfl⟩ | hk
  · exact ⟨laws_szRangeS_loops, laws_szRangeS_q p.1 p.2.1, laws_szRangeS_y p.1 p.2.1, laws_szRangeS_l⟩
  cases hk

def G2 : Glob := G1.add 71 laws_szRangeS_g

theorem G2_ok : GlobOk Try.prog G2 := G1_ok.add ⟨Try.f71, Try.func71, by kernel_rfl, by kernel_rfl⟩ laws_szRangeS_c

/-! ### loop.example/g00327/laws.szWrite -/

def laws_szWrite_loops : Nat → Option LoopSpec
  | _ => none

theorem laws_szWrite_x (a0 : ByteArray) (a1 : ByteArray) (a2 : Bool) (a3 : Int) : execFn G2 laws_szWrite_loops Try.f129 [.agg [.str a0, .str a1, .bool a2], .int .i64 a3] [] = laws_szWrite_d (a0, (a1, a2)) a3 (fun (y : Int) => some ⟨.ret, [.int .i64 y], []⟩) := by kernel_rfl

theorem laws_szWrite_y (a0 : ByteArray) (a1 : ByteArray) (a2 : Bool) (a3 : Int) : execFn G2 laws_szWrite_loops Try.f129 [.agg [.str a0, .str a1, .bool a2], .int .i64 a3] [] = laws_szWrite_k (a0, (a1, a2)) a3 (fun (y : Int) => some ⟨.ret, [.int .i64 y], []⟩) := (laws_szWrite_x a0 a1 a2 a3).trans (by rw [laws_szWrite_e])

theorem laws_szWrite_l : LoopsOk G2 ⟨0, 20, laws_szWrite_loops⟩ (Try.f129.body.getD .skip) :=
  loopsOk_of (ids := []) (by kernel_rfl) (by kernel_rfl) trivial

theorem laws_szWrite_c : Contract Try.prog 129 laws_szWrite_g := by
  refine told G2_ok follows Try.func129 (c := Try.f129.body.getD .skip) (by kernel_rfl) ?_
  intro args s k r hk
  unfold laws_szWrite_g at hk
  rcases onPats_inv hk with ⟨p, q, rfl, rfl⟩ | hk
  · exact ⟨laws_szWrite_loops, laws_szWrite_q p.1.1 p.1.2.1 p.1.2.2.1 p.2.1, laws_szWrite_y p.1.1 p.1.2.1 p.1.2.2.1 p.2.1, laws_szWrite_l⟩
  cases hk

def G3 : Glob := G2.add 129 laws_szWrite_g

theorem G3_ok : GlobOk Try.prog G3 := G2_ok.add ⟨Try.f129, Try.func129, by kernel_rfl, by kernel_rfl⟩ laws_szWrite_c

/-! ### loop.example/g00327/laws.szWriteS -/

def laws_szWriteS_loops : Nat → Option LoopSpec
  | 0 => some ⟨[0, 1, 4, 5], [], fun vals st k => onPats [.lst tWrite, .int .i64, .int .i64, .int .i64] [] vals st (fun p q => loopK laws_szWriteS_b0 Fuel (p.1, p.2.1, p.2.2.1, p.2.2.2.1) (Sum.elim (fun z => k .ret [.lst tWrite z.1, .int .i64 z.2.1, .int .i64 z.2.2.1, .int .i64 z.2.2.2] []) (fun z => k (.exit 0) [.lst tWrite z.1, .int .i64 z.2.1, .int .i64 z.2.2.1, .int .i64 z.2.2.2] [])))
      (none)⟩
  | _ => none

def laws_szWriteS_v0 : ((List dWrite) × Int × Int × Int) → List AV := (fun x => [.lst tWrite x.1, .int .i64 x.2.1, .int .i64 x.2.2.1, .int .i64 x.2.2.2])
def laws_szWriteS_s0 : ((List dWrite) × Int × Int × Int) → St := (fun x => [])
def laws_szWriteS_e0 : (((List dWrite) × Int × Int × Int) ⊕ ((List dWrite) × Int × Int × Int)) → Out × List AV × St := (Sum.elim (fun z => (.ret, [.lst tWrite z.1, .int .i64 z.2.1, .int .i64 z.2.2.1, .int .i64 z.2.2.2], [])) (fun z => ((.exit 0), [.lst tWrite z.1, .int .i64 z.2.1, .int .i64 z.2.2.1, .int .i64 z.2.2.2], [])))

theorem laws_szWriteS_bx0 (x : ((List dWrite) × Int × Int × Int)) : exec G3 ⟨0, 27, laws_szWriteS_loops⟩ (loopBody Try.f72 0) (bodyK ⟨0, 27, laws_szWriteS_loops⟩ [0, 1, 4, 5] []) (setEs (deads 27) [0, 1, 4, 5] (laws_szWriteS_v0 x)) (laws_szWriteS_s0 x) = laws_szWriteS_b0 x (Sum.elim (fun y => some ⟨.norm, laws_szWriteS_v0 y, laws_szWriteS_s0 y⟩) fun z => some ⟨(laws_szWriteS_e0 z).1, (laws_szWriteS_e0 z).2.1, (laws_szWriteS_e0 z).2.2⟩) := by
  kernel_rfl

theorem laws_szWriteS_lo0 : ∀ sp, (laws_szWriteS_loops 0) = some sp → LoopOk G3 ⟨0, 27, laws_szWriteS_loops⟩ sp (loopBody Try.f72 0) := by
  intro sp hsp vals st k r h
  cases hsp
  dsimp only at h
  rcases onPats_inv2 h with ⟨p, q, rfl, rfl, h⟩ | h
  · exact loop_runs2 laws_szWriteS_bp0 laws_szWriteS_v0 laws_szWriteS_s0 laws_szWriteS_e0 (fun z => by rcases z with z | z <;> (intro h; cases h)) laws_szWriteS_bx0 Fuel (p.1, p.2.1, p.2.2.1, p.2.2.2.1) _ k r (fun z => by rcases z with z | z <;> rfl) h
  cases h

theorem laws_szWriteS_x (a0 : (List dWrite)) (a1 : Int) : execFn G3 laws_szWriteS_loops Try.f72 [.lst tWrite a0, .int .i64 a1] [] = laws_szWriteS_d a0 a1 (fun (y : Int) => some ⟨.ret, [.int .i64 y], []⟩) := by kernel_rfl

theorem laws_szWriteS_y (a0 : (List dWrite)) (a1 : Int) : execFn G3 laws_szWriteS_loops Try.f72 [.lst tWrite a0, .int .i64 a1] [] = laws_szWriteS_k a0 a1 (fun (y : Int) => some ⟨.ret, [.int .i64 y], []⟩) := (laws_szWriteS_x a0 a1).trans (by rw [laws_szWriteS_e])

theorem laws_szWriteS_l : LoopsOk G3 ⟨0, 27, laws_szWriteS_loops⟩ (Try.f72.body.getD .skip) :=
  loopsOk_of (ids := [0]) (by kernel_rfl) (by kernel_rfl) ⟨laws_szWriteS_lo0, trivial⟩

theorem laws_szWriteS_c : Contract Try.prog 72 laws_szWriteS_g := by
  refine told G3_ok follows Try.func72 (c := Try.f72.body.getD .skip) (by kernel_rfl) ?_
  intro args s k r hk
  unfold laws_szWriteS_g at hk
  rcases onPats_inv hk with ⟨p, q, rfl, rfl⟩ | hk
  · exact ⟨laws_szWriteS_loops, laws_szWriteS_q p.1 p.2.1, laws_szWriteS_y p.1 p.2.1, laws_szWriteS_l⟩
  cases hk

def G4 : Glob := G3.add 72 laws_szWriteS_g

theorem G4_ok : GlobOk Try.prog G4 := G3_ok.add ⟨Try.f72, Try.func72, by kernel_rfl, by kernel_rfl⟩ laws_szWriteS_c

/-! ### loop.example/g00327/laws.szTxn -/

def laws_szTxn_loops : Nat → Option LoopSpec
  | _ => none

theorem laws_szTxn_x (a0 : Int) (a1 : Int) (a2 : Int) (a3 : Int) (a4 : (List dRange)) (a5 : (List dWrite)) (a6 : Bool) (a7 : ByteArray) (a8 : Int) : execFn G4 laws_szTxn_loops Try.f15 [.agg [.int .i64 a0, .int .i64 a1, .int .i64 a2, .int .i64 a3, .lst tRange a4, .lst tWrite a5, .bool a6, .str a7], .int .i64 a8] [] = laws_szTxn_d (a0, (a1, (a2, (a3, (a4, (a5, (a6, a7))))))) a8 (fun (y : Int) => some ⟨.ret, [.int .i64 y], []⟩) := by kernel_rfl

theorem laws_szTxn_y (a0 : Int) (a1 : Int) (a2 : Int) (a3 : Int) (a4 : (List dRange)) (a5 : (List dWrite)) (a6 : Bool) (a7 : ByteArray) (a8 : Int) : execFn G4 laws_szTxn_loops Try.f15 [.agg [.int .i64 a0, .int .i64 a1, .int .i64 a2, .int .i64 a3, .lst tRange a4, .lst tWrite a5, .bool a6, .str a7], .int .i64 a8] [] = laws_szTxn_k (a0, (a1, (a2, (a3, (a4, (a5, (a6, a7))))))) a8 (fun (y : Int) => some ⟨.ret, [.int .i64 y], []⟩) := (laws_szTxn_x a0 a1 a2 a3 a4 a5 a6 a7 a8).trans (by rw [laws_szTxn_e])

theorem laws_szTxn_l : LoopsOk G4 ⟨0, 25, laws_szTxn_loops⟩ (Try.f15.body.getD .skip) :=
  loopsOk_of (ids := []) (by kernel_rfl) (by kernel_rfl) trivial

theorem laws_szTxn_c : Contract Try.prog 15 laws_szTxn_g := by
  refine told G4_ok follows Try.func15 (c := Try.f15.body.getD .skip) (by kernel_rfl) ?_
  intro args s k r hk
  unfold laws_szTxn_g at hk
  rcases onPats_inv hk with ⟨p, q, rfl, rfl⟩ | hk
  · exact ⟨laws_szTxn_loops, laws_szTxn_q p.1.1 p.1.2.1 p.1.2.2.1 p.1.2.2.2.1 p.1.2.2.2.2.1 p.1.2.2.2.2.2.1 p.1.2.2.2.2.2.2.1 p.1.2.2.2.2.2.2.2.1 p.2.1, laws_szTxn_y p.1.1 p.1.2.1 p.1.2.2.1 p.1.2.2.2.1 p.1.2.2.2.2.1 p.1.2.2.2.2.2.1 p.1.2.2.2.2.2.2.1 p.1.2.2.2.2.2.2.2.1 p.2.1, laws_szTxn_l⟩
  cases hk

def G5 : Glob := G4.add 15 laws_szTxn_g

theorem G5_ok : GlobOk Try.prog G5 := G4_ok.add ⟨Try.f15, Try.func15, by kernel_rfl, by kernel_rfl⟩ laws_szTxn_c

/-! ### loop.example/g00327/laws.szTxnS -/

def laws_szTxnS_loops : Nat → Option LoopSpec
  | 0 => some ⟨[0, 1, 4, 5], [], fun vals st k => onPats [.lst tTxn, .int .i64, .int .i64, .int .i64] [] vals st (fun p q => loopK laws_szTxnS_b0 Fuel (p.1, p.2.1, p.2.2.1, p.2.2.2.1) (Sum.elim (fun z => k .ret [.lst tTxn z.1, .int .i64 z.2.1, .int .i64 z.2.2.1, .int .i64 z.2.2.2] []) (fun z => k (.exit 0) [.lst tTxn z.1, .int .i64 z.2.1, .int .i64 z.2.2.1, .int .i64 z.2.2.2] [])))
      (none)⟩
  | _ => none

def laws_szTxnS_v0 : ((List dTxn) × Int × Int × Int) → List AV := (fun x => [.lst tTxn x.1, .int .i64 x.2.1, .int .i64 x.2.2.1, .int .i64 x.2.2.2])
def laws_szTxnS_s0 : ((List dTxn) × Int × Int × Int) → St := (fun x => [])
def laws_szTxnS_e0 : (((List dTxn) × Int × Int × Int) ⊕ ((List dTxn) × Int × Int × Int)) → Out × List AV × St := (Sum.elim (fun z => (.ret, [.lst tTxn z.1, .int .i64 z.2.1, .int .i64 z.2.2.1, .int .i64 z.2.2.2], [])) (fun z => ((.exit 0), [.lst tTxn z.1, .int .i64 z.2.1, .int .i64 z.2.2.1, .int .i64 z.2.2.2], [])))

theorem laws_szTxnS_bx0 (x : ((List dTxn) × Int × Int × Int)) : exec G5 ⟨0, 27, laws_szTxnS_loops⟩ (loopBody Try.f28 0) (bodyK ⟨0, 27, laws_szTxnS_loops⟩ [0, 1, 4, 5] []) (setEs (deads 27) [0, 1, 4, 5] (laws_szTxnS_v0 x)) (laws_szTxnS_s0 x) = laws_szTxnS_b0 x (Sum.elim (fun y => some ⟨.norm, laws_szTxnS_v0 y, laws_szTxnS_s0 y⟩) fun z => some ⟨(laws_szTxnS_e0 z).1, (laws_szTxnS_e0 z).2.1, (laws_szTxnS_e0 z).2.2⟩) := by
  kernel_rfl

theorem laws_szTxnS_lo0 : ∀ sp, (laws_szTxnS_loops 0) = some sp → LoopOk G5 ⟨0, 27, laws_szTxnS_loops⟩ sp (loopBody Try.f28 0) := by
  intro sp hsp vals st k r h
  cases hsp
  dsimp only at h
  rcases onPats_inv2 h with ⟨p, q, rfl, rfl, h⟩ | h
  · exact loop_runs2 laws_szTxnS_bp0 laws_szTxnS_v0 laws_szTxnS_s0 laws_szTxnS_e0 (fun z => by rcases z with z | z <;> (intro h; cases h)) laws_szTxnS_bx0 Fuel (p.1, p.2.1, p.2.2.1, p.2.2.2.1) _ k r (fun z => by rcases z with z | z <;> rfl) h
  cases h

theorem laws_szTxnS_x (a0 : (List dTxn)) (a1 : Int) : execFn G5 laws_szTxnS_loops Try.f28 [.lst tTxn a0, .int .i64 a1] [] = laws_szTxnS_d a0 a1 (fun (y : Int) => some ⟨.ret, [.int .i64 y], []⟩) := by kernel_rfl

theorem laws_szTxnS_y (a0 : (List dTxn)) (a1 : Int) : execFn G5 laws_szTxnS_loops Try.f28 [.lst tTxn a0, .int .i64 a1] [] = laws_szTxnS_k a0 a1 (fun (y : Int) => some ⟨.ret, [.int .i64 y], []⟩) := (laws_szTxnS_x a0 a1).trans (by rw [laws_szTxnS_e])

theorem laws_szTxnS_l : LoopsOk G5 ⟨0, 27, laws_szTxnS_loops⟩ (Try.f28.body.getD .skip) :=
  loopsOk_of (ids := [0]) (by kernel_rfl) (by kernel_rfl) ⟨laws_szTxnS_lo0, trivial⟩

theorem laws_szTxnS_c : Contract Try.prog 28 laws_szTxnS_g := by
  refine told G5_ok follows Try.func28 (c := Try.f28.body.getD .skip) (by kernel_rfl) ?_
  intro args s k r hk
  unfold laws_szTxnS_g at hk
  rcases onPats_inv hk with ⟨p, q, rfl, rfl⟩ | hk
  · exact ⟨laws_szTxnS_loops, laws_szTxnS_q p.1 p.2.1, laws_szTxnS_y p.1 p.2.1, laws_szTxnS_l⟩
  cases hk

def G6 : Glob := G5.add 28 laws_szTxnS_g

theorem G6_ok : GlobOk Try.prog G6 := G5_ok.add ⟨Try.f28, Try.func28, by kernel_rfl, by kernel_rfl⟩ laws_szTxnS_c

/-! ### loop.example/g00327/laws.toRange -/

def laws_toRange_loops : Nat → Option LoopSpec
  | _ => none

theorem laws_toRange_x (a0 : ByteArray) (a1 : ByteArray) : execFn G6 laws_toRange_loops Try.f130 [.agg [.str a0, .str a1]] [] = laws_toRange_d (a0, a1) (fun (y : (ByteArray × ByteArray)) => some ⟨.ret, [.agg [.str y.1, .str y.2]], []⟩) := by kernel_rfl

theorem laws_toRange_y (a0 : ByteArray) (a1 : ByteArray) : execFn G6 laws_toRange_loops Try.f130 [.agg [.str a0, .str a1]] [] = laws_toRange_k (a0, a1) (fun (y : (ByteArray × ByteArray)) => some ⟨.ret, [.agg [.str y.1, .str y.2]], []⟩) := (laws_toRange_x a0 a1).trans (by rw [laws_toRange_e])

theorem laws_toRange_l : LoopsOk G6 ⟨0, 11, laws_toRange_loops⟩ (Try.f130.body.getD .skip) :=
  loopsOk_of (ids := []) (by kernel_rfl) (by kernel_rfl) trivial

theorem laws_toRange_c : Contract Try.prog 130 laws_toRange_g := by
  refine told G6_ok follows Try.func130 (c := Try.f130.body.getD .skip) (by kernel_rfl) ?_
  intro args s k r hk
  unfold laws_toRange_g at hk
  rcases onPats_inv hk with ⟨p, q, rfl, rfl⟩ | hk
  · exact ⟨laws_toRange_loops, laws_toRange_q p.1.1 p.1.2.1, laws_toRange_y p.1.1 p.1.2.1, laws_toRange_l⟩
  cases hk

def G7 : Glob := G6.add 130 laws_toRange_g

theorem G7_ok : GlobOk Try.prog G7 := G6_ok.add ⟨Try.f130, Try.func130, by kernel_rfl, by kernel_rfl⟩ laws_toRange_c

/-! ### loop.example/g00327/laws.toRangeS -/

def laws_toRangeS_loops : Nat → Option LoopSpec
  | 0 => some ⟨[0, 3, 4], [], fun vals st k => onPats [.lst tRange, .own 0, .int .i64] [.arr tRange] vals st (fun p q => loopK laws_toRangeS_b0 Fuel (p.1, p.2.2.1, q.1) (fun z => k (.exit 0) [.lst tRange z.1, .own 0, .int .i64 z.2.1] [.arr tRange z.2.2]))
      (none)⟩
  | _ => none

def laws_toRangeS_v0 : ((List dRange) × Int × (List dRange)) → List AV := (fun x => [.lst tRange x.1, .own 0, .int .i64 x.2.1])
def laws_toRangeS_s0 : ((List dRange) × Int × (List dRange)) → St := (fun x => [.arr tRange x.2.2])
def laws_toRangeS_e0 : ((List dRange) × Int × (List dRange)) → Out × List AV × St := (fun z => ((.exit 0), [.lst tRange z.1, .own 0, .int .i64 z.2.1], [.arr tRange z.2.2]))

theorem laws_toRangeS_bx0 (x : ((List dRange) × Int × (List dRange))) : exec G7 ⟨0, 23, laws_toRangeS_loops⟩ (loopBody Try.f73 0) (bodyK ⟨0, 23, laws_toRangeS_loops⟩ [0, 3, 4] []) (setEs (deads 23) [0, 3, 4] (laws_toRangeS_v0 x)) (laws_toRangeS_s0 x) = laws_toRangeS_b0 x (Sum.elim (fun y => some ⟨.norm, laws_toRangeS_v0 y, laws_toRangeS_s0 y⟩) fun z => some ⟨(laws_toRangeS_e0 z).1, (laws_toRangeS_e0 z).2.1, (laws_toRangeS_e0 z).2.2⟩) := by
  kernel_rfl

theorem laws_toRangeS_lo0 : ∀ sp, (laws_toRangeS_loops 0) = some sp → LoopOk G7 ⟨0, 23, laws_toRangeS_loops⟩ sp (loopBody Try.f73 0) := by
  intro sp hsp vals st k r h
  cases hsp
  dsimp only at h
  rcases onPats_inv2 h with ⟨p, q, rfl, rfl, h⟩ | h
  · exact loop_runs2 laws_toRangeS_bp0 laws_toRangeS_v0 laws_toRangeS_s0 laws_toRangeS_e0 (fun z => by (intro h; cases h)) laws_toRangeS_bx0 Fuel (p.1, p.2.2.1, q.1) _ k r (fun z => rfl) h
  cases h

theorem laws_toRangeS_x (a0 : (List dRange)) : execFn G7 laws_toRangeS_loops Try.f73 [.lst tRange a0] [] = laws_toRangeS_d a0 (fun (y : (List dRange)) => some ⟨.ret, [.own 0], [.arr tRange y]⟩) := by kernel_rfl

theorem laws_toRangeS_y (a0 : (List dRange)) : execFn G7 laws_toRangeS_loops Try.f73 [.lst tRange a0] [] = laws_toRangeS_k a0 (fun (y : (List dRange)) => some ⟨.ret, [.own 0], [.arr tRange y]⟩) := (laws_toRangeS_x a0).trans (by rw [laws_toRangeS_e])

theorem laws_toRangeS_l : LoopsOk G7 ⟨0, 23, laws_toRangeS_loops⟩ (Try.f73.body.getD .skip) :=
  loopsOk_of (ids := [0]) (by kernel_rfl) (by kernel_rfl) ⟨laws_toRangeS_lo0, trivial⟩

theorem laws_toRangeS_c : Contract Try.prog 73 laws_toRangeS_g := by
  refine told G7_ok follows Try.func73 (c := Try.f73.body.getD .skip) (by kernel_rfl) ?_
  intro args s k r hk
  unfold laws_toRangeS_g at hk
  rcases onPats_inv hk with ⟨p, q, rfl, rfl⟩ | hk
  · exact ⟨laws_toRangeS_loops, laws_toRangeS_q p.1, laws_toRangeS_y p.1, laws_toRangeS_l⟩
  cases hk

def G8 : Glob := G7.add 73 laws_toRangeS_g

theorem G8_ok : GlobOk Try.prog G8 := G7_ok.add ⟨Try.f73, Try.func73, by kernel_rfl, by kernel_rfl⟩ laws_toRangeS_c

/-! ### loop.example/g00327/laws.toWrite -/

def laws_toWrite_loops : Nat → Option LoopSpec
  | _ => none

theorem laws_toWrite_x (a0 : ByteArray) (a1 : ByteArray) (a2 : Bool) : execFn G8 laws_toWrite_loops Try.f131 [.agg [.str a0, .str a1, .bool a2]] [] = laws_toWrite_d (a0, (a1, a2)) (fun (y : (ByteArray × ByteArray × Bool)) => some ⟨.ret, [.agg [.str y.1, .str y.2.1, .bool y.2.2]], []⟩) := by kernel_rfl

theorem laws_toWrite_y (a0 : ByteArray) (a1 : ByteArray) (a2 : Bool) : execFn G8 laws_toWrite_loops Try.f131 [.agg [.str a0, .str a1, .bool a2]] [] = laws_toWrite_k (a0, (a1, a2)) (fun (y : (ByteArray × ByteArray × Bool)) => some ⟨.ret, [.agg [.str y.1, .str y.2.1, .bool y.2.2]], []⟩) := (laws_toWrite_x a0 a1 a2).trans (by rw [laws_toWrite_e])

theorem laws_toWrite_l : LoopsOk G8 ⟨0, 14, laws_toWrite_loops⟩ (Try.f131.body.getD .skip) :=
  loopsOk_of (ids := []) (by kernel_rfl) (by kernel_rfl) trivial

theorem laws_toWrite_c : Contract Try.prog 131 laws_toWrite_g := by
  refine told G8_ok follows Try.func131 (c := Try.f131.body.getD .skip) (by kernel_rfl) ?_
  intro args s k r hk
  unfold laws_toWrite_g at hk
  rcases onPats_inv hk with ⟨p, q, rfl, rfl⟩ | hk
  · exact ⟨laws_toWrite_loops, laws_toWrite_q p.1.1 p.1.2.1 p.1.2.2.1, laws_toWrite_y p.1.1 p.1.2.1 p.1.2.2.1, laws_toWrite_l⟩
  cases hk

def G9 : Glob := G8.add 131 laws_toWrite_g

theorem G9_ok : GlobOk Try.prog G9 := G8_ok.add ⟨Try.f131, Try.func131, by kernel_rfl, by kernel_rfl⟩ laws_toWrite_c

/-! ### loop.example/g00327/laws.toWriteS -/

def laws_toWriteS_loops : Nat → Option LoopSpec
  | 0 => some ⟨[0, 3, 4], [], fun vals st k => onPats [.lst tWrite, .own 0, .int .i64] [.arr tWrite] vals st (fun p q => loopK laws_toWriteS_b0 Fuel (p.1, p.2.2.1, q.1) (fun z => k (.exit 0) [.lst tWrite z.1, .own 0, .int .i64 z.2.1] [.arr tWrite z.2.2]))
      (none)⟩
  | _ => none

def laws_toWriteS_v0 : ((List dWrite) × Int × (List dWrite)) → List AV := (fun x => [.lst tWrite x.1, .own 0, .int .i64 x.2.1])
def laws_toWriteS_s0 : ((List dWrite) × Int × (List dWrite)) → St := (fun x => [.arr tWrite x.2.2])
def laws_toWriteS_e0 : ((List dWrite) × Int × (List dWrite)) → Out × List AV × St := (fun z => ((.exit 0), [.lst tWrite z.1, .own 0, .int .i64 z.2.1], [.arr tWrite z.2.2]))

theorem laws_toWriteS_bx0 (x : ((List dWrite) × Int × (List dWrite))) : exec G9 ⟨0, 23, laws_toWriteS_loops⟩ (loopBody Try.f74 0) (bodyK ⟨0, 23, laws_toWriteS_loops⟩ [0, 3, 4] []) (setEs (deads 23) [0, 3, 4] (laws_toWriteS_v0 x)) (laws_toWriteS_s0 x) = laws_toWriteS_b0 x (Sum.elim (fun y => some ⟨.norm, laws_toWriteS_v0 y, laws_toWriteS_s0 y⟩) fun z => some ⟨(laws_toWriteS_e0 z).1, (laws_toWriteS_e0 z).2.1, (laws_toWriteS_e0 z).2.2⟩) := by
  kernel_rfl

theorem laws_toWriteS_lo0 : ∀ sp, (laws_toWriteS_loops 0) = some sp → LoopOk G9 ⟨0, 23, laws_toWriteS_loops⟩ sp (loopBody Try.f74 0) := by
  intro sp hsp vals st k r h
  cases hsp
  dsimp only at h
  rcases onPats_inv2 h with ⟨p, q, rfl, rfl, h⟩ | h
  · exact loop_runs2 laws_toWriteS_bp0 laws_toWriteS_v0 laws_toWriteS_s0 laws_toWriteS_e0 (fun z => by (intro h; cases h)) laws_toWriteS_bx0 Fuel (p.1, p.2.2.1, q.1) _ k r (fun z => rfl) h
  cases h

theorem laws_toWriteS_x (a0 : (List dWrite)) : execFn G9 laws_toWriteS_loops Try.f74 [.lst tWrite a0] [] = laws_toWriteS_d a0 (fun (y : (List dWrite)) => some ⟨.ret, [.own 0], [.arr tWrite y]⟩) := by kernel_rfl

theorem laws_toWriteS_y (a0 : (List dWrite)) : execFn G9 laws_toWriteS_loops Try.f74 [.lst tWrite a0] [] = laws_toWriteS_k a0 (fun (y : (List dWrite)) => some ⟨.ret, [.own 0], [.arr tWrite y]⟩) := (laws_toWriteS_x a0).trans (by rw [laws_toWriteS_e])

theorem laws_toWriteS_l : LoopsOk G9 ⟨0, 23, laws_toWriteS_loops⟩ (Try.f74.body.getD .skip) :=
  loopsOk_of (ids := [0]) (by kernel_rfl) (by kernel_rfl) ⟨laws_toWriteS_lo0, trivial⟩

theorem laws_toWriteS_c : Contract Try.prog 74 laws_toWriteS_g := by
  refine told G9_ok follows Try.func74 (c := Try.f74.body.getD .skip) (by kernel_rfl) ?_
  intro args s k r hk
  unfold laws_toWriteS_g at hk
  rcases onPats_inv hk with ⟨p, q, rfl, rfl⟩ | hk
  · exact ⟨laws_toWriteS_loops, laws_toWriteS_q p.1, laws_toWriteS_y p.1, laws_toWriteS_l⟩
  cases hk

def G10 : Glob := G9.add 74 laws_toWriteS_g

theorem G10_ok : GlobOk Try.prog G10 := G9_ok.add ⟨Try.f74, Try.func74, by kernel_rfl, by kernel_rfl⟩ laws_toWriteS_c

/-! ### loop.example/g00327/laws.toTxn -/

def laws_toTxn_loops : Nat → Option LoopSpec
  | _ => none

theorem laws_toTxn_x (a0 : Int) (a1 : Int) (a2 : Int) (a3 : Int) (a4 : (List dRange)) (a5 : (List dWrite)) (a6 : Bool) (a7 : ByteArray) : execFn G10 laws_toTxn_loops Try.f17 [.agg [.int .i64 a0, .int .i64 a1, .int .i64 a2, .int .i64 a3, .lst tRange a4, .lst tWrite a5, .bool a6, .str a7]] [] = laws_toTxn_d (a0, (a1, (a2, (a3, (a4, (a5, (a6, a7))))))) (fun (y : (Int × Int × Int × Int × Bool × ByteArray × (List dRange) × (List dWrite))) => some ⟨.ret, [.agg [.int .i64 y.1, .int .i64 y.2.1, .int .i64 y.2.2.1, .int .i64 y.2.2.2.1, .own 0, .own 1, .bool y.2.2.2.2.1, .str y.2.2.2.2.2.1]], [.arr tRange y.2.2.2.2.2.2.1, .arr tWrite y.2.2.2.2.2.2.2]⟩) := by kernel_rfl

theorem laws_toTxn_y (a0 : Int) (a1 : Int) (a2 : Int) (a3 : Int) (a4 : (List dRange)) (a5 : (List dWrite)) (a6 : Bool) (a7 : ByteArray) : execFn G10 laws_toTxn_loops Try.f17 [.agg [.int .i64 a0, .int .i64 a1, .int .i64 a2, .int .i64 a3, .lst tRange a4, .lst tWrite a5, .bool a6, .str a7]] [] = laws_toTxn_k (a0, (a1, (a2, (a3, (a4, (a5, (a6, a7))))))) (fun (y : (Int × Int × Int × Int × Bool × ByteArray × (List dRange) × (List dWrite))) => some ⟨.ret, [.agg [.int .i64 y.1, .int .i64 y.2.1, .int .i64 y.2.2.1, .int .i64 y.2.2.2.1, .own 0, .own 1, .bool y.2.2.2.2.1, .str y.2.2.2.2.2.1]], [.arr tRange y.2.2.2.2.2.2.1, .arr tWrite y.2.2.2.2.2.2.2]⟩) := (laws_toTxn_x a0 a1 a2 a3 a4 a5 a6 a7).trans (by rw [laws_toTxn_e])

theorem laws_toTxn_l : LoopsOk G10 ⟨0, 31, laws_toTxn_loops⟩ (Try.f17.body.getD .skip) :=
  loopsOk_of (ids := []) (by kernel_rfl) (by kernel_rfl) trivial

theorem laws_toTxn_c : Contract Try.prog 17 laws_toTxn_g := by
  refine told G10_ok follows Try.func17 (c := Try.f17.body.getD .skip) (by kernel_rfl) ?_
  intro args s k r hk
  unfold laws_toTxn_g at hk
  rcases onPats_inv hk with ⟨p, q, rfl, rfl⟩ | hk
  · exact ⟨laws_toTxn_loops, laws_toTxn_q p.1.1 p.1.2.1 p.1.2.2.1 p.1.2.2.2.1 p.1.2.2.2.2.1 p.1.2.2.2.2.2.1 p.1.2.2.2.2.2.2.1 p.1.2.2.2.2.2.2.2.1, laws_toTxn_y p.1.1 p.1.2.1 p.1.2.2.1 p.1.2.2.2.1 p.1.2.2.2.2.1 p.1.2.2.2.2.2.1 p.1.2.2.2.2.2.2.1 p.1.2.2.2.2.2.2.2.1, laws_toTxn_l⟩
  cases hk

def G11 : Glob := G10.add 17 laws_toTxn_g

theorem G11_ok : GlobOk Try.prog G11 := G10_ok.add ⟨Try.f17, Try.func17, by kernel_rfl, by kernel_rfl⟩ laws_toTxn_c

/-! ### loop.example/g00327/laws.toTxnS -/

def laws_toTxnS_loops : Nat → Option LoopSpec
  | 0 => some ⟨[0, 3, 4], [], fun vals st k => onPats [.lst tTxn, .own 0, .int .i64] [.arr tTxn] vals st (fun p q => loopK laws_toTxnS_b0 Fuel (p.1, p.2.2.1, q.1) (fun z => k (.exit 0) [.lst tTxn z.1, .own 0, .int .i64 z.2.1] [.arr tTxn z.2.2]))
      (none)⟩
  | _ => none

def laws_toTxnS_v0 : ((List dTxn) × Int × (List dTxn)) → List AV := (fun x => [.lst tTxn x.1, .own 0, .int .i64 x.2.1])
def laws_toTxnS_s0 : ((List dTxn) × Int × (List dTxn)) → St := (fun x => [.arr tTxn x.2.2])
def laws_toTxnS_e0 : ((List dTxn) × Int × (List dTxn)) → Out × List AV × St := (fun z => ((.exit 0), [.lst tTxn z.1, .own 0, .int .i64 z.2.1], [.arr tTxn z.2.2]))

theorem laws_toTxnS_bx0 (x : ((List dTxn) × Int × (List dTxn))) : exec G11 ⟨0, 23, laws_toTxnS_loops⟩ (loopBody Try.f30 0) (bodyK ⟨0, 23, laws_toTxnS_loops⟩ [0, 3, 4] []) (setEs (deads 23) [0, 3, 4] (laws_toTxnS_v0 x)) (laws_toTxnS_s0 x) = laws_toTxnS_b0 x (Sum.elim (fun y => some ⟨.norm, laws_toTxnS_v0 y, laws_toTxnS_s0 y⟩) fun z => some ⟨(laws_toTxnS_e0 z).1, (laws_toTxnS_e0 z).2.1, (laws_toTxnS_e0 z).2.2⟩) := by
  kernel_rfl

theorem laws_toTxnS_lo0 : ∀ sp, (laws_toTxnS_loops 0) = some sp → LoopOk G11 ⟨0, 23, laws_toTxnS_loops⟩ sp (loopBody Try.f30 0) := by
  intro sp hsp vals st k r h
  cases hsp
  dsimp only at h
  rcases onPats_inv2 h with ⟨p, q, rfl, rfl, h⟩ | h
  · exact loop_runs2 laws_toTxnS_bp0 laws_toTxnS_v0 laws_toTxnS_s0 laws_toTxnS_e0 (fun z => by (intro h; cases h)) laws_toTxnS_bx0 Fuel (p.1, p.2.2.1, q.1) _ k r (fun z => rfl) h
  cases h

theorem laws_toTxnS_x (a0 : (List dTxn)) : execFn G11 laws_toTxnS_loops Try.f30 [.lst tTxn a0] [] = laws_toTxnS_d a0 (fun (y : (List dTxn)) => some ⟨.ret, [.own 0], [.arr tTxn y]⟩) := by kernel_rfl

theorem laws_toTxnS_y (a0 : (List dTxn)) : execFn G11 laws_toTxnS_loops Try.f30 [.lst tTxn a0] [] = laws_toTxnS_k a0 (fun (y : (List dTxn)) => some ⟨.ret, [.own 0], [.arr tTxn y]⟩) := (laws_toTxnS_x a0).trans (by rw [laws_toTxnS_e])

theorem laws_toTxnS_l : LoopsOk G11 ⟨0, 23, laws_toTxnS_loops⟩ (Try.f30.body.getD .skip) :=
  loopsOk_of (ids := [0]) (by kernel_rfl) (by kernel_rfl) ⟨laws_toTxnS_lo0, trivial⟩

theorem laws_toTxnS_c : Contract Try.prog 30 laws_toTxnS_g := by
  refine told G11_ok follows Try.func30 (c := Try.f30.body.getD .skip) (by kernel_rfl) ?_
  intro args s k r hk
  unfold laws_toTxnS_g at hk
  rcases onPats_inv hk with ⟨p, q, rfl, rfl⟩ | hk
  · exact ⟨laws_toTxnS_loops, laws_toTxnS_q p.1, laws_toTxnS_y p.1, laws_toTxnS_l⟩
  cases hk

def G12 : Glob := G11.add 30 laws_toTxnS_g

theorem G12_ok : GlobOk Try.prog G12 := G11_ok.add ⟨Try.f30, Try.func30, by kernel_rfl, by kernel_rfl⟩ laws_toTxnS_c

/-! ### loop.example/g00327/spec.Beside -/

def spec_Beside_loops : Nat → Option LoopSpec
  | _ => none

theorem spec_Beside_x (a0 : Int) (a1 : Int) (a2 : Int) (a3 : Int) (a4 : (List dRange)) (a5 : (List dWrite)) (a6 : Bool) (a7 : ByteArray) (a8 : Int) (a9 : Int) (a10 : Int) (a11 : Int) (a12 : (List dRange)) (a13 : (List dWrite)) (a14 : Bool) (a15 : ByteArray) : execFn G12 spec_Beside_loops Try.f16 [.agg [.int .i64 a0, .int .i64 a1, .int .i64 a2, .int .i64 a3, .lst tRange a4, .lst tWrite a5, .bool a6, .str a7], .agg [.int .i64 a8, .int .i64 a9, .int .i64 a10, .int .i64 a11, .lst tRange a12, .lst tWrite a13, .bool a14, .str a15]] [] = spec_Beside_d (a0, (a1, (a2, (a3, (a4, (a5, (a6, a7))))))) (a8, (a9, (a10, (a11, (a12, (a13, (a14, a15))))))) (fun (y : Bool) => some ⟨.ret, [.bool y], []⟩) := by kernel_rfl

theorem spec_Beside_y (a0 : Int) (a1 : Int) (a2 : Int) (a3 : Int) (a4 : (List dRange)) (a5 : (List dWrite)) (a6 : Bool) (a7 : ByteArray) (a8 : Int) (a9 : Int) (a10 : Int) (a11 : Int) (a12 : (List dRange)) (a13 : (List dWrite)) (a14 : Bool) (a15 : ByteArray) : execFn G12 spec_Beside_loops Try.f16 [.agg [.int .i64 a0, .int .i64 a1, .int .i64 a2, .int .i64 a3, .lst tRange a4, .lst tWrite a5, .bool a6, .str a7], .agg [.int .i64 a8, .int .i64 a9, .int .i64 a10, .int .i64 a11, .lst tRange a12, .lst tWrite a13, .bool a14, .str a15]] [] = spec_Beside_k (a0, (a1, (a2, (a3, (a4, (a5, (a6, a7))))))) (a8, (a9, (a10, (a11, (a12, (a13, (a14, a15))))))) (fun (y : Bool) => some ⟨.ret, [.bool y], []⟩) := (spec_Beside_x a0 a1 a2 a3 a4 a5 a6 a7 a8 a9 a10 a11 a12 a13 a14 a15).trans (by rw [spec_Beside_e])

theorem spec_Beside_l : LoopsOk G12 ⟨0, 32, spec_Beside_loops⟩ (Try.f16.body.getD .skip) :=
  loopsOk_of (ids := []) (by kernel_rfl) (by kernel_rfl) trivial

theorem spec_Beside_c : Contract Try.prog 16 spec_Beside_g := by
  refine told G12_ok follows Try.func16 (c := Try.f16.body.getD .skip) (by kernel_rfl) ?_
  intro args s k r hk
  unfold spec_Beside_g at hk
  rcases onPats_inv hk with ⟨p, q, rfl, rfl⟩ | hk
  · exact ⟨spec_Beside_loops, spec_Beside_q p.1.1 p.1.2.1 p.1.2.2.1 p.1.2.2.2.1 p.1.2.2.2.2.1 p.1.2.2.2.2.2.1 p.1.2.2.2.2.2.2.1 p.1.2.2.2.2.2.2.2.1 p.2.1.1 p.2.1.2.1 p.2.1.2.2.1 p.2.1.2.2.2.1 p.2.1.2.2.2.2.1 p.2.1.2.2.2.2.2.1 p.2.1.2.2.2.2.2.2.1 p.2.1.2.2.2.2.2.2.2.1, spec_Beside_y p.1.1 p.1.2.1 p.1.2.2.1 p.1.2.2.2.1 p.1.2.2.2.2.1 p.1.2.2.2.2.2.1 p.1.2.2.2.2.2.2.1 p.1.2.2.2.2.2.2.2.1 p.2.1.1 p.2.1.2.1 p.2.1.2.2.1 p.2.1.2.2.2.1 p.2.1.2.2.2.2.1 p.2.1.2.2.2.2.2.1 p.2.1.2.2.2.2.2.2.1 p.2.1.2.2.2.2.2.2.2.1, spec_Beside_l⟩
  cases hk

def G13 : Glob := G12.add 16 spec_Beside_g

theorem G13_ok : GlobOk Try.prog G13 := G12_ok.add ⟨Try.f16, Try.func16, by kernel_rfl, by kernel_rfl⟩ spec_Beside_c

/-! ### loop.example/g00327/spec.InRange -/

def spec_InRange_loops : Nat → Option LoopSpec
  | _ => none

theorem spec_InRange_x (a0 : ByteArray) (a1 : ByteArray) (a2 : ByteArray) : execFn G13 spec_InRange_loops Try.f82 [.agg [.str a0, .str a1], .str a2] [] = spec_InRange_d (a0, a1) a2 (fun (y : Bool) => some ⟨.ret, [.bool y], []⟩) := by kernel_rfl

theorem spec_InRange_y (a0 : ByteArray) (a1 : ByteArray) (a2 : ByteArray) : execFn G13 spec_InRange_loops Try.f82 [.agg [.str a0, .str a1], .str a2] [] = spec_InRange_k (a0, a1) a2 (fun (y : Bool) => some ⟨.ret, [.bool y], []⟩) := (spec_InRange_x a0 a1 a2).trans (by rw [spec_InRange_e])

theorem spec_InRange_l : LoopsOk G13 ⟨0, 15, spec_InRange_loops⟩ (Try.f82.body.getD .skip) :=
  loopsOk_of (ids := []) (by kernel_rfl) (by kernel_rfl) trivial

theorem spec_InRange_c : Contract Try.prog 82 spec_InRange_g := by
  refine told G13_ok follows Try.func82 (c := Try.f82.body.getD .skip) (by kernel_rfl) ?_
  intro args s k r hk
  unfold spec_InRange_g at hk
  rcases onPats_inv hk with ⟨p, q, rfl, rfl⟩ | hk
  · exact ⟨spec_InRange_loops, spec_InRange_q p.1.1 p.1.2.1 p.2.1, spec_InRange_y p.1.1 p.1.2.1 p.2.1, spec_InRange_l⟩
  cases hk

def G14 : Glob := G13.add 82 spec_InRange_g

theorem G14_ok : GlobOk Try.prog G14 := G13_ok.add ⟨Try.f82, Try.func82, by kernel_rfl, by kernel_rfl⟩ spec_InRange_c

/-! ### loop.example/g00327/spec.Touches -/

def spec_Touches_loops : Nat → Option LoopSpec
  | 2 => some ⟨[0, 1, 4, 5, 6], [], fun vals st k => onPats [.lst tRange, .lst tWrite, .bool, .int .i64, .int .i64] [] vals st (fun p q => loopK spec_Touches_b2 Fuel (p.1, p.2.1, p.2.2.1, p.2.2.2.1, p.2.2.2.2.1) (Sum.elim (fun z => k .ret [.lst tRange z.1, .lst tWrite z.2.1, .bool z.2.2.1, .int .i64 z.2.2.2.1, .int .i64 z.2.2.2.2] []) (fun z => k (.exit 2) [.lst tRange z.1, .lst tWrite z.2.1, .bool z.2.2.1, .int .i64 z.2.2.2.1, .int .i64 z.2.2.2.2] [])))
      (none)⟩
  | 0 => some ⟨[0, 1, 4, 5], [], fun vals st k => onPats [.lst tRange, .lst tWrite, .bool, .int .i64] [] vals st (fun p q => loopK spec_Touches_b0 Fuel (p.1, p.2.1, p.2.2.1, p.2.2.2.1) (Sum.elim (fun z => k (.exit 0) [.lst tRange z.1, .lst tWrite z.2.1, .bool z.2.2.1, .int .i64 z.2.2.2] []) (fun z => k .ret [.lst tRange z.1, .lst tWrite z.2.1, .bool z.2.2.1, .int .i64 z.2.2.2] [])))
      (none)⟩
  | _ => none

def spec_Touches_v2 : ((List dRange) × (List dWrite) × Bool × Int × Int) → List AV := (fun x => [.lst tRange x.1, .lst tWrite x.2.1, .bool x.2.2.1, .int .i64 x.2.2.2.1, .int .i64 x.2.2.2.2])
def spec_Touches_s2 : ((List dRange) × (List dWrite) × Bool × Int × Int) → St := (fun x => [])
def spec_Touches_e2 : (((List dRange) × (List dWrite) × Bool × Int × Int) ⊕ ((List dRange) × (List dWrite) × Bool × Int × Int)) → Out × List AV × St := (Sum.elim (fun z => (.ret, [.lst tRange z.1, .lst tWrite z.2.1, .bool z.2.2.1, .int .i64 z.2.2.2.1, .int .i64 z.2.2.2.2], [])) (fun z => ((.exit 2), [.lst tRange z.1, .lst tWrite z.2.1, .bool z.2.2.1, .int .i64 z.2.2.2.1, .int .i64 z.2.2.2.2], [])))

theorem spec_Touches_bx2 (x : ((List dRange) × (List dWrite) × Bool × Int × Int)) : exec G14 ⟨0, 29, spec_Touches_loops⟩ (loopBody Try.f24 2) (bodyK ⟨0, 29, spec_Touches_loops⟩ [0, 1, 4, 5, 6] []) (setEs (deads 29) [0, 1, 4, 5, 6] (spec_Touches_v2 x)) (spec_Touches_s2 x) = spec_Touches_b2 x (Sum.elim (fun y => some ⟨.norm, spec_Touches_v2 y, spec_Touches_s2 y⟩) fun z => some ⟨(spec_Touches_e2 z).1, (spec_Touches_e2 z).2.1, (spec_Touches_e2 z).2.2⟩) := by
  kernel_rfl

theorem spec_Touches_lo2 : ∀ sp, (spec_Touches_loops 2) = some sp → LoopOk G14 ⟨0, 29, spec_Touches_loops⟩ sp (loopBody Try.f24 2) := by
  intro sp hsp vals st k r h
  cases hsp
  dsimp only at h
  rcases onPats_inv2 h with ⟨p, q, rfl, rfl, h⟩ | h
  · exact loop_runs2 spec_Touches_bp2 spec_Touches_v2 spec_Touches_s2 spec_Touches_e2 (fun z => by rcases z with z | z <;> (intro h; cases h)) spec_Touches_bx2 Fuel (p.1, p.2.1, p.2.2.1, p.2.2.2.1, p.2.2.2.2.1) _ k r (fun z => by rcases z with z | z <;> rfl) h
  cases h

def spec_Touches_v0 : ((List dRange) × (List dWrite) × Bool × Int) → List AV := (fun x => [.lst tRange x.1, .lst tWrite x.2.1, .bool x.2.2.1, .int .i64 x.2.2.2])
def spec_Touches_s0 : ((List dRange) × (List dWrite) × Bool × Int) → St := (fun x => [])
def spec_Touches_e0 : (((List dRange) × (List dWrite) × Bool × Int) ⊕ ((List dRange) × (List dWrite) × Bool × Int)) → Out × List AV × St := (Sum.elim (fun z => ((.exit 0), [.lst tRange z.1, .lst tWrite z.2.1, .bool z.2.2.1, .int .i64 z.2.2.2], [])) (fun z => (.ret, [.lst tRange z.1, .lst tWrite z.2.1, .bool z.2.2.1, .int .i64 z.2.2.2], [])))

theorem spec_Touches_bx0 (x : ((List dRange) × (List dWrite) × Bool × Int)) : exec G14 ⟨0, 29, spec_Touches_loops⟩ (loopBody Try.f24 0) (bodyK ⟨0, 29, spec_Touches_loops⟩ [0, 1, 4, 5] []) (setEs (deads 29) [0, 1, 4, 5] (spec_Touches_v0 x)) (spec_Touches_s0 x) = spec_Touches_b0 x (Sum.elim (fun y => some ⟨.norm, spec_Touches_v0 y, spec_Touches_s0 y⟩) fun z => some ⟨(spec_Touches_e0 z).1, (spec_Touches_e0 z).2.1, (spec_Touches_e0 z).2.2⟩) := by
  kernel_rfl

theorem spec_Touches_lo0 : ∀ sp, (spec_Touches_loops 0) = some sp → LoopOk G14 ⟨0, 29, spec_Touches_loops⟩ sp (loopBody Try.f24 0) := by
  intro sp hsp vals st k r h
  cases hsp
  dsimp only at h
  rcases onPats_inv2 h with ⟨p, q, rfl, rfl, h⟩ | h
  · exact loop_runs2 spec_Touches_bp0 spec_Touches_v0 spec_Touches_s0 spec_Touches_e0 (fun z => by rcases z with z | z <;> (intro h; cases h)) spec_Touches_bx0 Fuel (p.1, p.2.1, p.2.2.1, p.2.2.2.1) _ k r (fun z => by rcases z with z | z <;> rfl) h
  cases h

theorem spec_Touches_x (a0 : (List dRange)) (a1 : (List dWrite)) : execFn G14 spec_Touches_loops Try.f24 [.lst tRange a0, .lst tWrite a1] [] = spec_Touches_d a0 a1 (fun (y : Bool) => some ⟨.ret, [.bool y], []⟩) := by kernel_rfl

theorem spec_Touches_y (a0 : (List dRange)) (a1 : (List dWrite)) : execFn G14 spec_Touches_loops Try.f24 [.lst tRange a0, .lst tWrite a1] [] = spec_Touches_k a0 a1 (fun (y : Bool) => some ⟨.ret, [.bool y], []⟩) := (spec_Touches_x a0 a1).trans (by rw [spec_Touches_e])

theorem spec_Touches_l : LoopsOk G14 ⟨0, 29, spec_Touches_loops⟩ (Try.f24.body.getD .skip) :=
  loopsOk_of (ids := [2, 0]) (by kernel_rfl) (by kernel_rfl) ⟨spec_Touches_lo2, ⟨spec_Touches_lo0, trivial⟩⟩

theorem spec_Touches_c : Contract Try.prog 24 spec_Touches_g := by
  refine told G14_ok follows Try.func24 (c := Try.f24.body.getD .skip) (by kernel_rfl) ?_
  intro args s k r hk
  unfold spec_Touches_g at hk
  rcases onPats_inv hk with ⟨p, q, rfl, rfl⟩ | hk
  · exact ⟨spec_Touches_loops, spec_Touches_q p.1 p.2.1, spec_Touches_y p.1 p.2.1, spec_Touches_l⟩
  cases hk

def G15 : Glob := G14.add 24 spec_Touches_g

theorem G15_ok : GlobOk Try.prog G15 := G14_ok.add ⟨Try.f24, Try.func24, by kernel_rfl, by kernel_rfl⟩ spec_Touches_c

/-! ### loop.example/g00327/spec.Ahead -/

def spec_Ahead_loops : Nat → Option LoopSpec
  | _ => none

theorem spec_Ahead_x (a0 : Int) (a1 : Int) (a2 : Int) (a3 : Int) (a4 : (List dRange)) (a5 : (List dWrite)) (a6 : Bool) (a7 : ByteArray) (a8 : Int) (a9 : Int) (a10 : Int) (a11 : Int) (a12 : (List dRange)) (a13 : (List dWrite)) (a14 : Bool) (a15 : ByteArray) : execFn G15 spec_Ahead_loops Try.f25 [.agg [.int .i64 a0, .int .i64 a1, .int .i64 a2, .int .i64 a3, .lst tRange a4, .lst tWrite a5, .bool a6, .str a7], .agg [.int .i64 a8, .int .i64 a9, .int .i64 a10, .int .i64 a11, .lst tRange a12, .lst tWrite a13, .bool a14, .str a15]] [] = spec_Ahead_d (a0, (a1, (a2, (a3, (a4, (a5, (a6, a7))))))) (a8, (a9, (a10, (a11, (a12, (a13, (a14, a15))))))) (fun (y : Bool) => some ⟨.ret, [.bool y], []⟩) := by kernel_rfl

theorem spec_Ahead_y (a0 : Int) (a1 : Int) (a2 : Int) (a3 : Int) (a4 : (List dRange)) (a5 : (List dWrite)) (a6 : Bool) (a7 : ByteArray) (a8 : Int) (a9 : Int) (a10 : Int) (a11 : Int) (a12 : (List dRange)) (a13 : (List dWrite)) (a14 : Bool) (a15 : ByteArray) : execFn G15 spec_Ahead_loops Try.f25 [.agg [.int .i64 a0, .int .i64 a1, .int .i64 a2, .int .i64 a3, .lst tRange a4, .lst tWrite a5, .bool a6, .str a7], .agg [.int .i64 a8, .int .i64 a9, .int .i64 a10, .int .i64 a11, .lst tRange a12, .lst tWrite a13, .bool a14, .str a15]] [] = spec_Ahead_k (a0, (a1, (a2, (a3, (a4, (a5, (a6, a7))))))) (a8, (a9, (a10, (a11, (a12, (a13, (a14, a15))))))) (fun (y : Bool) => some ⟨.ret, [.bool y], []⟩) := (spec_Ahead_x a0 a1 a2 a3 a4 a5 a6 a7 a8 a9 a10 a11 a12 a13 a14 a15).trans (by rw [spec_Ahead_e])

theorem spec_Ahead_l : LoopsOk G15 ⟨0, 15, spec_Ahead_loops⟩ (Try.f25.body.getD .skip) :=
  loopsOk_of (ids := []) (by kernel_rfl) (by kernel_rfl) trivial

theorem spec_Ahead_c : Contract Try.prog 25 spec_Ahead_g := by
  refine told G15_ok follows Try.func25 (c := Try.f25.body.getD .skip) (by kernel_rfl) ?_
  intro args s k r hk
  unfold spec_Ahead_g at hk
  rcases onPats_inv hk with ⟨p, q, rfl, rfl⟩ | hk
  · exact ⟨spec_Ahead_loops, spec_Ahead_q p.1.1 p.1.2.1 p.1.2.2.1 p.1.2.2.2.1 p.1.2.2.2.2.1 p.1.2.2.2.2.2.1 p.1.2.2.2.2.2.2.1 p.1.2.2.2.2.2.2.2.1 p.2.1.1 p.2.1.2.1 p.2.1.2.2.1 p.2.1.2.2.2.1 p.2.1.2.2.2.2.1 p.2.1.2.2.2.2.2.1 p.2.1.2.2.2.2.2.2.1 p.2.1.2.2.2.2.2.2.2.1, spec_Ahead_y p.1.1 p.1.2.1 p.1.2.2.1 p.1.2.2.2.1 p.1.2.2.2.2.1 p.1.2.2.2.2.2.1 p.1.2.2.2.2.2.2.1 p.1.2.2.2.2.2.2.2.1 p.2.1.1 p.2.1.2.1 p.2.1.2.2.1 p.2.1.2.2.2.1 p.2.1.2.2.2.2.1 p.2.1.2.2.2.2.2.1 p.2.1.2.2.2.2.2.2.1 p.2.1.2.2.2.2.2.2.2.1, spec_Ahead_l⟩
  cases hk

def G16 : Glob := G15.add 25 spec_Ahead_g

theorem G16_ok : GlobOk Try.prog G16 := G15_ok.add ⟨Try.f25, Try.func25, by kernel_rfl, by kernel_rfl⟩ spec_Ahead_c

/-! ### loop.example/g00327/spec.InOf -/

def spec_InOf_loops : Nat → Option LoopSpec
  | 0 => some ⟨[1, 2, 4, 5], [], fun vals st k => onPats [.lst tTxn, .bp 0 0, .bool, .int .i64] [.box [.int .i64, .int .i64, .int .i64, .int .i64, .lst tRange, .lst tWrite, .bool, .str]] vals st (fun p q => loopK spec_InOf_b0 Fuel (p.1, p.2.2.1, p.2.2.2.1, q.1.1, q.1.2.1, q.1.2.2.1, q.1.2.2.2.1, q.1.2.2.2.2.1, q.1.2.2.2.2.2.1, q.1.2.2.2.2.2.2.1, q.1.2.2.2.2.2.2.2.1) (Sum.elim (fun z => k .ret [.lst tTxn z.1, .bp 0 0, .bool z.2.1, .int .i64 z.2.2.1] [.box [.int .i64 z.2.2.2.1, .int .i64 z.2.2.2.2.1, .int .i64 z.2.2.2.2.2.1, .int .i64 z.2.2.2.2.2.2.1, .lst tRange z.2.2.2.2.2.2.2.1, .lst tWrite z.2.2.2.2.2.2.2.2.1, .bool z.2.2.2.2.2.2.2.2.2.1, .str z.2.2.2.2.2.2.2.2.2.2]]) (fun z => k (.exit 0) [.lst tTxn z.1, .bp 0 0, .bool z.2.1, .int .i64 z.2.2.1] [.box [.int .i64 z.2.2.2.1, .int .i64 z.2.2.2.2.1, .int .i64 z.2.2.2.2.2.1, .int .i64 z.2.2.2.2.2.2.1, .lst tRange z.2.2.2.2.2.2.2.1, .lst tWrite z.2.2.2.2.2.2.2.2.1, .bool z.2.2.2.2.2.2.2.2.2.1, .str z.2.2.2.2.2.2.2.2.2.2]])))
      (none)⟩
  | _ => none

def spec_InOf_v0 : ((List dTxn) × Bool × Int × Int × Int × Int × Int × (List dRange) × (List dWrite) × Bool × ByteArray) → List AV := (fun x => [.lst tTxn x.1, .bp 0 0, .bool x.2.1, .int .i64 x.2.2.1])
def spec_InOf_s0 : ((List dTxn) × Bool × Int × Int × Int × Int × Int × (List dRange) × (List dWrite) × Bool × ByteArray) → St := (fun x => [.box [.int .i64 x.2.2.2.1, .int .i64 x.2.2.2.2.1, .int .i64 x.2.2.2.2.2.1, .int .i64 x.2.2.2.2.2.2.1, .lst tRange x.2.2.2.2.2.2.2.1, .lst tWrite x.2.2.2.2.2.2.2.2.1, .bool x.2.2.2.2.2.2.2.2.2.1, .str x.2.2.2.2.2.2.2.2.2.2]])
def spec_InOf_e0 : (((List dTxn) × Bool × Int × Int × Int × Int × Int × (List dRange) × (List dWrite) × Bool × ByteArray) ⊕ ((List dTxn) × Bool × Int × Int × Int × Int × Int × (List dRange) × (List dWrite) × Bool × ByteArray)) → Out × List AV × St := (Sum.elim (fun z => (.ret, [.lst tTxn z.1, .bp 0 0, .bool z.2.1, .int .i64 z.2.2.1], [.box [.int .i64 z.2.2.2.1, .int .i64 z.2.2.2.2.1, .int .i64 z.2.2.2.2.2.1, .int .i64 z.2.2.2.2.2.2.1, .lst tRange z.2.2.2.2.2.2.2.1, .lst tWrite z.2.2.2.2.2.2.2.2.1, .bool z.2.2.2.2.2.2.2.2.2.1, .str z.2.2.2.2.2.2.2.2.2.2]])) (fun z => ((.exit 0), [.lst tTxn z.1, .bp 0 0, .bool z.2.1, .int .i64 z.2.2.1], [.box [.int .i64 z.2.2.2.1, .int .i64 z.2.2.2.2.1, .int .i64 z.2.2.2.2.2.1, .int .i64 z.2.2.2.2.2.2.1, .lst tRange z.2.2.2.2.2.2.2.1, .lst tWrite z.2.2.2.2.2.2.2.2.1, .bool z.2.2.2.2.2.2.2.2.2.1, .str z.2.2.2.2.2.2.2.2.2.2]])))

theorem spec_InOf_bx0 (x : ((List dTxn) × Bool × Int × Int × Int × Int × Int × (List dRange) × (List dWrite) × Bool × ByteArray)) : exec G16 ⟨0, 34, spec_InOf_loops⟩ (loopBody Try.f50 0) (bodyK ⟨0, 34, spec_InOf_loops⟩ [1, 2, 4, 5] []) (setEs (deads 34) [1, 2, 4, 5] (spec_InOf_v0 x)) (spec_InOf_s0 x) = spec_InOf_b0 x (Sum.elim (fun y => some ⟨.norm, spec_InOf_v0 y, spec_InOf_s0 y⟩) fun z => some ⟨(spec_InOf_e0 z).1, (spec_InOf_e0 z).2.1, (spec_InOf_e0 z).2.2⟩) := by
  kernel_rfl

theorem spec_InOf_lo0 : ∀ sp, (spec_InOf_loops 0) = some sp → LoopOk G16 ⟨0, 34, spec_InOf_loops⟩ sp (loopBody Try.f50 0) := by
  intro sp hsp vals st k r h
  cases hsp
  dsimp only at h
  rcases onPats_inv2 h with ⟨p, q, rfl, rfl, h⟩ | h
  · exact loop_runs2 spec_InOf_bp0 spec_InOf_v0 spec_InOf_s0 spec_InOf_e0 (fun z => by rcases z with z | z <;> (intro h; cases h)) spec_InOf_bx0 Fuel (p.1, p.2.2.1, p.2.2.2.1, q.1.1, q.1.2.1, q.1.2.2.1, q.1.2.2.2.1, q.1.2.2.2.2.1, q.1.2.2.2.2.2.1, q.1.2.2.2.2.2.2.1, q.1.2.2.2.2.2.2.2.1) _ k r (fun z => by rcases z with z | z <;> rfl) h
  cases h

theorem spec_InOf_x (a0 : Int) (a1 : Int) (a2 : Int) (a3 : Int) (a4 : (List dRange)) (a5 : (List dWrite)) (a6 : Bool) (a7 : ByteArray) (a8 : (List dTxn)) : execFn G16 spec_InOf_loops Try.f50 [.agg [.int .i64 a0, .int .i64 a1, .int .i64 a2, .int .i64 a3, .lst tRange a4, .lst tWrite a5, .bool a6, .str a7], .lst tTxn a8] [] = spec_InOf_d (a0, (a1, (a2, (a3, (a4, (a5, (a6, a7))))))) a8 (fun (y : Bool) => some ⟨.ret, [.bool y], []⟩) := by kernel_rfl

theorem spec_InOf_y (a0 : Int) (a1 : Int) (a2 : Int) (a3 : Int) (a4 : (List dRange)) (a5 : (List dWrite)) (a6 : Bool) (a7 : ByteArray) (a8 : (List dTxn)) : execFn G16 spec_InOf_loops Try.f50 [.agg [.int .i64 a0, .int .i64 a1, .int .i64 a2, .int .i64 a3, .lst tRange a4, .lst tWrite a5, .bool a6, .str a7], .lst tTxn a8] [] = spec_InOf_k (a0, (a1, (a2, (a3, (a4, (a5, (a6, a7))))))) a8 (fun (y : Bool) => some ⟨.ret, [.bool y], []⟩) := (spec_InOf_x a0 a1 a2 a3 a4 a5 a6 a7 a8).trans (by rw [spec_InOf_e])

theorem spec_InOf_l : LoopsOk G16 ⟨0, 34, spec_InOf_loops⟩ (Try.f50.body.getD .skip) :=
  loopsOk_of (ids := [0]) (by kernel_rfl) (by kernel_rfl) ⟨spec_InOf_lo0, trivial⟩

theorem spec_InOf_c : Contract Try.prog 50 spec_InOf_g := by
  refine told G16_ok follows Try.func50 (c := Try.f50.body.getD .skip) (by kernel_rfl) ?_
  intro args s k r hk
  unfold spec_InOf_g at hk
  rcases onPats_inv hk with ⟨p, q, rfl, rfl⟩ | hk
  · exact ⟨spec_InOf_loops, spec_InOf_q p.1.1 p.1.2.1 p.1.2.2.1 p.1.2.2.2.1 p.1.2.2.2.2.1 p.1.2.2.2.2.2.1 p.1.2.2.2.2.2.2.1 p.1.2.2.2.2.2.2.2.1 p.2.1, spec_InOf_y p.1.1 p.1.2.1 p.1.2.2.1 p.1.2.2.2.1 p.1.2.2.2.2.1 p.1.2.2.2.2.2.1 p.1.2.2.2.2.2.2.1 p.1.2.2.2.2.2.2.2.1 p.2.1, spec_InOf_l⟩
  cases hk

def G17 : Glob := G16.add 50 spec_InOf_g

theorem G17_ok : GlobOk Try.prog G17 := G16_ok.add ⟨Try.f50, Try.func50, by kernel_rfl, by kernel_rfl⟩ spec_InOf_c

/-! ### loop.example/g00327/impl.isReady -/

def impl_isReady_loops : Nat → Option LoopSpec
  | _ => none

theorem impl_isReady_x (a0 : Int) (a1 : Int) (a2 : Int) (a3 : Int) (a4 : (List dRange)) (a5 : (List dWrite)) (a6 : Bool) (a7 : ByteArray) : execFn G17 impl_isReady_loops Try.f94 [.agg [.int .i64 a0, .int .i64 a1, .int .i64 a2, .int .i64 a3, .lst tRange a4, .lst tWrite a5, .bool a6, .str a7]] [] = impl_isReady_d (a0, (a1, (a2, (a3, (a4, (a5, (a6, a7))))))) (fun (y : Bool) => some ⟨.ret, [.bool y], []⟩) := by kernel_rfl

theorem impl_isReady_y (a0 : Int) (a1 : Int) (a2 : Int) (a3 : Int) (a4 : (List dRange)) (a5 : (List dWrite)) (a6 : Bool) (a7 : ByteArray) : execFn G17 impl_isReady_loops Try.f94 [.agg [.int .i64 a0, .int .i64 a1, .int .i64 a2, .int .i64 a3, .lst tRange a4, .lst tWrite a5, .bool a6, .str a7]] [] = impl_isReady_k (a0, (a1, (a2, (a3, (a4, (a5, (a6, a7))))))) (fun (y : Bool) => some ⟨.ret, [.bool y], []⟩) := (impl_isReady_x a0 a1 a2 a3 a4 a5 a6 a7).trans (by rw [impl_isReady_e])

theorem impl_isReady_l : LoopsOk G17 ⟨0, 6, impl_isReady_loops⟩ (Try.f94.body.getD .skip) :=
  loopsOk_of (ids := []) (by kernel_rfl) (by kernel_rfl) trivial

theorem impl_isReady_c : Contract Try.prog 94 impl_isReady_g := by
  refine told G17_ok follows Try.func94 (c := Try.f94.body.getD .skip) (by kernel_rfl) ?_
  intro args s k r hk
  unfold impl_isReady_g at hk
  rcases onPats_inv hk with ⟨p, q, rfl, rfl⟩ | hk
  · exact ⟨impl_isReady_loops, impl_isReady_q p.1.1 p.1.2.1 p.1.2.2.1 p.1.2.2.2.1 p.1.2.2.2.2.1 p.1.2.2.2.2.2.1 p.1.2.2.2.2.2.2.1 p.1.2.2.2.2.2.2.2.1, impl_isReady_y p.1.1 p.1.2.1 p.1.2.2.1 p.1.2.2.2.1 p.1.2.2.2.2.1 p.1.2.2.2.2.2.1 p.1.2.2.2.2.2.2.1 p.1.2.2.2.2.2.2.2.1, impl_isReady_l⟩
  cases hk

def G18 : Glob := G17.add 94 impl_isReady_g

theorem G18_ok : GlobOk Try.prog G18 := G17_ok.add ⟨Try.f94, Try.func94, by kernel_rfl, by kernel_rfl⟩ impl_isReady_c

/-! ### loop.example/g00327/impl.Beside$1 -/

def impl_Beside_1_loops : Nat → Option LoopSpec
  | _ => none

theorem impl_Beside_1_x (a0 : Int) (a1 : Int) (a2 : Int) (a3 : Int) (a4 : (List dRange)) (a5 : (List dWrite)) (a6 : Bool) (a7 : ByteArray) (a8 : Int) (a9 : Int) (a10 : Int) (a11 : Int) (a12 : (List dRange)) (a13 : (List dWrite)) (a14 : Bool) (a15 : ByteArray) : execFn G18 impl_Beside_1_loops Try.f75 [.agg [.int .i64 a0, .int .i64 a1, .int .i64 a2, .int .i64 a3, .lst tRange a4, .lst tWrite a5, .bool a6, .str a7], .agg [.int .i64 a8, .int .i64 a9, .int .i64 a10, .int .i64 a11, .lst tRange a12, .lst tWrite a13, .bool a14, .str a15]] [] = impl_Beside_1_d (a0, (a1, (a2, (a3, (a4, (a5, (a6, a7))))))) (a8, (a9, (a10, (a11, (a12, (a13, (a14, a15))))))) (fun (y : Bool) => some ⟨.ret, [.bool y], []⟩) := by kernel_rfl

theorem impl_Beside_1_y (a0 : Int) (a1 : Int) (a2 : Int) (a3 : Int) (a4 : (List dRange)) (a5 : (List dWrite)) (a6 : Bool) (a7 : ByteArray) (a8 : Int) (a9 : Int) (a10 : Int) (a11 : Int) (a12 : (List dRange)) (a13 : (List dWrite)) (a14 : Bool) (a15 : ByteArray) : execFn G18 impl_Beside_1_loops Try.f75 [.agg [.int .i64 a0, .int .i64 a1, .int .i64 a2, .int .i64 a3, .lst tRange a4, .lst tWrite a5, .bool a6, .str a7], .agg [.int .i64 a8, .int .i64 a9, .int .i64 a10, .int .i64 a11, .lst tRange a12, .lst tWrite a13, .bool a14, .str a15]] [] = impl_Beside_1_k (a0, (a1, (a2, (a3, (a4, (a5, (a6, a7))))))) (a8, (a9, (a10, (a11, (a12, (a13, (a14, a15))))))) (fun (y : Bool) => some ⟨.ret, [.bool y], []⟩) := (impl_Beside_1_x a0 a1 a2 a3 a4 a5 a6 a7 a8 a9 a10 a11 a12 a13 a14 a15).trans (by rw [impl_Beside_1_e])

theorem impl_Beside_1_l : LoopsOk G18 ⟨0, 15, impl_Beside_1_loops⟩ (Try.f75.body.getD .skip) :=
  loopsOk_of (ids := []) (by kernel_rfl) (by kernel_rfl) trivial

theorem impl_Beside_1_c : Contract Try.prog 75 impl_Beside_1_g := by
  refine told G18_ok follows Try.func75 (c := Try.f75.body.getD .skip) (by kernel_rfl) ?_
  intro args s k r hk
  unfold impl_Beside_1_g at hk
  rcases onPats_inv hk with ⟨p, q, rfl, rfl⟩ | hk
  · exact ⟨impl_Beside_1_loops, impl_Beside_1_q p.1.1 p.1.2.1 p.1.2.2.1 p.1.2.2.2.1 p.1.2.2.2.2.1 p.1.2.2.2.2.2.1 p.1.2.2.2.2.2.2.1 p.1.2.2.2.2.2.2.2.1 p.2.1.1 p.2.1.2.1 p.2.1.2.2.1 p.2.1.2.2.2.1 p.2.1.2.2.2.2.1 p.2.1.2.2.2.2.2.1 p.2.1.2.2.2.2.2.2.1 p.2.1.2.2.2.2.2.2.2.1, impl_Beside_1_y p.1.1 p.1.2.1 p.1.2.2.1 p.1.2.2.2.1 p.1.2.2.2.2.1 p.1.2.2.2.2.2.1 p.1.2.2.2.2.2.2.1 p.1.2.2.2.2.2.2.2.1 p.2.1.1 p.2.1.2.1 p.2.1.2.2.1 p.2.1.2.2.2.1 p.2.1.2.2.2.2.1 p.2.1.2.2.2.2.2.1 p.2.1.2.2.2.2.2.2.1 p.2.1.2.2.2.2.2.2.2.1, impl_Beside_1_l⟩
  cases hk

def G19 : Glob := G18.add 75 impl_Beside_1_g

theorem G19_ok : GlobOk Try.prog G19 := G18_ok.add ⟨Try.f75, Try.func75, by kernel_rfl, by kernel_rfl⟩ impl_Beside_1_c

/-! ### loop.example/g00327/impl.Beside -/

def impl_Beside_loops : Nat → Option LoopSpec
  | _ => none

theorem impl_Beside_x (a0 : Int) (a1 : Int) (a2 : Int) (a3 : Int) (a4 : (List dRange)) (a5 : (List dWrite)) (a6 : Bool) (a7 : ByteArray) (a8 : Int) (a9 : Int) (a10 : Int) (a11 : Int) (a12 : (List dRange)) (a13 : (List dWrite)) (a14 : Bool) (a15 : ByteArray) : execFn G19 impl_Beside_loops Try.f18 [.agg [.int .i64 a0, .int .i64 a1, .int .i64 a2, .int .i64 a3, .lst tRange a4, .lst tWrite a5, .bool a6, .str a7], .agg [.int .i64 a8, .int .i64 a9, .int .i64 a10, .int .i64 a11, .lst tRange a12, .lst tWrite a13, .bool a14, .str a15]] [] = impl_Beside_d (a0, (a1, (a2, (a3, (a4, (a5, (a6, a7))))))) (a8, (a9, (a10, (a11, (a12, (a13, (a14, a15))))))) (fun (y : Bool) => some ⟨.ret, [.bool y], []⟩) := by kernel_rfl

theorem impl_Beside_y (a0 : Int) (a1 : Int) (a2 : Int) (a3 : Int) (a4 : (List dRange)) (a5 : (List dWrite)) (a6 : Bool) (a7 : ByteArray) (a8 : Int) (a9 : Int) (a10 : Int) (a11 : Int) (a12 : (List dRange)) (a13 : (List dWrite)) (a14 : Bool) (a15 : ByteArray) : execFn G19 impl_Beside_loops Try.f18 [.agg [.int .i64 a0, .int .i64 a1, .int .i64 a2, .int .i64 a3, .lst tRange a4, .lst tWrite a5, .bool a6, .str a7], .agg [.int .i64 a8, .int .i64 a9, .int .i64 a10, .int .i64 a11, .lst tRange a12, .lst tWrite a13, .bool a14, .str a15]] [] = impl_Beside_k (a0, (a1, (a2, (a3, (a4, (a5, (a6, a7))))))) (a8, (a9, (a10, (a11, (a12, (a13, (a14, a15))))))) (fun (y : Bool) => some ⟨.ret, [.bool y], []⟩) := (impl_Beside_x a0 a1 a2 a3 a4 a5 a6 a7 a8 a9 a10 a11 a12 a13 a14 a15).trans (by rw [impl_Beside_e])

theorem impl_Beside_l : LoopsOk G19 ⟨0, 25, impl_Beside_loops⟩ (Try.f18.body.getD .skip) :=
  loopsOk_of (ids := []) (by kernel_rfl) (by kernel_rfl) trivial

theorem impl_Beside_c : Contract Try.prog 18 impl_Beside_g := by
  refine told G19_ok follows Try.func18 (c := Try.f18.body.getD .skip) (by kernel_rfl) ?_
  intro args s k r hk
  unfold impl_Beside_g at hk
  rcases onPats_inv hk with ⟨p, q, rfl, rfl⟩ | hk
  · exact ⟨impl_Beside_loops, impl_Beside_q p.1.1 p.1.2.1 p.1.2.2.1 p.1.2.2.2.1 p.1.2.2.2.2.1 p.1.2.2.2.2.2.1 p.1.2.2.2.2.2.2.1 p.1.2.2.2.2.2.2.2.1 p.2.1.1 p.2.1.2.1 p.2.1.2.2.1 p.2.1.2.2.2.1 p.2.1.2.2.2.2.1 p.2.1.2.2.2.2.2.1 p.2.1.2.2.2.2.2.2.1 p.2.1.2.2.2.2.2.2.2.1, impl_Beside_y p.1.1 p.1.2.1 p.1.2.2.1 p.1.2.2.2.1 p.1.2.2.2.2.1 p.1.2.2.2.2.2.1 p.1.2.2.2.2.2.2.1 p.1.2.2.2.2.2.2.2.1 p.2.1.1 p.2.1.2.1 p.2.1.2.2.1 p.2.1.2.2.2.1 p.2.1.2.2.2.2.1 p.2.1.2.2.2.2.2.1 p.2.1.2.2.2.2.2.2.1 p.2.1.2.2.2.2.2.2.2.1, impl_Beside_l⟩
  cases hk

def G20 : Glob := G19.add 18 impl_Beside_g

theorem G20_ok : GlobOk Try.prog G20 := G19_ok.add ⟨Try.f18, Try.func18, by kernel_rfl, by kernel_rfl⟩ impl_Beside_c

/-! ### loop.example/g00327/impl.InRange -/

def impl_InRange_loops : Nat → Option LoopSpec
  | _ => none

theorem impl_InRange_x (a0 : ByteArray) (a1 : ByteArray) (a2 : ByteArray) : execFn G20 impl_InRange_loops Try.f105 [.agg [.str a0, .str a1], .str a2] [] = impl_InRange_d (a0, a1) a2 (fun (y : Bool) => some ⟨.ret, [.bool y], []⟩) := by kernel_rfl

theorem impl_InRange_y (a0 : ByteArray) (a1 : ByteArray) (a2 : ByteArray) : execFn G20 impl_InRange_loops Try.f105 [.agg [.str a0, .str a1], .str a2] [] = impl_InRange_k (a0, a1) a2 (fun (y : Bool) => some ⟨.ret, [.bool y], []⟩) := (impl_InRange_x a0 a1 a2).trans (by rw [impl_InRange_e])

theorem impl_InRange_l : LoopsOk G20 ⟨0, 15, impl_InRange_loops⟩ (Try.f105.body.getD .skip) :=
  loopsOk_of (ids := []) (by kernel_rfl) (by kernel_rfl) trivial

theorem impl_InRange_c : Contract Try.prog 105 impl_InRange_g := by
  refine told G20_ok follows Try.func105 (c := Try.f105.body.getD .skip) (by kernel_rfl) ?_
  intro args s k r hk
  unfold impl_InRange_g at hk
  rcases onPats_inv hk with ⟨p, q, rfl, rfl⟩ | hk
  · exact ⟨impl_InRange_loops, impl_InRange_q p.1.1 p.1.2.1 p.2.1, impl_InRange_y p.1.1 p.1.2.1 p.2.1, impl_InRange_l⟩
  cases hk

def G21 : Glob := G20.add 105 impl_InRange_g

theorem G21_ok : GlobOk Try.prog G21 := G20_ok.add ⟨Try.f105, Try.func105, by kernel_rfl, by kernel_rfl⟩ impl_InRange_c

/-! ### loop.example/g00327/impl.Touches -/

def impl_Touches_loops : Nat → Option LoopSpec
  | 2 => some ⟨[1, 4, 6, 9, 10, 11, 15, 16, 17], [], fun vals st k => onPats [.lst tWrite, .bool, .bp 0 0, .lst tRange, .int .i64, .int .i64, .lst tWrite, .int .i64, .int .i64] [.box [.str, .str]] vals st (fun p q => loopK impl_Touches_b2 Fuel (p.1, p.2.1, p.2.2.2.1, p.2.2.2.2.1, p.2.2.2.2.2.1, p.2.2.2.2.2.2.1, p.2.2.2.2.2.2.2.1, p.2.2.2.2.2.2.2.2.1, q.1.1, q.1.2.1) (Sum.elim (fun z => k .ret [.lst tWrite z.1, .bool z.2.1, .bp 0 0, .lst tRange z.2.2.1, .int .i64 z.2.2.2.1, .int .i64 z.2.2.2.2.1, .lst tWrite z.2.2.2.2.2.1, .int .i64 z.2.2.2.2.2.2.1, .int .i64 z.2.2.2.2.2.2.2.1] [.box [.str z.2.2.2.2.2.2.2.2.1, .str z.2.2.2.2.2.2.2.2.2]]) (fun z => k (.exit 2) [.lst tWrite z.1, .bool z.2.1, .bp 0 0, .lst tRange z.2.2.1, .int .i64 z.2.2.2.1, .int .i64 z.2.2.2.2.1, .lst tWrite z.2.2.2.2.2.1, .int .i64 z.2.2.2.2.2.2.1, .int .i64 z.2.2.2.2.2.2.2.1] [.box [.str z.2.2.2.2.2.2.2.2.1, .str z.2.2.2.2.2.2.2.2.2]])))
      (none)⟩
  | 0 => some ⟨[1, 4, 9, 10, 11], [], fun vals st k => onPats [.lst tWrite, .bool, .lst tRange, .int .i64, .int .i64] [] vals st (fun p q => loopK impl_Touches_b0 Fuel (p.1, p.2.1, p.2.2.1, p.2.2.2.1, p.2.2.2.2.1) (Sum.elim (fun z => k (.exit 0) [.lst tWrite z.1, .bool z.2.1, .lst tRange z.2.2.1, .int .i64 z.2.2.2.1, .int .i64 z.2.2.2.2] []) (fun z => k .ret [.lst tWrite z.1, .bool z.2.1, .lst tRange z.2.2.1, .int .i64 z.2.2.2.1, .int .i64 z.2.2.2.2] [])))
      (none)⟩
  | _ => none

def impl_Touches_v2 : ((List dWrite) × Bool × (List dRange) × Int × Int × (List dWrite) × Int × Int × ByteArray × ByteArray) → List AV := (fun x => [.lst tWrite x.1, .bool x.2.1, .bp 0 0, .lst tRange x.2.2.1, .int .i64 x.2.2.2.1, .int .i64 x.2.2.2.2.1, .lst tWrite x.2.2.2.2.2.1, .int .i64 x.2.2.2.2.2.2.1, .int .i64 x.2.2.2.2.2.2.2.1])
def impl_Touches_s2 : ((List dWrite) × Bool × (List dRange) × Int × Int × (List dWrite) × Int × Int × ByteArray × ByteArray) → St := (fun x => [.box [.str x.2.2.2.2.2.2.2.2.1, .str x.2.2.2.2.2.2.2.2.2]])
def impl_Touches_e2 : (((List dWrite) × Bool × (List dRange) × Int × Int × (List dWrite) × Int × Int × ByteArray × ByteArray) ⊕ ((List dWrite) × Bool × (List dRange) × Int × Int × (List dWrite) × Int × Int × ByteArray × ByteArray)) → Out × List AV × St := (Sum.elim (fun z => (.ret, [.lst tWrite z.1, .bool z.2.1, .bp 0 0, .lst tRange z.2.2.1, .int .i64 z.2.2.2.1, .int .i64 z.2.2.2.2.1, .lst tWrite z.2.2.2.2.2.1, .int .i64 z.2.2.2.2.2.2.1, .int .i64 z.2.2.2.2.2.2.2.1], [.box [.str z.2.2.2.2.2.2.2.2.1, .str z.2.2.2.2.2.2.2.2.2]])) (fun z => ((.exit 2), [.lst tWrite z.1, .bool z.2.1, .bp 0 0, .lst tRange z.2.2.1, .int .i64 z.2.2.2.1, .int .i64 z.2.2.2.2.1, .lst tWrite z.2.2.2.2.2.1, .int .i64 z.2.2.2.2.2.2.1, .int .i64 z.2.2.2.2.2.2.2.1], [.box [.str z.2.2.2.2.2.2.2.2.1, .str z.2.2.2.2.2.2.2.2.2]])))

theorem impl_Touches_bx2 (x : ((List dWrite) × Bool × (List dRange) × Int × Int × (List dWrite) × Int × Int × ByteArray × ByteArray)) : exec G21 ⟨0, 27, impl_Touches_loops⟩ (loopBody Try.f81 2) (bodyK ⟨0, 27, impl_Touches_loops⟩ [1, 4, 6, 9, 10, 11, 15, 16, 17] []) (setEs (deads 27) [1, 4, 6, 9, 10, 11, 15, 16, 17] (impl_Touches_v2 x)) (impl_Touches_s2 x) = impl_Touches_b2 x (Sum.elim (fun y => some ⟨.norm, impl_Touches_v2 y, impl_Touches_s2 y⟩) fun z => some ⟨(impl_Touches_e2 z).1, (impl_Touches_e2 z).2.1, (impl_Touches_e2 z).2.2⟩) := by
  kernel_rfl

theorem impl_Touches_lo2 : ∀ sp, (impl_Touches_loops 2) = some sp → LoopOk G21 ⟨0, 27, impl_Touches_loops⟩ sp (loopBody Try.f81 2) := by
  intro sp hsp vals st k r h
  cases hsp
  dsimp only at h
  rcases onPats_inv2 h with ⟨p, q, rfl, rfl, h⟩ | h
  · exact loop_runs2 impl_Touches_bp2 impl_Touches_v2 impl_Touches_s2 impl_Touches_e2 (fun z => by rcases z with z | z <;> (intro h; cases h)) impl_Touches_bx2 Fuel (p.1, p.2.1, p.2.2.2.1, p.2.2.2.2.1, p.2.2.2.2.2.1, p.2.2.2.2.2.2.1, p.2.2.2.2.2.2.2.1, p.2.2.2.2.2.2.2.2.1, q.1.1, q.1.2.1) _ k r (fun z => by rcases z with z | z <;> rfl) h
  cases h

def impl_Touches_v0 : ((List dWrite) × Bool × (List dRange) × Int × Int) → List AV := (fun x => [.lst tWrite x.1, .bool x.2.1, .lst tRange x.2.2.1, .int .i64 x.2.2.2.1, .int .i64 x.2.2.2.2])
def impl_Touches_s0 : ((List dWrite) × Bool × (List dRange) × Int × Int) → St := (fun x => [])
def impl_Touches_e0 : (((List dWrite) × Bool × (List dRange) × Int × Int) ⊕ ((List dWrite) × Bool × (List dRange) × Int × Int)) → Out × List AV × St := (Sum.elim (fun z => ((.exit 0), [.lst tWrite z.1, .bool z.2.1, .lst tRange z.2.2.1, .int .i64 z.2.2.2.1, .int .i64 z.2.2.2.2], [])) (fun z => (.ret, [.lst tWrite z.1, .bool z.2.1, .lst tRange z.2.2.1, .int .i64 z.2.2.2.1, .int .i64 z.2.2.2.2], [])))

theorem impl_Touches_bx0 (x : ((List dWrite) × Bool × (List dRange) × Int × Int)) : exec G21 ⟨0, 27, impl_Touches_loops⟩ (loopBody Try.f81 0) (bodyK ⟨0, 27, impl_Touches_loops⟩ [1, 4, 9, 10, 11] []) (setEs (deads 27) [1, 4, 9, 10, 11] (impl_Touches_v0 x)) (impl_Touches_s0 x) = impl_Touches_b0 x (Sum.elim (fun y => some ⟨.norm, impl_Touches_v0 y, impl_Touches_s0 y⟩) fun z => some ⟨(impl_Touches_e0 z).1, (impl_Touches_e0 z).2.1, (impl_Touches_e0 z).2.2⟩) := by
  kernel_rfl

theorem impl_Touches_lo0 : ∀ sp, (impl_Touches_loops 0) = some sp → LoopOk G21 ⟨0, 27, impl_Touches_loops⟩ sp (loopBody Try.f81 0) := by
  intro sp hsp vals st k r h
  cases hsp
  dsimp only at h
  rcases onPats_inv2 h with ⟨p, q, rfl, rfl, h⟩ | h
  · exact loop_runs2 impl_Touches_bp0 impl_Touches_v0 impl_Touches_s0 impl_Touches_e0 (fun z => by rcases z with z | z <;> (intro h; cases h)) impl_Touches_bx0 Fuel (p.1, p.2.1, p.2.2.1, p.2.2.2.1, p.2.2.2.2.1) _ k r (fun z => by rcases z with z | z <;> rfl) h
  cases h

theorem impl_Touches_x (a0 : (List dRange)) (a1 : (List dWrite)) : execFn G21 impl_Touches_loops Try.f81 [.lst tRange a0, .lst tWrite a1] [] = impl_Touches_d a0 a1 (fun (y : Bool) => some ⟨.ret, [.bool y], []⟩) := by kernel_rfl

theorem impl_Touches_y (a0 : (List dRange)) (a1 : (List dWrite)) : execFn G21 impl_Touches_loops Try.f81 [.lst tRange a0, .lst tWrite a1] [] = impl_Touches_k a0 a1 (fun (y : Bool) => some ⟨.ret, [.bool y], []⟩) := (impl_Touches_x a0 a1).trans (by rw [impl_Touches_e])

theorem impl_Touches_l : LoopsOk G21 ⟨0, 27, impl_Touches_loops⟩ (Try.f81.body.getD .skip) :=
  loopsOk_of (ids := [2, 0]) (by kernel_rfl) (by kernel_rfl) ⟨impl_Touches_lo2, ⟨impl_Touches_lo0, trivial⟩⟩

theorem impl_Touches_c : Contract Try.prog 81 impl_Touches_g := by
  refine told G21_ok follows Try.func81 (c := Try.f81.body.getD .skip) (by kernel_rfl) ?_
  intro args s k r hk
  unfold impl_Touches_g at hk
  rcases onPats_inv hk with ⟨p, q, rfl, rfl⟩ | hk
  · exact ⟨impl_Touches_loops, impl_Touches_q p.1 p.2.1, impl_Touches_y p.1 p.2.1, impl_Touches_l⟩
  cases hk

def G22 : Glob := G21.add 81 impl_Touches_g

theorem G22_ok : GlobOk Try.prog G22 := G21_ok.add ⟨Try.f81, Try.func81, by kernel_rfl, by kernel_rfl⟩ impl_Touches_c

/-! ### loop.example/g00327/impl.Ahead -/

def impl_Ahead_loops : Nat → Option LoopSpec
  | _ => none

theorem impl_Ahead_x (a0 : Int) (a1 : Int) (a2 : Int) (a3 : Int) (a4 : (List dRange)) (a5 : (List dWrite)) (a6 : Bool) (a7 : ByteArray) (a8 : Int) (a9 : Int) (a10 : Int) (a11 : Int) (a12 : (List dRange)) (a13 : (List dWrite)) (a14 : Bool) (a15 : ByteArray) : execFn G22 impl_Ahead_loops Try.f23 [.agg [.int .i64 a0, .int .i64 a1, .int .i64 a2, .int .i64 a3, .lst tRange a4, .lst tWrite a5, .bool a6, .str a7], .agg [.int .i64 a8, .int .i64 a9, .int .i64 a10, .int .i64 a11, .lst tRange a12, .lst tWrite a13, .bool a14, .str a15]] [] = impl_Ahead_d (a0, (a1, (a2, (a3, (a4, (a5, (a6, a7))))))) (a8, (a9, (a10, (a11, (a12, (a13, (a14, a15))))))) (fun (y : Bool) => some ⟨.ret, [.bool y], []⟩) := by kernel_rfl

theorem impl_Ahead_y (a0 : Int) (a1 : Int) (a2 : Int) (a3 : Int) (a4 : (List dRange)) (a5 : (List dWrite)) (a6 : Bool) (a7 : ByteArray) (a8 : Int) (a9 : Int) (a10 : Int) (a11 : Int) (a12 : (List dRange)) (a13 : (List dWrite)) (a14 : Bool) (a15 : ByteArray) : execFn G22 impl_Ahead_loops Try.f23 [.agg [.int .i64 a0, .int .i64 a1, .int .i64 a2, .int .i64 a3, .lst tRange a4, .lst tWrite a5, .bool a6, .str a7], .agg [.int .i64 a8, .int .i64 a9, .int .i64 a10, .int .i64 a11, .lst tRange a12, .lst tWrite a13, .bool a14, .str a15]] [] = impl_Ahead_k (a0, (a1, (a2, (a3, (a4, (a5, (a6, a7))))))) (a8, (a9, (a10, (a11, (a12, (a13, (a14, a15))))))) (fun (y : Bool) => some ⟨.ret, [.bool y], []⟩) := (impl_Ahead_x a0 a1 a2 a3 a4 a5 a6 a7 a8 a9 a10 a11 a12 a13 a14 a15).trans (by rw [impl_Ahead_e])

theorem impl_Ahead_l : LoopsOk G22 ⟨0, 15, impl_Ahead_loops⟩ (Try.f23.body.getD .skip) :=
  loopsOk_of (ids := []) (by kernel_rfl) (by kernel_rfl) trivial

theorem impl_Ahead_c : Contract Try.prog 23 impl_Ahead_g := by
  refine told G22_ok follows Try.func23 (c := Try.f23.body.getD .skip) (by kernel_rfl) ?_
  intro args s k r hk
  unfold impl_Ahead_g at hk
  rcases onPats_inv hk with ⟨p, q, rfl, rfl⟩ | hk
  · exact ⟨impl_Ahead_loops, impl_Ahead_q p.1.1 p.1.2.1 p.1.2.2.1 p.1.2.2.2.1 p.1.2.2.2.2.1 p.1.2.2.2.2.2.1 p.1.2.2.2.2.2.2.1 p.1.2.2.2.2.2.2.2.1 p.2.1.1 p.2.1.2.1 p.2.1.2.2.1 p.2.1.2.2.2.1 p.2.1.2.2.2.2.1 p.2.1.2.2.2.2.2.1 p.2.1.2.2.2.2.2.2.1 p.2.1.2.2.2.2.2.2.2.1, impl_Ahead_y p.1.1 p.1.2.1 p.1.2.2.1 p.1.2.2.2.1 p.1.2.2.2.2.1 p.1.2.2.2.2.2.1 p.1.2.2.2.2.2.2.1 p.1.2.2.2.2.2.2.2.1 p.2.1.1 p.2.1.2.1 p.2.1.2.2.1 p.2.1.2.2.2.1 p.2.1.2.2.2.2.1 p.2.1.2.2.2.2.2.1 p.2.1.2.2.2.2.2.2.1 p.2.1.2.2.2.2.2.2.2.1, impl_Ahead_l⟩
  cases hk

def G23 : Glob := G22.add 23 impl_Ahead_g

theorem G23_ok : GlobOk Try.prog G23 := G22_ok.add ⟨Try.f23, Try.func23, by kernel_rfl, by kernel_rfl⟩ impl_Ahead_c

/-! ### loop.example/g00327/impl.isDone -/

def impl_isDone_loops : Nat → Option LoopSpec
  | _ => none

theorem impl_isDone_x (a0 : Int) (a1 : Int) (a2 : Int) (a3 : Int) (a4 : (List dRange)) (a5 : (List dWrite)) (a6 : Bool) (a7 : ByteArray) : execFn G23 impl_isDone_loops Try.f95 [.agg [.int .i64 a0, .int .i64 a1, .int .i64 a2, .int .i64 a3, .lst tRange a4, .lst tWrite a5, .bool a6, .str a7]] [] = impl_isDone_d (a0, (a1, (a2, (a3, (a4, (a5, (a6, a7))))))) (fun (y : Bool) => some ⟨.ret, [.bool y], []⟩) := by kernel_rfl

theorem impl_isDone_y (a0 : Int) (a1 : Int) (a2 : Int) (a3 : Int) (a4 : (List dRange)) (a5 : (List dWrite)) (a6 : Bool) (a7 : ByteArray) : execFn G23 impl_isDone_loops Try.f95 [.agg [.int .i64 a0, .int .i64 a1, .int .i64 a2, .int .i64 a3, .lst tRange a4, .lst tWrite a5, .bool a6, .str a7]] [] = impl_isDone_k (a0, (a1, (a2, (a3, (a4, (a5, (a6, a7))))))) (fun (y : Bool) => some ⟨.ret, [.bool y], []⟩) := (impl_isDone_x a0 a1 a2 a3 a4 a5 a6 a7).trans (by rw [impl_isDone_e])

theorem impl_isDone_l : LoopsOk G23 ⟨0, 6, impl_isDone_loops⟩ (Try.f95.body.getD .skip) :=
  loopsOk_of (ids := []) (by kernel_rfl) (by kernel_rfl) trivial

theorem impl_isDone_c : Contract Try.prog 95 impl_isDone_g := by
  refine told G23_ok follows Try.func95 (c := Try.f95.body.getD .skip) (by kernel_rfl) ?_
  intro args s k r hk
  unfold impl_isDone_g at hk
  rcases onPats_inv hk with ⟨p, q, rfl, rfl⟩ | hk
  · exact ⟨impl_isDone_loops, impl_isDone_q p.1.1 p.1.2.1 p.1.2.2.1 p.1.2.2.2.1 p.1.2.2.2.2.1 p.1.2.2.2.2.2.1 p.1.2.2.2.2.2.2.1 p.1.2.2.2.2.2.2.2.1, impl_isDone_y p.1.1 p.1.2.1 p.1.2.2.1 p.1.2.2.2.1 p.1.2.2.2.2.1 p.1.2.2.2.2.2.1 p.1.2.2.2.2.2.2.1 p.1.2.2.2.2.2.2.2.1, impl_isDone_l⟩
  cases hk

def G24 : Glob := G23.add 95 impl_isDone_g

theorem G24_ok : GlobOk Try.prog G24 := G23_ok.add ⟨Try.f95, Try.func95, by kernel_rfl, by kernel_rfl⟩ impl_isDone_c

/-! ### loop.example/g00327/impl.InOf$1 -/

def impl_InOf_1_loops : Nat → Option LoopSpec
  | _ => none

theorem impl_InOf_1_x (a0 : Int) (a1 : Int) (a2 : Int) (a3 : Int) (a4 : (List dRange)) (a5 : (List dWrite)) (a6 : Bool) (a7 : ByteArray) (a8 : Int) (a9 : Int) (a10 : Int) (a11 : Int) (a12 : (List dRange)) (a13 : (List dWrite)) (a14 : Bool) (a15 : ByteArray) : execFn G24 impl_InOf_1_loops Try.f119 [.agg [.int .i64 a0, .int .i64 a1, .int .i64 a2, .int .i64 a3, .lst tRange a4, .lst tWrite a5, .bool a6, .str a7], .bp 0 0] [.box [.int .i64 a8, .int .i64 a9, .int .i64 a10, .int .i64 a11, .lst tRange a12, .lst tWrite a13, .bool a14, .str a15]] = impl_InOf_1_d (a0, (a1, (a2, (a3, (a4, (a5, (a6, a7))))))) a8 a9 a10 a11 a12 a13 a14 a15 (fun (y : (Bool × Int × Int × Int × Int × (List dRange) × (List dWrite) × Bool × ByteArray)) => some ⟨.ret, [.bool y.1], [.box [.int .i64 y.2.1, .int .i64 y.2.2.1, .int .i64 y.2.2.2.1, .int .i64 y.2.2.2.2.1, .lst tRange y.2.2.2.2.2.1, .lst tWrite y.2.2.2.2.2.2.1, .bool y.2.2.2.2.2.2.2.1, .str y.2.2.2.2.2.2.2.2]]⟩) := by kernel_rfl

theorem impl_InOf_1_y (a0 : Int) (a1 : Int) (a2 : Int) (a3 : Int) (a4 : (List dRange)) (a5 : (List dWrite)) (a6 : Bool) (a7 : ByteArray) (a8 : Int) (a9 : Int) (a10 : Int) (a11 : Int) (a12 : (List dRange)) (a13 : (List dWrite)) (a14 : Bool) (a15 : ByteArray) : execFn G24 impl_InOf_1_loops Try.f119 [.agg [.int .i64 a0, .int .i64 a1, .int .i64 a2, .int .i64 a3, .lst tRange a4, .lst tWrite a5, .bool a6, .str a7], .bp 0 0] [.box [.int .i64 a8, .int .i64 a9, .int .i64 a10, .int .i64 a11, .lst tRange a12, .lst tWrite a13, .bool a14, .str a15]] = impl_InOf_1_k (a0, (a1, (a2, (a3, (a4, (a5, (a6, a7))))))) a8 a9 a10 a11 a12 a13 a14 a15 (fun (y : (Bool × Int × Int × Int × Int × (List dRange) × (List dWrite) × Bool × ByteArray)) => some ⟨.ret, [.bool y.1], [.box [.int .i64 y.2.1, .int .i64 y.2.2.1, .int .i64 y.2.2.2.1, .int .i64 y.2.2.2.2.1, .lst tRange y.2.2.2.2.2.1, .lst tWrite y.2.2.2.2.2.2.1, .bool y.2.2.2.2.2.2.2.1, .str y.2.2.2.2.2.2.2.2]]⟩) := (impl_InOf_1_x a0 a1 a2 a3 a4 a5 a6 a7 a8 a9 a10 a11 a12 a13 a14 a15).trans (by rw [impl_InOf_1_e])

theorem impl_InOf_1_l : LoopsOk G24 ⟨1, 15, impl_InOf_1_loops⟩ (Try.f119.body.getD .skip) :=
  loopsOk_of (ids := []) (by kernel_rfl) (by kernel_rfl) trivial

theorem impl_InOf_1_c : Contract Try.prog 119 impl_InOf_1_g := by
  refine told G24_ok follows Try.func119 (c := Try.f119.body.getD .skip) (by kernel_rfl) ?_
  intro args s k r hk
  unfold impl_InOf_1_g at hk
  rcases onPats_inv hk with ⟨p, q, rfl, rfl⟩ | hk
  · exact ⟨impl_InOf_1_loops, impl_InOf_1_q p.1.1 p.1.2.1 p.1.2.2.1 p.1.2.2.2.1 p.1.2.2.2.2.1 p.1.2.2.2.2.2.1 p.1.2.2.2.2.2.2.1 p.1.2.2.2.2.2.2.2.1 q.1.1 q.1.2.1 q.1.2.2.1 q.1.2.2.2.1 q.1.2.2.2.2.1 q.1.2.2.2.2.2.1 q.1.2.2.2.2.2.2.1 q.1.2.2.2.2.2.2.2.1, impl_InOf_1_y p.1.1 p.1.2.1 p.1.2.2.1 p.1.2.2.2.1 p.1.2.2.2.2.1 p.1.2.2.2.2.2.1 p.1.2.2.2.2.2.2.1 p.1.2.2.2.2.2.2.2.1 q.1.1 q.1.2.1 q.1.2.2.1 q.1.2.2.2.1 q.1.2.2.2.2.1 q.1.2.2.2.2.2.1 q.1.2.2.2.2.2.2.1 q.1.2.2.2.2.2.2.2.1, impl_InOf_1_l⟩
  cases hk

def G25 : Glob := G24.add 119 impl_InOf_1_g

theorem G25_ok : GlobOk Try.prog G25 := G24_ok.add ⟨Try.f119, Try.func119, by kernel_rfl, by kernel_rfl⟩ impl_InOf_1_c

/-! ### slices.IndexFunc[[]loop.example/g00327/impl.Txn,loop.example/g00327/impl.Txn] -/

def slices_IndexFunc_Txn_InOf_1_loops : Nat → Option LoopSpec
  | 0 => some ⟨[0, 1, 4, 7, 8], [], fun vals st k => onPats [.lst tTxn, .fn 119 [.bp 0 0], .int .i64, .int .i64, .int .i64] [.box [.int .i64, .int .i64, .int .i64, .int .i64, .lst tRange, .lst tWrite, .bool, .str]] vals st (fun p q => loopK slices_IndexFunc_Txn_InOf_1_b0 Fuel (p.1, p.2.2.1, p.2.2.2.1, p.2.2.2.2.1, q.1.1, q.1.2.1, q.1.2.2.1, q.1.2.2.2.1, q.1.2.2.2.2.1, q.1.2.2.2.2.2.1, q.1.2.2.2.2.2.2.1, q.1.2.2.2.2.2.2.2.1) (Sum.elim (fun z => k .ret [.lst tTxn z.1, .fn 119 [.bp 0 0], .int .i64 z.2.1, .int .i64 z.2.2.1, .int .i64 z.2.2.2.1] [.box [.int .i64 z.2.2.2.2.1, .int .i64 z.2.2.2.2.2.1, .int .i64 z.2.2.2.2.2.2.1, .int .i64 z.2.2.2.2.2.2.2.1, .lst tRange z.2.2.2.2.2.2.2.2.1, .lst tWrite z.2.2.2.2.2.2.2.2.2.1, .bool z.2.2.2.2.2.2.2.2.2.2.1, .str z.2.2.2.2.2.2.2.2.2.2.2]]) (fun z => k (.exit 0) [.lst tTxn z.1, .fn 119 [.bp 0 0], .int .i64 z.2.1, .int .i64 z.2.2.1, .int .i64 z.2.2.2.1] [.box [.int .i64 z.2.2.2.2.1, .int .i64 z.2.2.2.2.2.1, .int .i64 z.2.2.2.2.2.2.1, .int .i64 z.2.2.2.2.2.2.2.1, .lst tRange z.2.2.2.2.2.2.2.2.1, .lst tWrite z.2.2.2.2.2.2.2.2.2.1, .bool z.2.2.2.2.2.2.2.2.2.2.1, .str z.2.2.2.2.2.2.2.2.2.2.2]])))
      (none)⟩
  | _ => none

def slices_IndexFunc_Txn_InOf_1_v0 : ((List dTxn) × Int × Int × Int × Int × Int × Int × Int × (List dRange) × (List dWrite) × Bool × ByteArray) → List AV := (fun x => [.lst tTxn x.1, .fn 119 [.bp 0 0], .int .i64 x.2.1, .int .i64 x.2.2.1, .int .i64 x.2.2.2.1])
def slices_IndexFunc_Txn_InOf_1_s0 : ((List dTxn) × Int × Int × Int × Int × Int × Int × Int × (List dRange) × (List dWrite) × Bool × ByteArray) → St := (fun x => [.box [.int .i64 x.2.2.2.2.1, .int .i64 x.2.2.2.2.2.1, .int .i64 x.2.2.2.2.2.2.1, .int .i64 x.2.2.2.2.2.2.2.1, .lst tRange x.2.2.2.2.2.2.2.2.1, .lst tWrite x.2.2.2.2.2.2.2.2.2.1, .bool x.2.2.2.2.2.2.2.2.2.2.1, .str x.2.2.2.2.2.2.2.2.2.2.2]])
def slices_IndexFunc_Txn_InOf_1_e0 : (((List dTxn) × Int × Int × Int × Int × Int × Int × Int × (List dRange) × (List dWrite) × Bool × ByteArray) ⊕ ((List dTxn) × Int × Int × Int × Int × Int × Int × Int × (List dRange) × (List dWrite) × Bool × ByteArray)) → Out × List AV × St := (Sum.elim (fun z => (.ret, [.lst tTxn z.1, .fn 119 [.bp 0 0], .int .i64 z.2.1, .int .i64 z.2.2.1, .int .i64 z.2.2.2.1], [.box [.int .i64 z.2.2.2.2.1, .int .i64 z.2.2.2.2.2.1, .int .i64 z.2.2.2.2.2.2.1, .int .i64 z.2.2.2.2.2.2.2.1, .lst tRange z.2.2.2.2.2.2.2.2.1, .lst tWrite z.2.2.2.2.2.2.2.2.2.1, .bool z.2.2.2.2.2.2.2.2.2.2.1, .str z.2.2.2.2.2.2.2.2.2.2.2]])) (fun z => ((.exit 0), [.lst tTxn z.1, .fn 119 [.bp 0 0], .int .i64 z.2.1, .int .i64 z.2.2.1, .int .i64 z.2.2.2.1], [.box [.int .i64 z.2.2.2.2.1, .int .i64 z.2.2.2.2.2.1, .int .i64 z.2.2.2.2.2.2.1, .int .i64 z.2.2.2.2.2.2.2.1, .lst tRange z.2.2.2.2.2.2.2.2.1, .lst tWrite z.2.2.2.2.2.2.2.2.2.1, .bool z.2.2.2.2.2.2.2.2.2.2.1, .str z.2.2.2.2.2.2.2.2.2.2.2]])))

theorem slices_IndexFunc_Txn_InOf_1_bx0 (x : ((List dTxn) × Int × Int × Int × Int × Int × Int × Int × (List dRange) × (List dWrite) × Bool × ByteArray)) : exec G25 ⟨1, 19, slices_IndexFunc_Txn_InOf_1_loops⟩ (loopBody Try.f160 0) (bodyK ⟨1, 19, slices_IndexFunc_Txn_InOf_1_loops⟩ [0, 1, 4, 7, 8] []) (setEs (deads 19) [0, 1, 4, 7, 8] (slices_IndexFunc_Txn_InOf_1_v0 x)) (slices_IndexFunc_Txn_InOf_1_s0 x) = slices_IndexFunc_Txn_InOf_1_b0 x (Sum.elim (fun y => some ⟨.norm, slices_IndexFunc_Txn_InOf_1_v0 y, slices_IndexFunc_Txn_InOf_1_s0 y⟩) fun z => some ⟨(slices_IndexFunc_Txn_InOf_1_e0 z).1, (slices_IndexFunc_Txn_InOf_1_e0 z).2.1, (slices_IndexFunc_Txn_InOf_1_e0 z).2.2⟩) := by
  kernel_rfl

theorem slices_IndexFunc_Txn_InOf_1_lo0 : ∀ sp, (slices_IndexFunc_Txn_InOf_1_loops 0) = some sp → LoopOk G25 ⟨1, 19, slices_IndexFunc_Txn_InOf_1_loops⟩ sp (loopBody Try.f160 0) := by
  intro sp hsp vals st k r h
  cases hsp
  dsimp only at h
  rcases onPats_inv2 h with ⟨p, q, rfl, rfl, h⟩ | h
  · exact loop_runs2 slices_IndexFunc_Txn_InOf_1_bp0 slices_IndexFunc_Txn_InOf_1_v0 slices_IndexFunc_Txn_InOf_1_s0 slices_IndexFunc_Txn_InOf_1_e0 (fun z => by rcases z with z | z <;> (intro h; cases h)) slices_IndexFunc_Txn_InOf_1_bx0 Fuel (p.1, p.2.2.1, p.2.2.2.1, p.2.2.2.2.1, q.1.1, q.1.2.1, q.1.2.2.1, q.1.2.2.2.1, q.1.2.2.2.2.1, q.1.2.2.2.2.2.1, q.1.2.2.2.2.2.2.1, q.1.2.2.2.2.2.2.2.1) _ k r (fun z => by rcases z with z | z <;> rfl) h
  cases h

theorem slices_IndexFunc_Txn_InOf_1_x (a0 : (List dTxn)) (a1 : Int) (a2 : Int) (a3 : Int) (a4 : Int) (a5 : (List dRange)) (a6 : (List dWrite)) (a7 : Bool) (a8 : ByteArray) : execFn G25 slices_IndexFunc_Txn_InOf_1_loops Try.f160 [.lst tTxn a0, .fn 119 [.bp 0 0]] [.box [.int .i64 a1, .int .i64 a2, .int .i64 a3, .int .i64 a4, .lst tRange a5, .lst tWrite a6, .bool a7, .str a8]] = slices_IndexFunc_Txn_InOf_1_d a0 a1 a2 a3 a4 a5 a6 a7 a8 (fun (y : (Int × Int × Int × Int × Int × (List dRange) × (List dWrite) × Bool × ByteArray)) => some ⟨.ret, [.int .i64 y.1], [.box [.int .i64 y.2.1, .int .i64 y.2.2.1, .int .i64 y.2.2.2.1, .int .i64 y.2.2.2.2.1, .lst tRange y.2.2.2.2.2.1, .lst tWrite y.2.2.2.2.2.2.1, .bool y.2.2.2.2.2.2.2.1, .str y.2.2.2.2.2.2.2.2]]⟩) := by kernel_rfl

theorem slices_IndexFunc_Txn_InOf_1_y (a0 : (List dTxn)) (a1 : Int) (a2 : Int) (a3 : Int) (a4 : Int) (a5 : (List dRange)) (a6 : (List dWrite)) (a7 : Bool) (a8 : ByteArray) : execFn G25 slices_IndexFunc_Txn_InOf_1_loops Try.f160 [.lst tTxn a0, .fn 119 [.bp 0 0]] [.box [.int .i64 a1, .int .i64 a2, .int .i64 a3, .int .i64 a4, .lst tRange a5, .lst tWrite a6, .bool a7, .str a8]] = slices_IndexFunc_Txn_InOf_1_k a0 a1 a2 a3 a4 a5 a6 a7 a8 (fun (y : (Int × Int × Int × Int × Int × (List dRange) × (List dWrite) × Bool × ByteArray)) => some ⟨.ret, [.int .i64 y.1], [.box [.int .i64 y.2.1, .int .i64 y.2.2.1, .int .i64 y.2.2.2.1, .int .i64 y.2.2.2.2.1, .lst tRange y.2.2.2.2.2.1, .lst tWrite y.2.2.2.2.2.2.1, .bool y.2.2.2.2.2.2.2.1, .str y.2.2.2.2.2.2.2.2]]⟩) := (slices_IndexFunc_Txn_InOf_1_x a0 a1 a2 a3 a4 a5 a6 a7 a8).trans (by rw [slices_IndexFunc_Txn_InOf_1_e])

theorem slices_IndexFunc_Txn_InOf_1_l : LoopsOk G25 ⟨1, 19, slices_IndexFunc_Txn_InOf_1_loops⟩ (Try.f160.body.getD .skip) :=
  loopsOk_of (ids := [0]) (by kernel_rfl) (by kernel_rfl) ⟨slices_IndexFunc_Txn_InOf_1_lo0, trivial⟩

theorem slices_IndexFunc_Txn_c : Contract Try.prog 160 slices_IndexFunc_Txn_g := by
  refine told G25_ok follows Try.func160 (c := Try.f160.body.getD .skip) (by kernel_rfl) ?_
  intro args s k r hk
  unfold slices_IndexFunc_Txn_g at hk
  rcases onPats_inv hk with ⟨p, q, rfl, rfl⟩ | hk
  · exact ⟨slices_IndexFunc_Txn_InOf_1_loops, slices_IndexFunc_Txn_InOf_1_q p.1 q.1.1 q.1.2.1 q.1.2.2.1 q.1.2.2.2.1 q.1.2.2.2.2.1 q.1.2.2.2.2.2.1 q.1.2.2.2.2.2.2.1 q.1.2.2.2.2.2.2.2.1, slices_IndexFunc_Txn_InOf_1_y p.1 q.1.1 q.1.2.1 q.1.2.2.1 q.1.2.2.2.1 q.1.2.2.2.2.1 q.1.2.2.2.2.2.1 q.1.2.2.2.2.2.2.1 q.1.2.2.2.2.2.2.2.1, slices_IndexFunc_Txn_InOf_1_l⟩
  cases hk

def G26 : Glob := G25.add 160 slices_IndexFunc_Txn_g

theorem G26_ok : GlobOk Try.prog G26 := G25_ok.add ⟨Try.f160, Try.func160, by kernel_rfl, by kernel_rfl⟩ slices_IndexFunc_Txn_c

/-! ### slices.ContainsFunc[[]loop.example/g00327/impl.Txn,loop.example/g00327/impl.Txn] -/

def slices_ContainsFunc_Txn_InOf_1_loops : Nat → Option LoopSpec
  | _ => none

theorem slices_ContainsFunc_Txn_InOf_1_x (a0 : (List dTxn)) (a1 : Int) (a2 : Int) (a3 : Int) (a4 : Int) (a5 : (List dRange)) (a6 : (List dWrite)) (a7 : Bool) (a8 : ByteArray) : execFn G26 slices_ContainsFunc_Txn_InOf_1_loops Try.f140 [.lst tTxn a0, .fn 119 [.bp 0 0]] [.box [.int .i64 a1, .int .i64 a2, .int .i64 a3, .int .i64 a4, .lst tRange a5, .lst tWrite a6, .bool a7, .str a8]] = slices_ContainsFunc_Txn_InOf_1_d a0 a1 a2 a3 a4 a5 a6 a7 a8 (fun (y : (Bool × Int × Int × Int × Int × (List dRange) × (List dWrite) × Bool × ByteArray)) => some ⟨.ret, [.bool y.1], [.box [.int .i64 y.2.1, .int .i64 y.2.2.1, .int .i64 y.2.2.2.1, .int .i64 y.2.2.2.2.1, .lst tRange y.2.2.2.2.2.1, .lst tWrite y.2.2.2.2.2.2.1, .bool y.2.2.2.2.2.2.2.1, .str y.2.2.2.2.2.2.2.2]]⟩) := by kernel_rfl

theorem slices_ContainsFunc_Txn_InOf_1_y (a0 : (List dTxn)) (a1 : Int) (a2 : Int) (a3 : Int) (a4 : Int) (a5 : (List dRange)) (a6 : (List dWrite)) (a7 : Bool) (a8 : ByteArray) : execFn G26 slices_ContainsFunc_Txn_InOf_1_loops Try.f140 [.lst tTxn a0, .fn 119 [.bp 0 0]] [.box [.int .i64 a1, .int .i64 a2, .int .i64 a3, .int .i64 a4, .lst tRange a5, .lst tWrite a6, .bool a7, .str a8]] = slices_ContainsFunc_Txn_InOf_1_k a0 a1 a2 a3 a4 a5 a6 a7 a8 (fun (y : (Bool × Int × Int × Int × Int × (List dRange) × (List dWrite) × Bool × ByteArray)) => some ⟨.ret, [.bool y.1], [.box [.int .i64 y.2.1, .int .i64 y.2.2.1, .int .i64 y.2.2.2.1, .int .i64 y.2.2.2.2.1, .lst tRange y.2.2.2.2.2.1, .lst tWrite y.2.2.2.2.2.2.1, .bool y.2.2.2.2.2.2.2.1, .str y.2.2.2.2.2.2.2.2]]⟩) := (slices_ContainsFunc_Txn_InOf_1_x a0 a1 a2 a3 a4 a5 a6 a7 a8).trans (by rw [slices_ContainsFunc_Txn_InOf_1_e])

theorem slices_ContainsFunc_Txn_InOf_1_l : LoopsOk G26 ⟨1, 9, slices_ContainsFunc_Txn_InOf_1_loops⟩ (Try.f140.body.getD .skip) :=
  loopsOk_of (ids := []) (by kernel_rfl) (by kernel_rfl) trivial

theorem slices_ContainsFunc_Txn_c : Contract Try.prog 140 slices_ContainsFunc_Txn_g := by
  refine told G26_ok follows Try.func140 (c := Try.f140.body.getD .skip) (by kernel_rfl) ?_
  intro args s k r hk
  unfold slices_ContainsFunc_Txn_g at hk
  rcases onPats_inv hk with ⟨p, q, rfl, rfl⟩ | hk
  · exact ⟨slices_ContainsFunc_Txn_InOf_1_loops, slices_ContainsFunc_Txn_InOf_1_q p.1 q.1.1 q.1.2.1 q.1.2.2.1 q.1.2.2.2.1 q.1.2.2.2.2.1 q.1.2.2.2.2.2.1 q.1.2.2.2.2.2.2.1 q.1.2.2.2.2.2.2.2.1, slices_ContainsFunc_Txn_InOf_1_y p.1 q.1.1 q.1.2.1 q.1.2.2.1 q.1.2.2.2.1 q.1.2.2.2.2.1 q.1.2.2.2.2.2.1 q.1.2.2.2.2.2.2.1 q.1.2.2.2.2.2.2.2.1, slices_ContainsFunc_Txn_InOf_1_l⟩
  cases hk

def G27 : Glob := G26.add 140 slices_ContainsFunc_Txn_g

theorem G27_ok : GlobOk Try.prog G27 := G26_ok.add ⟨Try.f140, Try.func140, by kernel_rfl, by kernel_rfl⟩ slices_ContainsFunc_Txn_c

/-! ### loop.example/g00327/impl.some -/

def impl_some_InOf_1_loops : Nat → Option LoopSpec
  | _ => none

theorem impl_some_InOf_1_x (a0 : (List dTxn)) (a1 : Int) (a2 : Int) (a3 : Int) (a4 : Int) (a5 : (List dRange)) (a6 : (List dWrite)) (a7 : Bool) (a8 : ByteArray) : execFn G27 impl_some_InOf_1_loops Try.f92 [.lst tTxn a0, .fn 119 [.bp 0 0]] [.box [.int .i64 a1, .int .i64 a2, .int .i64 a3, .int .i64 a4, .lst tRange a5, .lst tWrite a6, .bool a7, .str a8]] = impl_some_InOf_1_d a0 a1 a2 a3 a4 a5 a6 a7 a8 (fun (y : (Bool × Int × Int × Int × Int × (List dRange) × (List dWrite) × Bool × ByteArray)) => some ⟨.ret, [.bool y.1], [.box [.int .i64 y.2.1, .int .i64 y.2.2.1, .int .i64 y.2.2.2.1, .int .i64 y.2.2.2.2.1, .lst tRange y.2.2.2.2.2.1, .lst tWrite y.2.2.2.2.2.2.1, .bool y.2.2.2.2.2.2.2.1, .str y.2.2.2.2.2.2.2.2]]⟩) := by kernel_rfl

theorem impl_some_InOf_1_y (a0 : (List dTxn)) (a1 : Int) (a2 : Int) (a3 : Int) (a4 : Int) (a5 : (List dRange)) (a6 : (List dWrite)) (a7 : Bool) (a8 : ByteArray) : execFn G27 impl_some_InOf_1_loops Try.f92 [.lst tTxn a0, .fn 119 [.bp 0 0]] [.box [.int .i64 a1, .int .i64 a2, .int .i64 a3, .int .i64 a4, .lst tRange a5, .lst tWrite a6, .bool a7, .str a8]] = impl_some_InOf_1_k a0 a1 a2 a3 a4 a5 a6 a7 a8 (fun (y : (Bool × Int × Int × Int × Int × (List dRange) × (List dWrite) × Bool × ByteArray)) => some ⟨.ret, [.bool y.1], [.box [.int .i64 y.2.1, .int .i64 y.2.2.1, .int .i64 y.2.2.2.1, .int .i64 y.2.2.2.2.1, .lst tRange y.2.2.2.2.2.1, .lst tWrite y.2.2.2.2.2.2.1, .bool y.2.2.2.2.2.2.2.1, .str y.2.2.2.2.2.2.2.2]]⟩) := (impl_some_InOf_1_x a0 a1 a2 a3 a4 a5 a6 a7 a8).trans (by rw [impl_some_InOf_1_e])

theorem impl_some_InOf_1_l : LoopsOk G27 ⟨1, 8, impl_some_InOf_1_loops⟩ (Try.f92.body.getD .skip) :=
  loopsOk_of (ids := []) (by kernel_rfl) (by kernel_rfl) trivial

theorem impl_some_c : Contract Try.prog 92 impl_some_g := by
  refine told G27_ok follows Try.func92 (c := Try.f92.body.getD .skip) (by kernel_rfl) ?_
  intro args s k r hk
  unfold impl_some_g at hk
  rcases onPats_inv hk with ⟨p, q, rfl, rfl⟩ | hk
  · exact ⟨impl_some_InOf_1_loops, impl_some_InOf_1_q p.1 q.1.1 q.1.2.1 q.1.2.2.1 q.1.2.2.2.1 q.1.2.2.2.2.1 q.1.2.2.2.2.2.1 q.1.2.2.2.2.2.2.1 q.1.2.2.2.2.2.2.2.1, impl_some_InOf_1_y p.1 q.1.1 q.1.2.1 q.1.2.2.1 q.1.2.2.2.1 q.1.2.2.2.2.1 q.1.2.2.2.2.2.1 q.1.2.2.2.2.2.2.1 q.1.2.2.2.2.2.2.2.1, impl_some_InOf_1_l⟩
  cases hk

def G28 : Glob := G27.add 92 impl_some_g

theorem G28_ok : GlobOk Try.prog G28 := G27_ok.add ⟨Try.f92, Try.func92, by kernel_rfl, by kernel_rfl⟩ impl_some_c

/-! ### loop.example/g00327/impl.InOf -/

def impl_InOf_loops : Nat → Option LoopSpec
  | _ => none

theorem impl_InOf_x (a0 : Int) (a1 : Int) (a2 : Int) (a3 : Int) (a4 : (List dRange)) (a5 : (List dWrite)) (a6 : Bool) (a7 : ByteArray) (a8 : (List dTxn)) : execFn G28 impl_InOf_loops Try.f51 [.agg [.int .i64 a0, .int .i64 a1, .int .i64 a2, .int .i64 a3, .lst tRange a4, .lst tWrite a5, .bool a6, .str a7], .lst tTxn a8] [] = impl_InOf_d (a0, (a1, (a2, (a3, (a4, (a5, (a6, a7))))))) a8 (fun (y : Bool) => some ⟨.ret, [.bool y], []⟩) := by kernel_rfl

theorem impl_InOf_y (a0 : Int) (a1 : Int) (a2 : Int) (a3 : Int) (a4 : (List dRange)) (a5 : (List dWrite)) (a6 : Bool) (a7 : ByteArray) (a8 : (List dTxn)) : execFn G28 impl_InOf_loops Try.f51 [.agg [.int .i64 a0, .int .i64 a1, .int .i64 a2, .int .i64 a3, .lst tRange a4, .lst tWrite a5, .bool a6, .str a7], .lst tTxn a8] [] = impl_InOf_k (a0, (a1, (a2, (a3, (a4, (a5, (a6, a7))))))) a8 (fun (y : Bool) => some ⟨.ret, [.bool y], []⟩) := (impl_InOf_x a0 a1 a2 a3 a4 a5 a6 a7 a8).trans (by rw [impl_InOf_e])

theorem impl_InOf_l : LoopsOk G28 ⟨0, 8, impl_InOf_loops⟩ (Try.f51.body.getD .skip) :=
  loopsOk_of (ids := []) (by kernel_rfl) (by kernel_rfl) trivial

theorem impl_InOf_c : Contract Try.prog 51 impl_InOf_g := by
  refine told G28_ok follows Try.func51 (c := Try.f51.body.getD .skip) (by kernel_rfl) ?_
  intro args s k r hk
  unfold impl_InOf_g at hk
  rcases onPats_inv hk with ⟨p, q, rfl, rfl⟩ | hk
  · exact ⟨impl_InOf_loops, impl_InOf_q p.1.1 p.1.2.1 p.1.2.2.1 p.1.2.2.2.1 p.1.2.2.2.2.1 p.1.2.2.2.2.2.1 p.1.2.2.2.2.2.2.1 p.1.2.2.2.2.2.2.2.1 p.2.1, impl_InOf_y p.1.1 p.1.2.1 p.1.2.2.1 p.1.2.2.2.1 p.1.2.2.2.2.1 p.1.2.2.2.2.2.1 p.1.2.2.2.2.2.2.1 p.1.2.2.2.2.2.2.2.1 p.2.1, impl_InOf_l⟩
  cases hk

def G29 : Glob := G28.add 51 impl_InOf_g

theorem G29_ok : GlobOk Try.prog G29 := G28_ok.add ⟨Try.f51, Try.func51, by kernel_rfl, by kernel_rfl⟩ impl_InOf_c

/-! ### loop.example/g00327/laws.eqRange -/

def laws_eqRange_loops : Nat → Option LoopSpec
  | _ => none

theorem laws_eqRange_x (a0 : ByteArray) (a1 : ByteArray) (a2 : ByteArray) (a3 : ByteArray) : execFn G29 laws_eqRange_loops Try.f132 [.agg [.str a0, .str a1], .agg [.str a2, .str a3]] [] = laws_eqRange_d (a0, a1) (a2, a3) (fun (y : Bool) => some ⟨.ret, [.bool y], []⟩) := by kernel_rfl

theorem laws_eqRange_y (a0 : ByteArray) (a1 : ByteArray) (a2 : ByteArray) (a3 : ByteArray) : execFn G29 laws_eqRange_loops Try.f132 [.agg [.str a0, .str a1], .agg [.str a2, .str a3]] [] = laws_eqRange_k (a0, a1) (a2, a3) (fun (y : Bool) => some ⟨.ret, [.bool y], []⟩) := (laws_eqRange_x a0 a1 a2 a3).trans (by rw [laws_eqRange_e])

theorem laws_eqRange_l : LoopsOk G29 ⟨0, 15, laws_eqRange_loops⟩ (Try.f132.body.getD .skip) :=
  loopsOk_of (ids := []) (by kernel_rfl) (by kernel_rfl) trivial

theorem laws_eqRange_c : Contract Try.prog 132 laws_eqRange_g := by
  refine told G29_ok follows Try.func132 (c := Try.f132.body.getD .skip) (by kernel_rfl) ?_
  intro args s k r hk
  unfold laws_eqRange_g at hk
  rcases onPats_inv hk with ⟨p, q, rfl, rfl⟩ | hk
  · exact ⟨laws_eqRange_loops, laws_eqRange_q p.1.1 p.1.2.1 p.2.1.1 p.2.1.2.1, laws_eqRange_y p.1.1 p.1.2.1 p.2.1.1 p.2.1.2.1, laws_eqRange_l⟩
  cases hk

def G30 : Glob := G29.add 132 laws_eqRange_g

theorem G30_ok : GlobOk Try.prog G30 := G29_ok.add ⟨Try.f132, Try.func132, by kernel_rfl, by kernel_rfl⟩ laws_eqRange_c

/-! ### loop.example/g00327/laws.eqRangeS -/

def laws_eqRangeS_loops : Nat → Option LoopSpec
  | 0 => some ⟨[0, 1, 4, 5], [], fun vals st k => onPats [.lst tRange, .lst tRange, .bool, .int .i64] [] vals st (fun p q => loopK laws_eqRangeS_b0 Fuel (p.1, p.2.1, p.2.2.1, p.2.2.2.1) (Sum.elim (fun z => k .ret [.lst tRange z.1, .lst tRange z.2.1, .bool z.2.2.1, .int .i64 z.2.2.2] []) (fun z => k (.exit 0) [.lst tRange z.1, .lst tRange z.2.1, .bool z.2.2.1, .int .i64 z.2.2.2] [])))
      (none)⟩
  | _ => none

def laws_eqRangeS_v0 : ((List dRange) × (List dRange) × Bool × Int) → List AV := (fun x => [.lst tRange x.1, .lst tRange x.2.1, .bool x.2.2.1, .int .i64 x.2.2.2])
def laws_eqRangeS_s0 : ((List dRange) × (List dRange) × Bool × Int) → St := (fun x => [])
def laws_eqRangeS_e0 : (((List dRange) × (List dRange) × Bool × Int) ⊕ ((List dRange) × (List dRange) × Bool × Int)) → Out × List AV × St := (Sum.elim (fun z => (.ret, [.lst tRange z.1, .lst tRange z.2.1, .bool z.2.2.1, .int .i64 z.2.2.2], [])) (fun z => ((.exit 0), [.lst tRange z.1, .lst tRange z.2.1, .bool z.2.2.1, .int .i64 z.2.2.2], [])))

theorem laws_eqRangeS_bx0 (x : ((List dRange) × (List dRange) × Bool × Int)) : exec G30 ⟨0, 27, laws_eqRangeS_loops⟩ (loopBody Try.f76 0) (bodyK ⟨0, 27, laws_eqRangeS_loops⟩ [0, 1, 4, 5] []) (setEs (deads 27) [0, 1, 4, 5] (laws_eqRangeS_v0 x)) (laws_eqRangeS_s0 x) = laws_eqRangeS_b0 x (Sum.elim (fun y => some ⟨.norm, laws_eqRangeS_v0 y, laws_eqRangeS_s0 y⟩) fun z => some ⟨(laws_eqRangeS_e0 z).1, (laws_eqRangeS_e0 z).2.1, (laws_eqRangeS_e0 z).2.2⟩) := by
  kernel_rfl

theorem laws_eqRangeS_lo0 : ∀ sp, (laws_eqRangeS_loops 0) = some sp → LoopOk G30 ⟨0, 27, laws_eqRangeS_loops⟩ sp (loopBody Try.f76 0) := by
  intro sp hsp vals st k r h
  cases hsp
  dsimp only at h
  rcases onPats_inv2 h with ⟨p, q, rfl, rfl, h⟩ | h
  · exact loop_runs2 laws_eqRangeS_bp0 laws_eqRangeS_v0 laws_eqRangeS_s0 laws_eqRangeS_e0 (fun z => by rcases z with z | z <;> (intro h; cases h)) laws_eqRangeS_bx0 Fuel (p.1, p.2.1, p.2.2.1, p.2.2.2.1) _ k r (fun z => by rcases z with z | z <;> rfl) h
  cases h

theorem laws_eqRangeS_x (a0 : (List dRange)) (a1 : (List dRange)) : execFn G30 laws_eqRangeS_loops Try.f76 [.lst tRange a0, .lst tRange a1] [] = laws_eqRangeS_d a0 a1 (fun (y : Bool) => some ⟨.ret, [.bool y], []⟩) := by kernel_rfl

theorem laws_eqRangeS_y (a0 : (List dRange)) (a1 : (List dRange)) : execFn G30 laws_eqRangeS_loops Try.f76 [.lst tRange a0, .lst tRange a1] [] = laws_eqRangeS_k a0 a1 (fun (y : Bool) => some ⟨.ret, [.bool y], []⟩) := (laws_eqRangeS_x a0 a1).trans (by rw [laws_eqRangeS_e])

theorem laws_eqRangeS_l : LoopsOk G30 ⟨0, 27, laws_eqRangeS_loops⟩ (Try.f76.body.getD .skip) :=
  loopsOk_of (ids := [0]) (by kernel_rfl) (by kernel_rfl) ⟨laws_eqRangeS_lo0, trivial⟩

theorem laws_eqRangeS_c : Contract Try.prog 76 laws_eqRangeS_g := by
  refine told G30_ok follows Try.func76 (c := Try.f76.body.getD .skip) (by kernel_rfl) ?_
  intro args s k r hk
  unfold laws_eqRangeS_g at hk
  rcases onPats_inv hk with ⟨p, q, rfl, rfl⟩ | hk
  · exact ⟨laws_eqRangeS_loops, laws_eqRangeS_q p.1 p.2.1, laws_eqRangeS_y p.1 p.2.1, laws_eqRangeS_l⟩
  cases hk

def G31 : Glob := G30.add 76 laws_eqRangeS_g

theorem G31_ok : GlobOk Try.prog G31 := G30_ok.add ⟨Try.f76, Try.func76, by kernel_rfl, by kernel_rfl⟩ laws_eqRangeS_c

/-! ### loop.example/g00327/laws.eqWrite -/

def laws_eqWrite_loops : Nat → Option LoopSpec
  | _ => none

theorem laws_eqWrite_x (a0 : ByteArray) (a1 : ByteArray) (a2 : Bool) (a3 : ByteArray) (a4 : ByteArray) (a5 : Bool) : execFn G31 laws_eqWrite_loops Try.f133 [.agg [.str a0, .str a1, .bool a2], .agg [.str a3, .str a4, .bool a5]] [] = laws_eqWrite_d (a0, (a1, a2)) (a3, (a4, a5)) (fun (y : Bool) => some ⟨.ret, [.bool y], []⟩) := by kernel_rfl

theorem laws_eqWrite_y (a0 : ByteArray) (a1 : ByteArray) (a2 : Bool) (a3 : ByteArray) (a4 : ByteArray) (a5 : Bool) : execFn G31 laws_eqWrite_loops Try.f133 [.agg [.str a0, .str a1, .bool a2], .agg [.str a3, .str a4, .bool a5]] [] = laws_eqWrite_k (a0, (a1, a2)) (a3, (a4, a5)) (fun (y : Bool) => some ⟨.ret, [.bool y], []⟩) := (laws_eqWrite_x a0 a1 a2 a3 a4 a5).trans (by rw [laws_eqWrite_e])

theorem laws_eqWrite_l : LoopsOk G31 ⟨0, 20, laws_eqWrite_loops⟩ (Try.f133.body.getD .skip) :=
  loopsOk_of (ids := []) (by kernel_rfl) (by kernel_rfl) trivial

theorem laws_eqWrite_c : Contract Try.prog 133 laws_eqWrite_g := by
  refine told G31_ok follows Try.func133 (c := Try.f133.body.getD .skip) (by kernel_rfl) ?_
  intro args s k r hk
  unfold laws_eqWrite_g at hk
  rcases onPats_inv hk with ⟨p, q, rfl, rfl⟩ | hk
  · exact ⟨laws_eqWrite_loops, laws_eqWrite_q p.1.1 p.1.2.1 p.1.2.2.1 p.2.1.1 p.2.1.2.1 p.2.1.2.2.1, laws_eqWrite_y p.1.1 p.1.2.1 p.1.2.2.1 p.2.1.1 p.2.1.2.1 p.2.1.2.2.1, laws_eqWrite_l⟩
  cases hk

def G32 : Glob := G31.add 133 laws_eqWrite_g

theorem G32_ok : GlobOk Try.prog G32 := G31_ok.add ⟨Try.f133, Try.func133, by kernel_rfl, by kernel_rfl⟩ laws_eqWrite_c

/-! ### loop.example/g00327/laws.eqWriteS -/

def laws_eqWriteS_loops : Nat → Option LoopSpec
  | 0 => some ⟨[0, 1, 4, 5], [], fun vals st k => onPats [.lst tWrite, .lst tWrite, .bool, .int .i64] [] vals st (fun p q => loopK laws_eqWriteS_b0 Fuel (p.1, p.2.1, p.2.2.1, p.2.2.2.1) (Sum.elim (fun z => k .ret [.lst tWrite z.1, .lst tWrite z.2.1, .bool z.2.2.1, .int .i64 z.2.2.2] []) (fun z => k (.exit 0) [.lst tWrite z.1, .lst tWrite z.2.1, .bool z.2.2.1, .int .i64 z.2.2.2] [])))
      (none)⟩
  | _ => none

def laws_eqWriteS_v0 : ((List dWrite) × (List dWrite) × Bool × Int) → List AV := (fun x => [.lst tWrite x.1, .lst tWrite x.2.1, .bool x.2.2.1, .int .i64 x.2.2.2])
def laws_eqWriteS_s0 : ((List dWrite) × (List dWrite) × Bool × Int) → St := (fun x => [])
def laws_eqWriteS_e0 : (((List dWrite) × (List dWrite) × Bool × Int) ⊕ ((List dWrite) × (List dWrite) × Bool × Int)) → Out × List AV × St := (Sum.elim (fun z => (.ret, [.lst tWrite z.1, .lst tWrite z.2.1, .bool z.2.2.1, .int .i64 z.2.2.2], [])) (fun z => ((.exit 0), [.lst tWrite z.1, .lst tWrite z.2.1, .bool z.2.2.1, .int .i64 z.2.2.2], [])))

theorem laws_eqWriteS_bx0 (x : ((List dWrite) × (List dWrite) × Bool × Int)) : exec G32 ⟨0, 27, laws_eqWriteS_loops⟩ (loopBody Try.f77 0) (bodyK ⟨0, 27, laws_eqWriteS_loops⟩ [0, 1, 4, 5] []) (setEs (deads 27) [0, 1, 4, 5] (laws_eqWriteS_v0 x)) (laws_eqWriteS_s0 x) = laws_eqWriteS_b0 x (Sum.elim (fun y => some ⟨.norm, laws_eqWriteS_v0 y, laws_eqWriteS_s0 y⟩) fun z => some ⟨(laws_eqWriteS_e0 z).1, (laws_eqWriteS_e0 z).2.1, (laws_eqWriteS_e0 z).2.2⟩) := by
  kernel_rfl

theorem laws_eqWriteS_lo0 : ∀ sp, (laws_eqWriteS_loops 0) = some sp → LoopOk G32 ⟨0, 27, laws_eqWriteS_loops⟩ sp (loopBody Try.f77 0) := by
  intro sp hsp vals st k r h
  cases hsp
  dsimp only at h
  rcases onPats_inv2 h with ⟨p, q, rfl, rfl, h⟩ | h
  · exact loop_runs2 laws_eqWriteS_bp0 laws_eqWriteS_v0 laws_eqWriteS_s0 laws_eqWriteS_e0 (fun z => by rcases z with z | z <;> (intro h; cases h)) laws_eqWriteS_bx0 Fuel (p.1, p.2.1, p.2.2.1, p.2.2.2.1) _ k r (fun z => by rcases z with z | z <;> rfl) h
  cases h

theorem laws_eqWriteS_x (a0 : (List dWrite)) (a1 : (List dWrite)) : execFn G32 laws_eqWriteS_loops Try.f77 [.lst tWrite a0, .lst tWrite a1] [] = laws_eqWriteS_d a0 a1 (fun (y : Bool) => some ⟨.ret, [.bool y], []⟩) := by kernel_rfl

theorem laws_eqWriteS_y (a0 : (List dWrite)) (a1 : (List dWrite)) : execFn G32 laws_eqWriteS_loops Try.f77 [.lst tWrite a0, .lst tWrite a1] [] = laws_eqWriteS_k a0 a1 (fun (y : Bool) => some ⟨.ret, [.bool y], []⟩) := (laws_eqWriteS_x a0 a1).trans (by rw [laws_eqWriteS_e])

theorem laws_eqWriteS_l : LoopsOk G32 ⟨0, 27, laws_eqWriteS_loops⟩ (Try.f77.body.getD .skip) :=
  loopsOk_of (ids := [0]) (by kernel_rfl) (by kernel_rfl) ⟨laws_eqWriteS_lo0, trivial⟩

theorem laws_eqWriteS_c : Contract Try.prog 77 laws_eqWriteS_g := by
  refine told G32_ok follows Try.func77 (c := Try.f77.body.getD .skip) (by kernel_rfl) ?_
  intro args s k r hk
  unfold laws_eqWriteS_g at hk
  rcases onPats_inv hk with ⟨p, q, rfl, rfl⟩ | hk
  · exact ⟨laws_eqWriteS_loops, laws_eqWriteS_q p.1 p.2.1, laws_eqWriteS_y p.1 p.2.1, laws_eqWriteS_l⟩
  cases hk

def G33 : Glob := G32.add 77 laws_eqWriteS_g

theorem G33_ok : GlobOk Try.prog G33 := G32_ok.add ⟨Try.f77, Try.func77, by kernel_rfl, by kernel_rfl⟩ laws_eqWriteS_c

/-! ### loop.example/g00327/laws.eqTxn -/

def laws_eqTxn_loops : Nat → Option LoopSpec
  | _ => none

theorem laws_eqTxn_x (a0 : Int) (a1 : Int) (a2 : Int) (a3 : Int) (a4 : (List dRange)) (a5 : (List dWrite)) (a6 : Bool) (a7 : ByteArray) (a8 : Int) (a9 : Int) (a10 : Int) (a11 : Int) (a12 : (List dRange)) (a13 : (List dWrite)) (a14 : Bool) (a15 : ByteArray) : execFn G33 laws_eqTxn_loops Try.f19 [.agg [.int .i64 a0, .int .i64 a1, .int .i64 a2, .int .i64 a3, .lst tRange a4, .lst tWrite a5, .bool a6, .str a7], .agg [.int .i64 a8, .int .i64 a9, .int .i64 a10, .int .i64 a11, .lst tRange a12, .lst tWrite a13, .bool a14, .str a15]] [] = laws_eqTxn_d (a0, (a1, (a2, (a3, (a4, (a5, (a6, a7))))))) (a8, (a9, (a10, (a11, (a12, (a13, (a14, a15))))))) (fun (y : Bool) => some ⟨.ret, [.bool y], []⟩) := by kernel_rfl

theorem laws_eqTxn_y (a0 : Int) (a1 : Int) (a2 : Int) (a3 : Int) (a4 : (List dRange)) (a5 : (List dWrite)) (a6 : Bool) (a7 : ByteArray) (a8 : Int) (a9 : Int) (a10 : Int) (a11 : Int) (a12 : (List dRange)) (a13 : (List dWrite)) (a14 : Bool) (a15 : ByteArray) : execFn G33 laws_eqTxn_loops Try.f19 [.agg [.int .i64 a0, .int .i64 a1, .int .i64 a2, .int .i64 a3, .lst tRange a4, .lst tWrite a5, .bool a6, .str a7], .agg [.int .i64 a8, .int .i64 a9, .int .i64 a10, .int .i64 a11, .lst tRange a12, .lst tWrite a13, .bool a14, .str a15]] [] = laws_eqTxn_k (a0, (a1, (a2, (a3, (a4, (a5, (a6, a7))))))) (a8, (a9, (a10, (a11, (a12, (a13, (a14, a15))))))) (fun (y : Bool) => some ⟨.ret, [.bool y], []⟩) := (laws_eqTxn_x a0 a1 a2 a3 a4 a5 a6 a7 a8 a9 a10 a11 a12 a13 a14 a15).trans (by rw [laws_eqTxn_e])

theorem laws_eqTxn_l : LoopsOk G33 ⟨0, 47, laws_eqTxn_loops⟩ (Try.f19.body.getD .skip) :=
  loopsOk_of (ids := []) (by kernel_rfl) (by kernel_rfl) trivial

theorem laws_eqTxn_c : Contract Try.prog 19 laws_eqTxn_g := by
  refine told G33_ok follows Try.func19 (c := Try.f19.body.getD .skip) (by kernel_rfl) ?_
  intro args s k r hk
  unfold laws_eqTxn_g at hk
  rcases onPats_inv hk with ⟨p, q, rfl, rfl⟩ | hk
  · exact ⟨laws_eqTxn_loops, laws_eqTxn_q p.1.1 p.1.2.1 p.1.2.2.1 p.1.2.2.2.1 p.1.2.2.2.2.1 p.1.2.2.2.2.2.1 p.1.2.2.2.2.2.2.1 p.1.2.2.2.2.2.2.2.1 p.2.1.1 p.2.1.2.1 p.2.1.2.2.1 p.2.1.2.2.2.1 p.2.1.2.2.2.2.1 p.2.1.2.2.2.2.2.1 p.2.1.2.2.2.2.2.2.1 p.2.1.2.2.2.2.2.2.2.1, laws_eqTxn_y p.1.1 p.1.2.1 p.1.2.2.1 p.1.2.2.2.1 p.1.2.2.2.2.1 p.1.2.2.2.2.2.1 p.1.2.2.2.2.2.2.1 p.1.2.2.2.2.2.2.2.1 p.2.1.1 p.2.1.2.1 p.2.1.2.2.1 p.2.1.2.2.2.1 p.2.1.2.2.2.2.1 p.2.1.2.2.2.2.2.1 p.2.1.2.2.2.2.2.2.1 p.2.1.2.2.2.2.2.2.2.1, laws_eqTxn_l⟩
  cases hk

def G34 : Glob := G33.add 19 laws_eqTxn_g

theorem G34_ok : GlobOk Try.prog G34 := G33_ok.add ⟨Try.f19, Try.func19, by kernel_rfl, by kernel_rfl⟩ laws_eqTxn_c

/-! ### loop.example/g00327/laws.eqTxnS -/

def laws_eqTxnS_loops : Nat → Option LoopSpec
  | 0 => some ⟨[0, 1, 4, 5], [], fun vals st k => onPats [.lst tTxn, .lst tTxn, .bool, .int .i64] [] vals st (fun p q => loopK laws_eqTxnS_b0 Fuel (p.1, p.2.1, p.2.2.1, p.2.2.2.1) (Sum.elim (fun z => k .ret [.lst tTxn z.1, .lst tTxn z.2.1, .bool z.2.2.1, .int .i64 z.2.2.2] []) (fun z => k (.exit 0) [.lst tTxn z.1, .lst tTxn z.2.1, .bool z.2.2.1, .int .i64 z.2.2.2] [])))
      (none)⟩
  | _ => none

def laws_eqTxnS_v0 : ((List dTxn) × (List dTxn) × Bool × Int) → List AV := (fun x => [.lst tTxn x.1, .lst tTxn x.2.1, .bool x.2.2.1, .int .i64 x.2.2.2])
def laws_eqTxnS_s0 : ((List dTxn) × (List dTxn) × Bool × Int) → St := (fun x => [])
def laws_eqTxnS_e0 : (((List dTxn) × (List dTxn) × Bool × Int) ⊕ ((List dTxn) × (List dTxn) × Bool × Int)) → Out × List AV × St := (Sum.elim (fun z => (.ret, [.lst tTxn z.1, .lst tTxn z.2.1, .bool z.2.2.1, .int .i64 z.2.2.2], [])) (fun z => ((.exit 0), [.lst tTxn z.1, .lst tTxn z.2.1, .bool z.2.2.1, .int .i64 z.2.2.2], [])))

theorem laws_eqTxnS_bx0 (x : ((List dTxn) × (List dTxn) × Bool × Int)) : exec G34 ⟨0, 27, laws_eqTxnS_loops⟩ (loopBody Try.f32 0) (bodyK ⟨0, 27, laws_eqTxnS_loops⟩ [0, 1, 4, 5] []) (setEs (deads 27) [0, 1, 4, 5] (laws_eqTxnS_v0 x)) (laws_eqTxnS_s0 x) = laws_eqTxnS_b0 x (Sum.elim (fun y => some ⟨.norm, laws_eqTxnS_v0 y, laws_eqTxnS_s0 y⟩) fun z => some ⟨(laws_eqTxnS_e0 z).1, (laws_eqTxnS_e0 z).2.1, (laws_eqTxnS_e0 z).2.2⟩) := by
  kernel_rfl

theorem laws_eqTxnS_lo0 : ∀ sp, (laws_eqTxnS_loops 0) = some sp → LoopOk G34 ⟨0, 27, laws_eqTxnS_loops⟩ sp (loopBody Try.f32 0) := by
  intro sp hsp vals st k r h
  cases hsp
  dsimp only at h
  rcases onPats_inv2 h with ⟨p, q, rfl, rfl, h⟩ | h
  · exact loop_runs2 laws_eqTxnS_bp0 laws_eqTxnS_v0 laws_eqTxnS_s0 laws_eqTxnS_e0 (fun z => by rcases z with z | z <;> (intro h; cases h)) laws_eqTxnS_bx0 Fuel (p.1, p.2.1, p.2.2.1, p.2.2.2.1) _ k r (fun z => by rcases z with z | z <;> rfl) h
  cases h

theorem laws_eqTxnS_x (a0 : (List dTxn)) (a1 : (List dTxn)) : execFn G34 laws_eqTxnS_loops Try.f32 [.lst tTxn a0, .lst tTxn a1] [] = laws_eqTxnS_d a0 a1 (fun (y : Bool) => some ⟨.ret, [.bool y], []⟩) := by kernel_rfl

theorem laws_eqTxnS_y (a0 : (List dTxn)) (a1 : (List dTxn)) : execFn G34 laws_eqTxnS_loops Try.f32 [.lst tTxn a0, .lst tTxn a1] [] = laws_eqTxnS_k a0 a1 (fun (y : Bool) => some ⟨.ret, [.bool y], []⟩) := (laws_eqTxnS_x a0 a1).trans (by rw [laws_eqTxnS_e])

theorem laws_eqTxnS_l : LoopsOk G34 ⟨0, 27, laws_eqTxnS_loops⟩ (Try.f32.body.getD .skip) :=
  loopsOk_of (ids := [0]) (by kernel_rfl) (by kernel_rfl) ⟨laws_eqTxnS_lo0, trivial⟩

theorem laws_eqTxnS_c : Contract Try.prog 32 laws_eqTxnS_g := by
  refine told G34_ok follows Try.func32 (c := Try.f32.body.getD .skip) (by kernel_rfl) ?_
  intro args s k r hk
  unfold laws_eqTxnS_g at hk
  rcases onPats_inv hk with ⟨p, q, rfl, rfl⟩ | hk
  · exact ⟨laws_eqTxnS_loops, laws_eqTxnS_q p.1 p.2.1, laws_eqTxnS_y p.1 p.2.1, laws_eqTxnS_l⟩
  cases hk

def G35 : Glob := G34.add 32 laws_eqTxnS_g

theorem G35_ok : GlobOk Try.prog G35 := G34_ok.add ⟨Try.f32, Try.func32, by kernel_rfl, by kernel_rfl⟩ laws_eqTxnS_c

/-! ### loop.example/g00327/laws.FnExactInOf -/

def laws_FnExactInOf_loops : Nat → Option LoopSpec
  | _ => none

theorem laws_FnExactInOf_x (a0 : Int) (a1 : Int) (a2 : Int) (a3 : Int) (a4 : (List dRange)) (a5 : (List dWrite)) (a6 : Bool) (a7 : ByteArray) (a8 : (List dTxn)) : execFn G35 laws_FnExactInOf_loops Try.f10 [.agg [.int .i64 a0, .int .i64 a1, .int .i64 a2, .int .i64 a3, .lst tRange a4, .lst tWrite a5, .bool a6, .str a7], .lst tTxn a8] [] = laws_FnExactInOf_d (a0, (a1, (a2, (a3, (a4, (a5, (a6, a7))))))) a8 (fun (y : Bool) => some ⟨.ret, [.bool y], []⟩) := by kernel_rfl

theorem laws_FnExactInOf_y (a0 : Int) (a1 : Int) (a2 : Int) (a3 : Int) (a4 : (List dRange)) (a5 : (List dWrite)) (a6 : Bool) (a7 : ByteArray) (a8 : (List dTxn)) : execFn G35 laws_FnExactInOf_loops Try.f10 [.agg [.int .i64 a0, .int .i64 a1, .int .i64 a2, .int .i64 a3, .lst tRange a4, .lst tWrite a5, .bool a6, .str a7], .lst tTxn a8] [] = laws_FnExactInOf_k (a0, (a1, (a2, (a3, (a4, (a5, (a6, a7))))))) a8 (fun (y : Bool) => some ⟨.ret, [.bool y], []⟩) := (laws_FnExactInOf_x a0 a1 a2 a3 a4 a5 a6 a7 a8).trans (by rw [laws_FnExactInOf_e])

theorem laws_FnExactInOf_l : LoopsOk G35 ⟨0, 45, laws_FnExactInOf_loops⟩ (Try.f10.body.getD .skip) :=
  loopsOk_of (ids := []) (by kernel_rfl) (by kernel_rfl) trivial

theorem laws_FnExactInOf_c : Contract Try.prog 10 laws_FnExactInOf_g := by
  refine told G35_ok follows Try.func10 (c := Try.f10.body.getD .skip) (by kernel_rfl) ?_
  intro args s k r hk
  unfold laws_FnExactInOf_g at hk
  rcases onPats_inv hk with ⟨p, q, rfl, rfl⟩ | hk
  · exact ⟨laws_FnExactInOf_loops, laws_FnExactInOf_q p.1.1 p.1.2.1 p.1.2.2.1 p.1.2.2.2.1 p.1.2.2.2.2.1 p.1.2.2.2.2.2.1 p.1.2.2.2.2.2.2.1 p.1.2.2.2.2.2.2.2.1 p.2.1, laws_FnExactInOf_y p.1.1 p.1.2.1 p.1.2.2.1 p.1.2.2.2.1 p.1.2.2.2.2.1 p.1.2.2.2.2.2.1 p.1.2.2.2.2.2.2.1 p.1.2.2.2.2.2.2.2.1 p.2.1, laws_FnExactInOf_l⟩
  cases hk

def G36 : Glob := G35.add 10 laws_FnExactInOf_g

theorem G36_ok : GlobOk Try.prog G36 := G35_ok.add ⟨Try.f10, Try.func10, by kernel_rfl, by kernel_rfl⟩ laws_FnExactInOf_c

end

end Go.VE
