/- Each function told by its native program; written by gen.py. -/

import Derived.Test.YtbedbcnmfoildaaReadRangeS0

namespace Go.VE

open Go.Proofs

noncomputable section

set_option linter.unusedVariables false
set_option linter.unusedSimpArgs false
set_option maxRecDepth 100000


/-! ### loop.example/g00327/laws.szRange -/

def laws_szRange_loops : Nat → Option LoopSpec
  | _ => none

theorem laws_szRange_x (a0 : ByteArray) (a1 : ByteArray) (a2 : Int) : execFn G0 laws_szRange_loops Try.f54 [.agg [.str a0, .str a1], .int .i64 a2] [] = laws_szRange_d (a0, a1) a2 (fun (y : Int) => some ⟨.ret, [.int .i64 y], []⟩) := by kernel_rfl

theorem laws_szRange_y (a0 : ByteArray) (a1 : ByteArray) (a2 : Int) : execFn G0 laws_szRange_loops Try.f54 [.agg [.str a0, .str a1], .int .i64 a2] [] = laws_szRange_k (a0, a1) a2 (fun (y : Int) => some ⟨.ret, [.int .i64 y], []⟩) := (laws_szRange_x a0 a1 a2).trans (by rw [laws_szRange_e])

theorem laws_szRange_l : LoopsOk G0 ⟨0, 20, laws_szRange_loops⟩ (Try.f54.body.getD .skip) :=
  loopsOk_of (ids := []) (by kernel_rfl) (by kernel_rfl) trivial

theorem laws_szRange_c : Contract Try.prog 54 laws_szRange_g := by
  refine told G0_ok follows Try.func54 (c := Try.f54.body.getD .skip) (by kernel_rfl) ?_
  intro args s k r hk
  unfold laws_szRange_g at hk
  rcases onPats_inv hk with ⟨p, q, rfl, rfl⟩ | hk
  · exact ⟨laws_szRange_loops, laws_szRange_q p.1.1 p.1.2.1 p.2.1, laws_szRange_y p.1.1 p.1.2.1 p.2.1, laws_szRange_l⟩
  cases hk

def G1 : Glob := G0.add 54 laws_szRange_g

theorem G1_ok : GlobOk Try.prog G1 := G0_ok.add ⟨Try.f54, Try.func54, by kernel_rfl, by kernel_rfl⟩ laws_szRange_c

/-! ### loop.example/g00327/laws.szRangeS -/

def laws_szRangeS_loops : Nat → Option LoopSpec
  | 0 => some ⟨[0, 1, 4, 5], [], fun vals st k => onPats [.lst tRange, .int .i64, .int .i64, .int .i64] [] vals st (fun p q => loopK laws_szRangeS_b0 Fuel (p.1, p.2.1, p.2.2.1, p.2.2.2.1) (Sum.elim (fun z => k .ret [.lst tRange z.1, .int .i64 z.2.1, .int .i64 z.2.2.1, .int .i64 z.2.2.2] []) (fun z => k (.exit 0) [.lst tRange z.1, .int .i64 z.2.1, .int .i64 z.2.2.1, .int .i64 z.2.2.2] [])))
      (none)⟩
  | _ => none

def laws_szRangeS_v0 : ((List dRange) × Int × Int × Int) → List AV := (fun x => [.lst tRange x.1, .int .i64 x.2.1, .int .i64 x.2.2.1, .int .i64 x.2.2.2])
def laws_szRangeS_s0 : ((List dRange) × Int × Int × Int) → St := (fun x => [])
def laws_szRangeS_e0 : (((List dRange) × Int × Int × Int) ⊕ ((List dRange) × Int × Int × Int)) → Out × List AV × St := (Sum.elim (fun z => (.ret, [.lst tRange z.1, .int .i64 z.2.1, .int .i64 z.2.2.1, .int .i64 z.2.2.2], [])) (fun z => ((.exit 0), [.lst tRange z.1, .int .i64 z.2.1, .int .i64 z.2.2.1, .int .i64 z.2.2.2], [])))

theorem laws_szRangeS_bx0 (x : ((List dRange) × Int × Int × Int)) : exec G1 ⟨0, 27, laws_szRangeS_loops⟩ (loopBody Try.f84 0) (bodyK ⟨0, 27, laws_szRangeS_loops⟩ [0, 1, 4, 5] []) (setEs (deads 27) [0, 1, 4, 5] (laws_szRangeS_v0 x)) (laws_szRangeS_s0 x) = laws_szRangeS_b0 x (Sum.elim (fun y => some ⟨.norm, laws_szRangeS_v0 y, laws_szRangeS_s0 y⟩) fun z => some ⟨(laws_szRangeS_e0 z).1, (laws_szRangeS_e0 z).2.1, (laws_szRangeS_e0 z).2.2⟩) := by
  kernel_rfl

theorem laws_szRangeS_lo0 : ∀ sp, (laws_szRangeS_loops 0) = some sp → LoopOk G1 ⟨0, 27, laws_szRangeS_loops⟩ sp (loopBody Try.f84 0) := by
  intro sp hsp vals st k r h
  cases hsp
  dsimp only at h
  rcases onPats_inv2 h with ⟨p, q, rfl, rfl, h⟩ | h
  · exact loop_runs2 laws_szRangeS_bp0 laws_szRangeS_v0 laws_szRangeS_s0 laws_szRangeS_e0 (fun z => by rcases z with z | z <;> (intro h; cases h)) laws_szRangeS_bx0 Fuel (p.1, p.2.1, p.2.2.1, p.2.2.2.1) _ k r (fun z => by rcases z with z | z <;> rfl) h
  cases h

theorem laws_szRangeS_x (a0 : (List dRange)) (a1 : Int) : execFn G1 laws_szRangeS_loops Try.f84 [.lst tRange a0, .int .i64 a1] [] = laws_szRangeS_d a0 a1 (fun (y : Int) => some ⟨.ret, [.int .i64 y], []⟩) := by kernel_rfl

theorem laws_szRangeS_y (a0 : (List dRange)) (a1 : Int) : execFn G1 laws_szRangeS_loops Try.f84 [.lst tRange a0, .int .i64 a1] [] = laws_szRangeS_k a0 a1 (fun (y : Int) => some ⟨.ret, [.int .i64 y], []⟩) := (laws_szRangeS_x a0 a1).trans (by rw [laws_szRangeS_e])

theorem laws_szRangeS_l : LoopsOk G1 ⟨0, 27, laws_szRangeS_loops⟩ (Try.f84.body.getD .skip) :=
  loopsOk_of (ids := [0]) (by kernel_rfl) (by kernel_rfl) ⟨laws_szRangeS_lo0, trivial⟩

theorem laws_szRangeS_c : Contract Try.prog 84 laws_szRangeS_g := by
  refine told G1_ok follows Try.func84 (c := Try.f84.body.getD .skip) (by kernel_rfl) ?_
  intro args s k r hk
  unfold laws_szRangeS_g at hk
  rcases onPats_inv hk with ⟨p, q, rfl, rfl⟩ | hk
  · exact ⟨laws_szRangeS_loops, laws_szRangeS_q p.1 p.2.1, laws_szRangeS_y p.1 p.2.1, laws_szRangeS_l⟩
  cases hk

def G2 : Glob := G1.add 84 laws_szRangeS_g

theorem G2_ok : GlobOk Try.prog G2 := G1_ok.add ⟨Try.f84, Try.func84, by kernel_rfl, by kernel_rfl⟩ laws_szRangeS_c

/-! ### loop.example/g00327/laws.szWrite -/

def laws_szWrite_loops : Nat → Option LoopSpec
  | _ => none

theorem laws_szWrite_x (a0 : ByteArray) (a1 : ByteArray) (a2 : Bool) (a3 : Int) : execFn G2 laws_szWrite_loops Try.f62 [.agg [.str a0, .str a1, .bool a2], .int .i64 a3] [] = laws_szWrite_d (a0, (a1, a2)) a3 (fun (y : Int) => some ⟨.ret, [.int .i64 y], []⟩) := by kernel_rfl

theorem laws_szWrite_y (a0 : ByteArray) (a1 : ByteArray) (a2 : Bool) (a3 : Int) : execFn G2 laws_szWrite_loops Try.f62 [.agg [.str a0, .str a1, .bool a2], .int .i64 a3] [] = laws_szWrite_k (a0, (a1, a2)) a3 (fun (y : Int) => some ⟨.ret, [.int .i64 y], []⟩) := (laws_szWrite_x a0 a1 a2 a3).trans (by rw [laws_szWrite_e])

theorem laws_szWrite_l : LoopsOk G2 ⟨0, 20, laws_szWrite_loops⟩ (Try.f62.body.getD .skip) :=
  loopsOk_of (ids := []) (by kernel_rfl) (by kernel_rfl) trivial

theorem laws_szWrite_c : Contract Try.prog 62 laws_szWrite_g := by
  refine told G2_ok follows Try.func62 (c := Try.f62.body.getD .skip) (by kernel_rfl) ?_
  intro args s k r hk
  unfold laws_szWrite_g at hk
  rcases onPats_inv hk with ⟨p, q, rfl, rfl⟩ | hk
  · exact ⟨laws_szWrite_loops, laws_szWrite_q p.1.1 p.1.2.1 p.1.2.2.1 p.2.1, laws_szWrite_y p.1.1 p.1.2.1 p.1.2.2.1 p.2.1, laws_szWrite_l⟩
  cases hk

def G3 : Glob := G2.add 62 laws_szWrite_g

theorem G3_ok : GlobOk Try.prog G3 := G2_ok.add ⟨Try.f62, Try.func62, by kernel_rfl, by kernel_rfl⟩ laws_szWrite_c

/-! ### loop.example/g00327/laws.szWriteS -/

def laws_szWriteS_loops : Nat → Option LoopSpec
  | 0 => some ⟨[0, 1, 4, 5], [], fun vals st k => onPats [.lst tWrite, .int .i64, .int .i64, .int .i64] [] vals st (fun p q => loopK laws_szWriteS_b0 Fuel (p.1, p.2.1, p.2.2.1, p.2.2.2.1) (Sum.elim (fun z => k .ret [.lst tWrite z.1, .int .i64 z.2.1, .int .i64 z.2.2.1, .int .i64 z.2.2.2] []) (fun z => k (.exit 0) [.lst tWrite z.1, .int .i64 z.2.1, .int .i64 z.2.2.1, .int .i64 z.2.2.2] [])))
      (none)⟩
  | _ => none

def laws_szWriteS_v0 : ((List dWrite) × Int × Int × Int) → List AV := (fun x => [.lst tWrite x.1, .int .i64 x.2.1, .int .i64 x.2.2.1, .int .i64 x.2.2.2])
def laws_szWriteS_s0 : ((List dWrite) × Int × Int × Int) → St := (fun x => [])
def laws_szWriteS_e0 : (((List dWrite) × Int × Int × Int) ⊕ ((List dWrite) × Int × Int × Int)) → Out × List AV × St := (Sum.elim (fun z => (.ret, [.lst tWrite z.1, .int .i64 z.2.1, .int .i64 z.2.2.1, .int .i64 z.2.2.2], [])) (fun z => ((.exit 0), [.lst tWrite z.1, .int .i64 z.2.1, .int .i64 z.2.2.1, .int .i64 z.2.2.2], [])))

theorem laws_szWriteS_bx0 (x : ((List dWrite) × Int × Int × Int)) : exec G3 ⟨0, 27, laws_szWriteS_loops⟩ (loopBody Try.f39 0) (bodyK ⟨0, 27, laws_szWriteS_loops⟩ [0, 1, 4, 5] []) (setEs (deads 27) [0, 1, 4, 5] (laws_szWriteS_v0 x)) (laws_szWriteS_s0 x) = laws_szWriteS_b0 x (Sum.elim (fun y => some ⟨.norm, laws_szWriteS_v0 y, laws_szWriteS_s0 y⟩) fun z => some ⟨(laws_szWriteS_e0 z).1, (laws_szWriteS_e0 z).2.1, (laws_szWriteS_e0 z).2.2⟩) := by
  kernel_rfl

theorem laws_szWriteS_lo0 : ∀ sp, (laws_szWriteS_loops 0) = some sp → LoopOk G3 ⟨0, 27, laws_szWriteS_loops⟩ sp (loopBody Try.f39 0) := by
  intro sp hsp vals st k r h
  cases hsp
  dsimp only at h
  rcases onPats_inv2 h with ⟨p, q, rfl, rfl, h⟩ | h
  · exact loop_runs2 laws_szWriteS_bp0 laws_szWriteS_v0 laws_szWriteS_s0 laws_szWriteS_e0 (fun z => by rcases z with z | z <;> (intro h; cases h)) laws_szWriteS_bx0 Fuel (p.1, p.2.1, p.2.2.1, p.2.2.2.1) _ k r (fun z => by rcases z with z | z <;> rfl) h
  cases h

theorem laws_szWriteS_x (a0 : (List dWrite)) (a1 : Int) : execFn G3 laws_szWriteS_loops Try.f39 [.lst tWrite a0, .int .i64 a1] [] = laws_szWriteS_d a0 a1 (fun (y : Int) => some ⟨.ret, [.int .i64 y], []⟩) := by kernel_rfl

theorem laws_szWriteS_y (a0 : (List dWrite)) (a1 : Int) : execFn G3 laws_szWriteS_loops Try.f39 [.lst tWrite a0, .int .i64 a1] [] = laws_szWriteS_k a0 a1 (fun (y : Int) => some ⟨.ret, [.int .i64 y], []⟩) := (laws_szWriteS_x a0 a1).trans (by rw [laws_szWriteS_e])

theorem laws_szWriteS_l : LoopsOk G3 ⟨0, 27, laws_szWriteS_loops⟩ (Try.f39.body.getD .skip) :=
  loopsOk_of (ids := [0]) (by kernel_rfl) (by kernel_rfl) ⟨laws_szWriteS_lo0, trivial⟩

theorem laws_szWriteS_c : Contract Try.prog 39 laws_szWriteS_g := by
  refine told G3_ok follows Try.func39 (c := Try.f39.body.getD .skip) (by kernel_rfl) ?_
  intro args s k r hk
  unfold laws_szWriteS_g at hk
  rcases onPats_inv hk with ⟨p, q, rfl, rfl⟩ | hk
  · exact ⟨laws_szWriteS_loops, laws_szWriteS_q p.1 p.2.1, laws_szWriteS_y p.1 p.2.1, laws_szWriteS_l⟩
  cases hk

def G4 : Glob := G3.add 39 laws_szWriteS_g

theorem G4_ok : GlobOk Try.prog G4 := G3_ok.add ⟨Try.f39, Try.func39, by kernel_rfl, by kernel_rfl⟩ laws_szWriteS_c

/-! ### loop.example/g00327/laws.szTxn -/

def laws_szTxn_loops : Nat → Option LoopSpec
  | _ => none

theorem laws_szTxn_x (a0 : Int) (a1 : Int) (a2 : Int) (a3 : Int) (a4 : (List dRange)) (a5 : (List dWrite)) (a6 : Bool) (a7 : ByteArray) (a8 : Int) : execFn G4 laws_szTxn_loops Try.f20 [.agg [.int .i64 a0, .int .i64 a1, .int .i64 a2, .int .i64 a3, .lst tRange a4, .lst tWrite a5, .bool a6, .str a7], .int .i64 a8] [] = laws_szTxn_d (a0, (a1, (a2, (a3, (a4, (a5, (a6, a7))))))) a8 (fun (y : Int) => some ⟨.ret, [.int .i64 y], []⟩) := by kernel_rfl

theorem laws_szTxn_y (a0 : Int) (a1 : Int) (a2 : Int) (a3 : Int) (a4 : (List dRange)) (a5 : (List dWrite)) (a6 : Bool) (a7 : ByteArray) (a8 : Int) : execFn G4 laws_szTxn_loops Try.f20 [.agg [.int .i64 a0, .int .i64 a1, .int .i64 a2, .int .i64 a3, .lst tRange a4, .lst tWrite a5, .bool a6, .str a7], .int .i64 a8] [] = laws_szTxn_k (a0, (a1, (a2, (a3, (a4, (a5, (a6, a7))))))) a8 (fun (y : Int) => some ⟨.ret, [.int .i64 y], []⟩) := (laws_szTxn_x a0 a1 a2 a3 a4 a5 a6 a7 a8).trans (by rw [laws_szTxn_e])

theorem laws_szTxn_l : LoopsOk G4 ⟨0, 25, laws_szTxn_loops⟩ (Try.f20.body.getD .skip) :=
  loopsOk_of (ids := []) (by kernel_rfl) (by kernel_rfl) trivial

theorem laws_szTxn_c : Contract Try.prog 20 laws_szTxn_g := by
  refine told G4_ok follows Try.func20 (c := Try.f20.body.getD .skip) (by kernel_rfl) ?_
  intro args s k r hk
  unfold laws_szTxn_g at hk
  rcases onPats_inv hk with ⟨p, q, rfl, rfl⟩ | hk
  · exact ⟨laws_szTxn_loops, laws_szTxn_q p.1.1 p.1.2.1 p.1.2.2.1 p.1.2.2.2.1 p.1.2.2.2.2.1 p.1.2.2.2.2.2.1 p.1.2.2.2.2.2.2.1 p.1.2.2.2.2.2.2.2.1 p.2.1, laws_szTxn_y p.1.1 p.1.2.1 p.1.2.2.1 p.1.2.2.2.1 p.1.2.2.2.2.1 p.1.2.2.2.2.2.1 p.1.2.2.2.2.2.2.1 p.1.2.2.2.2.2.2.2.1 p.2.1, laws_szTxn_l⟩
  cases hk

def G5 : Glob := G4.add 20 laws_szTxn_g

theorem G5_ok : GlobOk Try.prog G5 := G4_ok.add ⟨Try.f20, Try.func20, by kernel_rfl, by kernel_rfl⟩ laws_szTxn_c

/-! ### loop.example/g00327/laws.toRange -/

def laws_toRange_loops : Nat → Option LoopSpec
  | _ => none

theorem laws_toRange_x (a0 : ByteArray) (a1 : ByteArray) : execFn G5 laws_toRange_loops Try.f56 [.agg [.str a0, .str a1]] [] = laws_toRange_d (a0, a1) (fun (y : (ByteArray × ByteArray)) => some ⟨.ret, [.agg [.str y.1, .str y.2]], []⟩) := by kernel_rfl

theorem laws_toRange_y (a0 : ByteArray) (a1 : ByteArray) : execFn G5 laws_toRange_loops Try.f56 [.agg [.str a0, .str a1]] [] = laws_toRange_k (a0, a1) (fun (y : (ByteArray × ByteArray)) => some ⟨.ret, [.agg [.str y.1, .str y.2]], []⟩) := (laws_toRange_x a0 a1).trans (by rw [laws_toRange_e])

theorem laws_toRange_l : LoopsOk G5 ⟨0, 11, laws_toRange_loops⟩ (Try.f56.body.getD .skip) :=
  loopsOk_of (ids := []) (by kernel_rfl) (by kernel_rfl) trivial

theorem laws_toRange_c : Contract Try.prog 56 laws_toRange_g := by
  refine told G5_ok follows Try.func56 (c := Try.f56.body.getD .skip) (by kernel_rfl) ?_
  intro args s k r hk
  unfold laws_toRange_g at hk
  rcases onPats_inv hk with ⟨p, q, rfl, rfl⟩ | hk
  · exact ⟨laws_toRange_loops, laws_toRange_q p.1.1 p.1.2.1, laws_toRange_y p.1.1 p.1.2.1, laws_toRange_l⟩
  cases hk

def G6 : Glob := G5.add 56 laws_toRange_g

theorem G6_ok : GlobOk Try.prog G6 := G5_ok.add ⟨Try.f56, Try.func56, by kernel_rfl, by kernel_rfl⟩ laws_toRange_c

/-! ### loop.example/g00327/laws.toRangeS -/

def laws_toRangeS_loops : Nat → Option LoopSpec
  | 0 => some ⟨[0, 3, 4], [], fun vals st k => onPats [.lst tRange, .own 0, .int .i64] [.arr tRange] vals st (fun p q => loopK laws_toRangeS_b0 Fuel (p.1, p.2.2.1, q.1) (fun z => k (.exit 0) [.lst tRange z.1, .own 0, .int .i64 z.2.1] [.arr tRange z.2.2]))
      (none)⟩
  | _ => none

def laws_toRangeS_v0 : ((List dRange) × Int × (List dRange)) → List AV := (fun x => [.lst tRange x.1, .own 0, .int .i64 x.2.1])
def laws_toRangeS_s0 : ((List dRange) × Int × (List dRange)) → St := (fun x => [.arr tRange x.2.2])
def laws_toRangeS_e0 : ((List dRange) × Int × (List dRange)) → Out × List AV × St := (fun z => ((.exit 0), [.lst tRange z.1, .own 0, .int .i64 z.2.1], [.arr tRange z.2.2]))

theorem laws_toRangeS_bx0 (x : ((List dRange) × Int × (List dRange))) : exec G6 ⟨0, 23, laws_toRangeS_loops⟩ (loopBody Try.f89 0) (bodyK ⟨0, 23, laws_toRangeS_loops⟩ [0, 3, 4] []) (setEs (deads 23) [0, 3, 4] (laws_toRangeS_v0 x)) (laws_toRangeS_s0 x) = laws_toRangeS_b0 x (Sum.elim (fun y => some ⟨.norm, laws_toRangeS_v0 y, laws_toRangeS_s0 y⟩) fun z => some ⟨(laws_toRangeS_e0 z).1, (laws_toRangeS_e0 z).2.1, (laws_toRangeS_e0 z).2.2⟩) := by
  kernel_rfl

theorem laws_toRangeS_lo0 : ∀ sp, (laws_toRangeS_loops 0) = some sp → LoopOk G6 ⟨0, 23, laws_toRangeS_loops⟩ sp (loopBody Try.f89 0) := by
  intro sp hsp vals st k r h
  cases hsp
  dsimp only at h
  rcases onPats_inv2 h with ⟨p, q, rfl, rfl, h⟩ | h
  · exact loop_runs2 laws_toRangeS_bp0 laws_toRangeS_v0 laws_toRangeS_s0 laws_toRangeS_e0 (fun z => by (intro h; cases h)) laws_toRangeS_bx0 Fuel (p.1, p.2.2.1, q.1) _ k r (fun z => rfl) h
  cases h

theorem laws_toRangeS_x (a0 : (List dRange)) : execFn G6 laws_toRangeS_loops Try.f89 [.lst tRange a0] [] = laws_toRangeS_d a0 (fun (y : (List dRange)) => some ⟨.ret, [.own 0], [.arr tRange y]⟩) := by kernel_rfl

theorem laws_toRangeS_y (a0 : (List dRange)) : execFn G6 laws_toRangeS_loops Try.f89 [.lst tRange a0] [] = laws_toRangeS_k a0 (fun (y : (List dRange)) => some ⟨.ret, [.own 0], [.arr tRange y]⟩) := (laws_toRangeS_x a0).trans (by rw [laws_toRangeS_e])

theorem laws_toRangeS_l : LoopsOk G6 ⟨0, 23, laws_toRangeS_loops⟩ (Try.f89.body.getD .skip) :=
  loopsOk_of (ids := [0]) (by kernel_rfl) (by kernel_rfl) ⟨laws_toRangeS_lo0, trivial⟩

theorem laws_toRangeS_c : Contract Try.prog 89 laws_toRangeS_g := by
  refine told G6_ok follows Try.func89 (c := Try.f89.body.getD .skip) (by kernel_rfl) ?_
  intro args s k r hk
  unfold laws_toRangeS_g at hk
  rcases onPats_inv hk with ⟨p, q, rfl, rfl⟩ | hk
  · exact ⟨laws_toRangeS_loops, laws_toRangeS_q p.1, laws_toRangeS_y p.1, laws_toRangeS_l⟩
  cases hk

def G7 : Glob := G6.add 89 laws_toRangeS_g

theorem G7_ok : GlobOk Try.prog G7 := G6_ok.add ⟨Try.f89, Try.func89, by kernel_rfl, by kernel_rfl⟩ laws_toRangeS_c

/-! ### loop.example/g00327/laws.toWrite -/

def laws_toWrite_loops : Nat → Option LoopSpec
  | _ => none

theorem laws_toWrite_x (a0 : ByteArray) (a1 : ByteArray) (a2 : Bool) : execFn G7 laws_toWrite_loops Try.f64 [.agg [.str a0, .str a1, .bool a2]] [] = laws_toWrite_d (a0, (a1, a2)) (fun (y : (ByteArray × ByteArray × Bool)) => some ⟨.ret, [.agg [.str y.1, .str y.2.1, .bool y.2.2]], []⟩) := by kernel_rfl

theorem laws_toWrite_y (a0 : ByteArray) (a1 : ByteArray) (a2 : Bool) : execFn G7 laws_toWrite_loops Try.f64 [.agg [.str a0, .str a1, .bool a2]] [] = laws_toWrite_k (a0, (a1, a2)) (fun (y : (ByteArray × ByteArray × Bool)) => some ⟨.ret, [.agg [.str y.1, .str y.2.1, .bool y.2.2]], []⟩) := (laws_toWrite_x a0 a1 a2).trans (by rw [laws_toWrite_e])

theorem laws_toWrite_l : LoopsOk G7 ⟨0, 14, laws_toWrite_loops⟩ (Try.f64.body.getD .skip) :=
  loopsOk_of (ids := []) (by kernel_rfl) (by kernel_rfl) trivial

theorem laws_toWrite_c : Contract Try.prog 64 laws_toWrite_g := by
  refine told G7_ok follows Try.func64 (c := Try.f64.body.getD .skip) (by kernel_rfl) ?_
  intro args s k r hk
  unfold laws_toWrite_g at hk
  rcases onPats_inv hk with ⟨p, q, rfl, rfl⟩ | hk
  · exact ⟨laws_toWrite_loops, laws_toWrite_q p.1.1 p.1.2.1 p.1.2.2.1, laws_toWrite_y p.1.1 p.1.2.1 p.1.2.2.1, laws_toWrite_l⟩
  cases hk

def G8 : Glob := G7.add 64 laws_toWrite_g

theorem G8_ok : GlobOk Try.prog G8 := G7_ok.add ⟨Try.f64, Try.func64, by kernel_rfl, by kernel_rfl⟩ laws_toWrite_c

/-! ### loop.example/g00327/laws.toWriteS -/

def laws_toWriteS_loops : Nat → Option LoopSpec
  | 0 => some ⟨[0, 3, 4], [], fun vals st k => onPats [.lst tWrite, .own 0, .int .i64] [.arr tWrite] vals st (fun p q => loopK laws_toWriteS_b0 Fuel (p.1, p.2.2.1, q.1) (fun z => k (.exit 0) [.lst tWrite z.1, .own 0, .int .i64 z.2.1] [.arr tWrite z.2.2]))
      (none)⟩
  | _ => none

def laws_toWriteS_v0 : ((List dWrite) × Int × (List dWrite)) → List AV := (fun x => [.lst tWrite x.1, .own 0, .int .i64 x.2.1])
def laws_toWriteS_s0 : ((List dWrite) × Int × (List dWrite)) → St := (fun x => [.arr tWrite x.2.2])
def laws_toWriteS_e0 : ((List dWrite) × Int × (List dWrite)) → Out × List AV × St := (fun z => ((.exit 0), [.lst tWrite z.1, .own 0, .int .i64 z.2.1], [.arr tWrite z.2.2]))

theorem laws_toWriteS_bx0 (x : ((List dWrite) × Int × (List dWrite))) : exec G8 ⟨0, 23, laws_toWriteS_loops⟩ (loopBody Try.f42 0) (bodyK ⟨0, 23, laws_toWriteS_loops⟩ [0, 3, 4] []) (setEs (deads 23) [0, 3, 4] (laws_toWriteS_v0 x)) (laws_toWriteS_s0 x) = laws_toWriteS_b0 x (Sum.elim (fun y => some ⟨.norm, laws_toWriteS_v0 y, laws_toWriteS_s0 y⟩) fun z => some ⟨(laws_toWriteS_e0 z).1, (laws_toWriteS_e0 z).2.1, (laws_toWriteS_e0 z).2.2⟩) := by
  kernel_rfl

theorem laws_toWriteS_lo0 : ∀ sp, (laws_toWriteS_loops 0) = some sp → LoopOk G8 ⟨0, 23, laws_toWriteS_loops⟩ sp (loopBody Try.f42 0) := by
  intro sp hsp vals st k r h
  cases hsp
  dsimp only at h
  rcases onPats_inv2 h with ⟨p, q, rfl, rfl, h⟩ | h
  · exact loop_runs2 laws_toWriteS_bp0 laws_toWriteS_v0 laws_toWriteS_s0 laws_toWriteS_e0 (fun z => by (intro h; cases h)) laws_toWriteS_bx0 Fuel (p.1, p.2.2.1, q.1) _ k r (fun z => rfl) h
  cases h

theorem laws_toWriteS_x (a0 : (List dWrite)) : execFn G8 laws_toWriteS_loops Try.f42 [.lst tWrite a0] [] = laws_toWriteS_d a0 (fun (y : (List dWrite)) => some ⟨.ret, [.own 0], [.arr tWrite y]⟩) := by kernel_rfl

theorem laws_toWriteS_y (a0 : (List dWrite)) : execFn G8 laws_toWriteS_loops Try.f42 [.lst tWrite a0] [] = laws_toWriteS_k a0 (fun (y : (List dWrite)) => some ⟨.ret, [.own 0], [.arr tWrite y]⟩) := (laws_toWriteS_x a0).trans (by rw [laws_toWriteS_e])

theorem laws_toWriteS_l : LoopsOk G8 ⟨0, 23, laws_toWriteS_loops⟩ (Try.f42.body.getD .skip) :=
  loopsOk_of (ids := [0]) (by kernel_rfl) (by kernel_rfl) ⟨laws_toWriteS_lo0, trivial⟩

theorem laws_toWriteS_c : Contract Try.prog 42 laws_toWriteS_g := by
  refine told G8_ok follows Try.func42 (c := Try.f42.body.getD .skip) (by kernel_rfl) ?_
  intro args s k r hk
  unfold laws_toWriteS_g at hk
  rcases onPats_inv hk with ⟨p, q, rfl, rfl⟩ | hk
  · exact ⟨laws_toWriteS_loops, laws_toWriteS_q p.1, laws_toWriteS_y p.1, laws_toWriteS_l⟩
  cases hk

def G9 : Glob := G8.add 42 laws_toWriteS_g

theorem G9_ok : GlobOk Try.prog G9 := G8_ok.add ⟨Try.f42, Try.func42, by kernel_rfl, by kernel_rfl⟩ laws_toWriteS_c

/-! ### loop.example/g00327/laws.toTxn -/

def laws_toTxn_loops : Nat → Option LoopSpec
  | _ => none

theorem laws_toTxn_x (a0 : Int) (a1 : Int) (a2 : Int) (a3 : Int) (a4 : (List dRange)) (a5 : (List dWrite)) (a6 : Bool) (a7 : ByteArray) : execFn G9 laws_toTxn_loops Try.f22 [.agg [.int .i64 a0, .int .i64 a1, .int .i64 a2, .int .i64 a3, .lst tRange a4, .lst tWrite a5, .bool a6, .str a7]] [] = laws_toTxn_d (a0, (a1, (a2, (a3, (a4, (a5, (a6, a7))))))) (fun (y : (Int × Int × Int × Int × Bool × ByteArray × (List dRange) × (List dWrite))) => some ⟨.ret, [.agg [.int .i64 y.1, .int .i64 y.2.1, .int .i64 y.2.2.1, .int .i64 y.2.2.2.1, .own 0, .own 1, .bool y.2.2.2.2.1, .str y.2.2.2.2.2.1]], [.arr tRange y.2.2.2.2.2.2.1, .arr tWrite y.2.2.2.2.2.2.2]⟩) := by kernel_rfl

theorem laws_toTxn_y (a0 : Int) (a1 : Int) (a2 : Int) (a3 : Int) (a4 : (List dRange)) (a5 : (List dWrite)) (a6 : Bool) (a7 : ByteArray) : execFn G9 laws_toTxn_loops Try.f22 [.agg [.int .i64 a0, .int .i64 a1, .int .i64 a2, .int .i64 a3, .lst tRange a4, .lst tWrite a5, .bool a6, .str a7]] [] = laws_toTxn_k (a0, (a1, (a2, (a3, (a4, (a5, (a6, a7))))))) (fun (y : (Int × Int × Int × Int × Bool × ByteArray × (List dRange) × (List dWrite))) => some ⟨.ret, [.agg [.int .i64 y.1, .int .i64 y.2.1, .int .i64 y.2.2.1, .int .i64 y.2.2.2.1, .own 0, .own 1, .bool y.2.2.2.2.1, .str y.2.2.2.2.2.1]], [.arr tRange y.2.2.2.2.2.2.1, .arr tWrite y.2.2.2.2.2.2.2]⟩) := (laws_toTxn_x a0 a1 a2 a3 a4 a5 a6 a7).trans (by rw [laws_toTxn_e])

theorem laws_toTxn_l : LoopsOk G9 ⟨0, 31, laws_toTxn_loops⟩ (Try.f22.body.getD .skip) :=
  loopsOk_of (ids := []) (by kernel_rfl) (by kernel_rfl) trivial

theorem laws_toTxn_c : Contract Try.prog 22 laws_toTxn_g := by
  refine told G9_ok follows Try.func22 (c := Try.f22.body.getD .skip) (by kernel_rfl) ?_
  intro args s k r hk
  unfold laws_toTxn_g at hk
  rcases onPats_inv hk with ⟨p, q, rfl, rfl⟩ | hk
  · exact ⟨laws_toTxn_loops, laws_toTxn_q p.1.1 p.1.2.1 p.1.2.2.1 p.1.2.2.2.1 p.1.2.2.2.2.1 p.1.2.2.2.2.2.1 p.1.2.2.2.2.2.2.1 p.1.2.2.2.2.2.2.2.1, laws_toTxn_y p.1.1 p.1.2.1 p.1.2.2.1 p.1.2.2.2.1 p.1.2.2.2.2.1 p.1.2.2.2.2.2.1 p.1.2.2.2.2.2.2.1 p.1.2.2.2.2.2.2.2.1, laws_toTxn_l⟩
  cases hk

def G10 : Glob := G9.add 22 laws_toTxn_g

theorem G10_ok : GlobOk Try.prog G10 := G9_ok.add ⟨Try.f22, Try.func22, by kernel_rfl, by kernel_rfl⟩ laws_toTxn_c

/-! ### loop.example/g00327/spec.l07Copy -/

def spec_l07Copy_loops : Nat → Option LoopSpec
  | _ => none

theorem spec_l07Copy_x (a0 : Int) (a1 : Int) (a2 : Int) (a3 : Int) (a4 : (List dRange)) (a5 : (List dWrite)) (a6 : Bool) (a7 : ByteArray) : execFn G10 spec_l07Copy_loops Try.f127 [.agg [.int .i64 a0, .int .i64 a1, .int .i64 a2, .int .i64 a3, .lst tRange a4, .lst tWrite a5, .bool a6, .str a7]] [] = spec_l07Copy_d (a0, (a1, (a2, (a3, (a4, (a5, (a6, a7))))))) (fun (y : (Int × Int × Int × Int × Bool × ByteArray × (List dRange) × (List dWrite))) => some ⟨.ret, [.agg [.int .i64 y.1, .int .i64 y.2.1, .int .i64 y.2.2.1, .int .i64 y.2.2.2.1, .own 0, .own 1, .bool y.2.2.2.2.1, .str y.2.2.2.2.2.1]], [.arr tRange y.2.2.2.2.2.2.1, .arr tWrite y.2.2.2.2.2.2.2]⟩) := by kernel_rfl

theorem spec_l07Copy_y (a0 : Int) (a1 : Int) (a2 : Int) (a3 : Int) (a4 : (List dRange)) (a5 : (List dWrite)) (a6 : Bool) (a7 : ByteArray) : execFn G10 spec_l07Copy_loops Try.f127 [.agg [.int .i64 a0, .int .i64 a1, .int .i64 a2, .int .i64 a3, .lst tRange a4, .lst tWrite a5, .bool a6, .str a7]] [] = spec_l07Copy_k (a0, (a1, (a2, (a3, (a4, (a5, (a6, a7))))))) (fun (y : (Int × Int × Int × Int × Bool × ByteArray × (List dRange) × (List dWrite))) => some ⟨.ret, [.agg [.int .i64 y.1, .int .i64 y.2.1, .int .i64 y.2.2.1, .int .i64 y.2.2.2.1, .own 0, .own 1, .bool y.2.2.2.2.1, .str y.2.2.2.2.2.1]], [.arr tRange y.2.2.2.2.2.2.1, .arr tWrite y.2.2.2.2.2.2.2]⟩) := (spec_l07Copy_x a0 a1 a2 a3 a4 a5 a6 a7).trans (by rw [spec_l07Copy_e])

theorem spec_l07Copy_l : LoopsOk G10 ⟨0, 16, spec_l07Copy_loops⟩ (Try.f127.body.getD .skip) :=
  loopsOk_of (ids := []) (by kernel_rfl) (by kernel_rfl) trivial

theorem spec_l07Copy_c : Contract Try.prog 127 spec_l07Copy_g := by
  refine told G10_ok follows Try.func127 (c := Try.f127.body.getD .skip) (by kernel_rfl) ?_
  intro args s k r hk
  unfold spec_l07Copy_g at hk
  rcases onPats_inv hk with ⟨p, q, rfl, rfl⟩ | hk
  · exact ⟨spec_l07Copy_loops, spec_l07Copy_q p.1.1 p.1.2.1 p.1.2.2.1 p.1.2.2.2.1 p.1.2.2.2.2.1 p.1.2.2.2.2.2.1 p.1.2.2.2.2.2.2.1 p.1.2.2.2.2.2.2.2.1, spec_l07Copy_y p.1.1 p.1.2.1 p.1.2.2.1 p.1.2.2.2.1 p.1.2.2.2.2.1 p.1.2.2.2.2.2.1 p.1.2.2.2.2.2.2.1 p.1.2.2.2.2.2.2.2.1, spec_l07Copy_l⟩
  cases hk

def G11 : Glob := G10.add 127 spec_l07Copy_g

theorem G11_ok : GlobOk Try.prog G11 := G10_ok.add ⟨Try.f127, Try.func127, by kernel_rfl, by kernel_rfl⟩ spec_l07Copy_c

/-! ### loop.example/g00327/spec.l01In -/

def spec_l01In_loops : Nat → Option LoopSpec
  | _ => none

theorem spec_l01In_x (a0 : Int) (a1 : Int) (a2 : Int) : execFn G11 spec_l01In_loops Try.f145 [.int .i64 a0, .int .i64 a1, .int .i64 a2] [] = spec_l01In_d a0 a1 a2 (fun (y : Bool) => some ⟨.ret, [.bool y], []⟩) := by kernel_rfl

theorem spec_l01In_y (a0 : Int) (a1 : Int) (a2 : Int) : execFn G11 spec_l01In_loops Try.f145 [.int .i64 a0, .int .i64 a1, .int .i64 a2] [] = spec_l01In_k a0 a1 a2 (fun (y : Bool) => some ⟨.ret, [.bool y], []⟩) := (spec_l01In_x a0 a1 a2).trans (by rw [spec_l01In_e])

theorem spec_l01In_l : LoopsOk G11 ⟨0, 15, spec_l01In_loops⟩ (Try.f145.body.getD .skip) :=
  loopsOk_of (ids := []) (by kernel_rfl) (by kernel_rfl) trivial

theorem spec_l01In_c : Contract Try.prog 145 spec_l01In_g := by
  refine told G11_ok follows Try.func145 (c := Try.f145.body.getD .skip) (by kernel_rfl) ?_
  intro args s k r hk
  unfold spec_l01In_g at hk
  rcases onPats_inv hk with ⟨p, q, rfl, rfl⟩ | hk
  · exact ⟨spec_l01In_loops, spec_l01In_q p.1 p.2.1 p.2.2.1, spec_l01In_y p.1 p.2.1 p.2.2.1, spec_l01In_l⟩
  cases hk

def G12 : Glob := G11.add 145 spec_l01In_g

theorem G12_ok : GlobOk Try.prog G12 := G11_ok.add ⟨Try.f145, Try.func145, by kernel_rfl, by kernel_rfl⟩ spec_l01In_c

/-! ### loop.example/g00327/spec.KeyOk -/

def spec_KeyOk_loops : Nat → Option LoopSpec
  | 0 => some ⟨[0, 2, 3], [], fun vals st k => onPats [.str, .bool, .int .i64] [] vals st (fun p q => loopK spec_KeyOk_b0 Fuel (p.1, p.2.1, p.2.2.1) (Sum.elim (fun z => k .ret [.str z.1, .bool z.2.1, .int .i64 z.2.2] []) (fun z => k (.exit 0) [.str z.1, .bool z.2.1, .int .i64 z.2.2] [])))
      (none)⟩
  | _ => none

def spec_KeyOk_v0 : (ByteArray × Bool × Int) → List AV := (fun x => [.str x.1, .bool x.2.1, .int .i64 x.2.2])
def spec_KeyOk_s0 : (ByteArray × Bool × Int) → St := (fun x => [])
def spec_KeyOk_e0 : ((ByteArray × Bool × Int) ⊕ (ByteArray × Bool × Int)) → Out × List AV × St := (Sum.elim (fun z => (.ret, [.str z.1, .bool z.2.1, .int .i64 z.2.2], [])) (fun z => ((.exit 0), [.str z.1, .bool z.2.1, .int .i64 z.2.2], [])))

theorem spec_KeyOk_bx0 (x : (ByteArray × Bool × Int)) : exec G12 ⟨0, 23, spec_KeyOk_loops⟩ (loopBody Try.f168 0) (bodyK ⟨0, 23, spec_KeyOk_loops⟩ [0, 2, 3] []) (setEs (deads 23) [0, 2, 3] (spec_KeyOk_v0 x)) (spec_KeyOk_s0 x) = spec_KeyOk_b0 x (Sum.elim (fun y => some ⟨.norm, spec_KeyOk_v0 y, spec_KeyOk_s0 y⟩) fun z => some ⟨(spec_KeyOk_e0 z).1, (spec_KeyOk_e0 z).2.1, (spec_KeyOk_e0 z).2.2⟩) := by
  kernel_rfl

theorem spec_KeyOk_lo0 : ∀ sp, (spec_KeyOk_loops 0) = some sp → LoopOk G12 ⟨0, 23, spec_KeyOk_loops⟩ sp (loopBody Try.f168 0) := by
  intro sp hsp vals st k r h
  cases hsp
  dsimp only at h
  rcases onPats_inv2 h with ⟨p, q, rfl, rfl, h⟩ | h
  · exact loop_runs2 spec_KeyOk_bp0 spec_KeyOk_v0 spec_KeyOk_s0 spec_KeyOk_e0 (fun z => by rcases z with z | z <;> (intro h; cases h)) spec_KeyOk_bx0 Fuel (p.1, p.2.1, p.2.2.1) _ k r (fun z => by rcases z with z | z <;> rfl) h
  cases h

theorem spec_KeyOk_x (a0 : ByteArray) : execFn G12 spec_KeyOk_loops Try.f168 [.str a0] [] = spec_KeyOk_d a0 (fun (y : Bool) => some ⟨.ret, [.bool y], []⟩) := by kernel_rfl

theorem spec_KeyOk_y (a0 : ByteArray) : execFn G12 spec_KeyOk_loops Try.f168 [.str a0] [] = spec_KeyOk_k a0 (fun (y : Bool) => some ⟨.ret, [.bool y], []⟩) := (spec_KeyOk_x a0).trans (by rw [spec_KeyOk_e])

theorem spec_KeyOk_l : LoopsOk G12 ⟨0, 23, spec_KeyOk_loops⟩ (Try.f168.body.getD .skip) :=
  loopsOk_of (ids := [0]) (by kernel_rfl) (by kernel_rfl) ⟨spec_KeyOk_lo0, trivial⟩

theorem spec_KeyOk_c : Contract Try.prog 168 spec_KeyOk_g := by
  refine told G12_ok follows Try.func168 (c := Try.f168.body.getD .skip) (by kernel_rfl) ?_
  intro args s k r hk
  unfold spec_KeyOk_g at hk
  rcases onPats_inv hk with ⟨p, q, rfl, rfl⟩ | hk
  · exact ⟨spec_KeyOk_loops, spec_KeyOk_q p.1, spec_KeyOk_y p.1, spec_KeyOk_l⟩
  cases hk

def G13 : Glob := G12.add 168 spec_KeyOk_g

theorem G13_ok : GlobOk Try.prog G13 := G12_ok.add ⟨Try.f168, Try.func168, by kernel_rfl, by kernel_rfl⟩ spec_KeyOk_c

/-! ### loop.example/g00327/spec.WriteOk -/

def spec_WriteOk_loops : Nat → Option LoopSpec
  | _ => none

theorem spec_WriteOk_x (a0 : ByteArray) (a1 : ByteArray) (a2 : Bool) : execFn G13 spec_WriteOk_loops Try.f139 [.agg [.str a0, .str a1, .bool a2]] [] = spec_WriteOk_d (a0, (a1, a2)) (fun (y : Bool) => some ⟨.ret, [.bool y], []⟩) := by kernel_rfl

theorem spec_WriteOk_y (a0 : ByteArray) (a1 : ByteArray) (a2 : Bool) : execFn G13 spec_WriteOk_loops Try.f139 [.agg [.str a0, .str a1, .bool a2]] [] = spec_WriteOk_k (a0, (a1, a2)) (fun (y : Bool) => some ⟨.ret, [.bool y], []⟩) := (spec_WriteOk_x a0 a1 a2).trans (by rw [spec_WriteOk_e])

theorem spec_WriteOk_l : LoopsOk G13 ⟨0, 22, spec_WriteOk_loops⟩ (Try.f139.body.getD .skip) :=
  loopsOk_of (ids := []) (by kernel_rfl) (by kernel_rfl) trivial

theorem spec_WriteOk_c : Contract Try.prog 139 spec_WriteOk_g := by
  refine told G13_ok follows Try.func139 (c := Try.f139.body.getD .skip) (by kernel_rfl) ?_
  intro args s k r hk
  unfold spec_WriteOk_g at hk
  rcases onPats_inv hk with ⟨p, q, rfl, rfl⟩ | hk
  · exact ⟨spec_WriteOk_loops, spec_WriteOk_q p.1.1 p.1.2.1 p.1.2.2.1, spec_WriteOk_y p.1.1 p.1.2.1 p.1.2.2.1, spec_WriteOk_l⟩
  cases hk

def G14 : Glob := G13.add 139 spec_WriteOk_g

theorem G14_ok : GlobOk Try.prog G14 := G13_ok.add ⟨Try.f139, Try.func139, by kernel_rfl, by kernel_rfl⟩ spec_WriteOk_c

/-! ### loop.example/g00327/spec.WritesOk -/

def spec_WritesOk_loops : Nat → Option LoopSpec
  | 0 => some ⟨[0, 2, 3], [], fun vals st k => onPats [.lst tWrite, .bool, .int .i64] [] vals st (fun p q => loopK spec_WritesOk_b0 Fuel (p.1, p.2.1, p.2.2.1) (Sum.elim (fun z => k .ret [.lst tWrite z.1, .bool z.2.1, .int .i64 z.2.2] []) (fun z => k (.exit 0) [.lst tWrite z.1, .bool z.2.1, .int .i64 z.2.2] [])))
      (none)⟩
  | _ => none

def spec_WritesOk_v0 : ((List dWrite) × Bool × Int) → List AV := (fun x => [.lst tWrite x.1, .bool x.2.1, .int .i64 x.2.2])
def spec_WritesOk_s0 : ((List dWrite) × Bool × Int) → St := (fun x => [])
def spec_WritesOk_e0 : (((List dWrite) × Bool × Int) ⊕ ((List dWrite) × Bool × Int)) → Out × List AV × St := (Sum.elim (fun z => (.ret, [.lst tWrite z.1, .bool z.2.1, .int .i64 z.2.2], [])) (fun z => ((.exit 0), [.lst tWrite z.1, .bool z.2.1, .int .i64 z.2.2], [])))

theorem spec_WritesOk_bx0 (x : ((List dWrite) × Bool × Int)) : exec G14 ⟨0, 37, spec_WritesOk_loops⟩ (loopBody Try.f141 0) (bodyK ⟨0, 37, spec_WritesOk_loops⟩ [0, 2, 3] []) (setEs (deads 37) [0, 2, 3] (spec_WritesOk_v0 x)) (spec_WritesOk_s0 x) = spec_WritesOk_b0 x (Sum.elim (fun y => some ⟨.norm, spec_WritesOk_v0 y, spec_WritesOk_s0 y⟩) fun z => some ⟨(spec_WritesOk_e0 z).1, (spec_WritesOk_e0 z).2.1, (spec_WritesOk_e0 z).2.2⟩) := by
  kernel_rfl

theorem spec_WritesOk_lo0 : ∀ sp, (spec_WritesOk_loops 0) = some sp → LoopOk G14 ⟨0, 37, spec_WritesOk_loops⟩ sp (loopBody Try.f141 0) := by
  intro sp hsp vals st k r h
  cases hsp
  dsimp only at h
  rcases onPats_inv2 h with ⟨p, q, rfl, rfl, h⟩ | h
  · exact loop_runs2 spec_WritesOk_bp0 spec_WritesOk_v0 spec_WritesOk_s0 spec_WritesOk_e0 (fun z => by rcases z with z | z <;> (intro h; cases h)) spec_WritesOk_bx0 Fuel (p.1, p.2.1, p.2.2.1) _ k r (fun z => by rcases z with z | z <;> rfl) h
  cases h

theorem spec_WritesOk_x (a0 : (List dWrite)) : execFn G14 spec_WritesOk_loops Try.f141 [.lst tWrite a0] [] = spec_WritesOk_d a0 (fun (y : Bool) => some ⟨.ret, [.bool y], []⟩) := by kernel_rfl

theorem spec_WritesOk_y (a0 : (List dWrite)) : execFn G14 spec_WritesOk_loops Try.f141 [.lst tWrite a0] [] = spec_WritesOk_k a0 (fun (y : Bool) => some ⟨.ret, [.bool y], []⟩) := (spec_WritesOk_x a0).trans (by rw [spec_WritesOk_e])

theorem spec_WritesOk_l : LoopsOk G14 ⟨0, 37, spec_WritesOk_loops⟩ (Try.f141.body.getD .skip) :=
  loopsOk_of (ids := [0]) (by kernel_rfl) (by kernel_rfl) ⟨spec_WritesOk_lo0, trivial⟩

theorem spec_WritesOk_c : Contract Try.prog 141 spec_WritesOk_g := by
  refine told G14_ok follows Try.func141 (c := Try.f141.body.getD .skip) (by kernel_rfl) ?_
  intro args s k r hk
  unfold spec_WritesOk_g at hk
  rcases onPats_inv hk with ⟨p, q, rfl, rfl⟩ | hk
  · exact ⟨spec_WritesOk_loops, spec_WritesOk_q p.1, spec_WritesOk_y p.1, spec_WritesOk_l⟩
  cases hk

def G15 : Glob := G14.add 141 spec_WritesOk_g

theorem G15_ok : GlobOk Try.prog G15 := G14_ok.add ⟨Try.f141, Try.func141, by kernel_rfl, by kernel_rfl⟩ spec_WritesOk_c

/-! ### loop.example/g00327/spec.RangeOk -/

def spec_RangeOk_loops : Nat → Option LoopSpec
  | _ => none

theorem spec_RangeOk_x (a0 : ByteArray) (a1 : ByteArray) : execFn G15 spec_RangeOk_loops Try.f128 [.agg [.str a0, .str a1]] [] = spec_RangeOk_d (a0, a1) (fun (y : Bool) => some ⟨.ret, [.bool y], []⟩) := by kernel_rfl

theorem spec_RangeOk_y (a0 : ByteArray) (a1 : ByteArray) : execFn G15 spec_RangeOk_loops Try.f128 [.agg [.str a0, .str a1]] [] = spec_RangeOk_k (a0, a1) (fun (y : Bool) => some ⟨.ret, [.bool y], []⟩) := (spec_RangeOk_x a0 a1).trans (by rw [spec_RangeOk_e])

theorem spec_RangeOk_l : LoopsOk G15 ⟨0, 18, spec_RangeOk_loops⟩ (Try.f128.body.getD .skip) :=
  loopsOk_of (ids := []) (by kernel_rfl) (by kernel_rfl) trivial

theorem spec_RangeOk_c : Contract Try.prog 128 spec_RangeOk_g := by
  refine told G15_ok follows Try.func128 (c := Try.f128.body.getD .skip) (by kernel_rfl) ?_
  intro args s k r hk
  unfold spec_RangeOk_g at hk
  rcases onPats_inv hk with ⟨p, q, rfl, rfl⟩ | hk
  · exact ⟨spec_RangeOk_loops, spec_RangeOk_q p.1.1 p.1.2.1, spec_RangeOk_y p.1.1 p.1.2.1, spec_RangeOk_l⟩
  cases hk

def G16 : Glob := G15.add 128 spec_RangeOk_g

theorem G16_ok : GlobOk Try.prog G16 := G15_ok.add ⟨Try.f128, Try.func128, by kernel_rfl, by kernel_rfl⟩ spec_RangeOk_c

/-! ### loop.example/g00327/spec.TxnOk -/

def spec_TxnOk_loops : Nat → Option LoopSpec
  | 5000012 => some ⟨[1, 2], [], fun vals st k => onPats [.bp 0 0, .bool] [.box [.int .i64, .int .i64, .int .i64, .int .i64, .lst tRange, .lst tWrite, .bool, .str]] vals st (fun p q => spec_TxnOk_j5000012 (p.2.1, q.1.1, q.1.2.1, q.1.2.2.1, q.1.2.2.2.1, q.1.2.2.2.2.1, q.1.2.2.2.2.2.1, q.1.2.2.2.2.2.2.1, q.1.2.2.2.2.2.2.2.1) (fun z => k .ret [.bp 0 0, .bool z.1] [.box [.int .i64 z.2.1, .int .i64 z.2.2.1, .int .i64 z.2.2.2.1, .int .i64 z.2.2.2.2.1, .lst tRange z.2.2.2.2.2.1, .lst tWrite z.2.2.2.2.2.2.1, .bool z.2.2.2.2.2.2.2.1, .str z.2.2.2.2.2.2.2.2]]))
      (none)⟩
  | 5000010 => some ⟨[1, 2], [], fun vals st k => onPats [.bp 0 0, .bool] [.box [.int .i64, .int .i64, .int .i64, .int .i64, .lst tRange, .lst tWrite, .bool, .str]] vals st (fun p q => spec_TxnOk_j5000010 (p.2.1, q.1.1, q.1.2.1, q.1.2.2.1, q.1.2.2.2.1, q.1.2.2.2.2.1, q.1.2.2.2.2.2.1, q.1.2.2.2.2.2.2.1, q.1.2.2.2.2.2.2.2.1) (fun z => k .ret [.bp 0 0, .bool z.1] [.box [.int .i64 z.2.1, .int .i64 z.2.2.1, .int .i64 z.2.2.2.1, .int .i64 z.2.2.2.2.1, .lst tRange z.2.2.2.2.2.1, .lst tWrite z.2.2.2.2.2.2.1, .bool z.2.2.2.2.2.2.2.1, .str z.2.2.2.2.2.2.2.2]]))
      (none)⟩
  | 0 => some ⟨[1, 2, 3], [], fun vals st k => onPats [.bp 0 0, .bool, .int .i64] [.box [.int .i64, .int .i64, .int .i64, .int .i64, .lst tRange, .lst tWrite, .bool, .str]] vals st (fun p q => loopK spec_TxnOk_b0 Fuel (p.2.1, p.2.2.1, q.1.1, q.1.2.1, q.1.2.2.1, q.1.2.2.2.1, q.1.2.2.2.2.1, q.1.2.2.2.2.2.1, q.1.2.2.2.2.2.2.1, q.1.2.2.2.2.2.2.2.1) (Sum.elim (fun z => k .ret [.bp 0 0, .bool z.1, .int .i64 z.2.1] [.box [.int .i64 z.2.2.1, .int .i64 z.2.2.2.1, .int .i64 z.2.2.2.2.1, .int .i64 z.2.2.2.2.2.1, .lst tRange z.2.2.2.2.2.2.1, .lst tWrite z.2.2.2.2.2.2.2.1, .bool z.2.2.2.2.2.2.2.2.1, .str z.2.2.2.2.2.2.2.2.2]]) (fun z => k (.exit 0) [.bp 0 0, .bool z.1, .int .i64 z.2.1] [.box [.int .i64 z.2.2.1, .int .i64 z.2.2.2.1, .int .i64 z.2.2.2.2.1, .int .i64 z.2.2.2.2.2.1, .lst tRange z.2.2.2.2.2.2.1, .lst tWrite z.2.2.2.2.2.2.2.1, .bool z.2.2.2.2.2.2.2.2.1, .str z.2.2.2.2.2.2.2.2.2]])))
      (none)⟩
  | 5000003 => some ⟨[1, 2], [], fun vals st k => onPats [.bp 0 0, .bool] [.box [.int .i64, .int .i64, .int .i64, .int .i64, .lst tRange, .lst tWrite, .bool, .str]] vals st (fun p q => spec_TxnOk_j5000003 (p.2.1, q.1.1, q.1.2.1, q.1.2.2.1, q.1.2.2.2.1, q.1.2.2.2.2.1, q.1.2.2.2.2.2.1, q.1.2.2.2.2.2.2.1, q.1.2.2.2.2.2.2.2.1) (fun z => k .ret [.bp 0 0, .bool z.1] [.box [.int .i64 z.2.1, .int .i64 z.2.2.1, .int .i64 z.2.2.2.1, .int .i64 z.2.2.2.2.1, .lst tRange z.2.2.2.2.2.1, .lst tWrite z.2.2.2.2.2.2.1, .bool z.2.2.2.2.2.2.2.1, .str z.2.2.2.2.2.2.2.2]]))
      (none)⟩
  | _ => none

def spec_TxnOk_jv5000012 : (Bool × Int × Int × Int × Int × (List dRange) × (List dWrite) × Bool × ByteArray) → List AV := (fun x => [.bp 0 0, .bool x.1])
def spec_TxnOk_js5000012 : (Bool × Int × Int × Int × Int × (List dRange) × (List dWrite) × Bool × ByteArray) → St := (fun x => [.box [.int .i64 x.2.1, .int .i64 x.2.2.1, .int .i64 x.2.2.2.1, .int .i64 x.2.2.2.2.1, .lst tRange x.2.2.2.2.2.1, .lst tWrite x.2.2.2.2.2.2.1, .bool x.2.2.2.2.2.2.2.1, .str x.2.2.2.2.2.2.2.2]])
def spec_TxnOk_je5000012 : (Bool × Int × Int × Int × Int × (List dRange) × (List dWrite) × Bool × ByteArray) → Out × List AV × St := (fun z => (.ret, [.bp 0 0, .bool z.1], [.box [.int .i64 z.2.1, .int .i64 z.2.2.1, .int .i64 z.2.2.2.1, .int .i64 z.2.2.2.2.1, .lst tRange z.2.2.2.2.2.1, .lst tWrite z.2.2.2.2.2.2.1, .bool z.2.2.2.2.2.2.2.1, .str z.2.2.2.2.2.2.2.2]]))

theorem spec_TxnOk_jx5000012 (x : (Bool × Int × Int × Int × Int × (List dRange) × (List dWrite) × Bool × ByteArray)) : exec G16 ⟨0, 95, spec_TxnOk_loops⟩ (loopBody Try.f85 5000012) (bodyK ⟨0, 95, spec_TxnOk_loops⟩ [1, 2] []) (setEs (deads 95) [1, 2] (spec_TxnOk_jv5000012 x)) (spec_TxnOk_js5000012 x) = spec_TxnOk_j5000012 x (fun z => some ⟨(spec_TxnOk_je5000012 z).1, (spec_TxnOk_je5000012 z).2.1, (spec_TxnOk_je5000012 z).2.2⟩) := by
  kernel_rfl

theorem spec_TxnOk_lo5000012 : ∀ sp, (spec_TxnOk_loops 5000012) = some sp → CutOk G16 ⟨0, 95, spec_TxnOk_loops⟩ sp (loopBody Try.f85 5000012) := by
  intro sp hsp vals st k r h
  cases hsp
  dsimp only at h
  rcases onPats_inv2 h with ⟨p, q, rfl, rfl, h⟩ | h
  · exact cut_runs spec_TxnOk_jp5000012 spec_TxnOk_jv5000012 spec_TxnOk_js5000012 spec_TxnOk_je5000012 spec_TxnOk_jx5000012 (p.2.1, q.1.1, q.1.2.1, q.1.2.2.1, q.1.2.2.2.1, q.1.2.2.2.2.1, q.1.2.2.2.2.2.1, q.1.2.2.2.2.2.2.1, q.1.2.2.2.2.2.2.2.1) _ k r (fun z => rfl) h
  cases h

def spec_TxnOk_jv5000010 : (Bool × Int × Int × Int × Int × (List dRange) × (List dWrite) × Bool × ByteArray) → List AV := (fun x => [.bp 0 0, .bool x.1])
def spec_TxnOk_js5000010 : (Bool × Int × Int × Int × Int × (List dRange) × (List dWrite) × Bool × ByteArray) → St := (fun x => [.box [.int .i64 x.2.1, .int .i64 x.2.2.1, .int .i64 x.2.2.2.1, .int .i64 x.2.2.2.2.1, .lst tRange x.2.2.2.2.2.1, .lst tWrite x.2.2.2.2.2.2.1, .bool x.2.2.2.2.2.2.2.1, .str x.2.2.2.2.2.2.2.2]])
def spec_TxnOk_je5000010 : (Bool × Int × Int × Int × Int × (List dRange) × (List dWrite) × Bool × ByteArray) → Out × List AV × St := (fun z => (.ret, [.bp 0 0, .bool z.1], [.box [.int .i64 z.2.1, .int .i64 z.2.2.1, .int .i64 z.2.2.2.1, .int .i64 z.2.2.2.2.1, .lst tRange z.2.2.2.2.2.1, .lst tWrite z.2.2.2.2.2.2.1, .bool z.2.2.2.2.2.2.2.1, .str z.2.2.2.2.2.2.2.2]]))

theorem spec_TxnOk_jx5000010 (x : (Bool × Int × Int × Int × Int × (List dRange) × (List dWrite) × Bool × ByteArray)) : exec G16 ⟨0, 95, spec_TxnOk_loops⟩ (loopBody Try.f85 5000010) (bodyK ⟨0, 95, spec_TxnOk_loops⟩ [1, 2] []) (setEs (deads 95) [1, 2] (spec_TxnOk_jv5000010 x)) (spec_TxnOk_js5000010 x) = spec_TxnOk_j5000010 x (fun z => some ⟨(spec_TxnOk_je5000010 z).1, (spec_TxnOk_je5000010 z).2.1, (spec_TxnOk_je5000010 z).2.2⟩) := by
  kernel_rfl

theorem spec_TxnOk_lo5000010 : ∀ sp, (spec_TxnOk_loops 5000010) = some sp → CutOk G16 ⟨0, 95, spec_TxnOk_loops⟩ sp (loopBody Try.f85 5000010) := by
  intro sp hsp vals st k r h
  cases hsp
  dsimp only at h
  rcases onPats_inv2 h with ⟨p, q, rfl, rfl, h⟩ | h
  · exact cut_runs spec_TxnOk_jp5000010 spec_TxnOk_jv5000010 spec_TxnOk_js5000010 spec_TxnOk_je5000010 spec_TxnOk_jx5000010 (p.2.1, q.1.1, q.1.2.1, q.1.2.2.1, q.1.2.2.2.1, q.1.2.2.2.2.1, q.1.2.2.2.2.2.1, q.1.2.2.2.2.2.2.1, q.1.2.2.2.2.2.2.2.1) _ k r (fun z => rfl) h
  cases h

def spec_TxnOk_v0 : (Bool × Int × Int × Int × Int × Int × (List dRange) × (List dWrite) × Bool × ByteArray) → List AV := (fun x => [.bp 0 0, .bool x.1, .int .i64 x.2.1])
def spec_TxnOk_s0 : (Bool × Int × Int × Int × Int × Int × (List dRange) × (List dWrite) × Bool × ByteArray) → St := (fun x => [.box [.int .i64 x.2.2.1, .int .i64 x.2.2.2.1, .int .i64 x.2.2.2.2.1, .int .i64 x.2.2.2.2.2.1, .lst tRange x.2.2.2.2.2.2.1, .lst tWrite x.2.2.2.2.2.2.2.1, .bool x.2.2.2.2.2.2.2.2.1, .str x.2.2.2.2.2.2.2.2.2]])
def spec_TxnOk_e0 : ((Bool × Int × Int × Int × Int × Int × (List dRange) × (List dWrite) × Bool × ByteArray) ⊕ (Bool × Int × Int × Int × Int × Int × (List dRange) × (List dWrite) × Bool × ByteArray)) → Out × List AV × St := (Sum.elim (fun z => (.ret, [.bp 0 0, .bool z.1, .int .i64 z.2.1], [.box [.int .i64 z.2.2.1, .int .i64 z.2.2.2.1, .int .i64 z.2.2.2.2.1, .int .i64 z.2.2.2.2.2.1, .lst tRange z.2.2.2.2.2.2.1, .lst tWrite z.2.2.2.2.2.2.2.1, .bool z.2.2.2.2.2.2.2.2.1, .str z.2.2.2.2.2.2.2.2.2]])) (fun z => ((.exit 0), [.bp 0 0, .bool z.1, .int .i64 z.2.1], [.box [.int .i64 z.2.2.1, .int .i64 z.2.2.2.1, .int .i64 z.2.2.2.2.1, .int .i64 z.2.2.2.2.2.1, .lst tRange z.2.2.2.2.2.2.1, .lst tWrite z.2.2.2.2.2.2.2.1, .bool z.2.2.2.2.2.2.2.2.1, .str z.2.2.2.2.2.2.2.2.2]])))

theorem spec_TxnOk_bx0 (x : (Bool × Int × Int × Int × Int × Int × (List dRange) × (List dWrite) × Bool × ByteArray)) : exec G16 ⟨0, 95, spec_TxnOk_loops⟩ (loopBody Try.f85 0) (bodyK ⟨0, 95, spec_TxnOk_loops⟩ [1, 2, 3] []) (setEs (deads 95) [1, 2, 3] (spec_TxnOk_v0 x)) (spec_TxnOk_s0 x) = spec_TxnOk_b0 x (Sum.elim (fun y => some ⟨.norm, spec_TxnOk_v0 y, spec_TxnOk_s0 y⟩) fun z => some ⟨(spec_TxnOk_e0 z).1, (spec_TxnOk_e0 z).2.1, (spec_TxnOk_e0 z).2.2⟩) := by
  kernel_rfl

theorem spec_TxnOk_lo0 : ∀ sp, (spec_TxnOk_loops 0) = some sp → LoopOk G16 ⟨0, 95, spec_TxnOk_loops⟩ sp (loopBody Try.f85 0) := by
  intro sp hsp vals st k r h
  cases hsp
  dsimp only at h
  rcases onPats_inv2 h with ⟨p, q, rfl, rfl, h⟩ | h
  · exact loop_runs2 spec_TxnOk_bp0 spec_TxnOk_v0 spec_TxnOk_s0 spec_TxnOk_e0 (fun z => by rcases z with z | z <;> (intro h; cases h)) spec_TxnOk_bx0 Fuel (p.2.1, p.2.2.1, q.1.1, q.1.2.1, q.1.2.2.1, q.1.2.2.2.1, q.1.2.2.2.2.1, q.1.2.2.2.2.2.1, q.1.2.2.2.2.2.2.1, q.1.2.2.2.2.2.2.2.1) _ k r (fun z => by rcases z with z | z <;> rfl) h
  cases h

def spec_TxnOk_jv5000003 : (Bool × Int × Int × Int × Int × (List dRange) × (List dWrite) × Bool × ByteArray) → List AV := (fun x => [.bp 0 0, .bool x.1])
def spec_TxnOk_js5000003 : (Bool × Int × Int × Int × Int × (List dRange) × (List dWrite) × Bool × ByteArray) → St := (fun x => [.box [.int .i64 x.2.1, .int .i64 x.2.2.1, .int .i64 x.2.2.2.1, .int .i64 x.2.2.2.2.1, .lst tRange x.2.2.2.2.2.1, .lst tWrite x.2.2.2.2.2.2.1, .bool x.2.2.2.2.2.2.2.1, .str x.2.2.2.2.2.2.2.2]])
def spec_TxnOk_je5000003 : (Bool × Int × Int × Int × Int × (List dRange) × (List dWrite) × Bool × ByteArray) → Out × List AV × St := (fun z => (.ret, [.bp 0 0, .bool z.1], [.box [.int .i64 z.2.1, .int .i64 z.2.2.1, .int .i64 z.2.2.2.1, .int .i64 z.2.2.2.2.1, .lst tRange z.2.2.2.2.2.1, .lst tWrite z.2.2.2.2.2.2.1, .bool z.2.2.2.2.2.2.2.1, .str z.2.2.2.2.2.2.2.2]]))

theorem spec_TxnOk_jx5000003 (x : (Bool × Int × Int × Int × Int × (List dRange) × (List dWrite) × Bool × ByteArray)) : exec G16 ⟨0, 95, spec_TxnOk_loops⟩ (loopBody Try.f85 5000003) (bodyK ⟨0, 95, spec_TxnOk_loops⟩ [1, 2] []) (setEs (deads 95) [1, 2] (spec_TxnOk_jv5000003 x)) (spec_TxnOk_js5000003 x) = spec_TxnOk_j5000003 x (fun z => some ⟨(spec_TxnOk_je5000003 z).1, (spec_TxnOk_je5000003 z).2.1, (spec_TxnOk_je5000003 z).2.2⟩) := by
  kernel_rfl

theorem spec_TxnOk_lo5000003 : ∀ sp, (spec_TxnOk_loops 5000003) = some sp → CutOk G16 ⟨0, 95, spec_TxnOk_loops⟩ sp (loopBody Try.f85 5000003) := by
  intro sp hsp vals st k r h
  cases hsp
  dsimp only at h
  rcases onPats_inv2 h with ⟨p, q, rfl, rfl, h⟩ | h
  · exact cut_runs spec_TxnOk_jp5000003 spec_TxnOk_jv5000003 spec_TxnOk_js5000003 spec_TxnOk_je5000003 spec_TxnOk_jx5000003 (p.2.1, q.1.1, q.1.2.1, q.1.2.2.1, q.1.2.2.2.1, q.1.2.2.2.2.1, q.1.2.2.2.2.2.1, q.1.2.2.2.2.2.2.1, q.1.2.2.2.2.2.2.2.1) _ k r (fun z => rfl) h
  cases h

theorem spec_TxnOk_x (a0 : Int) (a1 : Int) (a2 : Int) (a3 : Int) (a4 : (List dRange)) (a5 : (List dWrite)) (a6 : Bool) (a7 : ByteArray) : execFn G16 spec_TxnOk_loops Try.f85 [.agg [.int .i64 a0, .int .i64 a1, .int .i64 a2, .int .i64 a3, .lst tRange a4, .lst tWrite a5, .bool a6, .str a7]] [] = spec_TxnOk_d (a0, (a1, (a2, (a3, (a4, (a5, (a6, a7))))))) (fun (y : Bool) => some ⟨.ret, [.bool y], []⟩) := by kernel_rfl

theorem spec_TxnOk_y (a0 : Int) (a1 : Int) (a2 : Int) (a3 : Int) (a4 : (List dRange)) (a5 : (List dWrite)) (a6 : Bool) (a7 : ByteArray) : execFn G16 spec_TxnOk_loops Try.f85 [.agg [.int .i64 a0, .int .i64 a1, .int .i64 a2, .int .i64 a3, .lst tRange a4, .lst tWrite a5, .bool a6, .str a7]] [] = spec_TxnOk_k (a0, (a1, (a2, (a3, (a4, (a5, (a6, a7))))))) (fun (y : Bool) => some ⟨.ret, [.bool y], []⟩) := (spec_TxnOk_x a0 a1 a2 a3 a4 a5 a6 a7).trans (by rw [spec_TxnOk_e])

theorem spec_TxnOk_l : LoopsOk G16 ⟨0, 95, spec_TxnOk_loops⟩ (Try.f85.body.getD .skip) :=
  loopsOk_of (ids := [5000012, 5000010, 0, 5000003]) (by kernel_rfl) (by kernel_rfl) ⟨spec_TxnOk_lo5000012, ⟨spec_TxnOk_lo5000010, ⟨spec_TxnOk_lo0, ⟨spec_TxnOk_lo5000003, trivial⟩⟩⟩⟩

theorem spec_TxnOk_c : Contract Try.prog 85 spec_TxnOk_g := by
  refine told G16_ok follows Try.func85 (c := Try.f85.body.getD .skip) (by kernel_rfl) ?_
  intro args s k r hk
  unfold spec_TxnOk_g at hk
  rcases onPats_inv hk with ⟨p, q, rfl, rfl⟩ | hk
  · exact ⟨spec_TxnOk_loops, spec_TxnOk_q p.1.1 p.1.2.1 p.1.2.2.1 p.1.2.2.2.1 p.1.2.2.2.2.1 p.1.2.2.2.2.2.1 p.1.2.2.2.2.2.2.1 p.1.2.2.2.2.2.2.2.1, spec_TxnOk_y p.1.1 p.1.2.1 p.1.2.2.1 p.1.2.2.2.1 p.1.2.2.2.2.1 p.1.2.2.2.2.2.1 p.1.2.2.2.2.2.2.1 p.1.2.2.2.2.2.2.2.1, spec_TxnOk_l⟩
  cases hk

def G17 : Glob := G16.add 85 spec_TxnOk_g

theorem G17_ok : GlobOk Try.prog G17 := G16_ok.add ⟨Try.f85, Try.func85, by kernel_rfl, by kernel_rfl⟩ spec_TxnOk_c

/-! ### loop.example/g00327/spec.ReadRange -/

def spec_ReadRange_loops : Nat → Option LoopSpec
  | 0 => some ⟨[2, 3, 4, 5, 6, 7], [none, none, none, none, none, none, none, none, none, none, none, none, none, none, none, none, none, none, none, none, some tRange, some tWrite], fun vals st k => onPats [.bp 0 0, .bp 1 0, .bp 2 0, .bool, .bp 3 0, .int .i64] [.box [.int .i64, .int .i64, .int .i64, .int .i64, .lst tRange, .lst tWrite, .bool, .str], .box [.str, .str], .box [.int .i64, .int .i64, .int .i64, .int .i64, .own 4, .own 5, .bool, .str], .box [.int .i64, .int .i64, .int .i64, .int .i64, .own 6, .own 7, .bool, .str], .arr tRange, .arr tWrite, .arr tRange, .arr tWrite] vals st (fun p q => loopK spec_ReadRange_b0 Fuel (p.2.2.2.1, p.2.2.2.2.2.1, q.1.1, q.1.2.1, q.1.2.2.1, q.1.2.2.2.1, q.1.2.2.2.2.1, q.1.2.2.2.2.2.1, q.1.2.2.2.2.2.2.1, q.1.2.2.2.2.2.2.2.1, q.2.1.1, q.2.1.2.1, q.2.2.1.1, q.2.2.1.2.1, q.2.2.1.2.2.1, q.2.2.1.2.2.2.1, q.2.2.1.2.2.2.2.2.2.1, q.2.2.1.2.2.2.2.2.2.2.1, q.2.2.2.1.1, q.2.2.2.1.2.1, q.2.2.2.1.2.2.1, q.2.2.2.1.2.2.2.1, q.2.2.2.1.2.2.2.2.2.2.1, q.2.2.2.1.2.2.2.2.2.2.2.1, q.2.2.2.2.1, q.2.2.2.2.2.1, q.2.2.2.2.2.2.1, q.2.2.2.2.2.2.2.1) (Sum.elim (fun z => k (.exit 0) [.bp 0 0, .bp 1 0, .bp 2 0, .bool z.1, .bp 3 0, .int .i64 z.2.1] [.box [.int .i64 z.2.2.1, .int .i64 z.2.2.2.1, .int .i64 z.2.2.2.2.1, .int .i64 z.2.2.2.2.2.1, .lst tRange z.2.2.2.2.2.2.1, .lst tWrite z.2.2.2.2.2.2.2.1, .bool z.2.2.2.2.2.2.2.2.1, .str z.2.2.2.2.2.2.2.2.2.1], .box [.str z.2.2.2.2.2.2.2.2.2.2.1, .str z.2.2.2.2.2.2.2.2.2.2.2.1], .box [.int .i64 z.2.2.2.2.2.2.2.2.2.2.2.2.1, .int .i64 z.2.2.2.2.2.2.2.2.2.2.2.2.2.1, .int .i64 z.2.2.2.2.2.2.2.2.2.2.2.2.2.2.1, .int .i64 z.2.2.2.2.2.2.2.2.2.2.2.2.2.2.2.1, .own 4, .own 5, .bool z.2.2.2.2.2.2.2.2.2.2.2.2.2.2.2.2.1, .str z.2.2.2.2.2.2.2.2.2.2.2.2.2.2.2.2.2.1], .box [.int .i64 z.2.2.2.2.2.2.2.2.2.2.2.2.2.2.2.2.2.2.1, .int .i64 z.2.2.2.2.2.2.2.2.2.2.2.2.2.2.2.2.2.2.2.1, .int .i64 z.2.2.2.2.2.2.2.2.2.2.2.2.2.2.2.2.2.2.2.2.1, .int .i64 z.2.2.2.2.2.2.2.2.2.2.2.2.2.2.2.2.2.2.2.2.2.1, .own 6, .own 7, .bool z.2.2.2.2.2.2.2.2.2.2.2.2.2.2.2.2.2.2.2.2.2.2.1, .str z.2.2.2.2.2.2.2.2.2.2.2.2.2.2.2.2.2.2.2.2.2.2.2.1], .arr tRange z.2.2.2.2.2.2.2.2.2.2.2.2.2.2.2.2.2.2.2.2.2.2.2.2.1, .arr tWrite z.2.2.2.2.2.2.2.2.2.2.2.2.2.2.2.2.2.2.2.2.2.2.2.2.2.1, .arr tRange z.2.2.2.2.2.2.2.2.2.2.2.2.2.2.2.2.2.2.2.2.2.2.2.2.2.2.1, .arr tWrite z.2.2.2.2.2.2.2.2.2.2.2.2.2.2.2.2.2.2.2.2.2.2.2.2.2.2.2]) (fun z => k .ret [.bp 0 0, .bp 1 0, .bp 2 0, .bool z.1, .bp 3 0, .int .i64 z.2.1] [.box [.int .i64 z.2.2.1, .int .i64 z.2.2.2.1, .int .i64 z.2.2.2.2.1, .int .i64 z.2.2.2.2.2.1, .lst tRange z.2.2.2.2.2.2.1, .lst tWrite z.2.2.2.2.2.2.2.1, .bool z.2.2.2.2.2.2.2.2.1, .str z.2.2.2.2.2.2.2.2.2.1], .box [.str z.2.2.2.2.2.2.2.2.2.2.1, .str z.2.2.2.2.2.2.2.2.2.2.2.1], .box [.int .i64 z.2.2.2.2.2.2.2.2.2.2.2.2.1, .int .i64 z.2.2.2.2.2.2.2.2.2.2.2.2.2.1, .int .i64 z.2.2.2.2.2.2.2.2.2.2.2.2.2.2.1, .int .i64 z.2.2.2.2.2.2.2.2.2.2.2.2.2.2.2.1, .own 4, .own 5, .bool z.2.2.2.2.2.2.2.2.2.2.2.2.2.2.2.2.1, .str z.2.2.2.2.2.2.2.2.2.2.2.2.2.2.2.2.2.1], .box [.int .i64 z.2.2.2.2.2.2.2.2.2.2.2.2.2.2.2.2.2.2.1, .int .i64 z.2.2.2.2.2.2.2.2.2.2.2.2.2.2.2.2.2.2.2.1, .int .i64 z.2.2.2.2.2.2.2.2.2.2.2.2.2.2.2.2.2.2.2.2.1, .int .i64 z.2.2.2.2.2.2.2.2.2.2.2.2.2.2.2.2.2.2.2.2.2.1, .own 4, .own 5, .bool z.2.2.2.2.2.2.2.2.2.2.2.2.2.2.2.2.2.2.2.2.2.2.1, .str z.2.2.2.2.2.2.2.2.2.2.2.2.2.2.2.2.2.2.2.2.2.2.2.1], .arr tRange z.2.2.2.2.2.2.2.2.2.2.2.2.2.2.2.2.2.2.2.2.2.2.2.2.1, .arr tWrite z.2.2.2.2.2.2.2.2.2.2.2.2.2.2.2.2.2.2.2.2.2.2.2.2.2])))
      (none)⟩
  | 5000004 => some ⟨[2, 3, 4, 5, 6], [none, none, none, none, none, none, none, none, none, none, none, none, none, none, none, none, none, none, none, some tRange, some tWrite], fun vals st k => onPats [.bp 0 0, .bp 1 0, .bp 2 0, .bool, .bp 3 0] [.box [.int .i64, .int .i64, .int .i64, .int .i64, .lst tRange, .lst tWrite, .bool, .str], .box [.str, .str], .box [.int .i64, .int .i64, .int .i64, .int .i64, .own 4, .own 5, .bool, .str], .box [.int .i64, .int .i64, .int .i64, .int .i64, .own 6, .own 7, .bool, .str], .arr tRange, .arr tWrite, .arr tRange, .arr tWrite] vals st (fun p q => spec_ReadRange_j5000004 (p.2.2.2.1, q.1.1, q.1.2.1, q.1.2.2.1, q.1.2.2.2.1, q.1.2.2.2.2.1, q.1.2.2.2.2.2.1, q.1.2.2.2.2.2.2.1, q.1.2.2.2.2.2.2.2.1, q.2.1.1, q.2.1.2.1, q.2.2.1.1, q.2.2.1.2.1, q.2.2.1.2.2.1, q.2.2.1.2.2.2.1, q.2.2.1.2.2.2.2.2.2.1, q.2.2.1.2.2.2.2.2.2.2.1, q.2.2.2.1.1, q.2.2.2.1.2.1, q.2.2.2.1.2.2.1, q.2.2.2.1.2.2.2.1, q.2.2.2.1.2.2.2.2.2.2.1, q.2.2.2.1.2.2.2.2.2.2.2.1, q.2.2.2.2.1, q.2.2.2.2.2.1, q.2.2.2.2.2.2.1, q.2.2.2.2.2.2.2.1) (fun z => k .ret [.bp 0 0, .bp 1 0, .bp 2 0, .bool z.1, .bp 3 0] [.box [.int .i64 z.2.1, .int .i64 z.2.2.1, .int .i64 z.2.2.2.1, .int .i64 z.2.2.2.2.1, .lst tRange z.2.2.2.2.2.1, .lst tWrite z.2.2.2.2.2.2.1, .bool z.2.2.2.2.2.2.2.1, .str z.2.2.2.2.2.2.2.2.1], .box [.str z.2.2.2.2.2.2.2.2.2.1, .str z.2.2.2.2.2.2.2.2.2.2.1], .box [.int .i64 z.2.2.2.2.2.2.2.2.2.2.2.1, .int .i64 z.2.2.2.2.2.2.2.2.2.2.2.2.1, .int .i64 z.2.2.2.2.2.2.2.2.2.2.2.2.2.1, .int .i64 z.2.2.2.2.2.2.2.2.2.2.2.2.2.2.1, .own 4, .own 5, .bool z.2.2.2.2.2.2.2.2.2.2.2.2.2.2.2.1, .str z.2.2.2.2.2.2.2.2.2.2.2.2.2.2.2.2.1], .box [.int .i64 z.2.2.2.2.2.2.2.2.2.2.2.2.2.2.2.2.2.1, .int .i64 z.2.2.2.2.2.2.2.2.2.2.2.2.2.2.2.2.2.2.1, .int .i64 z.2.2.2.2.2.2.2.2.2.2.2.2.2.2.2.2.2.2.2.1, .int .i64 z.2.2.2.2.2.2.2.2.2.2.2.2.2.2.2.2.2.2.2.2.1, .own 4, .own 5, .bool z.2.2.2.2.2.2.2.2.2.2.2.2.2.2.2.2.2.2.2.2.2.1, .str z.2.2.2.2.2.2.2.2.2.2.2.2.2.2.2.2.2.2.2.2.2.2.1], .arr tRange z.2.2.2.2.2.2.2.2.2.2.2.2.2.2.2.2.2.2.2.2.2.2.2.1, .arr tWrite z.2.2.2.2.2.2.2.2.2.2.2.2.2.2.2.2.2.2.2.2.2.2.2.2]))
      (none)⟩
  | _ => none

def spec_ReadRange_v0 : (Bool × Int × Int × Int × Int × Int × (List dRange) × (List dWrite) × Bool × ByteArray × ByteArray × ByteArray × Int × Int × Int × Int × Bool × ByteArray × Int × Int × Int × Int × Bool × ByteArray × (List dRange) × (List dWrite) × (List dRange) × (List dWrite)) → List AV := (fun x => [.bp 0 0, .bp 1 0, .bp 2 0, .bool x.1, .bp 3 0, .int .i64 x.2.1])
def spec_ReadRange_s0 : (Bool × Int × Int × Int × Int × Int × (List dRange) × (List dWrite) × Bool × ByteArray × ByteArray × ByteArray × Int × Int × Int × Int × Bool × ByteArray × Int × Int × Int × Int × Bool × ByteArray × (List dRange) × (List dWrite) × (List dRange) × (List dWrite)) → St := (fun x => [.box [.int .i64 x.2.2.1, .int .i64 x.2.2.2.1, .int .i64 x.2.2.2.2.1, .int .i64 x.2.2.2.2.2.1, .lst tRange x.2.2.2.2.2.2.1, .lst tWrite x.2.2.2.2.2.2.2.1, .bool x.2.2.2.2.2.2.2.2.1, .str x.2.2.2.2.2.2.2.2.2.1], .box [.str x.2.2.2.2.2.2.2.2.2.2.1, .str x.2.2.2.2.2.2.2.2.2.2.2.1], .box [.int .i64 x.2.2.2.2.2.2.2.2.2.2.2.2.1, .int .i64 x.2.2.2.2.2.2.2.2.2.2.2.2.2.1, .int .i64 x.2.2.2.2.2.2.2.2.2.2.2.2.2.2.1, .int .i64 x.2.2.2.2.2.2.2.2.2.2.2.2.2.2.2.1, .own 4, .own 5, .bool x.2.2.2.2.2.2.2.2.2.2.2.2.2.2.2.2.1, .str x.2.2.2.2.2.2.2.2.2.2.2.2.2.2.2.2.2.1], .box [.int .i64 x.2.2.2.2.2.2.2.2.2.2.2.2.2.2.2.2.2.2.1, .int .i64 x.2.2.2.2.2.2.2.2.2.2.2.2.2.2.2.2.2.2.2.1, .int .i64 x.2.2.2.2.2.2.2.2.2.2.2.2.2.2.2.2.2.2.2.2.1, .int .i64 x.2.2.2.2.2.2.2.2.2.2.2.2.2.2.2.2.2.2.2.2.2.1, .own 6, .own 7, .bool x.2.2.2.2.2.2.2.2.2.2.2.2.2.2.2.2.2.2.2.2.2.2.1, .str x.2.2.2.2.2.2.2.2.2.2.2.2.2.2.2.2.2.2.2.2.2.2.2.1], .arr tRange x.2.2.2.2.2.2.2.2.2.2.2.2.2.2.2.2.2.2.2.2.2.2.2.2.1, .arr tWrite x.2.2.2.2.2.2.2.2.2.2.2.2.2.2.2.2.2.2.2.2.2.2.2.2.2.1, .arr tRange x.2.2.2.2.2.2.2.2.2.2.2.2.2.2.2.2.2.2.2.2.2.2.2.2.2.2.1, .arr tWrite x.2.2.2.2.2.2.2.2.2.2.2.2.2.2.2.2.2.2.2.2.2.2.2.2.2.2.2])
def spec_ReadRange_e0 : ((Bool × Int × Int × Int × Int × Int × (List dRange) × (List dWrite) × Bool × ByteArray × ByteArray × ByteArray × Int × Int × Int × Int × Bool × ByteArray × Int × Int × Int × Int × Bool × ByteArray × (List dRange) × (List dWrite) × (List dRange) × (List dWrite)) ⊕ (Bool × Int × Int × Int × Int × Int × (List dRange) × (List dWrite) × Bool × ByteArray × ByteArray × ByteArray × Int × Int × Int × Int × Bool × ByteArray × Int × Int × Int × Int × Bool × ByteArray × (List dRange) × (List dWrite))) → Out × List AV × St := (Sum.elim (fun z => ((.exit 0), [.bp 0 0, .bp 1 0, .bp 2 0, .bool z.1, .bp 3 0, .int .i64 z.2.1], [.box [.int .i64 z.2.2.1, .int .i64 z.2.2.2.1, .int .i64 z.2.2.2.2.1, .int .i64 z.2.2.2.2.2.1, .lst tRange z.2.2.2.2.2.2.1, .lst tWrite z.2.2.2.2.2.2.2.1, .bool z.2.2.2.2.2.2.2.2.1, .str z.2.2.2.2.2.2.2.2.2.1], .box [.str z.2.2.2.2.2.2.2.2.2.2.1, .str z.2.2.2.2.2.2.2.2.2.2.2.1], .box [.int .i64 z.2.2.2.2.2.2.2.2.2.2.2.2.1, .int .i64 z.2.2.2.2.2.2.2.2.2.2.2.2.2.1, .int .i64 z.2.2.2.2.2.2.2.2.2.2.2.2.2.2.1, .int .i64 z.2.2.2.2.2.2.2.2.2.2.2.2.2.2.2.1, .own 4, .own 5, .bool z.2.2.2.2.2.2.2.2.2.2.2.2.2.2.2.2.1, .str z.2.2.2.2.2.2.2.2.2.2.2.2.2.2.2.2.2.1], .box [.int .i64 z.2.2.2.2.2.2.2.2.2.2.2.2.2.2.2.2.2.2.1, .int .i64 z.2.2.2.2.2.2.2.2.2.2.2.2.2.2.2.2.2.2.2.1, .int .i64 z.2.2.2.2.2.2.2.2.2.2.2.2.2.2.2.2.2.2.2.2.1, .int .i64 z.2.2.2.2.2.2.2.2.2.2.2.2.2.2.2.2.2.2.2.2.2.1, .own 6, .own 7, .bool z.2.2.2.2.2.2.2.2.2.2.2.2.2.2.2.2.2.2.2.2.2.2.1, .str z.2.2.2.2.2.2.2.2.2.2.2.2.2.2.2.2.2.2.2.2.2.2.2.1], .arr tRange z.2.2.2.2.2.2.2.2.2.2.2.2.2.2.2.2.2.2.2.2.2.2.2.2.1, .arr tWrite z.2.2.2.2.2.2.2.2.2.2.2.2.2.2.2.2.2.2.2.2.2.2.2.2.2.1, .arr tRange z.2.2.2.2.2.2.2.2.2.2.2.2.2.2.2.2.2.2.2.2.2.2.2.2.2.2.1, .arr tWrite z.2.2.2.2.2.2.2.2.2.2.2.2.2.2.2.2.2.2.2.2.2.2.2.2.2.2.2])) (fun z => (.ret, [.bp 0 0, .bp 1 0, .bp 2 0, .bool z.1, .bp 3 0, .int .i64 z.2.1], [.box [.int .i64 z.2.2.1, .int .i64 z.2.2.2.1, .int .i64 z.2.2.2.2.1, .int .i64 z.2.2.2.2.2.1, .lst tRange z.2.2.2.2.2.2.1, .lst tWrite z.2.2.2.2.2.2.2.1, .bool z.2.2.2.2.2.2.2.2.1, .str z.2.2.2.2.2.2.2.2.2.1], .box [.str z.2.2.2.2.2.2.2.2.2.2.1, .str z.2.2.2.2.2.2.2.2.2.2.2.1], .box [.int .i64 z.2.2.2.2.2.2.2.2.2.2.2.2.1, .int .i64 z.2.2.2.2.2.2.2.2.2.2.2.2.2.1, .int .i64 z.2.2.2.2.2.2.2.2.2.2.2.2.2.2.1, .int .i64 z.2.2.2.2.2.2.2.2.2.2.2.2.2.2.2.1, .own 4, .own 5, .bool z.2.2.2.2.2.2.2.2.2.2.2.2.2.2.2.2.1, .str z.2.2.2.2.2.2.2.2.2.2.2.2.2.2.2.2.2.1], .box [.int .i64 z.2.2.2.2.2.2.2.2.2.2.2.2.2.2.2.2.2.2.1, .int .i64 z.2.2.2.2.2.2.2.2.2.2.2.2.2.2.2.2.2.2.2.1, .int .i64 z.2.2.2.2.2.2.2.2.2.2.2.2.2.2.2.2.2.2.2.2.1, .int .i64 z.2.2.2.2.2.2.2.2.2.2.2.2.2.2.2.2.2.2.2.2.2.1, .own 4, .own 5, .bool z.2.2.2.2.2.2.2.2.2.2.2.2.2.2.2.2.2.2.2.2.2.2.1, .str z.2.2.2.2.2.2.2.2.2.2.2.2.2.2.2.2.2.2.2.2.2.2.2.1], .arr tRange z.2.2.2.2.2.2.2.2.2.2.2.2.2.2.2.2.2.2.2.2.2.2.2.2.1, .arr tWrite z.2.2.2.2.2.2.2.2.2.2.2.2.2.2.2.2.2.2.2.2.2.2.2.2.2])))

theorem spec_ReadRange_bx0 (x : (Bool × Int × Int × Int × Int × Int × (List dRange) × (List dWrite) × Bool × ByteArray × ByteArray × ByteArray × Int × Int × Int × Int × Bool × ByteArray × Int × Int × Int × Int × Bool × ByteArray × (List dRange) × (List dWrite) × (List dRange) × (List dWrite))) : exec G17 ⟨0, 51, spec_ReadRange_loops⟩ (loopBody Try.f55 0) (bodyK ⟨0, 51, spec_ReadRange_loops⟩ [2, 3, 4, 5, 6, 7] [none, none, none, none, none, none, none, none, none, none, none, none, none, none, none, none, none, none, none, none, some tRange, some tWrite]) (setEs (deads 51) [2, 3, 4, 5, 6, 7] (spec_ReadRange_v0 x)) (spec_ReadRange_s0 x) = spec_ReadRange_b0 x (Sum.elim (fun y => some ⟨.norm, spec_ReadRange_v0 y, spec_ReadRange_s0 y⟩) fun z => some ⟨(spec_ReadRange_e0 z).1, (spec_ReadRange_e0 z).2.1, (spec_ReadRange_e0 z).2.2⟩) := by
  kernel_rfl

theorem spec_ReadRange_lo0 : ∀ sp, (spec_ReadRange_loops 0) = some sp → LoopOk G17 ⟨0, 51, spec_ReadRange_loops⟩ sp (loopBody Try.f55 0) := by
  intro sp hsp vals st k r h
  cases hsp
  dsimp only at h
  rcases onPats_inv2 h with ⟨p, q, rfl, rfl, h⟩ | h
  · exact loop_runs2 spec_ReadRange_bp0 spec_ReadRange_v0 spec_ReadRange_s0 spec_ReadRange_e0 (fun z => by rcases z with z | z <;> (intro h; cases h)) spec_ReadRange_bx0 Fuel (p.2.2.2.1, p.2.2.2.2.2.1, q.1.1, q.1.2.1, q.1.2.2.1, q.1.2.2.2.1, q.1.2.2.2.2.1, q.1.2.2.2.2.2.1, q.1.2.2.2.2.2.2.1, q.1.2.2.2.2.2.2.2.1, q.2.1.1, q.2.1.2.1, q.2.2.1.1, q.2.2.1.2.1, q.2.2.1.2.2.1, q.2.2.1.2.2.2.1, q.2.2.1.2.2.2.2.2.2.1, q.2.2.1.2.2.2.2.2.2.2.1, q.2.2.2.1.1, q.2.2.2.1.2.1, q.2.2.2.1.2.2.1, q.2.2.2.1.2.2.2.1, q.2.2.2.1.2.2.2.2.2.2.1, q.2.2.2.1.2.2.2.2.2.2.2.1, q.2.2.2.2.1, q.2.2.2.2.2.1, q.2.2.2.2.2.2.1, q.2.2.2.2.2.2.2.1) _ k r (fun z => by rcases z with z | z <;> rfl) h
  cases h

def spec_ReadRange_jv5000004 : (Bool × Int × Int × Int × Int × (List dRange) × (List dWrite) × Bool × ByteArray × ByteArray × ByteArray × Int × Int × Int × Int × Bool × ByteArray × Int × Int × Int × Int × Bool × ByteArray × (List dRange) × (List dWrite) × (List dRange) × (List dWrite)) → List AV := (fun x => [.bp 0 0, .bp 1 0, .bp 2 0, .bool x.1, .bp 3 0])
def spec_ReadRange_js5000004 : (Bool × Int × Int × Int × Int × (List dRange) × (List dWrite) × Bool × ByteArray × ByteArray × ByteArray × Int × Int × Int × Int × Bool × ByteArray × Int × Int × Int × Int × Bool × ByteArray × (List dRange) × (List dWrite) × (List dRange) × (List dWrite)) → St := (fun x => [.box [.int .i64 x.2.1, .int .i64 x.2.2.1, .int .i64 x.2.2.2.1, .int .i64 x.2.2.2.2.1, .lst tRange x.2.2.2.2.2.1, .lst tWrite x.2.2.2.2.2.2.1, .bool x.2.2.2.2.2.2.2.1, .str x.2.2.2.2.2.2.2.2.1], .box [.str x.2.2.2.2.2.2.2.2.2.1, .str x.2.2.2.2.2.2.2.2.2.2.1], .box [.int .i64 x.2.2.2.2.2.2.2.2.2.2.2.1, .int .i64 x.2.2.2.2.2.2.2.2.2.2.2.2.1, .int .i64 x.2.2.2.2.2.2.2.2.2.2.2.2.2.1, .int .i64 x.2.2.2.2.2.2.2.2.2.2.2.2.2.2.1, .own 4, .own 5, .bool x.2.2.2.2.2.2.2.2.2.2.2.2.2.2.2.1, .str x.2.2.2.2.2.2.2.2.2.2.2.2.2.2.2.2.1], .box [.int .i64 x.2.2.2.2.2.2.2.2.2.2.2.2.2.2.2.2.2.1, .int .i64 x.2.2.2.2.2.2.2.2.2.2.2.2.2.2.2.2.2.2.1, .int .i64 x.2.2.2.2.2.2.2.2.2.2.2.2.2.2.2.2.2.2.2.1, .int .i64 x.2.2.2.2.2.2.2.2.2.2.2.2.2.2.2.2.2.2.2.2.1, .own 6, .own 7, .bool x.2.2.2.2.2.2.2.2.2.2.2.2.2.2.2.2.2.2.2.2.2.1, .str x.2.2.2.2.2.2.2.2.2.2.2.2.2.2.2.2.2.2.2.2.2.2.1], .arr tRange x.2.2.2.2.2.2.2.2.2.2.2.2.2.2.2.2.2.2.2.2.2.2.2.1, .arr tWrite x.2.2.2.2.2.2.2.2.2.2.2.2.2.2.2.2.2.2.2.2.2.2.2.2.1, .arr tRange x.2.2.2.2.2.2.2.2.2.2.2.2.2.2.2.2.2.2.2.2.2.2.2.2.2.1, .arr tWrite x.2.2.2.2.2.2.2.2.2.2.2.2.2.2.2.2.2.2.2.2.2.2.2.2.2.2])
def spec_ReadRange_je5000004 : (Bool × Int × Int × Int × Int × (List dRange) × (List dWrite) × Bool × ByteArray × ByteArray × ByteArray × Int × Int × Int × Int × Bool × ByteArray × Int × Int × Int × Int × Bool × ByteArray × (List dRange) × (List dWrite)) → Out × List AV × St := (fun z => (.ret, [.bp 0 0, .bp 1 0, .bp 2 0, .bool z.1, .bp 3 0], [.box [.int .i64 z.2.1, .int .i64 z.2.2.1, .int .i64 z.2.2.2.1, .int .i64 z.2.2.2.2.1, .lst tRange z.2.2.2.2.2.1, .lst tWrite z.2.2.2.2.2.2.1, .bool z.2.2.2.2.2.2.2.1, .str z.2.2.2.2.2.2.2.2.1], .box [.str z.2.2.2.2.2.2.2.2.2.1, .str z.2.2.2.2.2.2.2.2.2.2.1], .box [.int .i64 z.2.2.2.2.2.2.2.2.2.2.2.1, .int .i64 z.2.2.2.2.2.2.2.2.2.2.2.2.1, .int .i64 z.2.2.2.2.2.2.2.2.2.2.2.2.2.1, .int .i64 z.2.2.2.2.2.2.2.2.2.2.2.2.2.2.1, .own 4, .own 5, .bool z.2.2.2.2.2.2.2.2.2.2.2.2.2.2.2.1, .str z.2.2.2.2.2.2.2.2.2.2.2.2.2.2.2.2.1], .box [.int .i64 z.2.2.2.2.2.2.2.2.2.2.2.2.2.2.2.2.2.1, .int .i64 z.2.2.2.2.2.2.2.2.2.2.2.2.2.2.2.2.2.2.1, .int .i64 z.2.2.2.2.2.2.2.2.2.2.2.2.2.2.2.2.2.2.2.1, .int .i64 z.2.2.2.2.2.2.2.2.2.2.2.2.2.2.2.2.2.2.2.2.1, .own 4, .own 5, .bool z.2.2.2.2.2.2.2.2.2.2.2.2.2.2.2.2.2.2.2.2.2.1, .str z.2.2.2.2.2.2.2.2.2.2.2.2.2.2.2.2.2.2.2.2.2.2.1], .arr tRange z.2.2.2.2.2.2.2.2.2.2.2.2.2.2.2.2.2.2.2.2.2.2.2.1, .arr tWrite z.2.2.2.2.2.2.2.2.2.2.2.2.2.2.2.2.2.2.2.2.2.2.2.2]))

theorem spec_ReadRange_jx5000004 (x : (Bool × Int × Int × Int × Int × (List dRange) × (List dWrite) × Bool × ByteArray × ByteArray × ByteArray × Int × Int × Int × Int × Bool × ByteArray × Int × Int × Int × Int × Bool × ByteArray × (List dRange) × (List dWrite) × (List dRange) × (List dWrite))) : exec G17 ⟨0, 51, spec_ReadRange_loops⟩ (loopBody Try.f55 5000004) (bodyK ⟨0, 51, spec_ReadRange_loops⟩ [2, 3, 4, 5, 6] [none, none, none, none, none, none, none, none, none, none, none, none, none, none, none, none, none, none, none, some tRange, some tWrite]) (setEs (deads 51) [2, 3, 4, 5, 6] (spec_ReadRange_jv5000004 x)) (spec_ReadRange_js5000004 x) = spec_ReadRange_j5000004 x (fun z => some ⟨(spec_ReadRange_je5000004 z).1, (spec_ReadRange_je5000004 z).2.1, (spec_ReadRange_je5000004 z).2.2⟩) := by
  kernel_rfl

theorem spec_ReadRange_lo5000004 : ∀ sp, (spec_ReadRange_loops 5000004) = some sp → CutOk G17 ⟨0, 51, spec_ReadRange_loops⟩ sp (loopBody Try.f55 5000004) := by
  intro sp hsp vals st k r h
  cases hsp
  dsimp only at h
  rcases onPats_inv2 h with ⟨p, q, rfl, rfl, h⟩ | h
  · exact cut_runs spec_ReadRange_jp5000004 spec_ReadRange_jv5000004 spec_ReadRange_js5000004 spec_ReadRange_je5000004 spec_ReadRange_jx5000004 (p.2.2.2.1, q.1.1, q.1.2.1, q.1.2.2.1, q.1.2.2.2.1, q.1.2.2.2.2.1, q.1.2.2.2.2.2.1, q.1.2.2.2.2.2.2.1, q.1.2.2.2.2.2.2.2.1, q.2.1.1, q.2.1.2.1, q.2.2.1.1, q.2.2.1.2.1, q.2.2.1.2.2.1, q.2.2.1.2.2.2.1, q.2.2.1.2.2.2.2.2.2.1, q.2.2.1.2.2.2.2.2.2.2.1, q.2.2.2.1.1, q.2.2.2.1.2.1, q.2.2.2.1.2.2.1, q.2.2.2.1.2.2.2.1, q.2.2.2.1.2.2.2.2.2.2.1, q.2.2.2.1.2.2.2.2.2.2.2.1, q.2.2.2.2.1, q.2.2.2.2.2.1, q.2.2.2.2.2.2.1, q.2.2.2.2.2.2.2.1) _ k r (fun z => rfl) h
  cases h

theorem spec_ReadRange_x (a0 : Int) (a1 : Int) (a2 : Int) (a3 : Int) (a4 : (List dRange)) (a5 : (List dWrite)) (a6 : Bool) (a7 : ByteArray) (a8 : ByteArray) (a9 : ByteArray) : execFn G17 spec_ReadRange_loops Try.f55 [.agg [.int .i64 a0, .int .i64 a1, .int .i64 a2, .int .i64 a3, .lst tRange a4, .lst tWrite a5, .bool a6, .str a7], .agg [.str a8, .str a9]] [] = spec_ReadRange_d (a0, (a1, (a2, (a3, (a4, (a5, (a6, a7))))))) (a8, a9) (fun (y : (Int × Int × Int × Int × Bool × ByteArray × Bool × (List dRange) × (List dWrite))) => some ⟨.ret, [.tup [.agg [.int .i64 y.1, .int .i64 y.2.1, .int .i64 y.2.2.1, .int .i64 y.2.2.2.1, .own 0, .own 1, .bool y.2.2.2.2.1, .str y.2.2.2.2.2.1], .bool y.2.2.2.2.2.2.1]], [.arr tRange y.2.2.2.2.2.2.2.1, .arr tWrite y.2.2.2.2.2.2.2.2]⟩) := by kernel_rfl

theorem spec_ReadRange_y (a0 : Int) (a1 : Int) (a2 : Int) (a3 : Int) (a4 : (List dRange)) (a5 : (List dWrite)) (a6 : Bool) (a7 : ByteArray) (a8 : ByteArray) (a9 : ByteArray) : execFn G17 spec_ReadRange_loops Try.f55 [.agg [.int .i64 a0, .int .i64 a1, .int .i64 a2, .int .i64 a3, .lst tRange a4, .lst tWrite a5, .bool a6, .str a7], .agg [.str a8, .str a9]] [] = spec_ReadRange_k (a0, (a1, (a2, (a3, (a4, (a5, (a6, a7))))))) (a8, a9) (fun (y : (Int × Int × Int × Int × Bool × ByteArray × Bool × (List dRange) × (List dWrite))) => some ⟨.ret, [.tup [.agg [.int .i64 y.1, .int .i64 y.2.1, .int .i64 y.2.2.1, .int .i64 y.2.2.2.1, .own 0, .own 1, .bool y.2.2.2.2.1, .str y.2.2.2.2.2.1], .bool y.2.2.2.2.2.2.1]], [.arr tRange y.2.2.2.2.2.2.2.1, .arr tWrite y.2.2.2.2.2.2.2.2]⟩) := (spec_ReadRange_x a0 a1 a2 a3 a4 a5 a6 a7 a8 a9).trans (by rw [spec_ReadRange_e])

theorem spec_ReadRange_l : LoopsOk G17 ⟨0, 51, spec_ReadRange_loops⟩ (Try.f55.body.getD .skip) :=
  loopsOk_of (ids := [0, 5000004]) (by kernel_rfl) (by kernel_rfl) ⟨spec_ReadRange_lo0, ⟨spec_ReadRange_lo5000004, trivial⟩⟩

theorem spec_ReadRange_c : Contract Try.prog 55 spec_ReadRange_g := by
  refine told G17_ok follows Try.func55 (c := Try.f55.body.getD .skip) (by kernel_rfl) ?_
  intro args s k r hk
  unfold spec_ReadRange_g at hk
  rcases onPats_inv hk with ⟨p, q, rfl, rfl⟩ | hk
  · exact ⟨spec_ReadRange_loops, spec_ReadRange_q p.1.1 p.1.2.1 p.1.2.2.1 p.1.2.2.2.1 p.1.2.2.2.2.1 p.1.2.2.2.2.2.1 p.1.2.2.2.2.2.2.1 p.1.2.2.2.2.2.2.2.1 p.2.1.1 p.2.1.2.1, spec_ReadRange_y p.1.1 p.1.2.1 p.1.2.2.1 p.1.2.2.2.1 p.1.2.2.2.2.1 p.1.2.2.2.2.2.1 p.1.2.2.2.2.2.2.1 p.1.2.2.2.2.2.2.2.1 p.2.1.1 p.2.1.2.1, spec_ReadRange_l⟩
  cases hk

def G18 : Glob := G17.add 55 spec_ReadRange_g

theorem G18_ok : GlobOk Try.prog G18 := G17_ok.add ⟨Try.f55, Try.func55, by kernel_rfl, by kernel_rfl⟩ spec_ReadRange_c

/-! ### loop.example/g00327/impl.copyTxn -/

def impl_copyTxn_loops : Nat → Option LoopSpec
  | _ => none

theorem impl_copyTxn_x (a0 : Int) (a1 : Int) (a2 : Int) (a3 : Int) (a4 : (List dRange)) (a5 : (List dWrite)) (a6 : Bool) (a7 : ByteArray) : execFn G18 impl_copyTxn_loops Try.f129 [.agg [.int .i64 a0, .int .i64 a1, .int .i64 a2, .int .i64 a3, .lst tRange a4, .lst tWrite a5, .bool a6, .str a7]] [] = impl_copyTxn_d (a0, (a1, (a2, (a3, (a4, (a5, (a6, a7))))))) (fun (y : (Int × Int × Int × Int × Bool × ByteArray × (List dRange) × (List dWrite))) => some ⟨.ret, [.agg [.int .i64 y.1, .int .i64 y.2.1, .int .i64 y.2.2.1, .int .i64 y.2.2.2.1, .own 0, .own 1, .bool y.2.2.2.2.1, .str y.2.2.2.2.2.1]], [.arr tRange y.2.2.2.2.2.2.1, .arr tWrite y.2.2.2.2.2.2.2]⟩) := by kernel_rfl

theorem impl_copyTxn_y (a0 : Int) (a1 : Int) (a2 : Int) (a3 : Int) (a4 : (List dRange)) (a5 : (List dWrite)) (a6 : Bool) (a7 : ByteArray) : execFn G18 impl_copyTxn_loops Try.f129 [.agg [.int .i64 a0, .int .i64 a1, .int .i64 a2, .int .i64 a3, .lst tRange a4, .lst tWrite a5, .bool a6, .str a7]] [] = impl_copyTxn_k (a0, (a1, (a2, (a3, (a4, (a5, (a6, a7))))))) (fun (y : (Int × Int × Int × Int × Bool × ByteArray × (List dRange) × (List dWrite))) => some ⟨.ret, [.agg [.int .i64 y.1, .int .i64 y.2.1, .int .i64 y.2.2.1, .int .i64 y.2.2.2.1, .own 0, .own 1, .bool y.2.2.2.2.1, .str y.2.2.2.2.2.1]], [.arr tRange y.2.2.2.2.2.2.1, .arr tWrite y.2.2.2.2.2.2.2]⟩) := (impl_copyTxn_x a0 a1 a2 a3 a4 a5 a6 a7).trans (by rw [impl_copyTxn_e])

theorem impl_copyTxn_l : LoopsOk G18 ⟨0, 12, impl_copyTxn_loops⟩ (Try.f129.body.getD .skip) :=
  loopsOk_of (ids := []) (by kernel_rfl) (by kernel_rfl) trivial

theorem impl_copyTxn_c : Contract Try.prog 129 impl_copyTxn_g := by
  refine told G18_ok follows Try.func129 (c := Try.f129.body.getD .skip) (by kernel_rfl) ?_
  intro args s k r hk
  unfold impl_copyTxn_g at hk
  rcases onPats_inv hk with ⟨p, q, rfl, rfl⟩ | hk
  · exact ⟨impl_copyTxn_loops, impl_copyTxn_q p.1.1 p.1.2.1 p.1.2.2.1 p.1.2.2.2.1 p.1.2.2.2.2.1 p.1.2.2.2.2.2.1 p.1.2.2.2.2.2.2.1 p.1.2.2.2.2.2.2.2.1, impl_copyTxn_y p.1.1 p.1.2.1 p.1.2.2.1 p.1.2.2.2.1 p.1.2.2.2.2.1 p.1.2.2.2.2.2.1 p.1.2.2.2.2.2.2.1 p.1.2.2.2.2.2.2.2.1, impl_copyTxn_l⟩
  cases hk

def G19 : Glob := G18.add 129 impl_copyTxn_g

theorem G19_ok : GlobOk Try.prog G19 := G18_ok.add ⟨Try.f129, Try.func129, by kernel_rfl, by kernel_rfl⟩ impl_copyTxn_c

/-! ### loop.example/g00327/impl.within -/

def impl_within_loops : Nat → Option LoopSpec
  | _ => none

theorem impl_within_x (a0 : Int) (a1 : Int) (a2 : Int) : execFn G19 impl_within_loops Try.f147 [.int .i64 a0, .int .i64 a1, .int .i64 a2] [] = impl_within_d a0 a1 a2 (fun (y : Bool) => some ⟨.ret, [.bool y], []⟩) := by kernel_rfl

theorem impl_within_y (a0 : Int) (a1 : Int) (a2 : Int) : execFn G19 impl_within_loops Try.f147 [.int .i64 a0, .int .i64 a1, .int .i64 a2] [] = impl_within_k a0 a1 a2 (fun (y : Bool) => some ⟨.ret, [.bool y], []⟩) := (impl_within_x a0 a1 a2).trans (by rw [impl_within_e])

theorem impl_within_l : LoopsOk G19 ⟨0, 15, impl_within_loops⟩ (Try.f147.body.getD .skip) :=
  loopsOk_of (ids := []) (by kernel_rfl) (by kernel_rfl) trivial

theorem impl_within_c : Contract Try.prog 147 impl_within_g := by
  refine told G19_ok follows Try.func147 (c := Try.f147.body.getD .skip) (by kernel_rfl) ?_
  intro args s k r hk
  unfold impl_within_g at hk
  rcases onPats_inv hk with ⟨p, q, rfl, rfl⟩ | hk
  · exact ⟨impl_within_loops, impl_within_q p.1 p.2.1 p.2.2.1, impl_within_y p.1 p.2.1 p.2.2.1, impl_within_l⟩
  cases hk

def G20 : Glob := G19.add 147 impl_within_g

theorem G20_ok : GlobOk Try.prog G20 := G19_ok.add ⟨Try.f147, Try.func147, by kernel_rfl, by kernel_rfl⟩ impl_within_c

/-! ### loop.example/g00327/impl.KeyOk -/

def impl_KeyOk_loops : Nat → Option LoopSpec
  | 0 => some ⟨[0, 2, 3], [], fun vals st k => onPats [.str, .bool, .int .i64] [] vals st (fun p q => loopK impl_KeyOk_b0 Fuel (p.1, p.2.1, p.2.2.1) (Sum.elim (fun z => k .ret [.str z.1, .bool z.2.1, .int .i64 z.2.2] []) (fun z => k (.exit 0) [.str z.1, .bool z.2.1, .int .i64 z.2.2] [])))
      (none)⟩
  | _ => none

def impl_KeyOk_v0 : (ByteArray × Bool × Int) → List AV := (fun x => [.str x.1, .bool x.2.1, .int .i64 x.2.2])
def impl_KeyOk_s0 : (ByteArray × Bool × Int) → St := (fun x => [])
def impl_KeyOk_e0 : ((ByteArray × Bool × Int) ⊕ (ByteArray × Bool × Int)) → Out × List AV × St := (Sum.elim (fun z => (.ret, [.str z.1, .bool z.2.1, .int .i64 z.2.2], [])) (fun z => ((.exit 0), [.str z.1, .bool z.2.1, .int .i64 z.2.2], [])))

theorem impl_KeyOk_bx0 (x : (ByteArray × Bool × Int)) : exec G20 ⟨0, 23, impl_KeyOk_loops⟩ (loopBody Try.f170 0) (bodyK ⟨0, 23, impl_KeyOk_loops⟩ [0, 2, 3] []) (setEs (deads 23) [0, 2, 3] (impl_KeyOk_v0 x)) (impl_KeyOk_s0 x) = impl_KeyOk_b0 x (Sum.elim (fun y => some ⟨.norm, impl_KeyOk_v0 y, impl_KeyOk_s0 y⟩) fun z => some ⟨(impl_KeyOk_e0 z).1, (impl_KeyOk_e0 z).2.1, (impl_KeyOk_e0 z).2.2⟩) := by
  kernel_rfl

theorem impl_KeyOk_lo0 : ∀ sp, (impl_KeyOk_loops 0) = some sp → LoopOk G20 ⟨0, 23, impl_KeyOk_loops⟩ sp (loopBody Try.f170 0) := by
  intro sp hsp vals st k r h
  cases hsp
  dsimp only at h
  rcases onPats_inv2 h with ⟨p, q, rfl, rfl, h⟩ | h
  · exact loop_runs2 impl_KeyOk_bp0 impl_KeyOk_v0 impl_KeyOk_s0 impl_KeyOk_e0 (fun z => by rcases z with z | z <;> (intro h; cases h)) impl_KeyOk_bx0 Fuel (p.1, p.2.1, p.2.2.1) _ k r (fun z => by rcases z with z | z <;> rfl) h
  cases h

theorem impl_KeyOk_x (a0 : ByteArray) : execFn G20 impl_KeyOk_loops Try.f170 [.str a0] [] = impl_KeyOk_d a0 (fun (y : Bool) => some ⟨.ret, [.bool y], []⟩) := by kernel_rfl

theorem impl_KeyOk_y (a0 : ByteArray) : execFn G20 impl_KeyOk_loops Try.f170 [.str a0] [] = impl_KeyOk_k a0 (fun (y : Bool) => some ⟨.ret, [.bool y], []⟩) := (impl_KeyOk_x a0).trans (by rw [impl_KeyOk_e])

theorem impl_KeyOk_l : LoopsOk G20 ⟨0, 23, impl_KeyOk_loops⟩ (Try.f170.body.getD .skip) :=
  loopsOk_of (ids := [0]) (by kernel_rfl) (by kernel_rfl) ⟨impl_KeyOk_lo0, trivial⟩

theorem impl_KeyOk_c : Contract Try.prog 170 impl_KeyOk_g := by
  refine told G20_ok follows Try.func170 (c := Try.f170.body.getD .skip) (by kernel_rfl) ?_
  intro args s k r hk
  unfold impl_KeyOk_g at hk
  rcases onPats_inv hk with ⟨p, q, rfl, rfl⟩ | hk
  · exact ⟨impl_KeyOk_loops, impl_KeyOk_q p.1, impl_KeyOk_y p.1, impl_KeyOk_l⟩
  cases hk

def G21 : Glob := G20.add 170 impl_KeyOk_g

theorem G21_ok : GlobOk Try.prog G21 := G20_ok.add ⟨Try.f170, Try.func170, by kernel_rfl, by kernel_rfl⟩ impl_KeyOk_c

/-! ### loop.example/g00327/impl.RangeOk -/

def impl_RangeOk_loops : Nat → Option LoopSpec
  | _ => none

theorem impl_RangeOk_x (a0 : ByteArray) (a1 : ByteArray) : execFn G21 impl_RangeOk_loops Try.f130 [.agg [.str a0, .str a1]] [] = impl_RangeOk_d (a0, a1) (fun (y : Bool) => some ⟨.ret, [.bool y], []⟩) := by kernel_rfl

theorem impl_RangeOk_y (a0 : ByteArray) (a1 : ByteArray) : execFn G21 impl_RangeOk_loops Try.f130 [.agg [.str a0, .str a1]] [] = impl_RangeOk_k (a0, a1) (fun (y : Bool) => some ⟨.ret, [.bool y], []⟩) := (impl_RangeOk_x a0 a1).trans (by rw [impl_RangeOk_e])

theorem impl_RangeOk_l : LoopsOk G21 ⟨0, 18, impl_RangeOk_loops⟩ (Try.f130.body.getD .skip) :=
  loopsOk_of (ids := []) (by kernel_rfl) (by kernel_rfl) trivial

theorem impl_RangeOk_c : Contract Try.prog 130 impl_RangeOk_g := by
  refine told G21_ok follows Try.func130 (c := Try.f130.body.getD .skip) (by kernel_rfl) ?_
  intro args s k r hk
  unfold impl_RangeOk_g at hk
  rcases onPats_inv hk with ⟨p, q, rfl, rfl⟩ | hk
  · exact ⟨impl_RangeOk_loops, impl_RangeOk_q p.1.1 p.1.2.1, impl_RangeOk_y p.1.1 p.1.2.1, impl_RangeOk_l⟩
  cases hk

def G22 : Glob := G21.add 130 impl_RangeOk_g

theorem G22_ok : GlobOk Try.prog G22 := G21_ok.add ⟨Try.f130, Try.func130, by kernel_rfl, by kernel_rfl⟩ impl_RangeOk_c

/-! ### loop.example/g00327/impl.WriteOk -/

def impl_WriteOk_loops : Nat → Option LoopSpec
  | _ => none

theorem impl_WriteOk_x (a0 : ByteArray) (a1 : ByteArray) (a2 : Bool) : execFn G22 impl_WriteOk_loops Try.f142 [.agg [.str a0, .str a1, .bool a2]] [] = impl_WriteOk_d (a0, (a1, a2)) (fun (y : Bool) => some ⟨.ret, [.bool y], []⟩) := by kernel_rfl

theorem impl_WriteOk_y (a0 : ByteArray) (a1 : ByteArray) (a2 : Bool) : execFn G22 impl_WriteOk_loops Try.f142 [.agg [.str a0, .str a1, .bool a2]] [] = impl_WriteOk_k (a0, (a1, a2)) (fun (y : Bool) => some ⟨.ret, [.bool y], []⟩) := (impl_WriteOk_x a0 a1 a2).trans (by rw [impl_WriteOk_e])

theorem impl_WriteOk_l : LoopsOk G22 ⟨0, 22, impl_WriteOk_loops⟩ (Try.f142.body.getD .skip) :=
  loopsOk_of (ids := []) (by kernel_rfl) (by kernel_rfl) trivial

theorem impl_WriteOk_c : Contract Try.prog 142 impl_WriteOk_g := by
  refine told G22_ok follows Try.func142 (c := Try.f142.body.getD .skip) (by kernel_rfl) ?_
  intro args s k r hk
  unfold impl_WriteOk_g at hk
  rcases onPats_inv hk with ⟨p, q, rfl, rfl⟩ | hk
  · exact ⟨impl_WriteOk_loops, impl_WriteOk_q p.1.1 p.1.2.1 p.1.2.2.1, impl_WriteOk_y p.1.1 p.1.2.1 p.1.2.2.1, impl_WriteOk_l⟩
  cases hk

def G23 : Glob := G22.add 142 impl_WriteOk_g

theorem G23_ok : GlobOk Try.prog G23 := G22_ok.add ⟨Try.f142, Try.func142, by kernel_rfl, by kernel_rfl⟩ impl_WriteOk_c

/-! ### loop.example/g00327/impl.WritesOk -/

def impl_WritesOk_loops : Nat → Option LoopSpec
  | 0 => some ⟨[0, 2, 5, 6, 7], [], fun vals st k => onPats [.lst tWrite, .bool, .lst tWrite, .int .i64, .int .i64] [] vals st (fun p q => loopK impl_WritesOk_b0 Fuel (p.1, p.2.1, p.2.2.1, p.2.2.2.1, p.2.2.2.2.1) (Sum.elim (fun z => k .ret [.lst tWrite z.1, .bool z.2.1, .lst tWrite z.2.2.1, .int .i64 z.2.2.2.1, .int .i64 z.2.2.2.2] []) (fun z => k (.exit 0) [.lst tWrite z.1, .bool z.2.1, .lst tWrite z.2.2.1, .int .i64 z.2.2.2.1, .int .i64 z.2.2.2.2] [])))
      (none)⟩
  | _ => none

def impl_WritesOk_v0 : ((List dWrite) × Bool × (List dWrite) × Int × Int) → List AV := (fun x => [.lst tWrite x.1, .bool x.2.1, .lst tWrite x.2.2.1, .int .i64 x.2.2.2.1, .int .i64 x.2.2.2.2])
def impl_WritesOk_s0 : ((List dWrite) × Bool × (List dWrite) × Int × Int) → St := (fun x => [])
def impl_WritesOk_e0 : (((List dWrite) × Bool × (List dWrite) × Int × Int) ⊕ ((List dWrite) × Bool × (List dWrite) × Int × Int)) → Out × List AV × St := (Sum.elim (fun z => (.ret, [.lst tWrite z.1, .bool z.2.1, .lst tWrite z.2.2.1, .int .i64 z.2.2.2.1, .int .i64 z.2.2.2.2], [])) (fun z => ((.exit 0), [.lst tWrite z.1, .bool z.2.1, .lst tWrite z.2.2.1, .int .i64 z.2.2.2.1, .int .i64 z.2.2.2.2], [])))

theorem impl_WritesOk_bx0 (x : ((List dWrite) × Bool × (List dWrite) × Int × Int)) : exec G23 ⟨0, 34, impl_WritesOk_loops⟩ (loopBody Try.f169 0) (bodyK ⟨0, 34, impl_WritesOk_loops⟩ [0, 2, 5, 6, 7] []) (setEs (deads 34) [0, 2, 5, 6, 7] (impl_WritesOk_v0 x)) (impl_WritesOk_s0 x) = impl_WritesOk_b0 x (Sum.elim (fun y => some ⟨.norm, impl_WritesOk_v0 y, impl_WritesOk_s0 y⟩) fun z => some ⟨(impl_WritesOk_e0 z).1, (impl_WritesOk_e0 z).2.1, (impl_WritesOk_e0 z).2.2⟩) := by
  kernel_rfl

theorem impl_WritesOk_lo0 : ∀ sp, (impl_WritesOk_loops 0) = some sp → LoopOk G23 ⟨0, 34, impl_WritesOk_loops⟩ sp (loopBody Try.f169 0) := by
  intro sp hsp vals st k r h
  cases hsp
  dsimp only at h
  rcases onPats_inv2 h with ⟨p, q, rfl, rfl, h⟩ | h
  · exact loop_runs2 impl_WritesOk_bp0 impl_WritesOk_v0 impl_WritesOk_s0 impl_WritesOk_e0 (fun z => by rcases z with z | z <;> (intro h; cases h)) impl_WritesOk_bx0 Fuel (p.1, p.2.1, p.2.2.1, p.2.2.2.1, p.2.2.2.2.1) _ k r (fun z => by rcases z with z | z <;> rfl) h
  cases h

theorem impl_WritesOk_x (a0 : (List dWrite)) : execFn G23 impl_WritesOk_loops Try.f169 [.lst tWrite a0] [] = impl_WritesOk_d a0 (fun (y : Bool) => some ⟨.ret, [.bool y], []⟩) := by kernel_rfl

theorem impl_WritesOk_y (a0 : (List dWrite)) : execFn G23 impl_WritesOk_loops Try.f169 [.lst tWrite a0] [] = impl_WritesOk_k a0 (fun (y : Bool) => some ⟨.ret, [.bool y], []⟩) := (impl_WritesOk_x a0).trans (by rw [impl_WritesOk_e])

theorem impl_WritesOk_l : LoopsOk G23 ⟨0, 34, impl_WritesOk_loops⟩ (Try.f169.body.getD .skip) :=
  loopsOk_of (ids := [0]) (by kernel_rfl) (by kernel_rfl) ⟨impl_WritesOk_lo0, trivial⟩

theorem impl_WritesOk_c : Contract Try.prog 169 impl_WritesOk_g := by
  refine told G23_ok follows Try.func169 (c := Try.f169.body.getD .skip) (by kernel_rfl) ?_
  intro args s k r hk
  unfold impl_WritesOk_g at hk
  rcases onPats_inv hk with ⟨p, q, rfl, rfl⟩ | hk
  · exact ⟨impl_WritesOk_loops, impl_WritesOk_q p.1, impl_WritesOk_y p.1, impl_WritesOk_l⟩
  cases hk

def G24 : Glob := G23.add 169 impl_WritesOk_g

theorem G24_ok : GlobOk Try.prog G24 := G23_ok.add ⟨Try.f169, Try.func169, by kernel_rfl, by kernel_rfl⟩ impl_WritesOk_c

/-! ### loop.example/g00327/impl.TxnOk -/

def impl_TxnOk_loops : Nat → Option LoopSpec
  | 5000011 => some ⟨[1, 2], [], fun vals st k => onPats [.bp 0 0, .bool] [.box [.int .i64, .int .i64, .int .i64, .int .i64, .lst tRange, .lst tWrite, .bool, .str]] vals st (fun p q => impl_TxnOk_j5000011 (p.2.1, q.1.1, q.1.2.1, q.1.2.2.1, q.1.2.2.2.1, q.1.2.2.2.2.1, q.1.2.2.2.2.2.1, q.1.2.2.2.2.2.2.1, q.1.2.2.2.2.2.2.2.1) (fun z => k .ret [.bp 0 0, .bool z.1] [.box [.int .i64 z.2.1, .int .i64 z.2.2.1, .int .i64 z.2.2.2.1, .int .i64 z.2.2.2.2.1, .lst tRange z.2.2.2.2.2.1, .lst tWrite z.2.2.2.2.2.2.1, .bool z.2.2.2.2.2.2.2.1, .str z.2.2.2.2.2.2.2.2]]))
      (none)⟩
  | 5000009 => some ⟨[1, 2], [], fun vals st k => onPats [.bp 0 0, .bool] [.box [.int .i64, .int .i64, .int .i64, .int .i64, .lst tRange, .lst tWrite, .bool, .str]] vals st (fun p q => impl_TxnOk_j5000009 (p.2.1, q.1.1, q.1.2.1, q.1.2.2.1, q.1.2.2.2.1, q.1.2.2.2.2.1, q.1.2.2.2.2.2.1, q.1.2.2.2.2.2.2.1, q.1.2.2.2.2.2.2.2.1) (fun z => k .ret [.bp 0 0, .bool z.1] [.box [.int .i64 z.2.1, .int .i64 z.2.2.1, .int .i64 z.2.2.2.1, .int .i64 z.2.2.2.2.1, .lst tRange z.2.2.2.2.2.1, .lst tWrite z.2.2.2.2.2.2.1, .bool z.2.2.2.2.2.2.2.1, .str z.2.2.2.2.2.2.2.2]]))
      (none)⟩
  | 0 => some ⟨[1, 2, 6, 7, 8], [], fun vals st k => onPats [.bp 0 0, .bool, .lst tRange, .int .i64, .int .i64] [.box [.int .i64, .int .i64, .int .i64, .int .i64, .lst tRange, .lst tWrite, .bool, .str]] vals st (fun p q => loopK impl_TxnOk_b0 Fuel (p.2.1, p.2.2.1, p.2.2.2.1, p.2.2.2.2.1, q.1.1, q.1.2.1, q.1.2.2.1, q.1.2.2.2.1, q.1.2.2.2.2.1, q.1.2.2.2.2.2.1, q.1.2.2.2.2.2.2.1, q.1.2.2.2.2.2.2.2.1) (Sum.elim (fun z => k .ret [.bp 0 0, .bool z.1, .lst tRange z.2.1, .int .i64 z.2.2.1, .int .i64 z.2.2.2.1] [.box [.int .i64 z.2.2.2.2.1, .int .i64 z.2.2.2.2.2.1, .int .i64 z.2.2.2.2.2.2.1, .int .i64 z.2.2.2.2.2.2.2.1, .lst tRange z.2.2.2.2.2.2.2.2.1, .lst tWrite z.2.2.2.2.2.2.2.2.2.1, .bool z.2.2.2.2.2.2.2.2.2.2.1, .str z.2.2.2.2.2.2.2.2.2.2.2]]) (fun z => k (.exit 0) [.bp 0 0, .bool z.1, .lst tRange z.2.1, .int .i64 z.2.2.1, .int .i64 z.2.2.2.1] [.box [.int .i64 z.2.2.2.2.1, .int .i64 z.2.2.2.2.2.1, .int .i64 z.2.2.2.2.2.2.1, .int .i64 z.2.2.2.2.2.2.2.1, .lst tRange z.2.2.2.2.2.2.2.2.1, .lst tWrite z.2.2.2.2.2.2.2.2.2.1, .bool z.2.2.2.2.2.2.2.2.2.2.1, .str z.2.2.2.2.2.2.2.2.2.2.2]])))
      (none)⟩
  | _ => none

def impl_TxnOk_jv5000011 : (Bool × Int × Int × Int × Int × (List dRange) × (List dWrite) × Bool × ByteArray) → List AV := (fun x => [.bp 0 0, .bool x.1])
def impl_TxnOk_js5000011 : (Bool × Int × Int × Int × Int × (List dRange) × (List dWrite) × Bool × ByteArray) → St := (fun x => [.box [.int .i64 x.2.1, .int .i64 x.2.2.1, .int .i64 x.2.2.2.1, .int .i64 x.2.2.2.2.1, .lst tRange x.2.2.2.2.2.1, .lst tWrite x.2.2.2.2.2.2.1, .bool x.2.2.2.2.2.2.2.1, .str x.2.2.2.2.2.2.2.2]])
def impl_TxnOk_je5000011 : (Bool × Int × Int × Int × Int × (List dRange) × (List dWrite) × Bool × ByteArray) → Out × List AV × St := (fun z => (.ret, [.bp 0 0, .bool z.1], [.box [.int .i64 z.2.1, .int .i64 z.2.2.1, .int .i64 z.2.2.2.1, .int .i64 z.2.2.2.2.1, .lst tRange z.2.2.2.2.2.1, .lst tWrite z.2.2.2.2.2.2.1, .bool z.2.2.2.2.2.2.2.1, .str z.2.2.2.2.2.2.2.2]]))

theorem impl_TxnOk_jx5000011 (x : (Bool × Int × Int × Int × Int × (List dRange) × (List dWrite) × Bool × ByteArray)) : exec G24 ⟨0, 93, impl_TxnOk_loops⟩ (loopBody Try.f90 5000011) (bodyK ⟨0, 93, impl_TxnOk_loops⟩ [1, 2] []) (setEs (deads 93) [1, 2] (impl_TxnOk_jv5000011 x)) (impl_TxnOk_js5000011 x) = impl_TxnOk_j5000011 x (fun z => some ⟨(impl_TxnOk_je5000011 z).1, (impl_TxnOk_je5000011 z).2.1, (impl_TxnOk_je5000011 z).2.2⟩) := by
  kernel_rfl

theorem impl_TxnOk_lo5000011 : ∀ sp, (impl_TxnOk_loops 5000011) = some sp → CutOk G24 ⟨0, 93, impl_TxnOk_loops⟩ sp (loopBody Try.f90 5000011) := by
  intro sp hsp vals st k r h
  cases hsp
  dsimp only at h
  rcases onPats_inv2 h with ⟨p, q, rfl, rfl, h⟩ | h
  · exact cut_runs impl_TxnOk_jp5000011 impl_TxnOk_jv5000011 impl_TxnOk_js5000011 impl_TxnOk_je5000011 impl_TxnOk_jx5000011 (p.2.1, q.1.1, q.1.2.1, q.1.2.2.1, q.1.2.2.2.1, q.1.2.2.2.2.1, q.1.2.2.2.2.2.1, q.1.2.2.2.2.2.2.1, q.1.2.2.2.2.2.2.2.1) _ k r (fun z => rfl) h
  cases h

def impl_TxnOk_jv5000009 : (Bool × Int × Int × Int × Int × (List dRange) × (List dWrite) × Bool × ByteArray) → List AV := (fun x => [.bp 0 0, .bool x.1])
def impl_TxnOk_js5000009 : (Bool × Int × Int × Int × Int × (List dRange) × (List dWrite) × Bool × ByteArray) → St := (fun x => [.box [.int .i64 x.2.1, .int .i64 x.2.2.1, .int .i64 x.2.2.2.1, .int .i64 x.2.2.2.2.1, .lst tRange x.2.2.2.2.2.1, .lst tWrite x.2.2.2.2.2.2.1, .bool x.2.2.2.2.2.2.2.1, .str x.2.2.2.2.2.2.2.2]])
def impl_TxnOk_je5000009 : (Bool × Int × Int × Int × Int × (List dRange) × (List dWrite) × Bool × ByteArray) → Out × List AV × St := (fun z => (.ret, [.bp 0 0, .bool z.1], [.box [.int .i64 z.2.1, .int .i64 z.2.2.1, .int .i64 z.2.2.2.1, .int .i64 z.2.2.2.2.1, .lst tRange z.2.2.2.2.2.1, .lst tWrite z.2.2.2.2.2.2.1, .bool z.2.2.2.2.2.2.2.1, .str z.2.2.2.2.2.2.2.2]]))

theorem impl_TxnOk_jx5000009 (x : (Bool × Int × Int × Int × Int × (List dRange) × (List dWrite) × Bool × ByteArray)) : exec G24 ⟨0, 93, impl_TxnOk_loops⟩ (loopBody Try.f90 5000009) (bodyK ⟨0, 93, impl_TxnOk_loops⟩ [1, 2] []) (setEs (deads 93) [1, 2] (impl_TxnOk_jv5000009 x)) (impl_TxnOk_js5000009 x) = impl_TxnOk_j5000009 x (fun z => some ⟨(impl_TxnOk_je5000009 z).1, (impl_TxnOk_je5000009 z).2.1, (impl_TxnOk_je5000009 z).2.2⟩) := by
  kernel_rfl

theorem impl_TxnOk_lo5000009 : ∀ sp, (impl_TxnOk_loops 5000009) = some sp → CutOk G24 ⟨0, 93, impl_TxnOk_loops⟩ sp (loopBody Try.f90 5000009) := by
  intro sp hsp vals st k r h
  cases hsp
  dsimp only at h
  rcases onPats_inv2 h with ⟨p, q, rfl, rfl, h⟩ | h
  · exact cut_runs impl_TxnOk_jp5000009 impl_TxnOk_jv5000009 impl_TxnOk_js5000009 impl_TxnOk_je5000009 impl_TxnOk_jx5000009 (p.2.1, q.1.1, q.1.2.1, q.1.2.2.1, q.1.2.2.2.1, q.1.2.2.2.2.1, q.1.2.2.2.2.2.1, q.1.2.2.2.2.2.2.1, q.1.2.2.2.2.2.2.2.1) _ k r (fun z => rfl) h
  cases h

def impl_TxnOk_v0 : (Bool × (List dRange) × Int × Int × Int × Int × Int × Int × (List dRange) × (List dWrite) × Bool × ByteArray) → List AV := (fun x => [.bp 0 0, .bool x.1, .lst tRange x.2.1, .int .i64 x.2.2.1, .int .i64 x.2.2.2.1])
def impl_TxnOk_s0 : (Bool × (List dRange) × Int × Int × Int × Int × Int × Int × (List dRange) × (List dWrite) × Bool × ByteArray) → St := (fun x => [.box [.int .i64 x.2.2.2.2.1, .int .i64 x.2.2.2.2.2.1, .int .i64 x.2.2.2.2.2.2.1, .int .i64 x.2.2.2.2.2.2.2.1, .lst tRange x.2.2.2.2.2.2.2.2.1, .lst tWrite x.2.2.2.2.2.2.2.2.2.1, .bool x.2.2.2.2.2.2.2.2.2.2.1, .str x.2.2.2.2.2.2.2.2.2.2.2]])
def impl_TxnOk_e0 : ((Bool × (List dRange) × Int × Int × Int × Int × Int × Int × (List dRange) × (List dWrite) × Bool × ByteArray) ⊕ (Bool × (List dRange) × Int × Int × Int × Int × Int × Int × (List dRange) × (List dWrite) × Bool × ByteArray)) → Out × List AV × St := (Sum.elim (fun z => (.ret, [.bp 0 0, .bool z.1, .lst tRange z.2.1, .int .i64 z.2.2.1, .int .i64 z.2.2.2.1], [.box [.int .i64 z.2.2.2.2.1, .int .i64 z.2.2.2.2.2.1, .int .i64 z.2.2.2.2.2.2.1, .int .i64 z.2.2.2.2.2.2.2.1, .lst tRange z.2.2.2.2.2.2.2.2.1, .lst tWrite z.2.2.2.2.2.2.2.2.2.1, .bool z.2.2.2.2.2.2.2.2.2.2.1, .str z.2.2.2.2.2.2.2.2.2.2.2]])) (fun z => ((.exit 0), [.bp 0 0, .bool z.1, .lst tRange z.2.1, .int .i64 z.2.2.1, .int .i64 z.2.2.2.1], [.box [.int .i64 z.2.2.2.2.1, .int .i64 z.2.2.2.2.2.1, .int .i64 z.2.2.2.2.2.2.1, .int .i64 z.2.2.2.2.2.2.2.1, .lst tRange z.2.2.2.2.2.2.2.2.1, .lst tWrite z.2.2.2.2.2.2.2.2.2.1, .bool z.2.2.2.2.2.2.2.2.2.2.1, .str z.2.2.2.2.2.2.2.2.2.2.2]])))

theorem impl_TxnOk_bx0 (x : (Bool × (List dRange) × Int × Int × Int × Int × Int × Int × (List dRange) × (List dWrite) × Bool × ByteArray)) : exec G24 ⟨0, 93, impl_TxnOk_loops⟩ (loopBody Try.f90 0) (bodyK ⟨0, 93, impl_TxnOk_loops⟩ [1, 2, 6, 7, 8] []) (setEs (deads 93) [1, 2, 6, 7, 8] (impl_TxnOk_v0 x)) (impl_TxnOk_s0 x) = impl_TxnOk_b0 x (Sum.elim (fun y => some ⟨.norm, impl_TxnOk_v0 y, impl_TxnOk_s0 y⟩) fun z => some ⟨(impl_TxnOk_e0 z).1, (impl_TxnOk_e0 z).2.1, (impl_TxnOk_e0 z).2.2⟩) := by
  kernel_rfl

theorem impl_TxnOk_lo0 : ∀ sp, (impl_TxnOk_loops 0) = some sp → LoopOk G24 ⟨0, 93, impl_TxnOk_loops⟩ sp (loopBody Try.f90 0) := by
  intro sp hsp vals st k r h
  cases hsp
  dsimp only at h
  rcases onPats_inv2 h with ⟨p, q, rfl, rfl, h⟩ | h
  · exact loop_runs2 impl_TxnOk_bp0 impl_TxnOk_v0 impl_TxnOk_s0 impl_TxnOk_e0 (fun z => by rcases z with z | z <;> (intro h; cases h)) impl_TxnOk_bx0 Fuel (p.2.1, p.2.2.1, p.2.2.2.1, p.2.2.2.2.1, q.1.1, q.1.2.1, q.1.2.2.1, q.1.2.2.2.1, q.1.2.2.2.2.1, q.1.2.2.2.2.2.1, q.1.2.2.2.2.2.2.1, q.1.2.2.2.2.2.2.2.1) _ k r (fun z => by rcases z with z | z <;> rfl) h
  cases h

theorem impl_TxnOk_x (a0 : Int) (a1 : Int) (a2 : Int) (a3 : Int) (a4 : (List dRange)) (a5 : (List dWrite)) (a6 : Bool) (a7 : ByteArray) : execFn G24 impl_TxnOk_loops Try.f90 [.agg [.int .i64 a0, .int .i64 a1, .int .i64 a2, .int .i64 a3, .lst tRange a4, .lst tWrite a5, .bool a6, .str a7]] [] = impl_TxnOk_d (a0, (a1, (a2, (a3, (a4, (a5, (a6, a7))))))) (fun (y : Bool) => some ⟨.ret, [.bool y], []⟩) := by kernel_rfl

theorem impl_TxnOk_y (a0 : Int) (a1 : Int) (a2 : Int) (a3 : Int) (a4 : (List dRange)) (a5 : (List dWrite)) (a6 : Bool) (a7 : ByteArray) : execFn G24 impl_TxnOk_loops Try.f90 [.agg [.int .i64 a0, .int .i64 a1, .int .i64 a2, .int .i64 a3, .lst tRange a4, .lst tWrite a5, .bool a6, .str a7]] [] = impl_TxnOk_k (a0, (a1, (a2, (a3, (a4, (a5, (a6, a7))))))) (fun (y : Bool) => some ⟨.ret, [.bool y], []⟩) := (impl_TxnOk_x a0 a1 a2 a3 a4 a5 a6 a7).trans (by rw [impl_TxnOk_e])

theorem impl_TxnOk_l : LoopsOk G24 ⟨0, 93, impl_TxnOk_loops⟩ (Try.f90.body.getD .skip) :=
  loopsOk_of (ids := [5000011, 5000009, 0]) (by kernel_rfl) (by kernel_rfl) ⟨impl_TxnOk_lo5000011, ⟨impl_TxnOk_lo5000009, ⟨impl_TxnOk_lo0, trivial⟩⟩⟩

theorem impl_TxnOk_c : Contract Try.prog 90 impl_TxnOk_g := by
  refine told G24_ok follows Try.func90 (c := Try.f90.body.getD .skip) (by kernel_rfl) ?_
  intro args s k r hk
  unfold impl_TxnOk_g at hk
  rcases onPats_inv hk with ⟨p, q, rfl, rfl⟩ | hk
  · exact ⟨impl_TxnOk_loops, impl_TxnOk_q p.1.1 p.1.2.1 p.1.2.2.1 p.1.2.2.2.1 p.1.2.2.2.2.1 p.1.2.2.2.2.2.1 p.1.2.2.2.2.2.2.1 p.1.2.2.2.2.2.2.2.1, impl_TxnOk_y p.1.1 p.1.2.1 p.1.2.2.1 p.1.2.2.2.1 p.1.2.2.2.2.1 p.1.2.2.2.2.2.1 p.1.2.2.2.2.2.2.1 p.1.2.2.2.2.2.2.2.1, impl_TxnOk_l⟩
  cases hk

def G25 : Glob := G24.add 90 impl_TxnOk_g

theorem G25_ok : GlobOk Try.prog G25 := G24_ok.add ⟨Try.f90, Try.func90, by kernel_rfl, by kernel_rfl⟩ impl_TxnOk_c

/-! ### slices.Index[[]loop.example/g00327/impl.Range,loop.example/g00327/impl.Range] -/

def slices_Index_Range_loops : Nat → Option LoopSpec
  | 0 => some ⟨[0, 3, 4, 7, 8], [], fun vals st k => onPats [.lst tRange, .bp 0 0, .int .i64, .int .i64, .int .i64] [.box [.str, .str]] vals st (fun p q => loopK slices_Index_Range_b0 Fuel (p.1, p.2.2.1, p.2.2.2.1, p.2.2.2.2.1, q.1.1, q.1.2.1) (Sum.elim (fun z => k .ret [.lst tRange z.1, .bp 0 0, .int .i64 z.2.1, .int .i64 z.2.2.1, .int .i64 z.2.2.2.1] [.box [.str z.2.2.2.2.1, .str z.2.2.2.2.2]]) (fun z => k (.exit 0) [.lst tRange z.1, .bp 0 0, .int .i64 z.2.1, .int .i64 z.2.2.1, .int .i64 z.2.2.2.1] [.box [.str z.2.2.2.2.1, .str z.2.2.2.2.2]])))
      (none)⟩
  | _ => none

def slices_Index_Range_v0 : ((List dRange) × Int × Int × Int × ByteArray × ByteArray) → List AV := (fun x => [.lst tRange x.1, .bp 0 0, .int .i64 x.2.1, .int .i64 x.2.2.1, .int .i64 x.2.2.2.1])
def slices_Index_Range_s0 : ((List dRange) × Int × Int × Int × ByteArray × ByteArray) → St := (fun x => [.box [.str x.2.2.2.2.1, .str x.2.2.2.2.2]])
def slices_Index_Range_e0 : (((List dRange) × Int × Int × Int × ByteArray × ByteArray) ⊕ ((List dRange) × Int × Int × Int × ByteArray × ByteArray)) → Out × List AV × St := (Sum.elim (fun z => (.ret, [.lst tRange z.1, .bp 0 0, .int .i64 z.2.1, .int .i64 z.2.2.1, .int .i64 z.2.2.2.1], [.box [.str z.2.2.2.2.1, .str z.2.2.2.2.2]])) (fun z => ((.exit 0), [.lst tRange z.1, .bp 0 0, .int .i64 z.2.1, .int .i64 z.2.2.1, .int .i64 z.2.2.2.1], [.box [.str z.2.2.2.2.1, .str z.2.2.2.2.2]])))

theorem slices_Index_Range_bx0 (x : ((List dRange) × Int × Int × Int × ByteArray × ByteArray)) : exec G25 ⟨0, 19, slices_Index_Range_loops⟩ (loopBody Try.f188 0) (bodyK ⟨0, 19, slices_Index_Range_loops⟩ [0, 3, 4, 7, 8] []) (setEs (deads 19) [0, 3, 4, 7, 8] (slices_Index_Range_v0 x)) (slices_Index_Range_s0 x) = slices_Index_Range_b0 x (Sum.elim (fun y => some ⟨.norm, slices_Index_Range_v0 y, slices_Index_Range_s0 y⟩) fun z => some ⟨(slices_Index_Range_e0 z).1, (slices_Index_Range_e0 z).2.1, (slices_Index_Range_e0 z).2.2⟩) := by
  kernel_rfl

theorem slices_Index_Range_lo0 : ∀ sp, (slices_Index_Range_loops 0) = some sp → LoopOk G25 ⟨0, 19, slices_Index_Range_loops⟩ sp (loopBody Try.f188 0) := by
  intro sp hsp vals st k r h
  cases hsp
  dsimp only at h
  rcases onPats_inv2 h with ⟨p, q, rfl, rfl, h⟩ | h
  · exact loop_runs2 slices_Index_Range_bp0 slices_Index_Range_v0 slices_Index_Range_s0 slices_Index_Range_e0 (fun z => by rcases z with z | z <;> (intro h; cases h)) slices_Index_Range_bx0 Fuel (p.1, p.2.2.1, p.2.2.2.1, p.2.2.2.2.1, q.1.1, q.1.2.1) _ k r (fun z => by rcases z with z | z <;> rfl) h
  cases h

theorem slices_Index_Range_x (a0 : (List dRange)) (a1 : ByteArray) (a2 : ByteArray) : execFn G25 slices_Index_Range_loops Try.f188 [.lst tRange a0, .agg [.str a1, .str a2]] [] = slices_Index_Range_d a0 (a1, a2) (fun (y : Int) => some ⟨.ret, [.int .i64 y], []⟩) := by kernel_rfl

theorem slices_Index_Range_y (a0 : (List dRange)) (a1 : ByteArray) (a2 : ByteArray) : execFn G25 slices_Index_Range_loops Try.f188 [.lst tRange a0, .agg [.str a1, .str a2]] [] = slices_Index_Range_k a0 (a1, a2) (fun (y : Int) => some ⟨.ret, [.int .i64 y], []⟩) := (slices_Index_Range_x a0 a1 a2).trans (by rw [slices_Index_Range_e])

theorem slices_Index_Range_l : LoopsOk G25 ⟨0, 19, slices_Index_Range_loops⟩ (Try.f188.body.getD .skip) :=
  loopsOk_of (ids := [0]) (by kernel_rfl) (by kernel_rfl) ⟨slices_Index_Range_lo0, trivial⟩

theorem slices_Index_Range_c : Contract Try.prog 188 slices_Index_Range_g := by
  refine told G25_ok follows Try.func188 (c := Try.f188.body.getD .skip) (by kernel_rfl) ?_
  intro args s k r hk
  unfold slices_Index_Range_g at hk
  rcases onPats_inv hk with ⟨p, q, rfl, rfl⟩ | hk
  · exact ⟨slices_Index_Range_loops, slices_Index_Range_q p.1 p.2.1.1 p.2.1.2.1, slices_Index_Range_y p.1 p.2.1.1 p.2.1.2.1, slices_Index_Range_l⟩
  cases hk

def G26 : Glob := G25.add 188 slices_Index_Range_g

theorem G26_ok : GlobOk Try.prog G26 := G25_ok.add ⟨Try.f188, Try.func188, by kernel_rfl, by kernel_rfl⟩ slices_Index_Range_c

/-! ### slices.Contains[[]loop.example/g00327/impl.Range,loop.example/g00327/impl.Range] -/

def slices_Contains_Range_loops : Nat → Option LoopSpec
  | _ => none

theorem slices_Contains_Range_x (a0 : (List dRange)) (a1 : ByteArray) (a2 : ByteArray) : execFn G26 slices_Contains_Range_loops Try.f131 [.lst tRange a0, .agg [.str a1, .str a2]] [] = slices_Contains_Range_d a0 (a1, a2) (fun (y : Bool) => some ⟨.ret, [.bool y], []⟩) := by kernel_rfl

theorem slices_Contains_Range_y (a0 : (List dRange)) (a1 : ByteArray) (a2 : ByteArray) : execFn G26 slices_Contains_Range_loops Try.f131 [.lst tRange a0, .agg [.str a1, .str a2]] [] = slices_Contains_Range_k a0 (a1, a2) (fun (y : Bool) => some ⟨.ret, [.bool y], []⟩) := (slices_Contains_Range_x a0 a1 a2).trans (by rw [slices_Contains_Range_e])

theorem slices_Contains_Range_l : LoopsOk G26 ⟨0, 9, slices_Contains_Range_loops⟩ (Try.f131.body.getD .skip) :=
  loopsOk_of (ids := []) (by kernel_rfl) (by kernel_rfl) trivial

theorem slices_Contains_Range_c : Contract Try.prog 131 slices_Contains_Range_g := by
  refine told G26_ok follows Try.func131 (c := Try.f131.body.getD .skip) (by kernel_rfl) ?_
  intro args s k r hk
  unfold slices_Contains_Range_g at hk
  rcases onPats_inv hk with ⟨p, q, rfl, rfl⟩ | hk
  · exact ⟨slices_Contains_Range_loops, slices_Contains_Range_q p.1 p.2.1.1 p.2.1.2.1, slices_Contains_Range_y p.1 p.2.1.1 p.2.1.2.1, slices_Contains_Range_l⟩
  cases hk

def G27 : Glob := G26.add 131 slices_Contains_Range_g

theorem G27_ok : GlobOk Try.prog G27 := G26_ok.add ⟨Try.f131, Try.func131, by kernel_rfl, by kernel_rfl⟩ slices_Contains_Range_c

/-! ### loop.example/g00327/impl.ReadRange -/

def impl_ReadRange_loops : Nat → Option LoopSpec
  | 5000004 => some ⟨[2, 3, 4, 5, 6], [none, none, none, none, none, none, none, none, none, none, none, none, none, none, none, none, none, none, none, some tRange, some tWrite], fun vals st k => onPats [.bp 0 0, .bp 1 0, .bp 2 0, .bool, .bp 3 0] [.box [.int .i64, .int .i64, .int .i64, .int .i64, .lst tRange, .lst tWrite, .bool, .str], .box [.str, .str], .box [.int .i64, .int .i64, .int .i64, .int .i64, .own 4, .own 5, .bool, .str], .box [.int .i64, .int .i64, .int .i64, .int .i64, .own 6, .own 7, .bool, .str], .arr tRange, .arr tWrite, .arr tRange, .arr tWrite] vals st (fun p q => impl_ReadRange_j5000004 (p.2.2.2.1, q.1.1, q.1.2.1, q.1.2.2.1, q.1.2.2.2.1, q.1.2.2.2.2.1, q.1.2.2.2.2.2.1, q.1.2.2.2.2.2.2.1, q.1.2.2.2.2.2.2.2.1, q.2.1.1, q.2.1.2.1, q.2.2.1.1, q.2.2.1.2.1, q.2.2.1.2.2.1, q.2.2.1.2.2.2.1, q.2.2.1.2.2.2.2.2.2.1, q.2.2.1.2.2.2.2.2.2.2.1, q.2.2.2.1.1, q.2.2.2.1.2.1, q.2.2.2.1.2.2.1, q.2.2.2.1.2.2.2.1, q.2.2.2.1.2.2.2.2.2.2.1, q.2.2.2.1.2.2.2.2.2.2.2.1, q.2.2.2.2.1, q.2.2.2.2.2.1, q.2.2.2.2.2.2.1, q.2.2.2.2.2.2.2.1) (fun z => k .ret [.bp 0 0, .bp 1 0, .bp 2 0, .bool z.1, .bp 3 0] [.box [.int .i64 z.2.1, .int .i64 z.2.2.1, .int .i64 z.2.2.2.1, .int .i64 z.2.2.2.2.1, .lst tRange z.2.2.2.2.2.1, .lst tWrite z.2.2.2.2.2.2.1, .bool z.2.2.2.2.2.2.2.1, .str z.2.2.2.2.2.2.2.2.1], .box [.str z.2.2.2.2.2.2.2.2.2.1, .str z.2.2.2.2.2.2.2.2.2.2.1], .box [.int .i64 z.2.2.2.2.2.2.2.2.2.2.2.1, .int .i64 z.2.2.2.2.2.2.2.2.2.2.2.2.1, .int .i64 z.2.2.2.2.2.2.2.2.2.2.2.2.2.1, .int .i64 z.2.2.2.2.2.2.2.2.2.2.2.2.2.2.1, .own 4, .own 5, .bool z.2.2.2.2.2.2.2.2.2.2.2.2.2.2.2.1, .str z.2.2.2.2.2.2.2.2.2.2.2.2.2.2.2.2.1], .box [.int .i64 z.2.2.2.2.2.2.2.2.2.2.2.2.2.2.2.2.2.1, .int .i64 z.2.2.2.2.2.2.2.2.2.2.2.2.2.2.2.2.2.2.1, .int .i64 z.2.2.2.2.2.2.2.2.2.2.2.2.2.2.2.2.2.2.2.1, .int .i64 z.2.2.2.2.2.2.2.2.2.2.2.2.2.2.2.2.2.2.2.2.1, .own 4, .own 5, .bool z.2.2.2.2.2.2.2.2.2.2.2.2.2.2.2.2.2.2.2.2.2.1, .str z.2.2.2.2.2.2.2.2.2.2.2.2.2.2.2.2.2.2.2.2.2.2.1], .arr tRange z.2.2.2.2.2.2.2.2.2.2.2.2.2.2.2.2.2.2.2.2.2.2.2.1, .arr tWrite z.2.2.2.2.2.2.2.2.2.2.2.2.2.2.2.2.2.2.2.2.2.2.2.2]))
      (none)⟩
  | _ => none

def impl_ReadRange_jv5000004 : (Bool × Int × Int × Int × Int × (List dRange) × (List dWrite) × Bool × ByteArray × ByteArray × ByteArray × Int × Int × Int × Int × Bool × ByteArray × Int × Int × Int × Int × Bool × ByteArray × (List dRange) × (List dWrite) × (List dRange) × (List dWrite)) → List AV := (fun x => [.bp 0 0, .bp 1 0, .bp 2 0, .bool x.1, .bp 3 0])
def impl_ReadRange_js5000004 : (Bool × Int × Int × Int × Int × (List dRange) × (List dWrite) × Bool × ByteArray × ByteArray × ByteArray × Int × Int × Int × Int × Bool × ByteArray × Int × Int × Int × Int × Bool × ByteArray × (List dRange) × (List dWrite) × (List dRange) × (List dWrite)) → St := (fun x => [.box [.int .i64 x.2.1, .int .i64 x.2.2.1, .int .i64 x.2.2.2.1, .int .i64 x.2.2.2.2.1, .lst tRange x.2.2.2.2.2.1, .lst tWrite x.2.2.2.2.2.2.1, .bool x.2.2.2.2.2.2.2.1, .str x.2.2.2.2.2.2.2.2.1], .box [.str x.2.2.2.2.2.2.2.2.2.1, .str x.2.2.2.2.2.2.2.2.2.2.1], .box [.int .i64 x.2.2.2.2.2.2.2.2.2.2.2.1, .int .i64 x.2.2.2.2.2.2.2.2.2.2.2.2.1, .int .i64 x.2.2.2.2.2.2.2.2.2.2.2.2.2.1, .int .i64 x.2.2.2.2.2.2.2.2.2.2.2.2.2.2.1, .own 4, .own 5, .bool x.2.2.2.2.2.2.2.2.2.2.2.2.2.2.2.1, .str x.2.2.2.2.2.2.2.2.2.2.2.2.2.2.2.2.1], .box [.int .i64 x.2.2.2.2.2.2.2.2.2.2.2.2.2.2.2.2.2.1, .int .i64 x.2.2.2.2.2.2.2.2.2.2.2.2.2.2.2.2.2.2.1, .int .i64 x.2.2.2.2.2.2.2.2.2.2.2.2.2.2.2.2.2.2.2.1, .int .i64 x.2.2.2.2.2.2.2.2.2.2.2.2.2.2.2.2.2.2.2.2.1, .own 6, .own 7, .bool x.2.2.2.2.2.2.2.2.2.2.2.2.2.2.2.2.2.2.2.2.2.1, .str x.2.2.2.2.2.2.2.2.2.2.2.2.2.2.2.2.2.2.2.2.2.2.1], .arr tRange x.2.2.2.2.2.2.2.2.2.2.2.2.2.2.2.2.2.2.2.2.2.2.2.1, .arr tWrite x.2.2.2.2.2.2.2.2.2.2.2.2.2.2.2.2.2.2.2.2.2.2.2.2.1, .arr tRange x.2.2.2.2.2.2.2.2.2.2.2.2.2.2.2.2.2.2.2.2.2.2.2.2.2.1, .arr tWrite x.2.2.2.2.2.2.2.2.2.2.2.2.2.2.2.2.2.2.2.2.2.2.2.2.2.2])
def impl_ReadRange_je5000004 : (Bool × Int × Int × Int × Int × (List dRange) × (List dWrite) × Bool × ByteArray × ByteArray × ByteArray × Int × Int × Int × Int × Bool × ByteArray × Int × Int × Int × Int × Bool × ByteArray × (List dRange) × (List dWrite)) → Out × List AV × St := (fun z => (.ret, [.bp 0 0, .bp 1 0, .bp 2 0, .bool z.1, .bp 3 0], [.box [.int .i64 z.2.1, .int .i64 z.2.2.1, .int .i64 z.2.2.2.1, .int .i64 z.2.2.2.2.1, .lst tRange z.2.2.2.2.2.1, .lst tWrite z.2.2.2.2.2.2.1, .bool z.2.2.2.2.2.2.2.1, .str z.2.2.2.2.2.2.2.2.1], .box [.str z.2.2.2.2.2.2.2.2.2.1, .str z.2.2.2.2.2.2.2.2.2.2.1], .box [.int .i64 z.2.2.2.2.2.2.2.2.2.2.2.1, .int .i64 z.2.2.2.2.2.2.2.2.2.2.2.2.1, .int .i64 z.2.2.2.2.2.2.2.2.2.2.2.2.2.1, .int .i64 z.2.2.2.2.2.2.2.2.2.2.2.2.2.2.1, .own 4, .own 5, .bool z.2.2.2.2.2.2.2.2.2.2.2.2.2.2.2.1, .str z.2.2.2.2.2.2.2.2.2.2.2.2.2.2.2.2.1], .box [.int .i64 z.2.2.2.2.2.2.2.2.2.2.2.2.2.2.2.2.2.1, .int .i64 z.2.2.2.2.2.2.2.2.2.2.2.2.2.2.2.2.2.2.1, .int .i64 z.2.2.2.2.2.2.2.2.2.2.2.2.2.2.2.2.2.2.2.1, .int .i64 z.2.2.2.2.2.2.2.2.2.2.2.2.2.2.2.2.2.2.2.2.1, .own 4, .own 5, .bool z.2.2.2.2.2.2.2.2.2.2.2.2.2.2.2.2.2.2.2.2.2.1, .str z.2.2.2.2.2.2.2.2.2.2.2.2.2.2.2.2.2.2.2.2.2.2.1], .arr tRange z.2.2.2.2.2.2.2.2.2.2.2.2.2.2.2.2.2.2.2.2.2.2.2.1, .arr tWrite z.2.2.2.2.2.2.2.2.2.2.2.2.2.2.2.2.2.2.2.2.2.2.2.2]))

theorem impl_ReadRange_jx5000004 (x : (Bool × Int × Int × Int × Int × (List dRange) × (List dWrite) × Bool × ByteArray × ByteArray × ByteArray × Int × Int × Int × Int × Bool × ByteArray × Int × Int × Int × Int × Bool × ByteArray × (List dRange) × (List dWrite) × (List dRange) × (List dWrite))) : exec G27 ⟨0, 40, impl_ReadRange_loops⟩ (loopBody Try.f57 5000004) (bodyK ⟨0, 40, impl_ReadRange_loops⟩ [2, 3, 4, 5, 6] [none, none, none, none, none, none, none, none, none, none, none, none, none, none, none, none, none, none, none, some tRange, some tWrite]) (setEs (deads 40) [2, 3, 4, 5, 6] (impl_ReadRange_jv5000004 x)) (impl_ReadRange_js5000004 x) = impl_ReadRange_j5000004 x (fun z => some ⟨(impl_ReadRange_je5000004 z).1, (impl_ReadRange_je5000004 z).2.1, (impl_ReadRange_je5000004 z).2.2⟩) := by
  kernel_rfl

theorem impl_ReadRange_lo5000004 : ∀ sp, (impl_ReadRange_loops 5000004) = some sp → CutOk G27 ⟨0, 40, impl_ReadRange_loops⟩ sp (loopBody Try.f57 5000004) := by
  intro sp hsp vals st k r h
  cases hsp
  dsimp only at h
  rcases onPats_inv2 h with ⟨p, q, rfl, rfl, h⟩ | h
  · exact cut_runs impl_ReadRange_jp5000004 impl_ReadRange_jv5000004 impl_ReadRange_js5000004 impl_ReadRange_je5000004 impl_ReadRange_jx5000004 (p.2.2.2.1, q.1.1, q.1.2.1, q.1.2.2.1, q.1.2.2.2.1, q.1.2.2.2.2.1, q.1.2.2.2.2.2.1, q.1.2.2.2.2.2.2.1, q.1.2.2.2.2.2.2.2.1, q.2.1.1, q.2.1.2.1, q.2.2.1.1, q.2.2.1.2.1, q.2.2.1.2.2.1, q.2.2.1.2.2.2.1, q.2.2.1.2.2.2.2.2.2.1, q.2.2.1.2.2.2.2.2.2.2.1, q.2.2.2.1.1, q.2.2.2.1.2.1, q.2.2.2.1.2.2.1, q.2.2.2.1.2.2.2.1, q.2.2.2.1.2.2.2.2.2.2.1, q.2.2.2.1.2.2.2.2.2.2.2.1, q.2.2.2.2.1, q.2.2.2.2.2.1, q.2.2.2.2.2.2.1, q.2.2.2.2.2.2.2.1) _ k r (fun z => rfl) h
  cases h

theorem impl_ReadRange_x (a0 : Int) (a1 : Int) (a2 : Int) (a3 : Int) (a4 : (List dRange)) (a5 : (List dWrite)) (a6 : Bool) (a7 : ByteArray) (a8 : ByteArray) (a9 : ByteArray) : execFn G27 impl_ReadRange_loops Try.f57 [.agg [.int .i64 a0, .int .i64 a1, .int .i64 a2, .int .i64 a3, .lst tRange a4, .lst tWrite a5, .bool a6, .str a7], .agg [.str a8, .str a9]] [] = impl_ReadRange_d (a0, (a1, (a2, (a3, (a4, (a5, (a6, a7))))))) (a8, a9) (fun (y : (Int × Int × Int × Int × Bool × ByteArray × Bool × (List dRange) × (List dWrite))) => some ⟨.ret, [.tup [.agg [.int .i64 y.1, .int .i64 y.2.1, .int .i64 y.2.2.1, .int .i64 y.2.2.2.1, .own 0, .own 1, .bool y.2.2.2.2.1, .str y.2.2.2.2.2.1], .bool y.2.2.2.2.2.2.1]], [.arr tRange y.2.2.2.2.2.2.2.1, .arr tWrite y.2.2.2.2.2.2.2.2]⟩) := by kernel_rfl

theorem impl_ReadRange_y (a0 : Int) (a1 : Int) (a2 : Int) (a3 : Int) (a4 : (List dRange)) (a5 : (List dWrite)) (a6 : Bool) (a7 : ByteArray) (a8 : ByteArray) (a9 : ByteArray) : execFn G27 impl_ReadRange_loops Try.f57 [.agg [.int .i64 a0, .int .i64 a1, .int .i64 a2, .int .i64 a3, .lst tRange a4, .lst tWrite a5, .bool a6, .str a7], .agg [.str a8, .str a9]] [] = impl_ReadRange_k (a0, (a1, (a2, (a3, (a4, (a5, (a6, a7))))))) (a8, a9) (fun (y : (Int × Int × Int × Int × Bool × ByteArray × Bool × (List dRange) × (List dWrite))) => some ⟨.ret, [.tup [.agg [.int .i64 y.1, .int .i64 y.2.1, .int .i64 y.2.2.1, .int .i64 y.2.2.2.1, .own 0, .own 1, .bool y.2.2.2.2.1, .str y.2.2.2.2.2.1], .bool y.2.2.2.2.2.2.1]], [.arr tRange y.2.2.2.2.2.2.2.1, .arr tWrite y.2.2.2.2.2.2.2.2]⟩) := (impl_ReadRange_x a0 a1 a2 a3 a4 a5 a6 a7 a8 a9).trans (by rw [impl_ReadRange_e])

theorem impl_ReadRange_l : LoopsOk G27 ⟨0, 40, impl_ReadRange_loops⟩ (Try.f57.body.getD .skip) :=
  loopsOk_of (ids := [5000004]) (by kernel_rfl) (by kernel_rfl) ⟨impl_ReadRange_lo5000004, trivial⟩

theorem impl_ReadRange_c : Contract Try.prog 57 impl_ReadRange_g := by
  refine told G27_ok follows Try.func57 (c := Try.f57.body.getD .skip) (by kernel_rfl) ?_
  intro args s k r hk
  unfold impl_ReadRange_g at hk
  rcases onPats_inv hk with ⟨p, q, rfl, rfl⟩ | hk
  · exact ⟨impl_ReadRange_loops, impl_ReadRange_q p.1.1 p.1.2.1 p.1.2.2.1 p.1.2.2.2.1 p.1.2.2.2.2.1 p.1.2.2.2.2.2.1 p.1.2.2.2.2.2.2.1 p.1.2.2.2.2.2.2.2.1 p.2.1.1 p.2.1.2.1, impl_ReadRange_y p.1.1 p.1.2.1 p.1.2.2.1 p.1.2.2.2.1 p.1.2.2.2.2.1 p.1.2.2.2.2.2.1 p.1.2.2.2.2.2.2.1 p.1.2.2.2.2.2.2.2.1 p.2.1.1 p.2.1.2.1, impl_ReadRange_l⟩
  cases hk

def G28 : Glob := G27.add 57 impl_ReadRange_g

theorem G28_ok : GlobOk Try.prog G28 := G27_ok.add ⟨Try.f57, Try.func57, by kernel_rfl, by kernel_rfl⟩ impl_ReadRange_c

/-! ### loop.example/g00327/laws.eqRange -/

def laws_eqRange_loops : Nat → Option LoopSpec
  | _ => none

theorem laws_eqRange_x (a0 : ByteArray) (a1 : ByteArray) (a2 : ByteArray) (a3 : ByteArray) : execFn G28 laws_eqRange_loops Try.f173 [.agg [.str a0, .str a1], .agg [.str a2, .str a3]] [] = laws_eqRange_d (a0, a1) (a2, a3) (fun (y : Bool) => some ⟨.ret, [.bool y], []⟩) := by kernel_rfl

theorem laws_eqRange_y (a0 : ByteArray) (a1 : ByteArray) (a2 : ByteArray) (a3 : ByteArray) : execFn G28 laws_eqRange_loops Try.f173 [.agg [.str a0, .str a1], .agg [.str a2, .str a3]] [] = laws_eqRange_k (a0, a1) (a2, a3) (fun (y : Bool) => some ⟨.ret, [.bool y], []⟩) := (laws_eqRange_x a0 a1 a2 a3).trans (by rw [laws_eqRange_e])

theorem laws_eqRange_l : LoopsOk G28 ⟨0, 15, laws_eqRange_loops⟩ (Try.f173.body.getD .skip) :=
  loopsOk_of (ids := []) (by kernel_rfl) (by kernel_rfl) trivial

theorem laws_eqRange_c : Contract Try.prog 173 laws_eqRange_g := by
  refine told G28_ok follows Try.func173 (c := Try.f173.body.getD .skip) (by kernel_rfl) ?_
  intro args s k r hk
  unfold laws_eqRange_g at hk
  rcases onPats_inv hk with ⟨p, q, rfl, rfl⟩ | hk
  · exact ⟨laws_eqRange_loops, laws_eqRange_q p.1.1 p.1.2.1 p.2.1.1 p.2.1.2.1, laws_eqRange_y p.1.1 p.1.2.1 p.2.1.1 p.2.1.2.1, laws_eqRange_l⟩
  cases hk

def G29 : Glob := G28.add 173 laws_eqRange_g

theorem G29_ok : GlobOk Try.prog G29 := G28_ok.add ⟨Try.f173, Try.func173, by kernel_rfl, by kernel_rfl⟩ laws_eqRange_c

/-! ### loop.example/g00327/laws.eqRangeS -/

def laws_eqRangeS_loops : Nat → Option LoopSpec
  | 0 => some ⟨[0, 1, 4, 5], [], fun vals st k => onPats [.lst tRange, .lst tRange, .bool, .int .i64] [] vals st (fun p q => loopK laws_eqRangeS_b0 Fuel (p.1, p.2.1, p.2.2.1, p.2.2.2.1) (Sum.elim (fun z => k .ret [.lst tRange z.1, .lst tRange z.2.1, .bool z.2.2.1, .int .i64 z.2.2.2] []) (fun z => k (.exit 0) [.lst tRange z.1, .lst tRange z.2.1, .bool z.2.2.1, .int .i64 z.2.2.2] [])))
      (none)⟩
  | _ => none

def laws_eqRangeS_v0 : ((List dRange) × (List dRange) × Bool × Int) → List AV := (fun x => [.lst tRange x.1, .lst tRange x.2.1, .bool x.2.2.1, .int .i64 x.2.2.2])
def laws_eqRangeS_s0 : ((List dRange) × (List dRange) × Bool × Int) → St := (fun x => [])
def laws_eqRangeS_e0 : (((List dRange) × (List dRange) × Bool × Int) ⊕ ((List dRange) × (List dRange) × Bool × Int)) → Out × List AV × St := (Sum.elim (fun z => (.ret, [.lst tRange z.1, .lst tRange z.2.1, .bool z.2.2.1, .int .i64 z.2.2.2], [])) (fun z => ((.exit 0), [.lst tRange z.1, .lst tRange z.2.1, .bool z.2.2.1, .int .i64 z.2.2.2], [])))

theorem laws_eqRangeS_bx0 (x : ((List dRange) × (List dRange) × Bool × Int)) : exec G29 ⟨0, 27, laws_eqRangeS_loops⟩ (loopBody Try.f94 0) (bodyK ⟨0, 27, laws_eqRangeS_loops⟩ [0, 1, 4, 5] []) (setEs (deads 27) [0, 1, 4, 5] (laws_eqRangeS_v0 x)) (laws_eqRangeS_s0 x) = laws_eqRangeS_b0 x (Sum.elim (fun y => some ⟨.norm, laws_eqRangeS_v0 y, laws_eqRangeS_s0 y⟩) fun z => some ⟨(laws_eqRangeS_e0 z).1, (laws_eqRangeS_e0 z).2.1, (laws_eqRangeS_e0 z).2.2⟩) := by
  kernel_rfl

theorem laws_eqRangeS_lo0 : ∀ sp, (laws_eqRangeS_loops 0) = some sp → LoopOk G29 ⟨0, 27, laws_eqRangeS_loops⟩ sp (loopBody Try.f94 0) := by
  intro sp hsp vals st k r h
  cases hsp
  dsimp only at h
  rcases onPats_inv2 h with ⟨p, q, rfl, rfl, h⟩ | h
  · exact loop_runs2 laws_eqRangeS_bp0 laws_eqRangeS_v0 laws_eqRangeS_s0 laws_eqRangeS_e0 (fun z => by rcases z with z | z <;> (intro h; cases h)) laws_eqRangeS_bx0 Fuel (p.1, p.2.1, p.2.2.1, p.2.2.2.1) _ k r (fun z => by rcases z with z | z <;> rfl) h
  cases h

theorem laws_eqRangeS_x (a0 : (List dRange)) (a1 : (List dRange)) : execFn G29 laws_eqRangeS_loops Try.f94 [.lst tRange a0, .lst tRange a1] [] = laws_eqRangeS_d a0 a1 (fun (y : Bool) => some ⟨.ret, [.bool y], []⟩) := by kernel_rfl

theorem laws_eqRangeS_y (a0 : (List dRange)) (a1 : (List dRange)) : execFn G29 laws_eqRangeS_loops Try.f94 [.lst tRange a0, .lst tRange a1] [] = laws_eqRangeS_k a0 a1 (fun (y : Bool) => some ⟨.ret, [.bool y], []⟩) := (laws_eqRangeS_x a0 a1).trans (by rw [laws_eqRangeS_e])

theorem laws_eqRangeS_l : LoopsOk G29 ⟨0, 27, laws_eqRangeS_loops⟩ (Try.f94.body.getD .skip) :=
  loopsOk_of (ids := [0]) (by kernel_rfl) (by kernel_rfl) ⟨laws_eqRangeS_lo0, trivial⟩

theorem laws_eqRangeS_c : Contract Try.prog 94 laws_eqRangeS_g := by
  refine told G29_ok follows Try.func94 (c := Try.f94.body.getD .skip) (by kernel_rfl) ?_
  intro args s k r hk
  unfold laws_eqRangeS_g at hk
  rcases onPats_inv hk with ⟨p, q, rfl, rfl⟩ | hk
  · exact ⟨laws_eqRangeS_loops, laws_eqRangeS_q p.1 p.2.1, laws_eqRangeS_y p.1 p.2.1, laws_eqRangeS_l⟩
  cases hk

def G30 : Glob := G29.add 94 laws_eqRangeS_g

theorem G30_ok : GlobOk Try.prog G30 := G29_ok.add ⟨Try.f94, Try.func94, by kernel_rfl, by kernel_rfl⟩ laws_eqRangeS_c

/-! ### loop.example/g00327/laws.eqWrite -/

def laws_eqWrite_loops : Nat → Option LoopSpec
  | _ => none

theorem laws_eqWrite_x (a0 : ByteArray) (a1 : ByteArray) (a2 : Bool) (a3 : ByteArray) (a4 : ByteArray) (a5 : Bool) : execFn G30 laws_eqWrite_loops Try.f124 [.agg [.str a0, .str a1, .bool a2], .agg [.str a3, .str a4, .bool a5]] [] = laws_eqWrite_d (a0, (a1, a2)) (a3, (a4, a5)) (fun (y : Bool) => some ⟨.ret, [.bool y], []⟩) := by kernel_rfl

theorem laws_eqWrite_y (a0 : ByteArray) (a1 : ByteArray) (a2 : Bool) (a3 : ByteArray) (a4 : ByteArray) (a5 : Bool) : execFn G30 laws_eqWrite_loops Try.f124 [.agg [.str a0, .str a1, .bool a2], .agg [.str a3, .str a4, .bool a5]] [] = laws_eqWrite_k (a0, (a1, a2)) (a3, (a4, a5)) (fun (y : Bool) => some ⟨.ret, [.bool y], []⟩) := (laws_eqWrite_x a0 a1 a2 a3 a4 a5).trans (by rw [laws_eqWrite_e])

theorem laws_eqWrite_l : LoopsOk G30 ⟨0, 20, laws_eqWrite_loops⟩ (Try.f124.body.getD .skip) :=
  loopsOk_of (ids := []) (by kernel_rfl) (by kernel_rfl) trivial

theorem laws_eqWrite_c : Contract Try.prog 124 laws_eqWrite_g := by
  refine told G30_ok follows Try.func124 (c := Try.f124.body.getD .skip) (by kernel_rfl) ?_
  intro args s k r hk
  unfold laws_eqWrite_g at hk
  rcases onPats_inv hk with ⟨p, q, rfl, rfl⟩ | hk
  · exact ⟨laws_eqWrite_loops, laws_eqWrite_q p.1.1 p.1.2.1 p.1.2.2.1 p.2.1.1 p.2.1.2.1 p.2.1.2.2.1, laws_eqWrite_y p.1.1 p.1.2.1 p.1.2.2.1 p.2.1.1 p.2.1.2.1 p.2.1.2.2.1, laws_eqWrite_l⟩
  cases hk

def G31 : Glob := G30.add 124 laws_eqWrite_g

theorem G31_ok : GlobOk Try.prog G31 := G30_ok.add ⟨Try.f124, Try.func124, by kernel_rfl, by kernel_rfl⟩ laws_eqWrite_c

/-! ### loop.example/g00327/laws.eqWriteS -/

def laws_eqWriteS_loops : Nat → Option LoopSpec
  | 0 => some ⟨[0, 1, 4, 5], [], fun vals st k => onPats [.lst tWrite, .lst tWrite, .bool, .int .i64] [] vals st (fun p q => loopK laws_eqWriteS_b0 Fuel (p.1, p.2.1, p.2.2.1, p.2.2.2.1) (Sum.elim (fun z => k .ret [.lst tWrite z.1, .lst tWrite z.2.1, .bool z.2.2.1, .int .i64 z.2.2.2] []) (fun z => k (.exit 0) [.lst tWrite z.1, .lst tWrite z.2.1, .bool z.2.2.1, .int .i64 z.2.2.2] [])))
      (none)⟩
  | _ => none

def laws_eqWriteS_v0 : ((List dWrite) × (List dWrite) × Bool × Int) → List AV := (fun x => [.lst tWrite x.1, .lst tWrite x.2.1, .bool x.2.2.1, .int .i64 x.2.2.2])
def laws_eqWriteS_s0 : ((List dWrite) × (List dWrite) × Bool × Int) → St := (fun x => [])
def laws_eqWriteS_e0 : (((List dWrite) × (List dWrite) × Bool × Int) ⊕ ((List dWrite) × (List dWrite) × Bool × Int)) → Out × List AV × St := (Sum.elim (fun z => (.ret, [.lst tWrite z.1, .lst tWrite z.2.1, .bool z.2.2.1, .int .i64 z.2.2.2], [])) (fun z => ((.exit 0), [.lst tWrite z.1, .lst tWrite z.2.1, .bool z.2.2.1, .int .i64 z.2.2.2], [])))

theorem laws_eqWriteS_bx0 (x : ((List dWrite) × (List dWrite) × Bool × Int)) : exec G31 ⟨0, 27, laws_eqWriteS_loops⟩ (loopBody Try.f45 0) (bodyK ⟨0, 27, laws_eqWriteS_loops⟩ [0, 1, 4, 5] []) (setEs (deads 27) [0, 1, 4, 5] (laws_eqWriteS_v0 x)) (laws_eqWriteS_s0 x) = laws_eqWriteS_b0 x (Sum.elim (fun y => some ⟨.norm, laws_eqWriteS_v0 y, laws_eqWriteS_s0 y⟩) fun z => some ⟨(laws_eqWriteS_e0 z).1, (laws_eqWriteS_e0 z).2.1, (laws_eqWriteS_e0 z).2.2⟩) := by
  kernel_rfl

theorem laws_eqWriteS_lo0 : ∀ sp, (laws_eqWriteS_loops 0) = some sp → LoopOk G31 ⟨0, 27, laws_eqWriteS_loops⟩ sp (loopBody Try.f45 0) := by
  intro sp hsp vals st k r h
  cases hsp
  dsimp only at h
  rcases onPats_inv2 h with ⟨p, q, rfl, rfl, h⟩ | h
  · exact loop_runs2 laws_eqWriteS_bp0 laws_eqWriteS_v0 laws_eqWriteS_s0 laws_eqWriteS_e0 (fun z => by rcases z with z | z <;> (intro h; cases h)) laws_eqWriteS_bx0 Fuel (p.1, p.2.1, p.2.2.1, p.2.2.2.1) _ k r (fun z => by rcases z with z | z <;> rfl) h
  cases h

theorem laws_eqWriteS_x (a0 : (List dWrite)) (a1 : (List dWrite)) : execFn G31 laws_eqWriteS_loops Try.f45 [.lst tWrite a0, .lst tWrite a1] [] = laws_eqWriteS_d a0 a1 (fun (y : Bool) => some ⟨.ret, [.bool y], []⟩) := by kernel_rfl

theorem laws_eqWriteS_y (a0 : (List dWrite)) (a1 : (List dWrite)) : execFn G31 laws_eqWriteS_loops Try.f45 [.lst tWrite a0, .lst tWrite a1] [] = laws_eqWriteS_k a0 a1 (fun (y : Bool) => some ⟨.ret, [.bool y], []⟩) := (laws_eqWriteS_x a0 a1).trans (by rw [laws_eqWriteS_e])

theorem laws_eqWriteS_l : LoopsOk G31 ⟨0, 27, laws_eqWriteS_loops⟩ (Try.f45.body.getD .skip) :=
  loopsOk_of (ids := [0]) (by kernel_rfl) (by kernel_rfl) ⟨laws_eqWriteS_lo0, trivial⟩

theorem laws_eqWriteS_c : Contract Try.prog 45 laws_eqWriteS_g := by
  refine told G31_ok follows Try.func45 (c := Try.f45.body.getD .skip) (by kernel_rfl) ?_
  intro args s k r hk
  unfold laws_eqWriteS_g at hk
  rcases onPats_inv hk with ⟨p, q, rfl, rfl⟩ | hk
  · exact ⟨laws_eqWriteS_loops, laws_eqWriteS_q p.1 p.2.1, laws_eqWriteS_y p.1 p.2.1, laws_eqWriteS_l⟩
  cases hk

def G32 : Glob := G31.add 45 laws_eqWriteS_g

theorem G32_ok : GlobOk Try.prog G32 := G31_ok.add ⟨Try.f45, Try.func45, by kernel_rfl, by kernel_rfl⟩ laws_eqWriteS_c

/-! ### loop.example/g00327/laws.eqTxn -/

def laws_eqTxn_loops : Nat → Option LoopSpec
  | _ => none

theorem laws_eqTxn_x (a0 : Int) (a1 : Int) (a2 : Int) (a3 : Int) (a4 : (List dRange)) (a5 : (List dWrite)) (a6 : Bool) (a7 : ByteArray) (a8 : Int) (a9 : Int) (a10 : Int) (a11 : Int) (a12 : (List dRange)) (a13 : (List dWrite)) (a14 : Bool) (a15 : ByteArray) : execFn G32 laws_eqTxn_loops Try.f24 [.agg [.int .i64 a0, .int .i64 a1, .int .i64 a2, .int .i64 a3, .lst tRange a4, .lst tWrite a5, .bool a6, .str a7], .agg [.int .i64 a8, .int .i64 a9, .int .i64 a10, .int .i64 a11, .lst tRange a12, .lst tWrite a13, .bool a14, .str a15]] [] = laws_eqTxn_d (a0, (a1, (a2, (a3, (a4, (a5, (a6, a7))))))) (a8, (a9, (a10, (a11, (a12, (a13, (a14, a15))))))) (fun (y : Bool) => some ⟨.ret, [.bool y], []⟩) := by kernel_rfl

theorem laws_eqTxn_y (a0 : Int) (a1 : Int) (a2 : Int) (a3 : Int) (a4 : (List dRange)) (a5 : (List dWrite)) (a6 : Bool) (a7 : ByteArray) (a8 : Int) (a9 : Int) (a10 : Int) (a11 : Int) (a12 : (List dRange)) (a13 : (List dWrite)) (a14 : Bool) (a15 : ByteArray) : execFn G32 laws_eqTxn_loops Try.f24 [.agg [.int .i64 a0, .int .i64 a1, .int .i64 a2, .int .i64 a3, .lst tRange a4, .lst tWrite a5, .bool a6, .str a7], .agg [.int .i64 a8, .int .i64 a9, .int .i64 a10, .int .i64 a11, .lst tRange a12, .lst tWrite a13, .bool a14, .str a15]] [] = laws_eqTxn_k (a0, (a1, (a2, (a3, (a4, (a5, (a6, a7))))))) (a8, (a9, (a10, (a11, (a12, (a13, (a14, a15))))))) (fun (y : Bool) => some ⟨.ret, [.bool y], []⟩) := (laws_eqTxn_x a0 a1 a2 a3 a4 a5 a6 a7 a8 a9 a10 a11 a12 a13 a14 a15).trans (by rw [laws_eqTxn_e])

theorem laws_eqTxn_l : LoopsOk G32 ⟨0, 47, laws_eqTxn_loops⟩ (Try.f24.body.getD .skip) :=
  loopsOk_of (ids := []) (by kernel_rfl) (by kernel_rfl) trivial

theorem laws_eqTxn_c : Contract Try.prog 24 laws_eqTxn_g := by
  refine told G32_ok follows Try.func24 (c := Try.f24.body.getD .skip) (by kernel_rfl) ?_
  intro args s k r hk
  unfold laws_eqTxn_g at hk
  rcases onPats_inv hk with ⟨p, q, rfl, rfl⟩ | hk
  · exact ⟨laws_eqTxn_loops, laws_eqTxn_q p.1.1 p.1.2.1 p.1.2.2.1 p.1.2.2.2.1 p.1.2.2.2.2.1 p.1.2.2.2.2.2.1 p.1.2.2.2.2.2.2.1 p.1.2.2.2.2.2.2.2.1 p.2.1.1 p.2.1.2.1 p.2.1.2.2.1 p.2.1.2.2.2.1 p.2.1.2.2.2.2.1 p.2.1.2.2.2.2.2.1 p.2.1.2.2.2.2.2.2.1 p.2.1.2.2.2.2.2.2.2.1, laws_eqTxn_y p.1.1 p.1.2.1 p.1.2.2.1 p.1.2.2.2.1 p.1.2.2.2.2.1 p.1.2.2.2.2.2.1 p.1.2.2.2.2.2.2.1 p.1.2.2.2.2.2.2.2.1 p.2.1.1 p.2.1.2.1 p.2.1.2.2.1 p.2.1.2.2.2.1 p.2.1.2.2.2.2.1 p.2.1.2.2.2.2.2.1 p.2.1.2.2.2.2.2.2.1 p.2.1.2.2.2.2.2.2.2.1, laws_eqTxn_l⟩
  cases hk

def G33 : Glob := G32.add 24 laws_eqTxn_g

theorem G33_ok : GlobOk Try.prog G33 := G32_ok.add ⟨Try.f24, Try.func24, by kernel_rfl, by kernel_rfl⟩ laws_eqTxn_c

/-! ### loop.example/g00327/laws.markText -/

def laws_markText_loops : Nat → Option LoopSpec
  | 0 => some ⟨[0, 3], [], fun vals st k => onPats [.int .i64, .str] [] vals st (fun p q => loopK laws_markText_b0 Fuel (p.1, p.2.1) (fun z => k (.exit 0) [.int .i64 z.1, .str z.2] []))
      (none)⟩
  | _ => none

def laws_markText_v0 : (Int × ByteArray) → List AV := (fun x => [.int .i64 x.1, .str x.2])
def laws_markText_s0 : (Int × ByteArray) → St := (fun x => [])
def laws_markText_e0 : (Int × ByteArray) → Out × List AV × St := (fun z => ((.exit 0), [.int .i64 z.1, .str z.2], []))

theorem laws_markText_bx0 (x : (Int × ByteArray)) : exec G33 ⟨0, 20, laws_markText_loops⟩ (loopBody Try.f125 0) (bodyK ⟨0, 20, laws_markText_loops⟩ [0, 3] []) (setEs (deads 20) [0, 3] (laws_markText_v0 x)) (laws_markText_s0 x) = laws_markText_b0 x (Sum.elim (fun y => some ⟨.norm, laws_markText_v0 y, laws_markText_s0 y⟩) fun z => some ⟨(laws_markText_e0 z).1, (laws_markText_e0 z).2.1, (laws_markText_e0 z).2.2⟩) := by
  kernel_rfl

theorem laws_markText_lo0 : ∀ sp, (laws_markText_loops 0) = some sp → LoopOk G33 ⟨0, 20, laws_markText_loops⟩ sp (loopBody Try.f125 0) := by
  intro sp hsp vals st k r h
  cases hsp
  dsimp only at h
  rcases onPats_inv2 h with ⟨p, q, rfl, rfl, h⟩ | h
  · exact loop_runs2 laws_markText_bp0 laws_markText_v0 laws_markText_s0 laws_markText_e0 (fun z => by (intro h; cases h)) laws_markText_bx0 Fuel (p.1, p.2.1) _ k r (fun z => rfl) h
  cases h

theorem laws_markText_x (a0 : Int) : execFn G33 laws_markText_loops Try.f125 [.int .i64 a0] [] = laws_markText_d a0 (fun (y : ByteArray) => some ⟨.ret, [.str y], []⟩) := by kernel_rfl

theorem laws_markText_y (a0 : Int) : execFn G33 laws_markText_loops Try.f125 [.int .i64 a0] [] = laws_markText_k a0 (fun (y : ByteArray) => some ⟨.ret, [.str y], []⟩) := (laws_markText_x a0).trans (by rw [laws_markText_e])

theorem laws_markText_l : LoopsOk G33 ⟨0, 20, laws_markText_loops⟩ (Try.f125.body.getD .skip) :=
  loopsOk_of (ids := [0]) (by kernel_rfl) (by kernel_rfl) ⟨laws_markText_lo0, trivial⟩

theorem laws_markText_c : Contract Try.prog 125 laws_markText_g := by
  refine told G33_ok follows Try.func125 (c := Try.f125.body.getD .skip) (by kernel_rfl) ?_
  intro args s k r hk
  unfold laws_markText_g at hk
  rcases onPats_inv hk with ⟨p, q, rfl, rfl⟩ | hk
  · exact ⟨laws_markText_loops, laws_markText_q p.1, laws_markText_y p.1, laws_markText_l⟩
  cases hk

def G34 : Glob := G33.add 125 laws_markText_g

theorem G34_ok : GlobOk Try.prog G34 := G33_ok.add ⟨Try.f125, Try.func125, by kernel_rfl, by kernel_rfl⟩ laws_markText_c

/-! ### loop.example/g00327/laws.markRangeS -/

def laws_markRangeS_vo_loops : Nat → Option LoopSpec
  | 0 => some ⟨[0, 1, 5], [], fun vals st k => onPats [.own 0, .int .i64, .int .i64] [.arr tRange] vals st (fun p q => loopK laws_markRangeS_vo_b0 Fuel (p.2.1, p.2.2.1, q.1) (fun z => k (.exit 0) [.own 0, .int .i64 z.1, .int .i64 z.2.1] [.arr tRange z.2.2]))
      (none)⟩
  | _ => none

def laws_markRangeS_vo_v0 : (Int × Int × (List dRange)) → List AV := (fun x => [.own 0, .int .i64 x.1, .int .i64 x.2.1])
def laws_markRangeS_vo_s0 : (Int × Int × (List dRange)) → St := (fun x => [.arr tRange x.2.2])
def laws_markRangeS_vo_e0 : (Int × Int × (List dRange)) → Out × List AV × St := (fun z => ((.exit 0), [.own 0, .int .i64 z.1, .int .i64 z.2.1], [.arr tRange z.2.2]))

theorem laws_markRangeS_vo_bx0 (x : (Int × Int × (List dRange))) : exec G34 ⟨1, 29, laws_markRangeS_vo_loops⟩ (loopBody Try.f132 0) (bodyK ⟨1, 29, laws_markRangeS_vo_loops⟩ [0, 1, 5] []) (setEs (deads 29) [0, 1, 5] (laws_markRangeS_vo_v0 x)) (laws_markRangeS_vo_s0 x) = laws_markRangeS_vo_b0 x (Sum.elim (fun y => some ⟨.norm, laws_markRangeS_vo_v0 y, laws_markRangeS_vo_s0 y⟩) fun z => some ⟨(laws_markRangeS_vo_e0 z).1, (laws_markRangeS_vo_e0 z).2.1, (laws_markRangeS_vo_e0 z).2.2⟩) := by
  kernel_rfl

theorem laws_markRangeS_vo_lo0 : ∀ sp, (laws_markRangeS_vo_loops 0) = some sp → LoopOk G34 ⟨1, 29, laws_markRangeS_vo_loops⟩ sp (loopBody Try.f132 0) := by
  intro sp hsp vals st k r h
  cases hsp
  dsimp only at h
  rcases onPats_inv2 h with ⟨p, q, rfl, rfl, h⟩ | h
  · exact loop_runs2 laws_markRangeS_vo_bp0 laws_markRangeS_vo_v0 laws_markRangeS_vo_s0 laws_markRangeS_vo_e0 (fun z => by (intro h; cases h)) laws_markRangeS_vo_bx0 Fuel (p.2.1, p.2.2.1, q.1) _ k r (fun z => rfl) h
  cases h

theorem laws_markRangeS_vo_x (a0 : Int) (a1 : (List dRange)) : execFn G34 laws_markRangeS_vo_loops Try.f132 [.own 0, .int .i64 a0] [.arr tRange a1] = laws_markRangeS_vo_d a0 a1 (fun (y : (Int × (List dRange))) => some ⟨.ret, [.int .i64 y.1], [.arr tRange y.2]⟩) := by kernel_rfl

theorem laws_markRangeS_vo_y (a0 : Int) (a1 : (List dRange)) : execFn G34 laws_markRangeS_vo_loops Try.f132 [.own 0, .int .i64 a0] [.arr tRange a1] = laws_markRangeS_vo_k a0 a1 (fun (y : (Int × (List dRange))) => some ⟨.ret, [.int .i64 y.1], [.arr tRange y.2]⟩) := (laws_markRangeS_vo_x a0 a1).trans (by rw [laws_markRangeS_vo_e])

theorem laws_markRangeS_vo_l : LoopsOk G34 ⟨1, 29, laws_markRangeS_vo_loops⟩ (Try.f132.body.getD .skip) :=
  loopsOk_of (ids := [0]) (by kernel_rfl) (by kernel_rfl) ⟨laws_markRangeS_vo_lo0, trivial⟩

theorem laws_markRangeS_c : Contract Try.prog 132 laws_markRangeS_g := by
  refine told G34_ok follows Try.func132 (c := Try.f132.body.getD .skip) (by kernel_rfl) ?_
  intro args s k r hk
  unfold laws_markRangeS_g at hk
  rcases onPats_inv hk with ⟨p, q, rfl, rfl⟩ | hk
  · exact ⟨laws_markRangeS_vo_loops, laws_markRangeS_vo_q p.2.1 q.1, laws_markRangeS_vo_y p.2.1 q.1, laws_markRangeS_vo_l⟩
  cases hk

def G35 : Glob := G34.add 132 laws_markRangeS_g

theorem G35_ok : GlobOk Try.prog G35 := G34_ok.add ⟨Try.f132, Try.func132, by kernel_rfl, by kernel_rfl⟩ laws_markRangeS_c

/-! ### loop.example/g00327/laws.markWriteS -/

def laws_markWriteS_vo_loops : Nat → Option LoopSpec
  | 0 => some ⟨[0, 1, 5], [], fun vals st k => onPats [.own 0, .int .i64, .int .i64] [.arr tWrite] vals st (fun p q => loopK laws_markWriteS_vo_b0 Fuel (p.2.1, p.2.2.1, q.1) (fun z => k (.exit 0) [.own 0, .int .i64 z.1, .int .i64 z.2.1] [.arr tWrite z.2.2]))
      (none)⟩
  | _ => none

def laws_markWriteS_vo_v0 : (Int × Int × (List dWrite)) → List AV := (fun x => [.own 0, .int .i64 x.1, .int .i64 x.2.1])
def laws_markWriteS_vo_s0 : (Int × Int × (List dWrite)) → St := (fun x => [.arr tWrite x.2.2])
def laws_markWriteS_vo_e0 : (Int × Int × (List dWrite)) → Out × List AV × St := (fun z => ((.exit 0), [.own 0, .int .i64 z.1, .int .i64 z.2.1], [.arr tWrite z.2.2]))

theorem laws_markWriteS_vo_bx0 (x : (Int × Int × (List dWrite))) : exec G35 ⟨1, 38, laws_markWriteS_vo_loops⟩ (loopBody Try.f47 0) (bodyK ⟨1, 38, laws_markWriteS_vo_loops⟩ [0, 1, 5] []) (setEs (deads 38) [0, 1, 5] (laws_markWriteS_vo_v0 x)) (laws_markWriteS_vo_s0 x) = laws_markWriteS_vo_b0 x (Sum.elim (fun y => some ⟨.norm, laws_markWriteS_vo_v0 y, laws_markWriteS_vo_s0 y⟩) fun z => some ⟨(laws_markWriteS_vo_e0 z).1, (laws_markWriteS_vo_e0 z).2.1, (laws_markWriteS_vo_e0 z).2.2⟩) := by
  kernel_rfl

theorem laws_markWriteS_vo_lo0 : ∀ sp, (laws_markWriteS_vo_loops 0) = some sp → LoopOk G35 ⟨1, 38, laws_markWriteS_vo_loops⟩ sp (loopBody Try.f47 0) := by
  intro sp hsp vals st k r h
  cases hsp
  dsimp only at h
  rcases onPats_inv2 h with ⟨p, q, rfl, rfl, h⟩ | h
  · exact loop_runs2 laws_markWriteS_vo_bp0 laws_markWriteS_vo_v0 laws_markWriteS_vo_s0 laws_markWriteS_vo_e0 (fun z => by (intro h; cases h)) laws_markWriteS_vo_bx0 Fuel (p.2.1, p.2.2.1, q.1) _ k r (fun z => rfl) h
  cases h

theorem laws_markWriteS_vo_x (a0 : Int) (a1 : (List dWrite)) : execFn G35 laws_markWriteS_vo_loops Try.f47 [.own 0, .int .i64 a0] [.arr tWrite a1] = laws_markWriteS_vo_d a0 a1 (fun (y : (Int × (List dWrite))) => some ⟨.ret, [.int .i64 y.1], [.arr tWrite y.2]⟩) := by kernel_rfl

theorem laws_markWriteS_vo_y (a0 : Int) (a1 : (List dWrite)) : execFn G35 laws_markWriteS_vo_loops Try.f47 [.own 0, .int .i64 a0] [.arr tWrite a1] = laws_markWriteS_vo_k a0 a1 (fun (y : (Int × (List dWrite))) => some ⟨.ret, [.int .i64 y.1], [.arr tWrite y.2]⟩) := (laws_markWriteS_vo_x a0 a1).trans (by rw [laws_markWriteS_vo_e])

theorem laws_markWriteS_vo_l : LoopsOk G35 ⟨1, 38, laws_markWriteS_vo_loops⟩ (Try.f47.body.getD .skip) :=
  loopsOk_of (ids := [0]) (by kernel_rfl) (by kernel_rfl) ⟨laws_markWriteS_vo_lo0, trivial⟩

theorem laws_markWriteS_c : Contract Try.prog 47 laws_markWriteS_g := by
  refine told G35_ok follows Try.func47 (c := Try.f47.body.getD .skip) (by kernel_rfl) ?_
  intro args s k r hk
  unfold laws_markWriteS_g at hk
  rcases onPats_inv hk with ⟨p, q, rfl, rfl⟩ | hk
  · exact ⟨laws_markWriteS_vo_loops, laws_markWriteS_vo_q p.2.1 q.1, laws_markWriteS_vo_y p.2.1 q.1, laws_markWriteS_vo_l⟩
  cases hk

def G36 : Glob := G35.add 47 laws_markWriteS_g

theorem G36_ok : GlobOk Try.prog G36 := G35_ok.add ⟨Try.f47, Try.func47, by kernel_rfl, by kernel_rfl⟩ laws_markWriteS_c

/-! ### loop.example/g00327/laws.markTxn -/

def laws_markTxn_va_loops : Nat → Option LoopSpec
  | _ => none

theorem laws_markTxn_va_x (a0 : Int) (a1 : Int) (a2 : Int) (a3 : Int) (a4 : Bool) (a5 : ByteArray) (a6 : Int) (a7 : (List dRange)) (a8 : (List dWrite)) : execFn G36 laws_markTxn_va_loops Try.f58 [.agg [.int .i64 a0, .int .i64 a1, .int .i64 a2, .int .i64 a3, .own 0, .own 1, .bool a4, .str a5], .int .i64 a6] [.arr tRange a7, .arr tWrite a8] = laws_markTxn_va_d a0 a1 a2 a3 a4 a5 a6 a7 a8 (fun (y : (Int × (List dRange) × (List dWrite))) => some ⟨.ret, [.int .i64 y.1], [.arr tRange y.2.1, .arr tWrite y.2.2]⟩) := by kernel_rfl

theorem laws_markTxn_va_y (a0 : Int) (a1 : Int) (a2 : Int) (a3 : Int) (a4 : Bool) (a5 : ByteArray) (a6 : Int) (a7 : (List dRange)) (a8 : (List dWrite)) : execFn G36 laws_markTxn_va_loops Try.f58 [.agg [.int .i64 a0, .int .i64 a1, .int .i64 a2, .int .i64 a3, .own 0, .own 1, .bool a4, .str a5], .int .i64 a6] [.arr tRange a7, .arr tWrite a8] = laws_markTxn_va_k a0 a1 a2 a3 a4 a5 a6 a7 a8 (fun (y : (Int × (List dRange) × (List dWrite))) => some ⟨.ret, [.int .i64 y.1], [.arr tRange y.2.1, .arr tWrite y.2.2]⟩) := (laws_markTxn_va_x a0 a1 a2 a3 a4 a5 a6 a7 a8).trans (by rw [laws_markTxn_va_e])

theorem laws_markTxn_va_l : LoopsOk G36 ⟨2, 14, laws_markTxn_va_loops⟩ (Try.f58.body.getD .skip) :=
  loopsOk_of (ids := []) (by kernel_rfl) (by kernel_rfl) trivial

theorem laws_markTxn_c : Contract Try.prog 58 laws_markTxn_g := by
  refine told G36_ok follows Try.func58 (c := Try.f58.body.getD .skip) (by kernel_rfl) ?_
  intro args s k r hk
  unfold laws_markTxn_g at hk
  rcases onPats_inv hk with ⟨p, q, rfl, rfl⟩ | hk
  · exact ⟨laws_markTxn_va_loops, laws_markTxn_va_q p.1.1 p.1.2.1 p.1.2.2.1 p.1.2.2.2.1 p.1.2.2.2.2.2.2.1 p.1.2.2.2.2.2.2.2.1 p.2.1 q.1 q.2.1, laws_markTxn_va_y p.1.1 p.1.2.1 p.1.2.2.1 p.1.2.2.2.1 p.1.2.2.2.2.2.2.1 p.1.2.2.2.2.2.2.2.1 p.2.1 q.1 q.2.1, laws_markTxn_va_l⟩
  cases hk

def G37 : Glob := G36.add 58 laws_markTxn_g

theorem G37_ok : GlobOk Try.prog G37 := G36_ok.add ⟨Try.f58, Try.func58, by kernel_rfl, by kernel_rfl⟩ laws_markTxn_c

/-! ### loop.example/g00327/laws.heldRangeS -/

def laws_heldRangeS_loops : Nat → Option LoopSpec
  | 0 => some ⟨[0, 1, 4, 5], [], fun vals st k => onPats [.lst tRange, .int .i64, .int .i64, .int .i64] [] vals st (fun p q => loopK laws_heldRangeS_b0 Fuel (p.1, p.2.1, p.2.2.1, p.2.2.2.1) (Sum.elim (fun z => k .ret [.lst tRange z.1, .int .i64 z.2.1, .int .i64 z.2.2.1, .int .i64 z.2.2.2] []) (fun z => k (.exit 0) [.lst tRange z.1, .int .i64 z.2.1, .int .i64 z.2.2.1, .int .i64 z.2.2.2] [])))
      (none)⟩
  | _ => none

def laws_heldRangeS_v0 : ((List dRange) × Int × Int × Int) → List AV := (fun x => [.lst tRange x.1, .int .i64 x.2.1, .int .i64 x.2.2.1, .int .i64 x.2.2.2])
def laws_heldRangeS_s0 : ((List dRange) × Int × Int × Int) → St := (fun x => [])
def laws_heldRangeS_e0 : (((List dRange) × Int × Int × Int) ⊕ ((List dRange) × Int × Int × Int)) → Out × List AV × St := (Sum.elim (fun z => (.ret, [.lst tRange z.1, .int .i64 z.2.1, .int .i64 z.2.2.1, .int .i64 z.2.2.2], [])) (fun z => ((.exit 0), [.lst tRange z.1, .int .i64 z.2.1, .int .i64 z.2.2.1, .int .i64 z.2.2.2], [])))

theorem laws_heldRangeS_bx0 (x : ((List dRange) × Int × Int × Int)) : exec G37 ⟨0, 33, laws_heldRangeS_loops⟩ (loopBody Try.f133 0) (bodyK ⟨0, 33, laws_heldRangeS_loops⟩ [0, 1, 4, 5] []) (setEs (deads 33) [0, 1, 4, 5] (laws_heldRangeS_v0 x)) (laws_heldRangeS_s0 x) = laws_heldRangeS_b0 x (Sum.elim (fun y => some ⟨.norm, laws_heldRangeS_v0 y, laws_heldRangeS_s0 y⟩) fun z => some ⟨(laws_heldRangeS_e0 z).1, (laws_heldRangeS_e0 z).2.1, (laws_heldRangeS_e0 z).2.2⟩) := by
  kernel_rfl

theorem laws_heldRangeS_lo0 : ∀ sp, (laws_heldRangeS_loops 0) = some sp → LoopOk G37 ⟨0, 33, laws_heldRangeS_loops⟩ sp (loopBody Try.f133 0) := by
  intro sp hsp vals st k r h
  cases hsp
  dsimp only at h
  rcases onPats_inv2 h with ⟨p, q, rfl, rfl, h⟩ | h
  · exact loop_runs2 laws_heldRangeS_bp0 laws_heldRangeS_v0 laws_heldRangeS_s0 laws_heldRangeS_e0 (fun z => by rcases z with z | z <;> (intro h; cases h)) laws_heldRangeS_bx0 Fuel (p.1, p.2.1, p.2.2.1, p.2.2.2.1) _ k r (fun z => by rcases z with z | z <;> rfl) h
  cases h

theorem laws_heldRangeS_x (a0 : (List dRange)) (a1 : Int) : execFn G37 laws_heldRangeS_loops Try.f133 [.lst tRange a0, .int .i64 a1] [] = laws_heldRangeS_d a0 a1 (fun (y : Int) => some ⟨.ret, [.int .i64 y], []⟩) := by kernel_rfl

theorem laws_heldRangeS_y (a0 : (List dRange)) (a1 : Int) : execFn G37 laws_heldRangeS_loops Try.f133 [.lst tRange a0, .int .i64 a1] [] = laws_heldRangeS_k a0 a1 (fun (y : Int) => some ⟨.ret, [.int .i64 y], []⟩) := (laws_heldRangeS_x a0 a1).trans (by rw [laws_heldRangeS_e])

theorem laws_heldRangeS_l : LoopsOk G37 ⟨0, 33, laws_heldRangeS_loops⟩ (Try.f133.body.getD .skip) :=
  loopsOk_of (ids := [0]) (by kernel_rfl) (by kernel_rfl) ⟨laws_heldRangeS_lo0, trivial⟩

theorem laws_heldRangeS_c : Contract Try.prog 133 laws_heldRangeS_g := by
  refine told G37_ok follows Try.func133 (c := Try.f133.body.getD .skip) (by kernel_rfl) ?_
  intro args s k r hk
  unfold laws_heldRangeS_g at hk
  rcases onPats_inv hk with ⟨p, q, rfl, rfl⟩ | hk
  · exact ⟨laws_heldRangeS_loops, laws_heldRangeS_q p.1 p.2.1, laws_heldRangeS_y p.1 p.2.1, laws_heldRangeS_l⟩
  cases hk

def G38 : Glob := G37.add 133 laws_heldRangeS_g

theorem G38_ok : GlobOk Try.prog G38 := G37_ok.add ⟨Try.f133, Try.func133, by kernel_rfl, by kernel_rfl⟩ laws_heldRangeS_c

/-! ### loop.example/g00327/laws.heldWriteS -/

def laws_heldWriteS_loops : Nat → Option LoopSpec
  | 0 => some ⟨[0, 1, 4, 5], [], fun vals st k => onPats [.lst tWrite, .int .i64, .int .i64, .int .i64] [] vals st (fun p q => loopK laws_heldWriteS_b0 Fuel (p.1, p.2.1, p.2.2.1, p.2.2.2.1) (Sum.elim (fun z => k .ret [.lst tWrite z.1, .int .i64 z.2.1, .int .i64 z.2.2.1, .int .i64 z.2.2.2] []) (fun z => k (.exit 0) [.lst tWrite z.1, .int .i64 z.2.1, .int .i64 z.2.2.1, .int .i64 z.2.2.2] [])))
      (none)⟩
  | _ => none

def laws_heldWriteS_v0 : ((List dWrite) × Int × Int × Int) → List AV := (fun x => [.lst tWrite x.1, .int .i64 x.2.1, .int .i64 x.2.2.1, .int .i64 x.2.2.2])
def laws_heldWriteS_s0 : ((List dWrite) × Int × Int × Int) → St := (fun x => [])
def laws_heldWriteS_e0 : (((List dWrite) × Int × Int × Int) ⊕ ((List dWrite) × Int × Int × Int)) → Out × List AV × St := (Sum.elim (fun z => (.ret, [.lst tWrite z.1, .int .i64 z.2.1, .int .i64 z.2.2.1, .int .i64 z.2.2.2], [])) (fun z => ((.exit 0), [.lst tWrite z.1, .int .i64 z.2.1, .int .i64 z.2.2.1, .int .i64 z.2.2.2], [])))

theorem laws_heldWriteS_bx0 (x : ((List dWrite) × Int × Int × Int)) : exec G38 ⟨0, 44, laws_heldWriteS_loops⟩ (loopBody Try.f134 0) (bodyK ⟨0, 44, laws_heldWriteS_loops⟩ [0, 1, 4, 5] []) (setEs (deads 44) [0, 1, 4, 5] (laws_heldWriteS_v0 x)) (laws_heldWriteS_s0 x) = laws_heldWriteS_b0 x (Sum.elim (fun y => some ⟨.norm, laws_heldWriteS_v0 y, laws_heldWriteS_s0 y⟩) fun z => some ⟨(laws_heldWriteS_e0 z).1, (laws_heldWriteS_e0 z).2.1, (laws_heldWriteS_e0 z).2.2⟩) := by
  kernel_rfl

theorem laws_heldWriteS_lo0 : ∀ sp, (laws_heldWriteS_loops 0) = some sp → LoopOk G38 ⟨0, 44, laws_heldWriteS_loops⟩ sp (loopBody Try.f134 0) := by
  intro sp hsp vals st k r h
  cases hsp
  dsimp only at h
  rcases onPats_inv2 h with ⟨p, q, rfl, rfl, h⟩ | h
  · exact loop_runs2 laws_heldWriteS_bp0 laws_heldWriteS_v0 laws_heldWriteS_s0 laws_heldWriteS_e0 (fun z => by rcases z with z | z <;> (intro h; cases h)) laws_heldWriteS_bx0 Fuel (p.1, p.2.1, p.2.2.1, p.2.2.2.1) _ k r (fun z => by rcases z with z | z <;> rfl) h
  cases h

theorem laws_heldWriteS_x (a0 : (List dWrite)) (a1 : Int) : execFn G38 laws_heldWriteS_loops Try.f134 [.lst tWrite a0, .int .i64 a1] [] = laws_heldWriteS_d a0 a1 (fun (y : Int) => some ⟨.ret, [.int .i64 y], []⟩) := by kernel_rfl

theorem laws_heldWriteS_y (a0 : (List dWrite)) (a1 : Int) : execFn G38 laws_heldWriteS_loops Try.f134 [.lst tWrite a0, .int .i64 a1] [] = laws_heldWriteS_k a0 a1 (fun (y : Int) => some ⟨.ret, [.int .i64 y], []⟩) := (laws_heldWriteS_x a0 a1).trans (by rw [laws_heldWriteS_e])

theorem laws_heldWriteS_l : LoopsOk G38 ⟨0, 44, laws_heldWriteS_loops⟩ (Try.f134.body.getD .skip) :=
  loopsOk_of (ids := [0]) (by kernel_rfl) (by kernel_rfl) ⟨laws_heldWriteS_lo0, trivial⟩

theorem laws_heldWriteS_c : Contract Try.prog 134 laws_heldWriteS_g := by
  refine told G38_ok follows Try.func134 (c := Try.f134.body.getD .skip) (by kernel_rfl) ?_
  intro args s k r hk
  unfold laws_heldWriteS_g at hk
  rcases onPats_inv hk with ⟨p, q, rfl, rfl⟩ | hk
  · exact ⟨laws_heldWriteS_loops, laws_heldWriteS_q p.1 p.2.1, laws_heldWriteS_y p.1 p.2.1, laws_heldWriteS_l⟩
  cases hk

def G39 : Glob := G38.add 134 laws_heldWriteS_g

theorem G39_ok : GlobOk Try.prog G39 := G38_ok.add ⟨Try.f134, Try.func134, by kernel_rfl, by kernel_rfl⟩ laws_heldWriteS_c

/-! ### loop.example/g00327/laws.heldTxn -/

def laws_heldTxn_loops : Nat → Option LoopSpec
  | _ => none

theorem laws_heldTxn_x (a0 : Int) (a1 : Int) (a2 : Int) (a3 : Int) (a4 : (List dRange)) (a5 : (List dWrite)) (a6 : Bool) (a7 : ByteArray) (a8 : Int) : execFn G39 laws_heldTxn_loops Try.f59 [.agg [.int .i64 a0, .int .i64 a1, .int .i64 a2, .int .i64 a3, .lst tRange a4, .lst tWrite a5, .bool a6, .str a7], .int .i64 a8] [] = laws_heldTxn_d (a0, (a1, (a2, (a3, (a4, (a5, (a6, a7))))))) a8 (fun (y : Int) => some ⟨.ret, [.int .i64 y], []⟩) := by kernel_rfl

theorem laws_heldTxn_y (a0 : Int) (a1 : Int) (a2 : Int) (a3 : Int) (a4 : (List dRange)) (a5 : (List dWrite)) (a6 : Bool) (a7 : ByteArray) (a8 : Int) : execFn G39 laws_heldTxn_loops Try.f59 [.agg [.int .i64 a0, .int .i64 a1, .int .i64 a2, .int .i64 a3, .lst tRange a4, .lst tWrite a5, .bool a6, .str a7], .int .i64 a8] [] = laws_heldTxn_k (a0, (a1, (a2, (a3, (a4, (a5, (a6, a7))))))) a8 (fun (y : Int) => some ⟨.ret, [.int .i64 y], []⟩) := (laws_heldTxn_x a0 a1 a2 a3 a4 a5 a6 a7 a8).trans (by rw [laws_heldTxn_e])

theorem laws_heldTxn_l : LoopsOk G39 ⟨0, 18, laws_heldTxn_loops⟩ (Try.f59.body.getD .skip) :=
  loopsOk_of (ids := []) (by kernel_rfl) (by kernel_rfl) trivial

theorem laws_heldTxn_c : Contract Try.prog 59 laws_heldTxn_g := by
  refine told G39_ok follows Try.func59 (c := Try.f59.body.getD .skip) (by kernel_rfl) ?_
  intro args s k r hk
  unfold laws_heldTxn_g at hk
  rcases onPats_inv hk with ⟨p, q, rfl, rfl⟩ | hk
  · exact ⟨laws_heldTxn_loops, laws_heldTxn_q p.1.1 p.1.2.1 p.1.2.2.1 p.1.2.2.2.1 p.1.2.2.2.2.1 p.1.2.2.2.2.2.1 p.1.2.2.2.2.2.2.1 p.1.2.2.2.2.2.2.2.1 p.2.1, laws_heldTxn_y p.1.1 p.1.2.1 p.1.2.2.1 p.1.2.2.2.1 p.1.2.2.2.2.1 p.1.2.2.2.2.2.1 p.1.2.2.2.2.2.2.1 p.1.2.2.2.2.2.2.2.1 p.2.1, laws_heldTxn_l⟩
  cases hk

def G40 : Glob := G39.add 59 laws_heldTxn_g

theorem G40_ok : GlobOk Try.prog G40 := G39_ok.add ⟨Try.f59, Try.func59, by kernel_rfl, by kernel_rfl⟩ laws_heldTxn_c

/-! ### loop.example/g00327/laws.FnExactReadRange -/

def laws_FnExactReadRange_loops : Nat → Option LoopSpec
  | 5000030 => some ⟨[4, 9, 12], [], fun vals st k => onPats [.bool, .bp 0 0, .int .i64] [.box [.int .i64, .int .i64, .int .i64, .int .i64, .own 1, .own 2, .bool, .str], .arr tRange, .arr tWrite] vals st (fun p q => laws_FnExactReadRange_j5000030 (p.1, p.2.2.1, q.1.1, q.1.2.1, q.1.2.2.1, q.1.2.2.2.1, q.1.2.2.2.2.2.2.1, q.1.2.2.2.2.2.2.2.1, q.2.1, q.2.2.1) (fun z => k .ret [.bool z.1, .bp 0 0, .int .i64 z.2.1] [.box [.int .i64 z.2.2.1, .int .i64 z.2.2.2.1, .int .i64 z.2.2.2.2.1, .int .i64 z.2.2.2.2.2.1, .own 1, .own 2, .bool z.2.2.2.2.2.2.1, .str z.2.2.2.2.2.2.2.1], .arr tRange z.2.2.2.2.2.2.2.2.1, .arr tWrite z.2.2.2.2.2.2.2.2.2]))
      (none)⟩
  | 5000019 => some ⟨[2, 3, 4, 6, 7, 9], [], fun vals st k => onPats [.bp 0 0, .bp 1 0, .bool, .bp 2 0, .bool, .bp 3 0] [.box [.int .i64, .int .i64, .int .i64, .int .i64, .lst tRange, .lst tWrite, .bool, .str], .box [.str, .str], .box [.int .i64, .int .i64, .int .i64, .int .i64, .own 4, .own 5, .bool, .str], .box [.int .i64, .int .i64, .int .i64, .int .i64, .own 6, .own 7, .bool, .str], .arr tRange, .arr tWrite, .arr tRange, .arr tWrite] vals st (fun p q => laws_FnExactReadRange_j5000019 (p.2.2.1, p.2.2.2.2.1, q.1.1, q.1.2.1, q.1.2.2.1, q.1.2.2.2.1, q.1.2.2.2.2.1, q.1.2.2.2.2.2.1, q.1.2.2.2.2.2.2.1, q.1.2.2.2.2.2.2.2.1, q.2.1.1, q.2.1.2.1, q.2.2.1.1, q.2.2.1.2.1, q.2.2.1.2.2.1, q.2.2.1.2.2.2.1, q.2.2.1.2.2.2.2.2.2.1, q.2.2.1.2.2.2.2.2.2.2.1, q.2.2.2.1.1, q.2.2.2.1.2.1, q.2.2.2.1.2.2.1, q.2.2.2.1.2.2.2.1, q.2.2.2.1.2.2.2.2.2.2.1, q.2.2.2.1.2.2.2.2.2.2.2.1, q.2.2.2.2.1, q.2.2.2.2.2.1, q.2.2.2.2.2.2.1, q.2.2.2.2.2.2.2.1) (Sum.elim (fun z => k .ret [.bp 0 0, .bp 1 0, .bool z.1, .bp 2 0, .bool z.2.1, .bp 3 0] [.box [.int .i64 z.2.2.1, .int .i64 z.2.2.2.1, .int .i64 z.2.2.2.2.1, .int .i64 z.2.2.2.2.2.1, .lst tRange z.2.2.2.2.2.2.1, .lst tWrite z.2.2.2.2.2.2.2.1, .bool z.2.2.2.2.2.2.2.2.1, .str z.2.2.2.2.2.2.2.2.2.1], .box [.str z.2.2.2.2.2.2.2.2.2.2.1, .str z.2.2.2.2.2.2.2.2.2.2.2.1], .box [.int .i64 z.2.2.2.2.2.2.2.2.2.2.2.2.1, .int .i64 z.2.2.2.2.2.2.2.2.2.2.2.2.2.1, .int .i64 z.2.2.2.2.2.2.2.2.2.2.2.2.2.2.1, .int .i64 z.2.2.2.2.2.2.2.2.2.2.2.2.2.2.2.1, .own 4, .own 5, .bool z.2.2.2.2.2.2.2.2.2.2.2.2.2.2.2.2.1, .str z.2.2.2.2.2.2.2.2.2.2.2.2.2.2.2.2.2.1], .box [.int .i64 z.2.2.2.2.2.2.2.2.2.2.2.2.2.2.2.2.2.2.1, .int .i64 z.2.2.2.2.2.2.2.2.2.2.2.2.2.2.2.2.2.2.2.1, .int .i64 z.2.2.2.2.2.2.2.2.2.2.2.2.2.2.2.2.2.2.2.2.1, .int .i64 z.2.2.2.2.2.2.2.2.2.2.2.2.2.2.2.2.2.2.2.2.2.1, .own 6, .own 7, .bool z.2.2.2.2.2.2.2.2.2.2.2.2.2.2.2.2.2.2.2.2.2.2.1, .str z.2.2.2.2.2.2.2.2.2.2.2.2.2.2.2.2.2.2.2.2.2.2.2.1], .arr tRange z.2.2.2.2.2.2.2.2.2.2.2.2.2.2.2.2.2.2.2.2.2.2.2.2.1, .arr tWrite z.2.2.2.2.2.2.2.2.2.2.2.2.2.2.2.2.2.2.2.2.2.2.2.2.2.1, .arr tRange z.2.2.2.2.2.2.2.2.2.2.2.2.2.2.2.2.2.2.2.2.2.2.2.2.2.2.1, .arr tWrite z.2.2.2.2.2.2.2.2.2.2.2.2.2.2.2.2.2.2.2.2.2.2.2.2.2.2.2]) (fun z => k .ret [.dead, .dead, .bool z.1, .dead, .dead, .bp 0 0] [.box [.int .i64 z.2.1, .int .i64 z.2.2.1, .int .i64 z.2.2.2.1, .int .i64 z.2.2.2.2.1, .own 1, .own 2, .bool z.2.2.2.2.2.1, .str z.2.2.2.2.2.2.1], .arr tRange z.2.2.2.2.2.2.2.1, .arr tWrite z.2.2.2.2.2.2.2.2])))
      (none)⟩
  | 5000013 => some ⟨[2, 3, 4, 6, 7, 8, 9, 10], [], fun vals st k => onPats [.bp 0 0, .bp 1 0, .bool, .bp 2 0, .bool, .bp 3 0, .bp 4 0, .bool] [.box [.int .i64, .int .i64, .int .i64, .int .i64, .lst tRange, .lst tWrite, .bool, .str], .box [.str, .str], .box [.int .i64, .int .i64, .int .i64, .int .i64, .own 5, .own 6, .bool, .str], .box [.int .i64, .int .i64, .int .i64, .int .i64, .own 7, .own 8, .bool, .str], .box [.int .i64, .int .i64, .int .i64, .int .i64, .own 9, .own 10, .bool, .str], .arr tRange, .arr tWrite, .arr tRange, .arr tWrite, .arr tRange, .arr tWrite] vals st (fun p q => laws_FnExactReadRange_j5000013 (p.2.2.1, p.2.2.2.2.1, p.2.2.2.2.2.2.2.1, q.1.1, q.1.2.1, q.1.2.2.1, q.1.2.2.2.1, q.1.2.2.2.2.1, q.1.2.2.2.2.2.1, q.1.2.2.2.2.2.2.1, q.1.2.2.2.2.2.2.2.1, q.2.1.1, q.2.1.2.1, q.2.2.1.1, q.2.2.1.2.1, q.2.2.1.2.2.1, q.2.2.1.2.2.2.1, q.2.2.1.2.2.2.2.2.2.1, q.2.2.1.2.2.2.2.2.2.2.1, q.2.2.2.1.1, q.2.2.2.1.2.1, q.2.2.2.1.2.2.1, q.2.2.2.1.2.2.2.1, q.2.2.2.1.2.2.2.2.2.2.1, q.2.2.2.1.2.2.2.2.2.2.2.1, q.2.2.2.2.1.1, q.2.2.2.2.1.2.1, q.2.2.2.2.1.2.2.1, q.2.2.2.2.1.2.2.2.1, q.2.2.2.2.1.2.2.2.2.2.2.1, q.2.2.2.2.1.2.2.2.2.2.2.2.1, q.2.2.2.2.2.1, q.2.2.2.2.2.2.1, q.2.2.2.2.2.2.2.1, q.2.2.2.2.2.2.2.2.1, q.2.2.2.2.2.2.2.2.2.1, q.2.2.2.2.2.2.2.2.2.2.1) (Sum.elim (fun z => k .ret [.bp 0 0, .bp 1 0, .bool z.1, .bp 2 0, .bool z.2.1, .bp 3 0, .bp 4 0, .bool z.2.2.1] [.box [.int .i64 z.2.2.2.1, .int .i64 z.2.2.2.2.1, .int .i64 z.2.2.2.2.2.1, .int .i64 z.2.2.2.2.2.2.1, .lst tRange z.2.2.2.2.2.2.2.1, .lst tWrite z.2.2.2.2.2.2.2.2.1, .bool z.2.2.2.2.2.2.2.2.2.1, .str z.2.2.2.2.2.2.2.2.2.2.1], .box [.str z.2.2.2.2.2.2.2.2.2.2.2.1, .str z.2.2.2.2.2.2.2.2.2.2.2.2.1], .box [.int .i64 z.2.2.2.2.2.2.2.2.2.2.2.2.2.1, .int .i64 z.2.2.2.2.2.2.2.2.2.2.2.2.2.2.1, .int .i64 z.2.2.2.2.2.2.2.2.2.2.2.2.2.2.2.1, .int .i64 z.2.2.2.2.2.2.2.2.2.2.2.2.2.2.2.2.1, .own 5, .own 6, .bool z.2.2.2.2.2.2.2.2.2.2.2.2.2.2.2.2.2.1, .str z.2.2.2.2.2.2.2.2.2.2.2.2.2.2.2.2.2.2.1], .box [.int .i64 z.2.2.2.2.2.2.2.2.2.2.2.2.2.2.2.2.2.2.2.1, .int .i64 z.2.2.2.2.2.2.2.2.2.2.2.2.2.2.2.2.2.2.2.2.1, .int .i64 z.2.2.2.2.2.2.2.2.2.2.2.2.2.2.2.2.2.2.2.2.2.1, .int .i64 z.2.2.2.2.2.2.2.2.2.2.2.2.2.2.2.2.2.2.2.2.2.2.1, .own 7, .own 8, .bool z.2.2.2.2.2.2.2.2.2.2.2.2.2.2.2.2.2.2.2.2.2.2.2.1, .str z.2.2.2.2.2.2.2.2.2.2.2.2.2.2.2.2.2.2.2.2.2.2.2.2.1], .box [.int .i64 z.2.2.2.2.2.2.2.2.2.2.2.2.2.2.2.2.2.2.2.2.2.2.2.2.2.1, .int .i64 z.2.2.2.2.2.2.2.2.2.2.2.2.2.2.2.2.2.2.2.2.2.2.2.2.2.2.1, .int .i64 z.2.2.2.2.2.2.2.2.2.2.2.2.2.2.2.2.2.2.2.2.2.2.2.2.2.2.2.1, .int .i64 z.2.2.2.2.2.2.2.2.2.2.2.2.2.2.2.2.2.2.2.2.2.2.2.2.2.2.2.2.1, .own 9, .own 10, .bool z.2.2.2.2.2.2.2.2.2.2.2.2.2.2.2.2.2.2.2.2.2.2.2.2.2.2.2.2.2.1, .str z.2.2.2.2.2.2.2.2.2.2.2.2.2.2.2.2.2.2.2.2.2.2.2.2.2.2.2.2.2.2.1], .arr tRange z.2.2.2.2.2.2.2.2.2.2.2.2.2.2.2.2.2.2.2.2.2.2.2.2.2.2.2.2.2.2.2.1, .arr tWrite z.2.2.2.2.2.2.2.2.2.2.2.2.2.2.2.2.2.2.2.2.2.2.2.2.2.2.2.2.2.2.2.2.1, .arr tRange z.2.2.2.2.2.2.2.2.2.2.2.2.2.2.2.2.2.2.2.2.2.2.2.2.2.2.2.2.2.2.2.2.2.1, .arr tWrite z.2.2.2.2.2.2.2.2.2.2.2.2.2.2.2.2.2.2.2.2.2.2.2.2.2.2.2.2.2.2.2.2.2.2.1, .arr tRange z.2.2.2.2.2.2.2.2.2.2.2.2.2.2.2.2.2.2.2.2.2.2.2.2.2.2.2.2.2.2.2.2.2.2.2.1, .arr tWrite z.2.2.2.2.2.2.2.2.2.2.2.2.2.2.2.2.2.2.2.2.2.2.2.2.2.2.2.2.2.2.2.2.2.2.2.2]) (Sum.elim (fun z => k .ret [.bp 0 0, .bp 1 0, .bool z.1, .bp 2 0, .bool z.2.1, .dead, .bp 3 0, .dead] [.box [.int .i64 z.2.2.1, .int .i64 z.2.2.2.1, .int .i64 z.2.2.2.2.1, .int .i64 z.2.2.2.2.2.1, .lst tRange z.2.2.2.2.2.2.1, .lst tWrite z.2.2.2.2.2.2.2.1, .bool z.2.2.2.2.2.2.2.2.1, .str z.2.2.2.2.2.2.2.2.2.1], .box [.str z.2.2.2.2.2.2.2.2.2.2.1, .str z.2.2.2.2.2.2.2.2.2.2.2.1], .box [.int .i64 z.2.2.2.2.2.2.2.2.2.2.2.2.1, .int .i64 z.2.2.2.2.2.2.2.2.2.2.2.2.2.1, .int .i64 z.2.2.2.2.2.2.2.2.2.2.2.2.2.2.1, .int .i64 z.2.2.2.2.2.2.2.2.2.2.2.2.2.2.2.1, .own 4, .own 5, .bool z.2.2.2.2.2.2.2.2.2.2.2.2.2.2.2.2.1, .str z.2.2.2.2.2.2.2.2.2.2.2.2.2.2.2.2.2.1], .box [.int .i64 z.2.2.2.2.2.2.2.2.2.2.2.2.2.2.2.2.2.2.1, .int .i64 z.2.2.2.2.2.2.2.2.2.2.2.2.2.2.2.2.2.2.2.1, .int .i64 z.2.2.2.2.2.2.2.2.2.2.2.2.2.2.2.2.2.2.2.2.1, .int .i64 z.2.2.2.2.2.2.2.2.2.2.2.2.2.2.2.2.2.2.2.2.2.1, .own 6, .own 7, .bool z.2.2.2.2.2.2.2.2.2.2.2.2.2.2.2.2.2.2.2.2.2.2.1, .str z.2.2.2.2.2.2.2.2.2.2.2.2.2.2.2.2.2.2.2.2.2.2.2.1], .arr tRange z.2.2.2.2.2.2.2.2.2.2.2.2.2.2.2.2.2.2.2.2.2.2.2.2.1, .arr tWrite z.2.2.2.2.2.2.2.2.2.2.2.2.2.2.2.2.2.2.2.2.2.2.2.2.2.1, .arr tRange z.2.2.2.2.2.2.2.2.2.2.2.2.2.2.2.2.2.2.2.2.2.2.2.2.2.2.1, .arr tWrite z.2.2.2.2.2.2.2.2.2.2.2.2.2.2.2.2.2.2.2.2.2.2.2.2.2.2.2]) (fun z => k .ret [.dead, .dead, .bool z.1, .dead, .dead, .dead, .bp 0 0, .dead] [.box [.int .i64 z.2.1, .int .i64 z.2.2.1, .int .i64 z.2.2.2.1, .int .i64 z.2.2.2.2.1, .own 1, .own 2, .bool z.2.2.2.2.2.1, .str z.2.2.2.2.2.2.1], .arr tRange z.2.2.2.2.2.2.2.1, .arr tWrite z.2.2.2.2.2.2.2.2]))))
      (none)⟩
  | _ => none

def laws_FnExactReadRange_jv5000030 : (Bool × Int × Int × Int × Int × Int × Bool × ByteArray × (List dRange) × (List dWrite)) → List AV := (fun x => [.bool x.1, .bp 0 0, .int .i64 x.2.1])
def laws_FnExactReadRange_js5000030 : (Bool × Int × Int × Int × Int × Int × Bool × ByteArray × (List dRange) × (List dWrite)) → St := (fun x => [.box [.int .i64 x.2.2.1, .int .i64 x.2.2.2.1, .int .i64 x.2.2.2.2.1, .int .i64 x.2.2.2.2.2.1, .own 1, .own 2, .bool x.2.2.2.2.2.2.1, .str x.2.2.2.2.2.2.2.1], .arr tRange x.2.2.2.2.2.2.2.2.1, .arr tWrite x.2.2.2.2.2.2.2.2.2])
def laws_FnExactReadRange_je5000030 : (Bool × Int × Int × Int × Int × Int × Bool × ByteArray × (List dRange) × (List dWrite)) → Out × List AV × St := (fun z => (.ret, [.bool z.1, .bp 0 0, .int .i64 z.2.1], [.box [.int .i64 z.2.2.1, .int .i64 z.2.2.2.1, .int .i64 z.2.2.2.2.1, .int .i64 z.2.2.2.2.2.1, .own 1, .own 2, .bool z.2.2.2.2.2.2.1, .str z.2.2.2.2.2.2.2.1], .arr tRange z.2.2.2.2.2.2.2.2.1, .arr tWrite z.2.2.2.2.2.2.2.2.2]))

theorem laws_FnExactReadRange_jx5000030 (x : (Bool × Int × Int × Int × Int × Int × Bool × ByteArray × (List dRange) × (List dWrite))) : exec G40 ⟨0, 109, laws_FnExactReadRange_loops⟩ (loopBody Try.f8 5000030) (bodyK ⟨0, 109, laws_FnExactReadRange_loops⟩ [4, 9, 12] []) (setEs (deads 109) [4, 9, 12] (laws_FnExactReadRange_jv5000030 x)) (laws_FnExactReadRange_js5000030 x) = laws_FnExactReadRange_j5000030 x (fun z => some ⟨(laws_FnExactReadRange_je5000030 z).1, (laws_FnExactReadRange_je5000030 z).2.1, (laws_FnExactReadRange_je5000030 z).2.2⟩) := by
  kernel_rfl

theorem laws_FnExactReadRange_lo5000030 : ∀ sp, (laws_FnExactReadRange_loops 5000030) = some sp → CutOk G40 ⟨0, 109, laws_FnExactReadRange_loops⟩ sp (loopBody Try.f8 5000030) := by
  intro sp hsp vals st k r h
  cases hsp
  dsimp only at h
  rcases onPats_inv2 h with ⟨p, q, rfl, rfl, h⟩ | h
  · exact cut_runs laws_FnExactReadRange_jp5000030 laws_FnExactReadRange_jv5000030 laws_FnExactReadRange_js5000030 laws_FnExactReadRange_je5000030 laws_FnExactReadRange_jx5000030 (p.1, p.2.2.1, q.1.1, q.1.2.1, q.1.2.2.1, q.1.2.2.2.1, q.1.2.2.2.2.2.2.1, q.1.2.2.2.2.2.2.2.1, q.2.1, q.2.2.1) _ k r (fun z => rfl) h
  cases h

def laws_FnExactReadRange_jv5000019 : (Bool × Bool × Int × Int × Int × Int × (List dRange) × (List dWrite) × Bool × ByteArray × ByteArray × ByteArray × Int × Int × Int × Int × Bool × ByteArray × Int × Int × Int × Int × Bool × ByteArray × (List dRange) × (List dWrite) × (List dRange) × (List dWrite)) → List AV := (fun x => [.bp 0 0, .bp 1 0, .bool x.1, .bp 2 0, .bool x.2.1, .bp 3 0])
def laws_FnExactReadRange_js5000019 : (Bool × Bool × Int × Int × Int × Int × (List dRange) × (List dWrite) × Bool × ByteArray × ByteArray × ByteArray × Int × Int × Int × Int × Bool × ByteArray × Int × Int × Int × Int × Bool × ByteArray × (List dRange) × (List dWrite) × (List dRange) × (List dWrite)) → St := (fun x => [.box [.int .i64 x.2.2.1, .int .i64 x.2.2.2.1, .int .i64 x.2.2.2.2.1, .int .i64 x.2.2.2.2.2.1, .lst tRange x.2.2.2.2.2.2.1, .lst tWrite x.2.2.2.2.2.2.2.1, .bool x.2.2.2.2.2.2.2.2.1, .str x.2.2.2.2.2.2.2.2.2.1], .box [.str x.2.2.2.2.2.2.2.2.2.2.1, .str x.2.2.2.2.2.2.2.2.2.2.2.1], .box [.int .i64 x.2.2.2.2.2.2.2.2.2.2.2.2.1, .int .i64 x.2.2.2.2.2.2.2.2.2.2.2.2.2.1, .int .i64 x.2.2.2.2.2.2.2.2.2.2.2.2.2.2.1, .int .i64 x.2.2.2.2.2.2.2.2.2.2.2.2.2.2.2.1, .own 4, .own 5, .bool x.2.2.2.2.2.2.2.2.2.2.2.2.2.2.2.2.1, .str x.2.2.2.2.2.2.2.2.2.2.2.2.2.2.2.2.2.1], .box [.int .i64 x.2.2.2.2.2.2.2.2.2.2.2.2.2.2.2.2.2.2.1, .int .i64 x.2.2.2.2.2.2.2.2.2.2.2.2.2.2.2.2.2.2.2.1, .int .i64 x.2.2.2.2.2.2.2.2.2.2.2.2.2.2.2.2.2.2.2.2.1, .int .i64 x.2.2.2.2.2.2.2.2.2.2.2.2.2.2.2.2.2.2.2.2.2.1, .own 6, .own 7, .bool x.2.2.2.2.2.2.2.2.2.2.2.2.2.2.2.2.2.2.2.2.2.2.1, .str x.2.2.2.2.2.2.2.2.2.2.2.2.2.2.2.2.2.2.2.2.2.2.2.1], .arr tRange x.2.2.2.2.2.2.2.2.2.2.2.2.2.2.2.2.2.2.2.2.2.2.2.2.1, .arr tWrite x.2.2.2.2.2.2.2.2.2.2.2.2.2.2.2.2.2.2.2.2.2.2.2.2.2.1, .arr tRange x.2.2.2.2.2.2.2.2.2.2.2.2.2.2.2.2.2.2.2.2.2.2.2.2.2.2.1, .arr tWrite x.2.2.2.2.2.2.2.2.2.2.2.2.2.2.2.2.2.2.2.2.2.2.2.2.2.2.2])
def laws_FnExactReadRange_je5000019 : ((Bool × Bool × Int × Int × Int × Int × (List dRange) × (List dWrite) × Bool × ByteArray × ByteArray × ByteArray × Int × Int × Int × Int × Bool × ByteArray × Int × Int × Int × Int × Bool × ByteArray × (List dRange) × (List dWrite) × (List dRange) × (List dWrite)) ⊕ (Bool × Int × Int × Int × Int × Bool × ByteArray × (List dRange) × (List dWrite))) → Out × List AV × St := (Sum.elim (fun z => (.ret, [.bp 0 0, .bp 1 0, .bool z.1, .bp 2 0, .bool z.2.1, .bp 3 0], [.box [.int .i64 z.2.2.1, .int .i64 z.2.2.2.1, .int .i64 z.2.2.2.2.1, .int .i64 z.2.2.2.2.2.1, .lst tRange z.2.2.2.2.2.2.1, .lst tWrite z.2.2.2.2.2.2.2.1, .bool z.2.2.2.2.2.2.2.2.1, .str z.2.2.2.2.2.2.2.2.2.1], .box [.str z.2.2.2.2.2.2.2.2.2.2.1, .str z.2.2.2.2.2.2.2.2.2.2.2.1], .box [.int .i64 z.2.2.2.2.2.2.2.2.2.2.2.2.1, .int .i64 z.2.2.2.2.2.2.2.2.2.2.2.2.2.1, .int .i64 z.2.2.2.2.2.2.2.2.2.2.2.2.2.2.1, .int .i64 z.2.2.2.2.2.2.2.2.2.2.2.2.2.2.2.1, .own 4, .own 5, .bool z.2.2.2.2.2.2.2.2.2.2.2.2.2.2.2.2.1, .str z.2.2.2.2.2.2.2.2.2.2.2.2.2.2.2.2.2.1], .box [.int .i64 z.2.2.2.2.2.2.2.2.2.2.2.2.2.2.2.2.2.2.1, .int .i64 z.2.2.2.2.2.2.2.2.2.2.2.2.2.2.2.2.2.2.2.1, .int .i64 z.2.2.2.2.2.2.2.2.2.2.2.2.2.2.2.2.2.2.2.2.1, .int .i64 z.2.2.2.2.2.2.2.2.2.2.2.2.2.2.2.2.2.2.2.2.2.1, .own 6, .own 7, .bool z.2.2.2.2.2.2.2.2.2.2.2.2.2.2.2.2.2.2.2.2.2.2.1, .str z.2.2.2.2.2.2.2.2.2.2.2.2.2.2.2.2.2.2.2.2.2.2.2.1], .arr tRange z.2.2.2.2.2.2.2.2.2.2.2.2.2.2.2.2.2.2.2.2.2.2.2.2.1, .arr tWrite z.2.2.2.2.2.2.2.2.2.2.2.2.2.2.2.2.2.2.2.2.2.2.2.2.2.1, .arr tRange z.2.2.2.2.2.2.2.2.2.2.2.2.2.2.2.2.2.2.2.2.2.2.2.2.2.2.1, .arr tWrite z.2.2.2.2.2.2.2.2.2.2.2.2.2.2.2.2.2.2.2.2.2.2.2.2.2.2.2])) (fun z => (.ret, [.dead, .dead, .bool z.1, .dead, .dead, .bp 0 0], [.box [.int .i64 z.2.1, .int .i64 z.2.2.1, .int .i64 z.2.2.2.1, .int .i64 z.2.2.2.2.1, .own 1, .own 2, .bool z.2.2.2.2.2.1, .str z.2.2.2.2.2.2.1], .arr tRange z.2.2.2.2.2.2.2.1, .arr tWrite z.2.2.2.2.2.2.2.2])))

theorem laws_FnExactReadRange_jx5000019 (x : (Bool × Bool × Int × Int × Int × Int × (List dRange) × (List dWrite) × Bool × ByteArray × ByteArray × ByteArray × Int × Int × Int × Int × Bool × ByteArray × Int × Int × Int × Int × Bool × ByteArray × (List dRange) × (List dWrite) × (List dRange) × (List dWrite))) : exec G40 ⟨0, 109, laws_FnExactReadRange_loops⟩ (loopBody Try.f8 5000019) (bodyK ⟨0, 109, laws_FnExactReadRange_loops⟩ [2, 3, 4, 6, 7, 9] []) (setEs (deads 109) [2, 3, 4, 6, 7, 9] (laws_FnExactReadRange_jv5000019 x)) (laws_FnExactReadRange_js5000019 x) = laws_FnExactReadRange_j5000019 x (fun z => some ⟨(laws_FnExactReadRange_je5000019 z).1, (laws_FnExactReadRange_je5000019 z).2.1, (laws_FnExactReadRange_je5000019 z).2.2⟩) := by
  kernel_rfl

theorem laws_FnExactReadRange_lo5000019 : ∀ sp, (laws_FnExactReadRange_loops 5000019) = some sp → CutOk G40 ⟨0, 109, laws_FnExactReadRange_loops⟩ sp (loopBody Try.f8 5000019) := by
  intro sp hsp vals st k r h
  cases hsp
  dsimp only at h
  rcases onPats_inv2 h with ⟨p, q, rfl, rfl, h⟩ | h
  · exact cut_runs laws_FnExactReadRange_jp5000019 laws_FnExactReadRange_jv5000019 laws_FnExactReadRange_js5000019 laws_FnExactReadRange_je5000019 laws_FnExactReadRange_jx5000019 (p.2.2.1, p.2.2.2.2.1, q.1.1, q.1.2.1, q.1.2.2.1, q.1.2.2.2.1, q.1.2.2.2.2.1, q.1.2.2.2.2.2.1, q.1.2.2.2.2.2.2.1, q.1.2.2.2.2.2.2.2.1, q.2.1.1, q.2.1.2.1, q.2.2.1.1, q.2.2.1.2.1, q.2.2.1.2.2.1, q.2.2.1.2.2.2.1, q.2.2.1.2.2.2.2.2.2.1, q.2.2.1.2.2.2.2.2.2.2.1, q.2.2.2.1.1, q.2.2.2.1.2.1, q.2.2.2.1.2.2.1, q.2.2.2.1.2.2.2.1, q.2.2.2.1.2.2.2.2.2.2.1, q.2.2.2.1.2.2.2.2.2.2.2.1, q.2.2.2.2.1, q.2.2.2.2.2.1, q.2.2.2.2.2.2.1, q.2.2.2.2.2.2.2.1) _ k r (fun z => by rcases z with z | z <;> rfl) h
  cases h

def laws_FnExactReadRange_jv5000013 : (Bool × Bool × Bool × Int × Int × Int × Int × (List dRange) × (List dWrite) × Bool × ByteArray × ByteArray × ByteArray × Int × Int × Int × Int × Bool × ByteArray × Int × Int × Int × Int × Bool × ByteArray × Int × Int × Int × Int × Bool × ByteArray × (List dRange) × (List dWrite) × (List dRange) × (List dWrite) × (List dRange) × (List dWrite)) → List AV := (fun x => [.bp 0 0, .bp 1 0, .bool x.1, .bp 2 0, .bool x.2.1, .bp 3 0, .bp 4 0, .bool x.2.2.1])
def laws_FnExactReadRange_js5000013 : (Bool × Bool × Bool × Int × Int × Int × Int × (List dRange) × (List dWrite) × Bool × ByteArray × ByteArray × ByteArray × Int × Int × Int × Int × Bool × ByteArray × Int × Int × Int × Int × Bool × ByteArray × Int × Int × Int × Int × Bool × ByteArray × (List dRange) × (List dWrite) × (List dRange) × (List dWrite) × (List dRange) × (List dWrite)) → St := (fun x => [.box [.int .i64 x.2.2.2.1, .int .i64 x.2.2.2.2.1, .int .i64 x.2.2.2.2.2.1, .int .i64 x.2.2.2.2.2.2.1, .lst tRange x.2.2.2.2.2.2.2.1, .lst tWrite x.2.2.2.2.2.2.2.2.1, .bool x.2.2.2.2.2.2.2.2.2.1, .str x.2.2.2.2.2.2.2.2.2.2.1], .box [.str x.2.2.2.2.2.2.2.2.2.2.2.1, .str x.2.2.2.2.2.2.2.2.2.2.2.2.1], .box [.int .i64 x.2.2.2.2.2.2.2.2.2.2.2.2.2.1, .int .i64 x.2.2.2.2.2.2.2.2.2.2.2.2.2.2.1, .int .i64 x.2.2.2.2.2.2.2.2.2.2.2.2.2.2.2.1, .int .i64 x.2.2.2.2.2.2.2.2.2.2.2.2.2.2.2.2.1, .own 5, .own 6, .bool x.2.2.2.2.2.2.2.2.2.2.2.2.2.2.2.2.2.1, .str x.2.2.2.2.2.2.2.2.2.2.2.2.2.2.2.2.2.2.1], .box [.int .i64 x.2.2.2.2.2.2.2.2.2.2.2.2.2.2.2.2.2.2.2.1, .int .i64 x.2.2.2.2.2.2.2.2.2.2.2.2.2.2.2.2.2.2.2.2.1, .int .i64 x.2.2.2.2.2.2.2.2.2.2.2.2.2.2.2.2.2.2.2.2.2.1, .int .i64 x.2.2.2.2.2.2.2.2.2.2.2.2.2.2.2.2.2.2.2.2.2.2.1, .own 7, .own 8, .bool x.2.2.2.2.2.2.2.2.2.2.2.2.2.2.2.2.2.2.2.2.2.2.2.1, .str x.2.2.2.2.2.2.2.2.2.2.2.2.2.2.2.2.2.2.2.2.2.2.2.2.1], .box [.int .i64 x.2.2.2.2.2.2.2.2.2.2.2.2.2.2.2.2.2.2.2.2.2.2.2.2.2.1, .int .i64 x.2.2.2.2.2.2.2.2.2.2.2.2.2.2.2.2.2.2.2.2.2.2.2.2.2.2.1, .int .i64 x.2.2.2.2.2.2.2.2.2.2.2.2.2.2.2.2.2.2.2.2.2.2.2.2.2.2.2.1, .int .i64 x.2.2.2.2.2.2.2.2.2.2.2.2.2.2.2.2.2.2.2.2.2.2.2.2.2.2.2.2.1, .own 9, .own 10, .bool x.2.2.2.2.2.2.2.2.2.2.2.2.2.2.2.2.2.2.2.2.2.2.2.2.2.2.2.2.2.1, .str x.2.2.2.2.2.2.2.2.2.2.2.2.2.2.2.2.2.2.2.2.2.2.2.2.2.2.2.2.2.2.1], .arr tRange x.2.2.2.2.2.2.2.2.2.2.2.2.2.2.2.2.2.2.2.2.2.2.2.2.2.2.2.2.2.2.2.1, .arr tWrite x.2.2.2.2.2.2.2.2.2.2.2.2.2.2.2.2.2.2.2.2.2.2.2.2.2.2.2.2.2.2.2.2.1, .arr tRange x.2.2.2.2.2.2.2.2.2.2.2.2.2.2.2.2.2.2.2.2.2.2.2.2.2.2.2.2.2.2.2.2.2.1, .arr tWrite x.2.2.2.2.2.2.2.2.2.2.2.2.2.2.2.2.2.2.2.2.2.2.2.2.2.2.2.2.2.2.2.2.2.2.1, .arr tRange x.2.2.2.2.2.2.2.2.2.2.2.2.2.2.2.2.2.2.2.2.2.2.2.2.2.2.2.2.2.2.2.2.2.2.2.1, .arr tWrite x.2.2.2.2.2.2.2.2.2.2.2.2.2.2.2.2.2.2.2.2.2.2.2.2.2.2.2.2.2.2.2.2.2.2.2.2])
def laws_FnExactReadRange_je5000013 : ((Bool × Bool × Bool × Int × Int × Int × Int × (List dRange) × (List dWrite) × Bool × ByteArray × ByteArray × ByteArray × Int × Int × Int × Int × Bool × ByteArray × Int × Int × Int × Int × Bool × ByteArray × Int × Int × Int × Int × Bool × ByteArray × (List dRange) × (List dWrite) × (List dRange) × (List dWrite) × (List dRange) × (List dWrite)) ⊕ ((Bool × Bool × Int × Int × Int × Int × (List dRange) × (List dWrite) × Bool × ByteArray × ByteArray × ByteArray × Int × Int × Int × Int × Bool × ByteArray × Int × Int × Int × Int × Bool × ByteArray × (List dRange) × (List dWrite) × (List dRange) × (List dWrite)) ⊕ (Bool × Int × Int × Int × Int × Bool × ByteArray × (List dRange) × (List dWrite)))) → Out × List AV × St := (Sum.elim (fun z => (.ret, [.bp 0 0, .bp 1 0, .bool z.1, .bp 2 0, .bool z.2.1, .bp 3 0, .bp 4 0, .bool z.2.2.1], [.box [.int .i64 z.2.2.2.1, .int .i64 z.2.2.2.2.1, .int .i64 z.2.2.2.2.2.1, .int .i64 z.2.2.2.2.2.2.1, .lst tRange z.2.2.2.2.2.2.2.1, .lst tWrite z.2.2.2.2.2.2.2.2.1, .bool z.2.2.2.2.2.2.2.2.2.1, .str z.2.2.2.2.2.2.2.2.2.2.1], .box [.str z.2.2.2.2.2.2.2.2.2.2.2.1, .str z.2.2.2.2.2.2.2.2.2.2.2.2.1], .box [.int .i64 z.2.2.2.2.2.2.2.2.2.2.2.2.2.1, .int .i64 z.2.2.2.2.2.2.2.2.2.2.2.2.2.2.1, .int .i64 z.2.2.2.2.2.2.2.2.2.2.2.2.2.2.2.1, .int .i64 z.2.2.2.2.2.2.2.2.2.2.2.2.2.2.2.2.1, .own 5, .own 6, .bool z.2.2.2.2.2.2.2.2.2.2.2.2.2.2.2.2.2.1, .str z.2.2.2.2.2.2.2.2.2.2.2.2.2.2.2.2.2.2.1], .box [.int .i64 z.2.2.2.2.2.2.2.2.2.2.2.2.2.2.2.2.2.2.2.1, .int .i64 z.2.2.2.2.2.2.2.2.2.2.2.2.2.2.2.2.2.2.2.2.1, .int .i64 z.2.2.2.2.2.2.2.2.2.2.2.2.2.2.2.2.2.2.2.2.2.1, .int .i64 z.2.2.2.2.2.2.2.2.2.2.2.2.2.2.2.2.2.2.2.2.2.2.1, .own 7, .own 8, .bool z.2.2.2.2.2.2.2.2.2.2.2.2.2.2.2.2.2.2.2.2.2.2.2.1, .str z.2.2.2.2.2.2.2.2.2.2.2.2.2.2.2.2.2.2.2.2.2.2.2.2.1], .box [.int .i64 z.2.2.2.2.2.2.2.2.2.2.2.2.2.2.2.2.2.2.2.2.2.2.2.2.2.1, .int .i64 z.2.2.2.2.2.2.2.2.2.2.2.2.2.2.2.2.2.2.2.2.2.2.2.2.2.2.1, .int .i64 z.2.2.2.2.2.2.2.2.2.2.2.2.2.2.2.2.2.2.2.2.2.2.2.2.2.2.2.1, .int .i64 z.2.2.2.2.2.2.2.2.2.2.2.2.2.2.2.2.2.2.2.2.2.2.2.2.2.2.2.2.1, .own 9, .own 10, .bool z.2.2.2.2.2.2.2.2.2.2.2.2.2.2.2.2.2.2.2.2.2.2.2.2.2.2.2.2.2.1, .str z.2.2.2.2.2.2.2.2.2.2.2.2.2.2.2.2.2.2.2.2.2.2.2.2.2.2.2.2.2.2.1], .arr tRange z.2.2.2.2.2.2.2.2.2.2.2.2.2.2.2.2.2.2.2.2.2.2.2.2.2.2.2.2.2.2.2.1, .arr tWrite z.2.2.2.2.2.2.2.2.2.2.2.2.2.2.2.2.2.2.2.2.2.2.2.2.2.2.2.2.2.2.2.2.1, .arr tRange z.2.2.2.2.2.2.2.2.2.2.2.2.2.2.2.2.2.2.2.2.2.2.2.2.2.2.2.2.2.2.2.2.2.1, .arr tWrite z.2.2.2.2.2.2.2.2.2.2.2.2.2.2.2.2.2.2.2.2.2.2.2.2.2.2.2.2.2.2.2.2.2.2.1, .arr tRange z.2.2.2.2.2.2.2.2.2.2.2.2.2.2.2.2.2.2.2.2.2.2.2.2.2.2.2.2.2.2.2.2.2.2.2.1, .arr tWrite z.2.2.2.2.2.2.2.2.2.2.2.2.2.2.2.2.2.2.2.2.2.2.2.2.2.2.2.2.2.2.2.2.2.2.2.2])) (Sum.elim (fun z => (.ret, [.bp 0 0, .bp 1 0, .bool z.1, .bp 2 0, .bool z.2.1, .dead, .bp 3 0, .dead], [.box [.int .i64 z.2.2.1, .int .i64 z.2.2.2.1, .int .i64 z.2.2.2.2.1, .int .i64 z.2.2.2.2.2.1, .lst tRange z.2.2.2.2.2.2.1, .lst tWrite z.2.2.2.2.2.2.2.1, .bool z.2.2.2.2.2.2.2.2.1, .str z.2.2.2.2.2.2.2.2.2.1], .box [.str z.2.2.2.2.2.2.2.2.2.2.1, .str z.2.2.2.2.2.2.2.2.2.2.2.1], .box [.int .i64 z.2.2.2.2.2.2.2.2.2.2.2.2.1, .int .i64 z.2.2.2.2.2.2.2.2.2.2.2.2.2.1, .int .i64 z.2.2.2.2.2.2.2.2.2.2.2.2.2.2.1, .int .i64 z.2.2.2.2.2.2.2.2.2.2.2.2.2.2.2.1, .own 4, .own 5, .bool z.2.2.2.2.2.2.2.2.2.2.2.2.2.2.2.2.1, .str z.2.2.2.2.2.2.2.2.2.2.2.2.2.2.2.2.2.1], .box [.int .i64 z.2.2.2.2.2.2.2.2.2.2.2.2.2.2.2.2.2.2.1, .int .i64 z.2.2.2.2.2.2.2.2.2.2.2.2.2.2.2.2.2.2.2.1, .int .i64 z.2.2.2.2.2.2.2.2.2.2.2.2.2.2.2.2.2.2.2.2.1, .int .i64 z.2.2.2.2.2.2.2.2.2.2.2.2.2.2.2.2.2.2.2.2.2.1, .own 6, .own 7, .bool z.2.2.2.2.2.2.2.2.2.2.2.2.2.2.2.2.2.2.2.2.2.2.1, .str z.2.2.2.2.2.2.2.2.2.2.2.2.2.2.2.2.2.2.2.2.2.2.2.1], .arr tRange z.2.2.2.2.2.2.2.2.2.2.2.2.2.2.2.2.2.2.2.2.2.2.2.2.1, .arr tWrite z.2.2.2.2.2.2.2.2.2.2.2.2.2.2.2.2.2.2.2.2.2.2.2.2.2.1, .arr tRange z.2.2.2.2.2.2.2.2.2.2.2.2.2.2.2.2.2.2.2.2.2.2.2.2.2.2.1, .arr tWrite z.2.2.2.2.2.2.2.2.2.2.2.2.2.2.2.2.2.2.2.2.2.2.2.2.2.2.2])) (fun z => (.ret, [.dead, .dead, .bool z.1, .dead, .dead, .dead, .bp 0 0, .dead], [.box [.int .i64 z.2.1, .int .i64 z.2.2.1, .int .i64 z.2.2.2.1, .int .i64 z.2.2.2.2.1, .own 1, .own 2, .bool z.2.2.2.2.2.1, .str z.2.2.2.2.2.2.1], .arr tRange z.2.2.2.2.2.2.2.1, .arr tWrite z.2.2.2.2.2.2.2.2]))))

theorem laws_FnExactReadRange_jx5000013 (x : (Bool × Bool × Bool × Int × Int × Int × Int × (List dRange) × (List dWrite) × Bool × ByteArray × ByteArray × ByteArray × Int × Int × Int × Int × Bool × ByteArray × Int × Int × Int × Int × Bool × ByteArray × Int × Int × Int × Int × Bool × ByteArray × (List dRange) × (List dWrite) × (List dRange) × (List dWrite) × (List dRange) × (List dWrite))) : exec G40 ⟨0, 109, laws_FnExactReadRange_loops⟩ (loopBody Try.f8 5000013) (bodyK ⟨0, 109, laws_FnExactReadRange_loops⟩ [2, 3, 4, 6, 7, 8, 9, 10] []) (setEs (deads 109) [2, 3, 4, 6, 7, 8, 9, 10] (laws_FnExactReadRange_jv5000013 x)) (laws_FnExactReadRange_js5000013 x) = laws_FnExactReadRange_j5000013 x (fun z => some ⟨(laws_FnExactReadRange_je5000013 z).1, (laws_FnExactReadRange_je5000013 z).2.1, (laws_FnExactReadRange_je5000013 z).2.2⟩) := by
  kernel_rfl

theorem laws_FnExactReadRange_lo5000013 : ∀ sp, (laws_FnExactReadRange_loops 5000013) = some sp → CutOk G40 ⟨0, 109, laws_FnExactReadRange_loops⟩ sp (loopBody Try.f8 5000013) := by
  intro sp hsp vals st k r h
  cases hsp
  dsimp only at h
  rcases onPats_inv2 h with ⟨p, q, rfl, rfl, h⟩ | h
  · exact cut_runs laws_FnExactReadRange_jp5000013 laws_FnExactReadRange_jv5000013 laws_FnExactReadRange_js5000013 laws_FnExactReadRange_je5000013 laws_FnExactReadRange_jx5000013 (p.2.2.1, p.2.2.2.2.1, p.2.2.2.2.2.2.2.1, q.1.1, q.1.2.1, q.1.2.2.1, q.1.2.2.2.1, q.1.2.2.2.2.1, q.1.2.2.2.2.2.1, q.1.2.2.2.2.2.2.1, q.1.2.2.2.2.2.2.2.1, q.2.1.1, q.2.1.2.1, q.2.2.1.1, q.2.2.1.2.1, q.2.2.1.2.2.1, q.2.2.1.2.2.2.1, q.2.2.1.2.2.2.2.2.2.1, q.2.2.1.2.2.2.2.2.2.2.1, q.2.2.2.1.1, q.2.2.2.1.2.1, q.2.2.2.1.2.2.1, q.2.2.2.1.2.2.2.1, q.2.2.2.1.2.2.2.2.2.2.1, q.2.2.2.1.2.2.2.2.2.2.2.1, q.2.2.2.2.1.1, q.2.2.2.2.1.2.1, q.2.2.2.2.1.2.2.1, q.2.2.2.2.1.2.2.2.1, q.2.2.2.2.1.2.2.2.2.2.2.1, q.2.2.2.2.1.2.2.2.2.2.2.2.1, q.2.2.2.2.2.1, q.2.2.2.2.2.2.1, q.2.2.2.2.2.2.2.1, q.2.2.2.2.2.2.2.2.1, q.2.2.2.2.2.2.2.2.2.1, q.2.2.2.2.2.2.2.2.2.2.1) _ k r (fun z => by rcases z with z | z | z <;> rfl) h
  cases h

theorem laws_FnExactReadRange_x (a0 : Int) (a1 : Int) (a2 : Int) (a3 : Int) (a4 : (List dRange)) (a5 : (List dWrite)) (a6 : Bool) (a7 : ByteArray) (a8 : ByteArray) (a9 : ByteArray) : execFn G40 laws_FnExactReadRange_loops Try.f8 [.agg [.int .i64 a0, .int .i64 a1, .int .i64 a2, .int .i64 a3, .lst tRange a4, .lst tWrite a5, .bool a6, .str a7], .agg [.str a8, .str a9]] [] = laws_FnExactReadRange_d (a0, (a1, (a2, (a3, (a4, (a5, (a6, a7))))))) (a8, a9) (fun (y : Bool) => some ⟨.ret, [.bool y], []⟩) := by kernel_rfl

theorem laws_FnExactReadRange_y (a0 : Int) (a1 : Int) (a2 : Int) (a3 : Int) (a4 : (List dRange)) (a5 : (List dWrite)) (a6 : Bool) (a7 : ByteArray) (a8 : ByteArray) (a9 : ByteArray) : execFn G40 laws_FnExactReadRange_loops Try.f8 [.agg [.int .i64 a0, .int .i64 a1, .int .i64 a2, .int .i64 a3, .lst tRange a4, .lst tWrite a5, .bool a6, .str a7], .agg [.str a8, .str a9]] [] = laws_FnExactReadRange_k (a0, (a1, (a2, (a3, (a4, (a5, (a6, a7))))))) (a8, a9) (fun (y : Bool) => some ⟨.ret, [.bool y], []⟩) := (laws_FnExactReadRange_x a0 a1 a2 a3 a4 a5 a6 a7 a8 a9).trans (by rw [laws_FnExactReadRange_e])

theorem laws_FnExactReadRange_l : LoopsOk G40 ⟨0, 109, laws_FnExactReadRange_loops⟩ (Try.f8.body.getD .skip) :=
  loopsOk_of (ids := [5000030, 5000019, 5000013]) (by kernel_rfl) (by kernel_rfl) ⟨laws_FnExactReadRange_lo5000030, ⟨laws_FnExactReadRange_lo5000019, ⟨laws_FnExactReadRange_lo5000013, trivial⟩⟩⟩

theorem laws_FnExactReadRange_c : Contract Try.prog 8 laws_FnExactReadRange_g := by
  refine told G40_ok follows Try.func8 (c := Try.f8.body.getD .skip) (by kernel_rfl) ?_
  intro args s k r hk
  unfold laws_FnExactReadRange_g at hk
  rcases onPats_inv hk with ⟨p, q, rfl, rfl⟩ | hk
  · exact ⟨laws_FnExactReadRange_loops, laws_FnExactReadRange_q p.1.1 p.1.2.1 p.1.2.2.1 p.1.2.2.2.1 p.1.2.2.2.2.1 p.1.2.2.2.2.2.1 p.1.2.2.2.2.2.2.1 p.1.2.2.2.2.2.2.2.1 p.2.1.1 p.2.1.2.1, laws_FnExactReadRange_y p.1.1 p.1.2.1 p.1.2.2.1 p.1.2.2.2.1 p.1.2.2.2.2.1 p.1.2.2.2.2.2.1 p.1.2.2.2.2.2.2.1 p.1.2.2.2.2.2.2.2.1 p.2.1.1 p.2.1.2.1, laws_FnExactReadRange_l⟩
  cases hk

def G41 : Glob := G40.add 8 laws_FnExactReadRange_g

theorem G41_ok : GlobOk Try.prog G41 := G40_ok.add ⟨Try.f8, Try.func8, by kernel_rfl, by kernel_rfl⟩ laws_FnExactReadRange_c

end

end Go.VE
