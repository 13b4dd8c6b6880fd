/- Each function told by its native program; written by gen.py. -/

import Derived.Test.YtbedbcnmfoildaaTxnTextS0

namespace Go.VE

open Go.Proofs

noncomputable section

set_option linter.unusedVariables false
set_option linter.unusedSimpArgs false
set_option maxRecDepth 100000


/-! ### loop.example/g00327/laws.szRange -/

def laws_szRange_loops : Nat → Option LoopSpec
  | _ => none

theorem laws_szRange_x (a0 : ByteArray) (a1 : ByteArray) (a2 : Int) : execFn G0 laws_szRange_loops Try.f54 [.agg [.str a0, .str a1], .int .i64 a2] [] = laws_szRange_d (a0, a1) a2 (fun (y : Int) => some ⟨.ret, [.int .i64 y], []⟩) := by kernel_rfl

theorem laws_szRange_y (a0 : ByteArray) (a1 : ByteArray) (a2 : Int) : execFn G0 laws_szRange_loops Try.f54 [.agg [.str a0, .str a1], .int .i64 a2] [] = laws_szRange_k (a0, a1) a2 (fun (y : Int) => some ⟨.ret, [.int .i64 y], []⟩) := (laws_szRange_x a0 a1 a2).trans (by rw [laws_szRange_e])

theorem laws_szRange_l : LoopsOk G0 ⟨0, 20, laws_szRange_loops⟩ (Try.f54.body.getD .skip) :=
  loopsOk_of (ids := []) (by kernel_rfl) (by kernel_rfl) trivial

theorem laws_szRange_c : Contract Try.prog 54 laws_szRange_g := by
  refine told G0_ok follows Try.func54 (c := Try.f54.body.getD .skip) (by kernel_rfl) ?_
  intro args s k r hk
  unfold laws_szRange_g at hk
  rcases onPats_inv hk with ⟨p, q, rfl, rfl⟩ | hk
  · exact ⟨laws_szRange_loops, laws_szRange_q p.1.1 p.1.2.1 p.2.1, laws_szRange_y p.1.1 p.1.2.1 p.2.1, laws_szRange_l⟩
  cases hk

def G1 : Glob := G0.add 54 laws_szRange_g

theorem G1_ok : GlobOk Try.prog G1 := G0_ok.add ⟨Try.f54, Try.func54, by kernel_rfl, by kernel_rfl⟩ laws_szRange_c

/-! ### loop.example/g00327/laws.szRangeS -/

def laws_szRangeS_loops : Nat → Option LoopSpec
  | 0 => some ⟨[0, 1, 4, 5], [], fun vals st k => onPats [.lst tRange, .int .i64, .int .i64, .int .i64] [] vals st (fun p q => loopK laws_szRangeS_b0 Fuel (p.1, p.2.1, p.2.2.1, p.2.2.2.1) (Sum.elim (fun z => k .ret [.lst tRange z.1, .int .i64 z.2.1, .int .i64 z.2.2.1, .int .i64 z.2.2.2] []) (fun z => k (.exit 0) [.lst tRange z.1, .int .i64 z.2.1, .int .i64 z.2.2.1, .int .i64 z.2.2.2] [])))
      (none)⟩
  | _ => none

def laws_szRangeS_v0 : ((List dRange) × Int × Int × Int) → List AV := (fun x => [.lst tRange x.1, .int .i64 x.2.1, .int .i64 x.2.2.1, .int .i64 x.2.2.2])
def laws_szRangeS_s0 : ((List dRange) × Int × Int × Int) → St := (fun x => [])
def laws_szRangeS_e0 : (((List dRange) × Int × Int × Int) ⊕ ((List dRange) × Int × Int × Int)) → Out × List AV × St := (Sum.elim (fun z => (.ret, [.lst tRange z.1, .int .i64 z.2.1, .int .i64 z.2.2.1, .int .i64 z.2.2.2], [])) (fun z => ((.exit 0), [.lst tRange z.1, .int .i64 z.2.1, .int .i64 z.2.2.1, .int .i64 z.2.2.2], [])))

theorem laws_szRangeS_bx0 (x : ((List dRange) × Int × Int × Int)) : exec G1 ⟨0, 27, laws_szRangeS_loops⟩ (loopBody Try.f84 0) (bodyK ⟨0, 27, laws_szRangeS_loops⟩ [0, 1, 4, 5] []) (setEs (deads 27) [0, 1, 4, 5] (laws_szRangeS_v0 x)) (laws_szRangeS_s0 x) = laws_szRangeS_b0 x (Sum.elim (fun y => some ⟨.norm, laws_szRangeS_v0 y, laws_szRangeS_s0 y⟩) fun z => some ⟨(laws_szRangeS_e0 z).1, (laws_szRangeS_e0 z).2.1, (laws_szRangeS_e0 z).2.2⟩) := by
  kernel_rfl

theorem laws_szRangeS_lo0 : ∀ sp, (laws_szRangeS_loops 0) = some sp → LoopOk G1 ⟨0, 27, laws_szRangeS_loops⟩ sp (loopBody Try.f84 0) := by
  intro sp hsp vals st k r h
  cases hsp
  dsimp only at h
  rcases onPats_inv2 h with ⟨p, q, rfl, rfl, h⟩ | h
  · exact loop_runs2 laws_szRangeS_bp0 laws_szRangeS_v0 laws_szRangeS_s0 laws_szRangeS_e0 (fun z => by rcases z with z | z <;> (intro h; cases h)) laws_szRangeS_bx0 Fuel (p.1, p.2.1, p.2.2.1, p.2.2.2.1) _ k r (fun z => by rcases z with z | z <;> rfl) h
  cases h

theorem laws_szRangeS_x (a0 : (List dRange)) (a1 : Int) : execFn G1 laws_szRangeS_loops Try.f84 [.lst tRange a0, .int .i64 a1] [] = laws_szRangeS_d a0 a1 (fun (y : Int) => some ⟨.ret, [.int .i64 y], []⟩) := by kernel_rfl

theorem laws_szRangeS_y (a0 : (List dRange)) (a1 : Int) : execFn G1 laws_szRangeS_loops Try.f84 [.lst tRange a0, .int .i64 a1] [] = laws_szRangeS_k a0 a1 (fun (y : Int) => some ⟨.ret, [.int .i64 y], []⟩) := (laws_szRangeS_x a0 a1).trans (by rw [laws_szRangeS_e])

theorem laws_szRangeS_l : LoopsOk G1 ⟨0, 27, laws_szRangeS_loops⟩ (Try.f84.body.getD .skip) :=
  loopsOk_of (ids := [0]) (by kernel_rfl) (by kernel_rfl) ⟨laws_szRangeS_lo0, trivial⟩

theorem laws_szRangeS_c : Contract Try.prog 84 laws_szRangeS_g := by
  refine told G1_ok follows Try.func84 (c := Try.f84.body.getD .skip) (by kernel_rfl) ?_
  intro args s k r hk
  unfold laws_szRangeS_g at hk
  rcases onPats_inv hk with ⟨p, q, rfl, rfl⟩ | hk
  · exact ⟨laws_szRangeS_loops, laws_szRangeS_q p.1 p.2.1, laws_szRangeS_y p.1 p.2.1, laws_szRangeS_l⟩
  cases hk

def G2 : Glob := G1.add 84 laws_szRangeS_g

theorem G2_ok : GlobOk Try.prog G2 := G1_ok.add ⟨Try.f84, Try.func84, by kernel_rfl, by kernel_rfl⟩ laws_szRangeS_c

/-! ### loop.example/g00327/laws.szWrite -/

def laws_szWrite_loops : Nat → Option LoopSpec
  | _ => none

theorem laws_szWrite_x (a0 : ByteArray) (a1 : ByteArray) (a2 : Bool) (a3 : Int) : execFn G2 laws_szWrite_loops Try.f62 [.agg [.str a0, .str a1, .bool a2], .int .i64 a3] [] = laws_szWrite_d (a0, (a1, a2)) a3 (fun (y : Int) => some ⟨.ret, [.int .i64 y], []⟩) := by kernel_rfl

theorem laws_szWrite_y (a0 : ByteArray) (a1 : ByteArray) (a2 : Bool) (a3 : Int) : execFn G2 laws_szWrite_loops Try.f62 [.agg [.str a0, .str a1, .bool a2], .int .i64 a3] [] = laws_szWrite_k (a0, (a1, a2)) a3 (fun (y : Int) => some ⟨.ret, [.int .i64 y], []⟩) := (laws_szWrite_x a0 a1 a2 a3).trans (by rw [laws_szWrite_e])

theorem laws_szWrite_l : LoopsOk G2 ⟨0, 20, laws_szWrite_loops⟩ (Try.f62.body.getD .skip) :=
  loopsOk_of (ids := []) (by kernel_rfl) (by kernel_rfl) trivial

theorem laws_szWrite_c : Contract Try.prog 62 laws_szWrite_g := by
  refine told G2_ok follows Try.func62 (c := Try.f62.body.getD .skip) (by kernel_rfl) ?_
  intro args s k r hk
  unfold laws_szWrite_g at hk
  rcases onPats_inv hk with ⟨p, q, rfl, rfl⟩ | hk
  · exact ⟨laws_szWrite_loops, laws_szWrite_q p.1.1 p.1.2.1 p.1.2.2.1 p.2.1, laws_szWrite_y p.1.1 p.1.2.1 p.1.2.2.1 p.2.1, laws_szWrite_l⟩
  cases hk

def G3 : Glob := G2.add 62 laws_szWrite_g

theorem G3_ok : GlobOk Try.prog G3 := G2_ok.add ⟨Try.f62, Try.func62, by kernel_rfl, by kernel_rfl⟩ laws_szWrite_c

/-! ### loop.example/g00327/laws.szWriteS -/

def laws_szWriteS_loops : Nat → Option LoopSpec
  | 0 => some ⟨[0, 1, 4, 5], [], fun vals st k => onPats [.lst tWrite, .int .i64, .int .i64, .int .i64] [] vals st (fun p q => loopK laws_szWriteS_b0 Fuel (p.1, p.2.1, p.2.2.1, p.2.2.2.1) (Sum.elim (fun z => k .ret [.lst tWrite z.1, .int .i64 z.2.1, .int .i64 z.2.2.1, .int .i64 z.2.2.2] []) (fun z => k (.exit 0) [.lst tWrite z.1, .int .i64 z.2.1, .int .i64 z.2.2.1, .int .i64 z.2.2.2] [])))
      (none)⟩
  | _ => none

def laws_szWriteS_v0 : ((List dWrite) × Int × Int × Int) → List AV := (fun x => [.lst tWrite x.1, .int .i64 x.2.1, .int .i64 x.2.2.1, .int .i64 x.2.2.2])
def laws_szWriteS_s0 : ((List dWrite) × Int × Int × Int) → St := (fun x => [])
def laws_szWriteS_e0 : (((List dWrite) × Int × Int × Int) ⊕ ((List dWrite) × Int × Int × Int)) → Out × List AV × St := (Sum.elim (fun z => (.ret, [.lst tWrite z.1, .int .i64 z.2.1, .int .i64 z.2.2.1, .int .i64 z.2.2.2], [])) (fun z => ((.exit 0), [.lst tWrite z.1, .int .i64 z.2.1, .int .i64 z.2.2.1, .int .i64 z.2.2.2], [])))

theorem laws_szWriteS_bx0 (x : ((List dWrite) × Int × Int × Int)) : exec G3 ⟨0, 27, laws_szWriteS_loops⟩ (loopBody Try.f39 0) (bodyK ⟨0, 27, laws_szWriteS_loops⟩ [0, 1, 4, 5] []) (setEs (deads 27) [0, 1, 4, 5] (laws_szWriteS_v0 x)) (laws_szWriteS_s0 x) = laws_szWriteS_b0 x (Sum.elim (fun y => some ⟨.norm, laws_szWriteS_v0 y, laws_szWriteS_s0 y⟩) fun z => some ⟨(laws_szWriteS_e0 z).1, (laws_szWriteS_e0 z).2.1, (laws_szWriteS_e0 z).2.2⟩) := by
  kernel_rfl

theorem laws_szWriteS_lo0 : ∀ sp, (laws_szWriteS_loops 0) = some sp → LoopOk G3 ⟨0, 27, laws_szWriteS_loops⟩ sp (loopBody Try.f39 0) := by
  intro sp hsp vals st k r h
  cases hsp
  dsimp only at h
  rcases onPats_inv2 h with ⟨p, q, rfl, rfl, h⟩ | h
  · exact loop_runs2 laws_szWriteS_bp0 laws_szWriteS_v0 laws_szWriteS_s0 laws_szWriteS_e0 (fun z => by rcases z with z | z <;> (intro h; cases h)) laws_szWriteS_bx0 Fuel (p.1, p.2.1, p.2.2.1, p.2.2.2.1) _ k r (fun z => by rcases z with z | z <;> rfl) h
  cases h

theorem laws_szWriteS_x (a0 : (List dWrite)) (a1 : Int) : execFn G3 laws_szWriteS_loops Try.f39 [.lst tWrite a0, .int .i64 a1] [] = laws_szWriteS_d a0 a1 (fun (y : Int) => some ⟨.ret, [.int .i64 y], []⟩) := by kernel_rfl

theorem laws_szWriteS_y (a0 : (List dWrite)) (a1 : Int) : execFn G3 laws_szWriteS_loops Try.f39 [.lst tWrite a0, .int .i64 a1] [] = laws_szWriteS_k a0 a1 (fun (y : Int) => some ⟨.ret, [.int .i64 y], []⟩) := (laws_szWriteS_x a0 a1).trans (by rw [laws_szWriteS_e])

theorem laws_szWriteS_l : LoopsOk G3 ⟨0, 27, laws_szWriteS_loops⟩ (Try.f39.body.getD .skip) :=
  loopsOk_of (ids := [0]) (by kernel_rfl) (by kernel_rfl) ⟨laws_szWriteS_lo0, trivial⟩

theorem laws_szWriteS_c : Contract Try.prog 39 laws_szWriteS_g := by
  refine told G3_ok follows Try.func39 (c := Try.f39.body.getD .skip) (by kernel_rfl) ?_
  intro args s k r hk
  unfold laws_szWriteS_g at hk
  rcases onPats_inv hk with ⟨p, q, rfl, rfl⟩ | hk
  · exact ⟨laws_szWriteS_loops, laws_szWriteS_q p.1 p.2.1, laws_szWriteS_y p.1 p.2.1, laws_szWriteS_l⟩
  cases hk

def G4 : Glob := G3.add 39 laws_szWriteS_g

theorem G4_ok : GlobOk Try.prog G4 := G3_ok.add ⟨Try.f39, Try.func39, by kernel_rfl, by kernel_rfl⟩ laws_szWriteS_c

/-! ### loop.example/g00327/laws.szTxn -/

def laws_szTxn_loops : Nat → Option LoopSpec
  | _ => none

theorem laws_szTxn_x (a0 : Int) (a1 : Int) (a2 : Int) (a3 : Int) (a4 : (List dRange)) (a5 : (List dWrite)) (a6 : Bool) (a7 : ByteArray) (a8 : Int) : execFn G4 laws_szTxn_loops Try.f20 [.agg [.int .i64 a0, .int .i64 a1, .int .i64 a2, .int .i64 a3, .lst tRange a4, .lst tWrite a5, .bool a6, .str a7], .int .i64 a8] [] = laws_szTxn_d (a0, (a1, (a2, (a3, (a4, (a5, (a6, a7))))))) a8 (fun (y : Int) => some ⟨.ret, [.int .i64 y], []⟩) := by kernel_rfl

theorem laws_szTxn_y (a0 : Int) (a1 : Int) (a2 : Int) (a3 : Int) (a4 : (List dRange)) (a5 : (List dWrite)) (a6 : Bool) (a7 : ByteArray) (a8 : Int) : execFn G4 laws_szTxn_loops Try.f20 [.agg [.int .i64 a0, .int .i64 a1, .int .i64 a2, .int .i64 a3, .lst tRange a4, .lst tWrite a5, .bool a6, .str a7], .int .i64 a8] [] = laws_szTxn_k (a0, (a1, (a2, (a3, (a4, (a5, (a6, a7))))))) a8 (fun (y : Int) => some ⟨.ret, [.int .i64 y], []⟩) := (laws_szTxn_x a0 a1 a2 a3 a4 a5 a6 a7 a8).trans (by rw [laws_szTxn_e])

theorem laws_szTxn_l : LoopsOk G4 ⟨0, 25, laws_szTxn_loops⟩ (Try.f20.body.getD .skip) :=
  loopsOk_of (ids := []) (by kernel_rfl) (by kernel_rfl) trivial

theorem laws_szTxn_c : Contract Try.prog 20 laws_szTxn_g := by
  refine told G4_ok follows Try.func20 (c := Try.f20.body.getD .skip) (by kernel_rfl) ?_
  intro args s k r hk
  unfold laws_szTxn_g at hk
  rcases onPats_inv hk with ⟨p, q, rfl, rfl⟩ | hk
  · exact ⟨laws_szTxn_loops, laws_szTxn_q p.1.1 p.1.2.1 p.1.2.2.1 p.1.2.2.2.1 p.1.2.2.2.2.1 p.1.2.2.2.2.2.1 p.1.2.2.2.2.2.2.1 p.1.2.2.2.2.2.2.2.1 p.2.1, laws_szTxn_y p.1.1 p.1.2.1 p.1.2.2.1 p.1.2.2.2.1 p.1.2.2.2.2.1 p.1.2.2.2.2.2.1 p.1.2.2.2.2.2.2.1 p.1.2.2.2.2.2.2.2.1 p.2.1, laws_szTxn_l⟩
  cases hk

def G5 : Glob := G4.add 20 laws_szTxn_g

theorem G5_ok : GlobOk Try.prog G5 := G4_ok.add ⟨Try.f20, Try.func20, by kernel_rfl, by kernel_rfl⟩ laws_szTxn_c

/-! ### loop.example/g00327/laws.toRange -/

def laws_toRange_loops : Nat → Option LoopSpec
  | _ => none

theorem laws_toRange_x (a0 : ByteArray) (a1 : ByteArray) : execFn G5 laws_toRange_loops Try.f56 [.agg [.str a0, .str a1]] [] = laws_toRange_d (a0, a1) (fun (y : (ByteArray × ByteArray)) => some ⟨.ret, [.agg [.str y.1, .str y.2]], []⟩) := by kernel_rfl

theorem laws_toRange_y (a0 : ByteArray) (a1 : ByteArray) : execFn G5 laws_toRange_loops Try.f56 [.agg [.str a0, .str a1]] [] = laws_toRange_k (a0, a1) (fun (y : (ByteArray × ByteArray)) => some ⟨.ret, [.agg [.str y.1, .str y.2]], []⟩) := (laws_toRange_x a0 a1).trans (by rw [laws_toRange_e])

theorem laws_toRange_l : LoopsOk G5 ⟨0, 11, laws_toRange_loops⟩ (Try.f56.body.getD .skip) :=
  loopsOk_of (ids := []) (by kernel_rfl) (by kernel_rfl) trivial

theorem laws_toRange_c : Contract Try.prog 56 laws_toRange_g := by
  refine told G5_ok follows Try.func56 (c := Try.f56.body.getD .skip) (by kernel_rfl) ?_
  intro args s k r hk
  unfold laws_toRange_g at hk
  rcases onPats_inv hk with ⟨p, q, rfl, rfl⟩ | hk
  · exact ⟨laws_toRange_loops, laws_toRange_q p.1.1 p.1.2.1, laws_toRange_y p.1.1 p.1.2.1, laws_toRange_l⟩
  cases hk

def G6 : Glob := G5.add 56 laws_toRange_g

theorem G6_ok : GlobOk Try.prog G6 := G5_ok.add ⟨Try.f56, Try.func56, by kernel_rfl, by kernel_rfl⟩ laws_toRange_c

/-! ### loop.example/g00327/laws.toRangeS -/

def laws_toRangeS_loops : Nat → Option LoopSpec
  | 0 => some ⟨[0, 3, 4], [], fun vals st k => onPats [.lst tRange, .own 0, .int .i64] [.arr tRange] vals st (fun p q => loopK laws_toRangeS_b0 Fuel (p.1, p.2.2.1, q.1) (fun z => k (.exit 0) [.lst tRange z.1, .own 0, .int .i64 z.2.1] [.arr tRange z.2.2]))
      (none)⟩
  | _ => none

def laws_toRangeS_v0 : ((List dRange) × Int × (List dRange)) → List AV := (fun x => [.lst tRange x.1, .own 0, .int .i64 x.2.1])
def laws_toRangeS_s0 : ((List dRange) × Int × (List dRange)) → St := (fun x => [.arr tRange x.2.2])
def laws_toRangeS_e0 : ((List dRange) × Int × (List dRange)) → Out × List AV × St := (fun z => ((.exit 0), [.lst tRange z.1, .own 0, .int .i64 z.2.1], [.arr tRange z.2.2]))

theorem laws_toRangeS_bx0 (x : ((List dRange) × Int × (List dRange))) : exec G6 ⟨0, 23, laws_toRangeS_loops⟩ (loopBody Try.f89 0) (bodyK ⟨0, 23, laws_toRangeS_loops⟩ [0, 3, 4] []) (setEs (deads 23) [0, 3, 4] (laws_toRangeS_v0 x)) (laws_toRangeS_s0 x) = laws_toRangeS_b0 x (Sum.elim (fun y => some ⟨.norm, laws_toRangeS_v0 y, laws_toRangeS_s0 y⟩) fun z => some ⟨(laws_toRangeS_e0 z).1, (laws_toRangeS_e0 z).2.1, (laws_toRangeS_e0 z).2.2⟩) := by
  kernel_rfl

theorem laws_toRangeS_lo0 : ∀ sp, (laws_toRangeS_loops 0) = some sp → LoopOk G6 ⟨0, 23, laws_toRangeS_loops⟩ sp (loopBody Try.f89 0) := by
  intro sp hsp vals st k r h
  cases hsp
  dsimp only at h
  rcases onPats_inv2 h with ⟨p, q, rfl, rfl, h⟩ | h
  · exact loop_runs2 laws_toRangeS_bp0 laws_toRangeS_v0 laws_toRangeS_s0 laws_toRangeS_e0 (fun z => by (intro h; cases h)) laws_toRangeS_bx0 Fuel (p.1, p.2.2.1, q.1) _ k r (fun z => rfl) h
  cases h

theorem laws_toRangeS_x (a0 : (List dRange)) : execFn G6 laws_toRangeS_loops Try.f89 [.lst tRange a0] [] = laws_toRangeS_d a0 (fun (y : (List dRange)) => some ⟨.ret, [.own 0], [.arr tRange y]⟩) := by kernel_rfl

theorem laws_toRangeS_y (a0 : (List dRange)) : execFn G6 laws_toRangeS_loops Try.f89 [.lst tRange a0] [] = laws_toRangeS_k a0 (fun (y : (List dRange)) => some ⟨.ret, [.own 0], [.arr tRange y]⟩) := (laws_toRangeS_x a0).trans (by rw [laws_toRangeS_e])

theorem laws_toRangeS_l : LoopsOk G6 ⟨0, 23, laws_toRangeS_loops⟩ (Try.f89.body.getD .skip) :=
  loopsOk_of (ids := [0]) (by kernel_rfl) (by kernel_rfl) ⟨laws_toRangeS_lo0, trivial⟩

theorem laws_toRangeS_c : Contract Try.prog 89 laws_toRangeS_g := by
  refine told G6_ok follows Try.func89 (c := Try.f89.body.getD .skip) (by kernel_rfl) ?_
  intro args s k r hk
  unfold laws_toRangeS_g at hk
  rcases onPats_inv hk with ⟨p, q, rfl, rfl⟩ | hk
  · exact ⟨laws_toRangeS_loops, laws_toRangeS_q p.1, laws_toRangeS_y p.1, laws_toRangeS_l⟩
  cases hk

def G7 : Glob := G6.add 89 laws_toRangeS_g

theorem G7_ok : GlobOk Try.prog G7 := G6_ok.add ⟨Try.f89, Try.func89, by kernel_rfl, by kernel_rfl⟩ laws_toRangeS_c

/-! ### loop.example/g00327/laws.toWrite -/

def laws_toWrite_loops : Nat → Option LoopSpec
  | _ => none

theorem laws_toWrite_x (a0 : ByteArray) (a1 : ByteArray) (a2 : Bool) : execFn G7 laws_toWrite_loops Try.f64 [.agg [.str a0, .str a1, .bool a2]] [] = laws_toWrite_d (a0, (a1, a2)) (fun (y : (ByteArray × ByteArray × Bool)) => some ⟨.ret, [.agg [.str y.1, .str y.2.1, .bool y.2.2]], []⟩) := by kernel_rfl

theorem laws_toWrite_y (a0 : ByteArray) (a1 : ByteArray) (a2 : Bool) : execFn G7 laws_toWrite_loops Try.f64 [.agg [.str a0, .str a1, .bool a2]] [] = laws_toWrite_k (a0, (a1, a2)) (fun (y : (ByteArray × ByteArray × Bool)) => some ⟨.ret, [.agg [.str y.1, .str y.2.1, .bool y.2.2]], []⟩) := (laws_toWrite_x a0 a1 a2).trans (by rw [laws_toWrite_e])

theorem laws_toWrite_l : LoopsOk G7 ⟨0, 14, laws_toWrite_loops⟩ (Try.f64.body.getD .skip) :=
  loopsOk_of (ids := []) (by kernel_rfl) (by kernel_rfl) trivial

theorem laws_toWrite_c : Contract Try.prog 64 laws_toWrite_g := by
  refine told G7_ok follows Try.func64 (c := Try.f64.body.getD .skip) (by kernel_rfl) ?_
  intro args s k r hk
  unfold laws_toWrite_g at hk
  rcases onPats_inv hk with ⟨p, q, rfl, rfl⟩ | hk
  · exact ⟨laws_toWrite_loops, laws_toWrite_q p.1.1 p.1.2.1 p.1.2.2.1, laws_toWrite_y p.1.1 p.1.2.1 p.1.2.2.1, laws_toWrite_l⟩
  cases hk

def G8 : Glob := G7.add 64 laws_toWrite_g

theorem G8_ok : GlobOk Try.prog G8 := G7_ok.add ⟨Try.f64, Try.func64, by kernel_rfl, by kernel_rfl⟩ laws_toWrite_c

/-! ### loop.example/g00327/laws.toWriteS -/

def laws_toWriteS_loops : Nat → Option LoopSpec
  | 0 => some ⟨[0, 3, 4], [], fun vals st k => onPats [.lst tWrite, .own 0, .int .i64] [.arr tWrite] vals st (fun p q => loopK laws_toWriteS_b0 Fuel (p.1, p.2.2.1, q.1) (fun z => k (.exit 0) [.lst tWrite z.1, .own 0, .int .i64 z.2.1] [.arr tWrite z.2.2]))
      (none)⟩
  | _ => none

def laws_toWriteS_v0 : ((List dWrite) × Int × (List dWrite)) → List AV := (fun x => [.lst tWrite x.1, .own 0, .int .i64 x.2.1])
def laws_toWriteS_s0 : ((List dWrite) × Int × (List dWrite)) → St := (fun x => [.arr tWrite x.2.2])
def laws_toWriteS_e0 : ((List dWrite) × Int × (List dWrite)) → Out × List AV × St := (fun z => ((.exit 0), [.lst tWrite z.1, .own 0, .int .i64 z.2.1], [.arr tWrite z.2.2]))

theorem laws_toWriteS_bx0 (x : ((List dWrite) × Int × (List dWrite))) : exec G8 ⟨0, 23, laws_toWriteS_loops⟩ (loopBody Try.f42 0) (bodyK ⟨0, 23, laws_toWriteS_loops⟩ [0, 3, 4] []) (setEs (deads 23) [0, 3, 4] (laws_toWriteS_v0 x)) (laws_toWriteS_s0 x) = laws_toWriteS_b0 x (Sum.elim (fun y => some ⟨.norm, laws_toWriteS_v0 y, laws_toWriteS_s0 y⟩) fun z => some ⟨(laws_toWriteS_e0 z).1, (laws_toWriteS_e0 z).2.1, (laws_toWriteS_e0 z).2.2⟩) := by
  kernel_rfl

theorem laws_toWriteS_lo0 : ∀ sp, (laws_toWriteS_loops 0) = some sp → LoopOk G8 ⟨0, 23, laws_toWriteS_loops⟩ sp (loopBody Try.f42 0) := by
  intro sp hsp vals st k r h
  cases hsp
  dsimp only at h
  rcases onPats_inv2 h with ⟨p, q, rfl, rfl, h⟩ | h
  · exact loop_runs2 laws_toWriteS_bp0 laws_toWriteS_v0 laws_toWriteS_s0 laws_toWriteS_e0 (fun z => by (intro h; cases h)) laws_toWriteS_bx0 Fuel (p.1, p.2.2.1, q.1) _ k r (fun z => rfl) h
  cases h

theorem laws_toWriteS_x (a0 : (List dWrite)) : execFn G8 laws_toWriteS_loops Try.f42 [.lst tWrite a0] [] = laws_toWriteS_d a0 (fun (y : (List dWrite)) => some ⟨.ret, [.own 0], [.arr tWrite y]⟩) := by kernel_rfl

theorem laws_toWriteS_y (a0 : (List dWrite)) : execFn G8 laws_toWriteS_loops Try.f42 [.lst tWrite a0] [] = laws_toWriteS_k a0 (fun (y : (List dWrite)) => some ⟨.ret, [.own 0], [.arr tWrite y]⟩) := (laws_toWriteS_x a0).trans (by rw [laws_toWriteS_e])

theorem laws_toWriteS_l : LoopsOk G8 ⟨0, 23, laws_toWriteS_loops⟩ (Try.f42.body.getD .skip) :=
  loopsOk_of (ids := [0]) (by kernel_rfl) (by kernel_rfl) ⟨laws_toWriteS_lo0, trivial⟩

theorem laws_toWriteS_c : Contract Try.prog 42 laws_toWriteS_g := by
  refine told G8_ok follows Try.func42 (c := Try.f42.body.getD .skip) (by kernel_rfl) ?_
  intro args s k r hk
  unfold laws_toWriteS_g at hk
  rcases onPats_inv hk with ⟨p, q, rfl, rfl⟩ | hk
  · exact ⟨laws_toWriteS_loops, laws_toWriteS_q p.1, laws_toWriteS_y p.1, laws_toWriteS_l⟩
  cases hk

def G9 : Glob := G8.add 42 laws_toWriteS_g

theorem G9_ok : GlobOk Try.prog G9 := G8_ok.add ⟨Try.f42, Try.func42, by kernel_rfl, by kernel_rfl⟩ laws_toWriteS_c

/-! ### loop.example/g00327/laws.toTxn -/

def laws_toTxn_loops : Nat → Option LoopSpec
  | _ => none

theorem laws_toTxn_x (a0 : Int) (a1 : Int) (a2 : Int) (a3 : Int) (a4 : (List dRange)) (a5 : (List dWrite)) (a6 : Bool) (a7 : ByteArray) : execFn G9 laws_toTxn_loops Try.f22 [.agg [.int .i64 a0, .int .i64 a1, .int .i64 a2, .int .i64 a3, .lst tRange a4, .lst tWrite a5, .bool a6, .str a7]] [] = laws_toTxn_d (a0, (a1, (a2, (a3, (a4, (a5, (a6, a7))))))) (fun (y : (Int × Int × Int × Int × Bool × ByteArray × (List dRange) × (List dWrite))) => some ⟨.ret, [.agg [.int .i64 y.1, .int .i64 y.2.1, .int .i64 y.2.2.1, .int .i64 y.2.2.2.1, .own 0, .own 1, .bool y.2.2.2.2.1, .str y.2.2.2.2.2.1]], [.arr tRange y.2.2.2.2.2.2.1, .arr tWrite y.2.2.2.2.2.2.2]⟩) := by kernel_rfl

theorem laws_toTxn_y (a0 : Int) (a1 : Int) (a2 : Int) (a3 : Int) (a4 : (List dRange)) (a5 : (List dWrite)) (a6 : Bool) (a7 : ByteArray) : execFn G9 laws_toTxn_loops Try.f22 [.agg [.int .i64 a0, .int .i64 a1, .int .i64 a2, .int .i64 a3, .lst tRange a4, .lst tWrite a5, .bool a6, .str a7]] [] = laws_toTxn_k (a0, (a1, (a2, (a3, (a4, (a5, (a6, a7))))))) (fun (y : (Int × Int × Int × Int × Bool × ByteArray × (List dRange) × (List dWrite))) => some ⟨.ret, [.agg [.int .i64 y.1, .int .i64 y.2.1, .int .i64 y.2.2.1, .int .i64 y.2.2.2.1, .own 0, .own 1, .bool y.2.2.2.2.1, .str y.2.2.2.2.2.1]], [.arr tRange y.2.2.2.2.2.2.1, .arr tWrite y.2.2.2.2.2.2.2]⟩) := (laws_toTxn_x a0 a1 a2 a3 a4 a5 a6 a7).trans (by rw [laws_toTxn_e])

theorem laws_toTxn_l : LoopsOk G9 ⟨0, 31, laws_toTxn_loops⟩ (Try.f22.body.getD .skip) :=
  loopsOk_of (ids := []) (by kernel_rfl) (by kernel_rfl) trivial

theorem laws_toTxn_c : Contract Try.prog 22 laws_toTxn_g := by
  refine told G9_ok follows Try.func22 (c := Try.f22.body.getD .skip) (by kernel_rfl) ?_
  intro args s k r hk
  unfold laws_toTxn_g at hk
  rcases onPats_inv hk with ⟨p, q, rfl, rfl⟩ | hk
  · exact ⟨laws_toTxn_loops, laws_toTxn_q p.1.1 p.1.2.1 p.1.2.2.1 p.1.2.2.2.1 p.1.2.2.2.2.1 p.1.2.2.2.2.2.1 p.1.2.2.2.2.2.2.1 p.1.2.2.2.2.2.2.2.1, laws_toTxn_y p.1.1 p.1.2.1 p.1.2.2.1 p.1.2.2.2.1 p.1.2.2.2.2.1 p.1.2.2.2.2.2.1 p.1.2.2.2.2.2.2.1 p.1.2.2.2.2.2.2.2.1, laws_toTxn_l⟩
  cases hk

def G10 : Glob := G9.add 22 laws_toTxn_g

theorem G10_ok : GlobOk Try.prog G10 := G9_ok.add ⟨Try.f22, Try.func22, by kernel_rfl, by kernel_rfl⟩ laws_toTxn_c

/-! ### loop.example/g00327/spec.l01In -/

def spec_l01In_loops : Nat → Option LoopSpec
  | _ => none

theorem spec_l01In_x (a0 : Int) (a1 : Int) (a2 : Int) : execFn G10 spec_l01In_loops Try.f145 [.int .i64 a0, .int .i64 a1, .int .i64 a2] [] = spec_l01In_d a0 a1 a2 (fun (y : Bool) => some ⟨.ret, [.bool y], []⟩) := by kernel_rfl

theorem spec_l01In_y (a0 : Int) (a1 : Int) (a2 : Int) : execFn G10 spec_l01In_loops Try.f145 [.int .i64 a0, .int .i64 a1, .int .i64 a2] [] = spec_l01In_k a0 a1 a2 (fun (y : Bool) => some ⟨.ret, [.bool y], []⟩) := (spec_l01In_x a0 a1 a2).trans (by rw [spec_l01In_e])

theorem spec_l01In_l : LoopsOk G10 ⟨0, 15, spec_l01In_loops⟩ (Try.f145.body.getD .skip) :=
  loopsOk_of (ids := []) (by kernel_rfl) (by kernel_rfl) trivial

theorem spec_l01In_c : Contract Try.prog 145 spec_l01In_g := by
  refine told G10_ok follows Try.func145 (c := Try.f145.body.getD .skip) (by kernel_rfl) ?_
  intro args s k r hk
  unfold spec_l01In_g at hk
  rcases onPats_inv hk with ⟨p, q, rfl, rfl⟩ | hk
  · exact ⟨spec_l01In_loops, spec_l01In_q p.1 p.2.1 p.2.2.1, spec_l01In_y p.1 p.2.1 p.2.2.1, spec_l01In_l⟩
  cases hk

def G11 : Glob := G10.add 145 spec_l01In_g

theorem G11_ok : GlobOk Try.prog G11 := G10_ok.add ⟨Try.f145, Try.func145, by kernel_rfl, by kernel_rfl⟩ spec_l01In_c

/-! ### loop.example/g00327/spec.KeyOk -/

def spec_KeyOk_loops : Nat → Option LoopSpec
  | 0 => some ⟨[0, 2, 3], [], fun vals st k => onPats [.str, .bool, .int .i64] [] vals st (fun p q => loopK spec_KeyOk_b0 Fuel (p.1, p.2.1, p.2.2.1) (Sum.elim (fun z => k .ret [.str z.1, .bool z.2.1, .int .i64 z.2.2] []) (fun z => k (.exit 0) [.str z.1, .bool z.2.1, .int .i64 z.2.2] [])))
      (none)⟩
  | _ => none

def spec_KeyOk_v0 : (ByteArray × Bool × Int) → List AV := (fun x => [.str x.1, .bool x.2.1, .int .i64 x.2.2])
def spec_KeyOk_s0 : (ByteArray × Bool × Int) → St := (fun x => [])
def spec_KeyOk_e0 : ((ByteArray × Bool × Int) ⊕ (ByteArray × Bool × Int)) → Out × List AV × St := (Sum.elim (fun z => (.ret, [.str z.1, .bool z.2.1, .int .i64 z.2.2], [])) (fun z => ((.exit 0), [.str z.1, .bool z.2.1, .int .i64 z.2.2], [])))

theorem spec_KeyOk_bx0 (x : (ByteArray × Bool × Int)) : exec G11 ⟨0, 23, spec_KeyOk_loops⟩ (loopBody Try.f168 0) (bodyK ⟨0, 23, spec_KeyOk_loops⟩ [0, 2, 3] []) (setEs (deads 23) [0, 2, 3] (spec_KeyOk_v0 x)) (spec_KeyOk_s0 x) = spec_KeyOk_b0 x (Sum.elim (fun y => some ⟨.norm, spec_KeyOk_v0 y, spec_KeyOk_s0 y⟩) fun z => some ⟨(spec_KeyOk_e0 z).1, (spec_KeyOk_e0 z).2.1, (spec_KeyOk_e0 z).2.2⟩) := by
  kernel_rfl

theorem spec_KeyOk_lo0 : ∀ sp, (spec_KeyOk_loops 0) = some sp → LoopOk G11 ⟨0, 23, spec_KeyOk_loops⟩ sp (loopBody Try.f168 0) := by
  intro sp hsp vals st k r h
  cases hsp
  dsimp only at h
  rcases onPats_inv2 h with ⟨p, q, rfl, rfl, h⟩ | h
  · exact loop_runs2 spec_KeyOk_bp0 spec_KeyOk_v0 spec_KeyOk_s0 spec_KeyOk_e0 (fun z => by rcases z with z | z <;> (intro h; cases h)) spec_KeyOk_bx0 Fuel (p.1, p.2.1, p.2.2.1) _ k r (fun z => by rcases z with z | z <;> rfl) h
  cases h

theorem spec_KeyOk_x (a0 : ByteArray) : execFn G11 spec_KeyOk_loops Try.f168 [.str a0] [] = spec_KeyOk_d a0 (fun (y : Bool) => some ⟨.ret, [.bool y], []⟩) := by kernel_rfl

theorem spec_KeyOk_y (a0 : ByteArray) : execFn G11 spec_KeyOk_loops Try.f168 [.str a0] [] = spec_KeyOk_k a0 (fun (y : Bool) => some ⟨.ret, [.bool y], []⟩) := (spec_KeyOk_x a0).trans (by rw [spec_KeyOk_e])

theorem spec_KeyOk_l : LoopsOk G11 ⟨0, 23, spec_KeyOk_loops⟩ (Try.f168.body.getD .skip) :=
  loopsOk_of (ids := [0]) (by kernel_rfl) (by kernel_rfl) ⟨spec_KeyOk_lo0, trivial⟩

theorem spec_KeyOk_c : Contract Try.prog 168 spec_KeyOk_g := by
  refine told G11_ok follows Try.func168 (c := Try.f168.body.getD .skip) (by kernel_rfl) ?_
  intro args s k r hk
  unfold spec_KeyOk_g at hk
  rcases onPats_inv hk with ⟨p, q, rfl, rfl⟩ | hk
  · exact ⟨spec_KeyOk_loops, spec_KeyOk_q p.1, spec_KeyOk_y p.1, spec_KeyOk_l⟩
  cases hk

def G12 : Glob := G11.add 168 spec_KeyOk_g

theorem G12_ok : GlobOk Try.prog G12 := G11_ok.add ⟨Try.f168, Try.func168, by kernel_rfl, by kernel_rfl⟩ spec_KeyOk_c

/-! ### loop.example/g00327/spec.WriteOk -/

def spec_WriteOk_loops : Nat → Option LoopSpec
  | _ => none

theorem spec_WriteOk_x (a0 : ByteArray) (a1 : ByteArray) (a2 : Bool) : execFn G12 spec_WriteOk_loops Try.f139 [.agg [.str a0, .str a1, .bool a2]] [] = spec_WriteOk_d (a0, (a1, a2)) (fun (y : Bool) => some ⟨.ret, [.bool y], []⟩) := by kernel_rfl

theorem spec_WriteOk_y (a0 : ByteArray) (a1 : ByteArray) (a2 : Bool) : execFn G12 spec_WriteOk_loops Try.f139 [.agg [.str a0, .str a1, .bool a2]] [] = spec_WriteOk_k (a0, (a1, a2)) (fun (y : Bool) => some ⟨.ret, [.bool y], []⟩) := (spec_WriteOk_x a0 a1 a2).trans (by rw [spec_WriteOk_e])

theorem spec_WriteOk_l : LoopsOk G12 ⟨0, 22, spec_WriteOk_loops⟩ (Try.f139.body.getD .skip) :=
  loopsOk_of (ids := []) (by kernel_rfl) (by kernel_rfl) trivial

theorem spec_WriteOk_c : Contract Try.prog 139 spec_WriteOk_g := by
  refine told G12_ok follows Try.func139 (c := Try.f139.body.getD .skip) (by kernel_rfl) ?_
  intro args s k r hk
  unfold spec_WriteOk_g at hk
  rcases onPats_inv hk with ⟨p, q, rfl, rfl⟩ | hk
  · exact ⟨spec_WriteOk_loops, spec_WriteOk_q p.1.1 p.1.2.1 p.1.2.2.1, spec_WriteOk_y p.1.1 p.1.2.1 p.1.2.2.1, spec_WriteOk_l⟩
  cases hk

def G13 : Glob := G12.add 139 spec_WriteOk_g

theorem G13_ok : GlobOk Try.prog G13 := G12_ok.add ⟨Try.f139, Try.func139, by kernel_rfl, by kernel_rfl⟩ spec_WriteOk_c

/-! ### loop.example/g00327/spec.WritesOk -/

def spec_WritesOk_loops : Nat → Option LoopSpec
  | 0 => some ⟨[0, 2, 3], [], fun vals st k => onPats [.lst tWrite, .bool, .int .i64] [] vals st (fun p q => loopK spec_WritesOk_b0 Fuel (p.1, p.2.1, p.2.2.1) (Sum.elim (fun z => k .ret [.lst tWrite z.1, .bool z.2.1, .int .i64 z.2.2] []) (fun z => k (.exit 0) [.lst tWrite z.1, .bool z.2.1, .int .i64 z.2.2] [])))
      (none)⟩
  | _ => none

def spec_WritesOk_v0 : ((List dWrite) × Bool × Int) → List AV := (fun x => [.lst tWrite x.1, .bool x.2.1, .int .i64 x.2.2])
def spec_WritesOk_s0 : ((List dWrite) × Bool × Int) → St := (fun x => [])
def spec_WritesOk_e0 : (((List dWrite) × Bool × Int) ⊕ ((List dWrite) × Bool × Int)) → Out × List AV × St := (Sum.elim (fun z => (.ret, [.lst tWrite z.1, .bool z.2.1, .int .i64 z.2.2], [])) (fun z => ((.exit 0), [.lst tWrite z.1, .bool z.2.1, .int .i64 z.2.2], [])))

theorem spec_WritesOk_bx0 (x : ((List dWrite) × Bool × Int)) : exec G13 ⟨0, 37, spec_WritesOk_loops⟩ (loopBody Try.f141 0) (bodyK ⟨0, 37, spec_WritesOk_loops⟩ [0, 2, 3] []) (setEs (deads 37) [0, 2, 3] (spec_WritesOk_v0 x)) (spec_WritesOk_s0 x) = spec_WritesOk_b0 x (Sum.elim (fun y => some ⟨.norm, spec_WritesOk_v0 y, spec_WritesOk_s0 y⟩) fun z => some ⟨(spec_WritesOk_e0 z).1, (spec_WritesOk_e0 z).2.1, (spec_WritesOk_e0 z).2.2⟩) := by
  kernel_rfl

theorem spec_WritesOk_lo0 : ∀ sp, (spec_WritesOk_loops 0) = some sp → LoopOk G13 ⟨0, 37, spec_WritesOk_loops⟩ sp (loopBody Try.f141 0) := by
  intro sp hsp vals st k r h
  cases hsp
  dsimp only at h
  rcases onPats_inv2 h with ⟨p, q, rfl, rfl, h⟩ | h
  · exact loop_runs2 spec_WritesOk_bp0 spec_WritesOk_v0 spec_WritesOk_s0 spec_WritesOk_e0 (fun z => by rcases z with z | z <;> (intro h; cases h)) spec_WritesOk_bx0 Fuel (p.1, p.2.1, p.2.2.1) _ k r (fun z => by rcases z with z | z <;> rfl) h
  cases h

theorem spec_WritesOk_x (a0 : (List dWrite)) : execFn G13 spec_WritesOk_loops Try.f141 [.lst tWrite a0] [] = spec_WritesOk_d a0 (fun (y : Bool) => some ⟨.ret, [.bool y], []⟩) := by kernel_rfl

theorem spec_WritesOk_y (a0 : (List dWrite)) : execFn G13 spec_WritesOk_loops Try.f141 [.lst tWrite a0] [] = spec_WritesOk_k a0 (fun (y : Bool) => some ⟨.ret, [.bool y], []⟩) := (spec_WritesOk_x a0).trans (by rw [spec_WritesOk_e])

theorem spec_WritesOk_l : LoopsOk G13 ⟨0, 37, spec_WritesOk_loops⟩ (Try.f141.body.getD .skip) :=
  loopsOk_of (ids := [0]) (by kernel_rfl) (by kernel_rfl) ⟨spec_WritesOk_lo0, trivial⟩

theorem spec_WritesOk_c : Contract Try.prog 141 spec_WritesOk_g := by
  refine told G13_ok follows Try.func141 (c := Try.f141.body.getD .skip) (by kernel_rfl) ?_
  intro args s k r hk
  unfold spec_WritesOk_g at hk
  rcases onPats_inv hk with ⟨p, q, rfl, rfl⟩ | hk
  · exact ⟨spec_WritesOk_loops, spec_WritesOk_q p.1, spec_WritesOk_y p.1, spec_WritesOk_l⟩
  cases hk

def G14 : Glob := G13.add 141 spec_WritesOk_g

theorem G14_ok : GlobOk Try.prog G14 := G13_ok.add ⟨Try.f141, Try.func141, by kernel_rfl, by kernel_rfl⟩ spec_WritesOk_c

/-! ### loop.example/g00327/spec.RangeOk -/

def spec_RangeOk_loops : Nat → Option LoopSpec
  | _ => none

theorem spec_RangeOk_x (a0 : ByteArray) (a1 : ByteArray) : execFn G14 spec_RangeOk_loops Try.f128 [.agg [.str a0, .str a1]] [] = spec_RangeOk_d (a0, a1) (fun (y : Bool) => some ⟨.ret, [.bool y], []⟩) := by kernel_rfl

theorem spec_RangeOk_y (a0 : ByteArray) (a1 : ByteArray) : execFn G14 spec_RangeOk_loops Try.f128 [.agg [.str a0, .str a1]] [] = spec_RangeOk_k (a0, a1) (fun (y : Bool) => some ⟨.ret, [.bool y], []⟩) := (spec_RangeOk_x a0 a1).trans (by rw [spec_RangeOk_e])

theorem spec_RangeOk_l : LoopsOk G14 ⟨0, 18, spec_RangeOk_loops⟩ (Try.f128.body.getD .skip) :=
  loopsOk_of (ids := []) (by kernel_rfl) (by kernel_rfl) trivial

theorem spec_RangeOk_c : Contract Try.prog 128 spec_RangeOk_g := by
  refine told G14_ok follows Try.func128 (c := Try.f128.body.getD .skip) (by kernel_rfl) ?_
  intro args s k r hk
  unfold spec_RangeOk_g at hk
  rcases onPats_inv hk with ⟨p, q, rfl, rfl⟩ | hk
  · exact ⟨spec_RangeOk_loops, spec_RangeOk_q p.1.1 p.1.2.1, spec_RangeOk_y p.1.1 p.1.2.1, spec_RangeOk_l⟩
  cases hk

def G15 : Glob := G14.add 128 spec_RangeOk_g

theorem G15_ok : GlobOk Try.prog G15 := G14_ok.add ⟨Try.f128, Try.func128, by kernel_rfl, by kernel_rfl⟩ spec_RangeOk_c

/-! ### loop.example/g00327/spec.TxnOk -/

def spec_TxnOk_loops : Nat → Option LoopSpec
  | 5000012 => some ⟨[1, 2], [], fun vals st k => onPats [.bp 0 0, .bool] [.box [.int .i64, .int .i64, .int .i64, .int .i64, .lst tRange, .lst tWrite, .bool, .str]] vals st (fun p q => spec_TxnOk_j5000012 (p.2.1, q.1.1, q.1.2.1, q.1.2.2.1, q.1.2.2.2.1, q.1.2.2.2.2.1, q.1.2.2.2.2.2.1, q.1.2.2.2.2.2.2.1, q.1.2.2.2.2.2.2.2.1) (fun z => k .ret [.bp 0 0, .bool z.1] [.box [.int .i64 z.2.1, .int .i64 z.2.2.1, .int .i64 z.2.2.2.1, .int .i64 z.2.2.2.2.1, .lst tRange z.2.2.2.2.2.1, .lst tWrite z.2.2.2.2.2.2.1, .bool z.2.2.2.2.2.2.2.1, .str z.2.2.2.2.2.2.2.2]]))
      (none)⟩
  | 5000010 => some ⟨[1, 2], [], fun vals st k => onPats [.bp 0 0, .bool] [.box [.int .i64, .int .i64, .int .i64, .int .i64, .lst tRange, .lst tWrite, .bool, .str]] vals st (fun p q => spec_TxnOk_j5000010 (p.2.1, q.1.1, q.1.2.1, q.1.2.2.1, q.1.2.2.2.1, q.1.2.2.2.2.1, q.1.2.2.2.2.2.1, q.1.2.2.2.2.2.2.1, q.1.2.2.2.2.2.2.2.1) (fun z => k .ret [.bp 0 0, .bool z.1] [.box [.int .i64 z.2.1, .int .i64 z.2.2.1, .int .i64 z.2.2.2.1, .int .i64 z.2.2.2.2.1, .lst tRange z.2.2.2.2.2.1, .lst tWrite z.2.2.2.2.2.2.1, .bool z.2.2.2.2.2.2.2.1, .str z.2.2.2.2.2.2.2.2]]))
      (none)⟩
  | 0 => some ⟨[1, 2, 3], [], fun vals st k => onPats [.bp 0 0, .bool, .int .i64] [.box [.int .i64, .int .i64, .int .i64, .int .i64, .lst tRange, .lst tWrite, .bool, .str]] vals st (fun p q => loopK spec_TxnOk_b0 Fuel (p.2.1, p.2.2.1, q.1.1, q.1.2.1, q.1.2.2.1, q.1.2.2.2.1, q.1.2.2.2.2.1, q.1.2.2.2.2.2.1, q.1.2.2.2.2.2.2.1, q.1.2.2.2.2.2.2.2.1) (Sum.elim (fun z => k .ret [.bp 0 0, .bool z.1, .int .i64 z.2.1] [.box [.int .i64 z.2.2.1, .int .i64 z.2.2.2.1, .int .i64 z.2.2.2.2.1, .int .i64 z.2.2.2.2.2.1, .lst tRange z.2.2.2.2.2.2.1, .lst tWrite z.2.2.2.2.2.2.2.1, .bool z.2.2.2.2.2.2.2.2.1, .str z.2.2.2.2.2.2.2.2.2]]) (fun z => k (.exit 0) [.bp 0 0, .bool z.1, .int .i64 z.2.1] [.box [.int .i64 z.2.2.1, .int .i64 z.2.2.2.1, .int .i64 z.2.2.2.2.1, .int .i64 z.2.2.2.2.2.1, .lst tRange z.2.2.2.2.2.2.1, .lst tWrite z.2.2.2.2.2.2.2.1, .bool z.2.2.2.2.2.2.2.2.1, .str z.2.2.2.2.2.2.2.2.2]])))
      (none)⟩
  | 5000003 => some ⟨[1, 2], [], fun vals st k => onPats [.bp 0 0, .bool] [.box [.int .i64, .int .i64, .int .i64, .int .i64, .lst tRange, .lst tWrite, .bool, .str]] vals st (fun p q => spec_TxnOk_j5000003 (p.2.1, q.1.1, q.1.2.1, q.1.2.2.1, q.1.2.2.2.1, q.1.2.2.2.2.1, q.1.2.2.2.2.2.1, q.1.2.2.2.2.2.2.1, q.1.2.2.2.2.2.2.2.1) (fun z => k .ret [.bp 0 0, .bool z.1] [.box [.int .i64 z.2.1, .int .i64 z.2.2.1, .int .i64 z.2.2.2.1, .int .i64 z.2.2.2.2.1, .lst tRange z.2.2.2.2.2.1, .lst tWrite z.2.2.2.2.2.2.1, .bool z.2.2.2.2.2.2.2.1, .str z.2.2.2.2.2.2.2.2]]))
      (none)⟩
  | _ => none

def spec_TxnOk_jv5000012 : (Bool × Int × Int × Int × Int × (List dRange) × (List dWrite) × Bool × ByteArray) → List AV := (fun x => [.bp 0 0, .bool x.1])
def spec_TxnOk_js5000012 : (Bool × Int × Int × Int × Int × (List dRange) × (List dWrite) × Bool × ByteArray) → St := (fun x => [.box [.int .i64 x.2.1, .int .i64 x.2.2.1, .int .i64 x.2.2.2.1, .int .i64 x.2.2.2.2.1, .lst tRange x.2.2.2.2.2.1, .lst tWrite x.2.2.2.2.2.2.1, .bool x.2.2.2.2.2.2.2.1, .str x.2.2.2.2.2.2.2.2]])
def spec_TxnOk_je5000012 : (Bool × Int × Int × Int × Int × (List dRange) × (List dWrite) × Bool × ByteArray) → Out × List AV × St := (fun z => (.ret, [.bp 0 0, .bool z.1], [.box [.int .i64 z.2.1, .int .i64 z.2.2.1, .int .i64 z.2.2.2.1, .int .i64 z.2.2.2.2.1, .lst tRange z.2.2.2.2.2.1, .lst tWrite z.2.2.2.2.2.2.1, .bool z.2.2.2.2.2.2.2.1, .str z.2.2.2.2.2.2.2.2]]))

theorem spec_TxnOk_jx5000012 (x : (Bool × Int × Int × Int × Int × (List dRange) × (List dWrite) × Bool × ByteArray)) : exec G15 ⟨0, 95, spec_TxnOk_loops⟩ (loopBody Try.f85 5000012) (bodyK ⟨0, 95, spec_TxnOk_loops⟩ [1, 2] []) (setEs (deads 95) [1, 2] (spec_TxnOk_jv5000012 x)) (spec_TxnOk_js5000012 x) = spec_TxnOk_j5000012 x (fun z => some ⟨(spec_TxnOk_je5000012 z).1, (spec_TxnOk_je5000012 z).2.1, (spec_TxnOk_je5000012 z).2.2⟩) := by
  kernel_rfl

theorem spec_TxnOk_lo5000012 : ∀ sp, (spec_TxnOk_loops 5000012) = some sp → CutOk G15 ⟨0, 95, spec_TxnOk_loops⟩ sp (loopBody Try.f85 5000012) := by
  intro sp hsp vals st k r h
  cases hsp
  dsimp only at h
  rcases onPats_inv2 h with ⟨p, q, rfl, rfl, h⟩ | h
  · exact cut_runs spec_TxnOk_jp5000012 spec_TxnOk_jv5000012 spec_TxnOk_js5000012 spec_TxnOk_je5000012 spec_TxnOk_jx5000012 (p.2.1, q.1.1, q.1.2.1, q.1.2.2.1, q.1.2.2.2.1, q.1.2.2.2.2.1, q.1.2.2.2.2.2.1, q.1.2.2.2.2.2.2.1, q.1.2.2.2.2.2.2.2.1) _ k r (fun z => rfl) h
  cases h

def spec_TxnOk_jv5000010 : (Bool × Int × Int × Int × Int × (List dRange) × (List dWrite) × Bool × ByteArray) → List AV := (fun x => [.bp 0 0, .bool x.1])
def spec_TxnOk_js5000010 : (Bool × Int × Int × Int × Int × (List dRange) × (List dWrite) × Bool × ByteArray) → St := (fun x => [.box [.int .i64 x.2.1, .int .i64 x.2.2.1, .int .i64 x.2.2.2.1, .int .i64 x.2.2.2.2.1, .lst tRange x.2.2.2.2.2.1, .lst tWrite x.2.2.2.2.2.2.1, .bool x.2.2.2.2.2.2.2.1, .str x.2.2.2.2.2.2.2.2]])
def spec_TxnOk_je5000010 : (Bool × Int × Int × Int × Int × (List dRange) × (List dWrite) × Bool × ByteArray) → Out × List AV × St := (fun z => (.ret, [.bp 0 0, .bool z.1], [.box [.int .i64 z.2.1, .int .i64 z.2.2.1, .int .i64 z.2.2.2.1, .int .i64 z.2.2.2.2.1, .lst tRange z.2.2.2.2.2.1, .lst tWrite z.2.2.2.2.2.2.1, .bool z.2.2.2.2.2.2.2.1, .str z.2.2.2.2.2.2.2.2]]))

theorem spec_TxnOk_jx5000010 (x : (Bool × Int × Int × Int × Int × (List dRange) × (List dWrite) × Bool × ByteArray)) : exec G15 ⟨0, 95, spec_TxnOk_loops⟩ (loopBody Try.f85 5000010) (bodyK ⟨0, 95, spec_TxnOk_loops⟩ [1, 2] []) (setEs (deads 95) [1, 2] (spec_TxnOk_jv5000010 x)) (spec_TxnOk_js5000010 x) = spec_TxnOk_j5000010 x (fun z => some ⟨(spec_TxnOk_je5000010 z).1, (spec_TxnOk_je5000010 z).2.1, (spec_TxnOk_je5000010 z).2.2⟩) := by
  kernel_rfl

theorem spec_TxnOk_lo5000010 : ∀ sp, (spec_TxnOk_loops 5000010) = some sp → CutOk G15 ⟨0, 95, spec_TxnOk_loops⟩ sp (loopBody Try.f85 5000010) := by
  intro sp hsp vals st k r h
  cases hsp
  dsimp only at h
  rcases onPats_inv2 h with ⟨p, q, rfl, rfl, h⟩ | h
  · exact cut_runs spec_TxnOk_jp5000010 spec_TxnOk_jv5000010 spec_TxnOk_js5000010 spec_TxnOk_je5000010 spec_TxnOk_jx5000010 (p.2.1, q.1.1, q.1.2.1, q.1.2.2.1, q.1.2.2.2.1, q.1.2.2.2.2.1, q.1.2.2.2.2.2.1, q.1.2.2.2.2.2.2.1, q.1.2.2.2.2.2.2.2.1) _ k r (fun z => rfl) h
  cases h

def spec_TxnOk_v0 : (Bool × Int × Int × Int × Int × Int × (List dRange) × (List dWrite) × Bool × ByteArray) → List AV := (fun x => [.bp 0 0, .bool x.1, .int .i64 x.2.1])
def spec_TxnOk_s0 : (Bool × Int × Int × Int × Int × Int × (List dRange) × (List dWrite) × Bool × ByteArray) → St := (fun x => [.box [.int .i64 x.2.2.1, .int .i64 x.2.2.2.1, .int .i64 x.2.2.2.2.1, .int .i64 x.2.2.2.2.2.1, .lst tRange x.2.2.2.2.2.2.1, .lst tWrite x.2.2.2.2.2.2.2.1, .bool x.2.2.2.2.2.2.2.2.1, .str x.2.2.2.2.2.2.2.2.2]])
def spec_TxnOk_e0 : ((Bool × Int × Int × Int × Int × Int × (List dRange) × (List dWrite) × Bool × ByteArray) ⊕ (Bool × Int × Int × Int × Int × Int × (List dRange) × (List dWrite) × Bool × ByteArray)) → Out × List AV × St := (Sum.elim (fun z => (.ret, [.bp 0 0, .bool z.1, .int .i64 z.2.1], [.box [.int .i64 z.2.2.1, .int .i64 z.2.2.2.1, .int .i64 z.2.2.2.2.1, .int .i64 z.2.2.2.2.2.1, .lst tRange z.2.2.2.2.2.2.1, .lst tWrite z.2.2.2.2.2.2.2.1, .bool z.2.2.2.2.2.2.2.2.1, .str z.2.2.2.2.2.2.2.2.2]])) (fun z => ((.exit 0), [.bp 0 0, .bool z.1, .int .i64 z.2.1], [.box [.int .i64 z.2.2.1, .int .i64 z.2.2.2.1, .int .i64 z.2.2.2.2.1, .int .i64 z.2.2.2.2.2.1, .lst tRange z.2.2.2.2.2.2.1, .lst tWrite z.2.2.2.2.2.2.2.1, .bool z.2.2.2.2.2.2.2.2.1, .str z.2.2.2.2.2.2.2.2.2]])))

theorem spec_TxnOk_bx0 (x : (Bool × Int × Int × Int × Int × Int × (List dRange) × (List dWrite) × Bool × ByteArray)) : exec G15 ⟨0, 95, spec_TxnOk_loops⟩ (loopBody Try.f85 0) (bodyK ⟨0, 95, spec_TxnOk_loops⟩ [1, 2, 3] []) (setEs (deads 95) [1, 2, 3] (spec_TxnOk_v0 x)) (spec_TxnOk_s0 x) = spec_TxnOk_b0 x (Sum.elim (fun y => some ⟨.norm, spec_TxnOk_v0 y, spec_TxnOk_s0 y⟩) fun z => some ⟨(spec_TxnOk_e0 z).1, (spec_TxnOk_e0 z).2.1, (spec_TxnOk_e0 z).2.2⟩) := by
  kernel_rfl

theorem spec_TxnOk_lo0 : ∀ sp, (spec_TxnOk_loops 0) = some sp → LoopOk G15 ⟨0, 95, spec_TxnOk_loops⟩ sp (loopBody Try.f85 0) := by
  intro sp hsp vals st k r h
  cases hsp
  dsimp only at h
  rcases onPats_inv2 h with ⟨p, q, rfl, rfl, h⟩ | h
  · exact loop_runs2 spec_TxnOk_bp0 spec_TxnOk_v0 spec_TxnOk_s0 spec_TxnOk_e0 (fun z => by rcases z with z | z <;> (intro h; cases h)) spec_TxnOk_bx0 Fuel (p.2.1, p.2.2.1, q.1.1, q.1.2.1, q.1.2.2.1, q.1.2.2.2.1, q.1.2.2.2.2.1, q.1.2.2.2.2.2.1, q.1.2.2.2.2.2.2.1, q.1.2.2.2.2.2.2.2.1) _ k r (fun z => by rcases z with z | z <;> rfl) h
  cases h

def spec_TxnOk_jv5000003 : (Bool × Int × Int × Int × Int × (List dRange) × (List dWrite) × Bool × ByteArray) → List AV := (fun x => [.bp 0 0, .bool x.1])
def spec_TxnOk_js5000003 : (Bool × Int × Int × Int × Int × (List dRange) × (List dWrite) × Bool × ByteArray) → St := (fun x => [.box [.int .i64 x.2.1, .int .i64 x.2.2.1, .int .i64 x.2.2.2.1, .int .i64 x.2.2.2.2.1, .lst tRange x.2.2.2.2.2.1, .lst tWrite x.2.2.2.2.2.2.1, .bool x.2.2.2.2.2.2.2.1, .str x.2.2.2.2.2.2.2.2]])
def spec_TxnOk_je5000003 : (Bool × Int × Int × Int × Int × (List dRange) × (List dWrite) × Bool × ByteArray) → Out × List AV × St := (fun z => (.ret, [.bp 0 0, .bool z.1], [.box [.int .i64 z.2.1, .int .i64 z.2.2.1, .int .i64 z.2.2.2.1, .int .i64 z.2.2.2.2.1, .lst tRange z.2.2.2.2.2.1, .lst tWrite z.2.2.2.2.2.2.1, .bool z.2.2.2.2.2.2.2.1, .str z.2.2.2.2.2.2.2.2]]))

theorem spec_TxnOk_jx5000003 (x : (Bool × Int × Int × Int × Int × (List dRange) × (List dWrite) × Bool × ByteArray)) : exec G15 ⟨0, 95, spec_TxnOk_loops⟩ (loopBody Try.f85 5000003) (bodyK ⟨0, 95, spec_TxnOk_loops⟩ [1, 2] []) (setEs (deads 95) [1, 2] (spec_TxnOk_jv5000003 x)) (spec_TxnOk_js5000003 x) = spec_TxnOk_j5000003 x (fun z => some ⟨(spec_TxnOk_je5000003 z).1, (spec_TxnOk_je5000003 z).2.1, (spec_TxnOk_je5000003 z).2.2⟩) := by
  kernel_rfl

theorem spec_TxnOk_lo5000003 : ∀ sp, (spec_TxnOk_loops 5000003) = some sp → CutOk G15 ⟨0, 95, spec_TxnOk_loops⟩ sp (loopBody Try.f85 5000003) := by
  intro sp hsp vals st k r h
  cases hsp
  dsimp only at h
  rcases onPats_inv2 h with ⟨p, q, rfl, rfl, h⟩ | h
  · exact cut_runs spec_TxnOk_jp5000003 spec_TxnOk_jv5000003 spec_TxnOk_js5000003 spec_TxnOk_je5000003 spec_TxnOk_jx5000003 (p.2.1, q.1.1, q.1.2.1, q.1.2.2.1, q.1.2.2.2.1, q.1.2.2.2.2.1, q.1.2.2.2.2.2.1, q.1.2.2.2.2.2.2.1, q.1.2.2.2.2.2.2.2.1) _ k r (fun z => rfl) h
  cases h

theorem spec_TxnOk_x (a0 : Int) (a1 : Int) (a2 : Int) (a3 : Int) (a4 : (List dRange)) (a5 : (List dWrite)) (a6 : Bool) (a7 : ByteArray) : execFn G15 spec_TxnOk_loops Try.f85 [.agg [.int .i64 a0, .int .i64 a1, .int .i64 a2, .int .i64 a3, .lst tRange a4, .lst tWrite a5, .bool a6, .str a7]] [] = spec_TxnOk_d (a0, (a1, (a2, (a3, (a4, (a5, (a6, a7))))))) (fun (y : Bool) => some ⟨.ret, [.bool y], []⟩) := by kernel_rfl

theorem spec_TxnOk_y (a0 : Int) (a1 : Int) (a2 : Int) (a3 : Int) (a4 : (List dRange)) (a5 : (List dWrite)) (a6 : Bool) (a7 : ByteArray) : execFn G15 spec_TxnOk_loops Try.f85 [.agg [.int .i64 a0, .int .i64 a1, .int .i64 a2, .int .i64 a3, .lst tRange a4, .lst tWrite a5, .bool a6, .str a7]] [] = spec_TxnOk_k (a0, (a1, (a2, (a3, (a4, (a5, (a6, a7))))))) (fun (y : Bool) => some ⟨.ret, [.bool y], []⟩) := (spec_TxnOk_x a0 a1 a2 a3 a4 a5 a6 a7).trans (by rw [spec_TxnOk_e])

theorem spec_TxnOk_l : LoopsOk G15 ⟨0, 95, spec_TxnOk_loops⟩ (Try.f85.body.getD .skip) :=
  loopsOk_of (ids := [5000012, 5000010, 0, 5000003]) (by kernel_rfl) (by kernel_rfl) ⟨spec_TxnOk_lo5000012, ⟨spec_TxnOk_lo5000010, ⟨spec_TxnOk_lo0, ⟨spec_TxnOk_lo5000003, trivial⟩⟩⟩⟩

theorem spec_TxnOk_c : Contract Try.prog 85 spec_TxnOk_g := by
  refine told G15_ok follows Try.func85 (c := Try.f85.body.getD .skip) (by kernel_rfl) ?_
  intro args s k r hk
  unfold spec_TxnOk_g at hk
  rcases onPats_inv hk with ⟨p, q, rfl, rfl⟩ | hk
  · exact ⟨spec_TxnOk_loops, spec_TxnOk_q p.1.1 p.1.2.1 p.1.2.2.1 p.1.2.2.2.1 p.1.2.2.2.2.1 p.1.2.2.2.2.2.1 p.1.2.2.2.2.2.2.1 p.1.2.2.2.2.2.2.2.1, spec_TxnOk_y p.1.1 p.1.2.1 p.1.2.2.1 p.1.2.2.2.1 p.1.2.2.2.2.1 p.1.2.2.2.2.2.1 p.1.2.2.2.2.2.2.1 p.1.2.2.2.2.2.2.2.1, spec_TxnOk_l⟩
  cases hk

def G16 : Glob := G15.add 85 spec_TxnOk_g

theorem G16_ok : GlobOk Try.prog G16 := G15_ok.add ⟨Try.f85, Try.func85, by kernel_rfl, by kernel_rfl⟩ spec_TxnOk_c

/-! ### loop.example/g00327/spec.l01Var -/

def spec_l01Var_loops : Nat → Option LoopSpec
  | 0 => some ⟨[0, 3], [], fun vals st k => onPats [.int .i64, .own 0] [.arr (.int .u8)] vals st (fun p q => loopK spec_l01Var_b0 Fuel (p.1, q.1) (fun z => k (.exit 0) [.int .i64 z.1, .own 0] [.arr (.int .u8) z.2]))
      (none)⟩
  | _ => none

def spec_l01Var_v0 : (Int × (List Int)) → List AV := (fun x => [.int .i64 x.1, .own 0])
def spec_l01Var_s0 : (Int × (List Int)) → St := (fun x => [.arr (.int .u8) x.2])
def spec_l01Var_e0 : (Int × (List Int)) → Out × List AV × St := (fun z => ((.exit 0), [.int .i64 z.1, .own 0], [.arr (.int .u8) z.2]))

theorem spec_l01Var_bx0 (x : (Int × (List Int))) : exec G16 ⟨0, 22, spec_l01Var_loops⟩ (loopBody Try.f86 0) (bodyK ⟨0, 22, spec_l01Var_loops⟩ [0, 3] []) (setEs (deads 22) [0, 3] (spec_l01Var_v0 x)) (spec_l01Var_s0 x) = spec_l01Var_b0 x (Sum.elim (fun y => some ⟨.norm, spec_l01Var_v0 y, spec_l01Var_s0 y⟩) fun z => some ⟨(spec_l01Var_e0 z).1, (spec_l01Var_e0 z).2.1, (spec_l01Var_e0 z).2.2⟩) := by
  kernel_rfl

theorem spec_l01Var_lo0 : ∀ sp, (spec_l01Var_loops 0) = some sp → LoopOk G16 ⟨0, 22, spec_l01Var_loops⟩ sp (loopBody Try.f86 0) := by
  intro sp hsp vals st k r h
  cases hsp
  dsimp only at h
  rcases onPats_inv2 h with ⟨p, q, rfl, rfl, h⟩ | h
  · exact loop_runs2 spec_l01Var_bp0 spec_l01Var_v0 spec_l01Var_s0 spec_l01Var_e0 (fun z => by (intro h; cases h)) spec_l01Var_bx0 Fuel (p.1, q.1) _ k r (fun z => rfl) h
  cases h

theorem spec_l01Var_x (a0 : Int) : execFn G16 spec_l01Var_loops Try.f86 [.int .i64 a0] [] = spec_l01Var_d a0 (fun (y : ByteArray) => some ⟨.ret, [.str y], []⟩) := by kernel_rfl

theorem spec_l01Var_y (a0 : Int) : execFn G16 spec_l01Var_loops Try.f86 [.int .i64 a0] [] = spec_l01Var_k a0 (fun (y : ByteArray) => some ⟨.ret, [.str y], []⟩) := (spec_l01Var_x a0).trans (by rw [spec_l01Var_e])

theorem spec_l01Var_l : LoopsOk G16 ⟨0, 22, spec_l01Var_loops⟩ (Try.f86.body.getD .skip) :=
  loopsOk_of (ids := [0]) (by kernel_rfl) (by kernel_rfl) ⟨spec_l01Var_lo0, trivial⟩

theorem spec_l01Var_c : Contract Try.prog 86 spec_l01Var_g := by
  refine told G16_ok follows Try.func86 (c := Try.f86.body.getD .skip) (by kernel_rfl) ?_
  intro args s k r hk
  unfold spec_l01Var_g at hk
  rcases onPats_inv hk with ⟨p, q, rfl, rfl⟩ | hk
  · exact ⟨spec_l01Var_loops, spec_l01Var_q p.1, spec_l01Var_y p.1, spec_l01Var_l⟩
  cases hk

def G17 : Glob := G16.add 86 spec_l01Var_g

theorem G17_ok : GlobOk Try.prog G17 := G16_ok.add ⟨Try.f86, Try.func86, by kernel_rfl, by kernel_rfl⟩ spec_l01Var_c

/-! ### loop.example/g00327/spec.l07Short -/

def spec_l07Short_loops : Nat → Option LoopSpec
  | _ => none

theorem spec_l07Short_x (a0 : ByteArray) : execFn G17 spec_l07Short_loops Try.f87 [.str a0] [] = spec_l07Short_d a0 (fun (y : ByteArray) => some ⟨.ret, [.str y], []⟩) := by kernel_rfl

theorem spec_l07Short_y (a0 : ByteArray) : execFn G17 spec_l07Short_loops Try.f87 [.str a0] [] = spec_l07Short_k a0 (fun (y : ByteArray) => some ⟨.ret, [.str y], []⟩) := (spec_l07Short_x a0).trans (by rw [spec_l07Short_e])

theorem spec_l07Short_l : LoopsOk G17 ⟨0, 8, spec_l07Short_loops⟩ (Try.f87.body.getD .skip) :=
  loopsOk_of (ids := []) (by kernel_rfl) (by kernel_rfl) trivial

theorem spec_l07Short_c : Contract Try.prog 87 spec_l07Short_g := by
  refine told G17_ok follows Try.func87 (c := Try.f87.body.getD .skip) (by kernel_rfl) ?_
  intro args s k r hk
  unfold spec_l07Short_g at hk
  rcases onPats_inv hk with ⟨p, q, rfl, rfl⟩ | hk
  · exact ⟨spec_l07Short_loops, spec_l07Short_q p.1, spec_l07Short_y p.1, spec_l07Short_l⟩
  cases hk

def G18 : Glob := G17.add 87 spec_l07Short_g

theorem G18_ok : GlobOk Try.prog G18 := G17_ok.add ⟨Try.f87, Try.func87, by kernel_rfl, by kernel_rfl⟩ spec_l07Short_c

/-! ### loop.example/g00327/spec.l07Bit -/

def spec_l07Bit_loops : Nat → Option LoopSpec
  | _ => none

theorem spec_l07Bit_x (a0 : Bool) : execFn G18 spec_l07Bit_loops Try.f88 [.bool a0] [] = spec_l07Bit_d a0 (fun (y : ByteArray) => some ⟨.ret, [.str y], []⟩) := by kernel_rfl

theorem spec_l07Bit_y (a0 : Bool) : execFn G18 spec_l07Bit_loops Try.f88 [.bool a0] [] = spec_l07Bit_k a0 (fun (y : ByteArray) => some ⟨.ret, [.str y], []⟩) := (spec_l07Bit_x a0).trans (by rw [spec_l07Bit_e])

theorem spec_l07Bit_l : LoopsOk G18 ⟨0, 4, spec_l07Bit_loops⟩ (Try.f88.body.getD .skip) :=
  loopsOk_of (ids := []) (by kernel_rfl) (by kernel_rfl) trivial

theorem spec_l07Bit_c : Contract Try.prog 88 spec_l07Bit_g := by
  refine told G18_ok follows Try.func88 (c := Try.f88.body.getD .skip) (by kernel_rfl) ?_
  intro args s k r hk
  unfold spec_l07Bit_g at hk
  rcases onPats_inv hk with ⟨p, q, rfl, rfl⟩ | hk
  · exact ⟨spec_l07Bit_loops, spec_l07Bit_q p.1, spec_l07Bit_y p.1, spec_l07Bit_l⟩
  cases hk

def G19 : Glob := G18.add 88 spec_l07Bit_g

theorem G19_ok : GlobOk Try.prog G19 := G18_ok.add ⟨Try.f88, Try.func88, by kernel_rfl, by kernel_rfl⟩ spec_l07Bit_c

/-! ### loop.example/g00327/spec.TxnText -/

def spec_TxnText_loops : Nat → Option LoopSpec
  | 0 => some ⟨[1, 4, 5], [], fun vals st k => onPats [.bp 0 0, .str, .int .i64] [.box [.int .i64, .int .i64, .int .i64, .int .i64, .lst tRange, .lst tWrite, .bool, .str]] vals st (fun p q => loopK spec_TxnText_b0 Fuel (p.2.1, p.2.2.1, q.1.1, q.1.2.1, q.1.2.2.1, q.1.2.2.2.1, q.1.2.2.2.2.1, q.1.2.2.2.2.2.1, q.1.2.2.2.2.2.2.1, q.1.2.2.2.2.2.2.2.1) (fun z => k (.exit 0) [.bp 0 0, .str z.1, .int .i64 z.2.1] [.box [.int .i64 z.2.2.1, .int .i64 z.2.2.2.1, .int .i64 z.2.2.2.2.1, .int .i64 z.2.2.2.2.2.1, .lst tRange z.2.2.2.2.2.2.1, .lst tWrite z.2.2.2.2.2.2.2.1, .bool z.2.2.2.2.2.2.2.2.1, .str z.2.2.2.2.2.2.2.2.2]]))
      (none)⟩
  | 2 => some ⟨[1, 4, 6], [], fun vals st k => onPats [.bp 0 0, .str, .int .i64] [.box [.int .i64, .int .i64, .int .i64, .int .i64, .lst tRange, .lst tWrite, .bool, .str]] vals st (fun p q => loopK spec_TxnText_b2 Fuel (p.2.1, p.2.2.1, q.1.1, q.1.2.1, q.1.2.2.1, q.1.2.2.2.1, q.1.2.2.2.2.1, q.1.2.2.2.2.2.1, q.1.2.2.2.2.2.2.1, q.1.2.2.2.2.2.2.2.1) (fun z => k (.exit 2) [.bp 0 0, .str z.1, .int .i64 z.2.1] [.box [.int .i64 z.2.2.1, .int .i64 z.2.2.2.1, .int .i64 z.2.2.2.2.1, .int .i64 z.2.2.2.2.2.1, .lst tRange z.2.2.2.2.2.2.1, .lst tWrite z.2.2.2.2.2.2.2.1, .bool z.2.2.2.2.2.2.2.2.1, .str z.2.2.2.2.2.2.2.2.2]]))
      (none)⟩
  | _ => none

def spec_TxnText_v0 : (ByteArray × Int × Int × Int × Int × Int × (List dRange) × (List dWrite) × Bool × ByteArray) → List AV := (fun x => [.bp 0 0, .str x.1, .int .i64 x.2.1])
def spec_TxnText_s0 : (ByteArray × Int × Int × Int × Int × Int × (List dRange) × (List dWrite) × Bool × ByteArray) → St := (fun x => [.box [.int .i64 x.2.2.1, .int .i64 x.2.2.2.1, .int .i64 x.2.2.2.2.1, .int .i64 x.2.2.2.2.2.1, .lst tRange x.2.2.2.2.2.2.1, .lst tWrite x.2.2.2.2.2.2.2.1, .bool x.2.2.2.2.2.2.2.2.1, .str x.2.2.2.2.2.2.2.2.2]])
def spec_TxnText_e0 : (ByteArray × Int × Int × Int × Int × Int × (List dRange) × (List dWrite) × Bool × ByteArray) → Out × List AV × St := (fun z => ((.exit 0), [.bp 0 0, .str z.1, .int .i64 z.2.1], [.box [.int .i64 z.2.2.1, .int .i64 z.2.2.2.1, .int .i64 z.2.2.2.2.1, .int .i64 z.2.2.2.2.2.1, .lst tRange z.2.2.2.2.2.2.1, .lst tWrite z.2.2.2.2.2.2.2.1, .bool z.2.2.2.2.2.2.2.2.1, .str z.2.2.2.2.2.2.2.2.2]]))

theorem spec_TxnText_bx0 (x : (ByteArray × Int × Int × Int × Int × Int × (List dRange) × (List dWrite) × Bool × ByteArray)) : exec G19 ⟨0, 101, spec_TxnText_loops⟩ (loopBody Try.f21 0) (bodyK ⟨0, 101, spec_TxnText_loops⟩ [1, 4, 5] []) (setEs (deads 101) [1, 4, 5] (spec_TxnText_v0 x)) (spec_TxnText_s0 x) = spec_TxnText_b0 x (Sum.elim (fun y => some ⟨.norm, spec_TxnText_v0 y, spec_TxnText_s0 y⟩) fun z => some ⟨(spec_TxnText_e0 z).1, (spec_TxnText_e0 z).2.1, (spec_TxnText_e0 z).2.2⟩) := by
  kernel_rfl

theorem spec_TxnText_lo0 : ∀ sp, (spec_TxnText_loops 0) = some sp → LoopOk G19 ⟨0, 101, spec_TxnText_loops⟩ sp (loopBody Try.f21 0) := by
  intro sp hsp vals st k r h
  cases hsp
  dsimp only at h
  rcases onPats_inv2 h with ⟨p, q, rfl, rfl, h⟩ | h
  · exact loop_runs2 spec_TxnText_bp0 spec_TxnText_v0 spec_TxnText_s0 spec_TxnText_e0 (fun z => by (intro h; cases h)) spec_TxnText_bx0 Fuel (p.2.1, p.2.2.1, q.1.1, q.1.2.1, q.1.2.2.1, q.1.2.2.2.1, q.1.2.2.2.2.1, q.1.2.2.2.2.2.1, q.1.2.2.2.2.2.2.1, q.1.2.2.2.2.2.2.2.1) _ k r (fun z => rfl) h
  cases h

def spec_TxnText_v2 : (ByteArray × Int × Int × Int × Int × Int × (List dRange) × (List dWrite) × Bool × ByteArray) → List AV := (fun x => [.bp 0 0, .str x.1, .int .i64 x.2.1])
def spec_TxnText_s2 : (ByteArray × Int × Int × Int × Int × Int × (List dRange) × (List dWrite) × Bool × ByteArray) → St := (fun x => [.box [.int .i64 x.2.2.1, .int .i64 x.2.2.2.1, .int .i64 x.2.2.2.2.1, .int .i64 x.2.2.2.2.2.1, .lst tRange x.2.2.2.2.2.2.1, .lst tWrite x.2.2.2.2.2.2.2.1, .bool x.2.2.2.2.2.2.2.2.1, .str x.2.2.2.2.2.2.2.2.2]])
def spec_TxnText_e2 : (ByteArray × Int × Int × Int × Int × Int × (List dRange) × (List dWrite) × Bool × ByteArray) → Out × List AV × St := (fun z => ((.exit 2), [.bp 0 0, .str z.1, .int .i64 z.2.1], [.box [.int .i64 z.2.2.1, .int .i64 z.2.2.2.1, .int .i64 z.2.2.2.2.1, .int .i64 z.2.2.2.2.2.1, .lst tRange z.2.2.2.2.2.2.1, .lst tWrite z.2.2.2.2.2.2.2.1, .bool z.2.2.2.2.2.2.2.2.1, .str z.2.2.2.2.2.2.2.2.2]]))

theorem spec_TxnText_bx2 (x : (ByteArray × Int × Int × Int × Int × Int × (List dRange) × (List dWrite) × Bool × ByteArray)) : exec G19 ⟨0, 101, spec_TxnText_loops⟩ (loopBody Try.f21 2) (bodyK ⟨0, 101, spec_TxnText_loops⟩ [1, 4, 6] []) (setEs (deads 101) [1, 4, 6] (spec_TxnText_v2 x)) (spec_TxnText_s2 x) = spec_TxnText_b2 x (Sum.elim (fun y => some ⟨.norm, spec_TxnText_v2 y, spec_TxnText_s2 y⟩) fun z => some ⟨(spec_TxnText_e2 z).1, (spec_TxnText_e2 z).2.1, (spec_TxnText_e2 z).2.2⟩) := by
  kernel_rfl

theorem spec_TxnText_lo2 : ∀ sp, (spec_TxnText_loops 2) = some sp → LoopOk G19 ⟨0, 101, spec_TxnText_loops⟩ sp (loopBody Try.f21 2) := by
  intro sp hsp vals st k r h
  cases hsp
  dsimp only at h
  rcases onPats_inv2 h with ⟨p, q, rfl, rfl, h⟩ | h
  · exact loop_runs2 spec_TxnText_bp2 spec_TxnText_v2 spec_TxnText_s2 spec_TxnText_e2 (fun z => by (intro h; cases h)) spec_TxnText_bx2 Fuel (p.2.1, p.2.2.1, q.1.1, q.1.2.1, q.1.2.2.1, q.1.2.2.2.1, q.1.2.2.2.2.1, q.1.2.2.2.2.2.1, q.1.2.2.2.2.2.2.1, q.1.2.2.2.2.2.2.2.1) _ k r (fun z => rfl) h
  cases h

theorem spec_TxnText_x (a0 : Int) (a1 : Int) (a2 : Int) (a3 : Int) (a4 : (List dRange)) (a5 : (List dWrite)) (a6 : Bool) (a7 : ByteArray) : execFn G19 spec_TxnText_loops Try.f21 [.agg [.int .i64 a0, .int .i64 a1, .int .i64 a2, .int .i64 a3, .lst tRange a4, .lst tWrite a5, .bool a6, .str a7]] [] = spec_TxnText_d (a0, (a1, (a2, (a3, (a4, (a5, (a6, a7))))))) (fun (y : (ByteArray × Bool)) => some ⟨.ret, [.tup [.str y.1, .bool y.2]], []⟩) := by kernel_rfl

theorem spec_TxnText_y (a0 : Int) (a1 : Int) (a2 : Int) (a3 : Int) (a4 : (List dRange)) (a5 : (List dWrite)) (a6 : Bool) (a7 : ByteArray) : execFn G19 spec_TxnText_loops Try.f21 [.agg [.int .i64 a0, .int .i64 a1, .int .i64 a2, .int .i64 a3, .lst tRange a4, .lst tWrite a5, .bool a6, .str a7]] [] = spec_TxnText_k (a0, (a1, (a2, (a3, (a4, (a5, (a6, a7))))))) (fun (y : (ByteArray × Bool)) => some ⟨.ret, [.tup [.str y.1, .bool y.2]], []⟩) := (spec_TxnText_x a0 a1 a2 a3 a4 a5 a6 a7).trans (by rw [spec_TxnText_e])

theorem spec_TxnText_l : LoopsOk G19 ⟨0, 101, spec_TxnText_loops⟩ (Try.f21.body.getD .skip) :=
  loopsOk_of (ids := [0, 2]) (by kernel_rfl) (by kernel_rfl) ⟨spec_TxnText_lo0, ⟨spec_TxnText_lo2, trivial⟩⟩

theorem spec_TxnText_c : Contract Try.prog 21 spec_TxnText_g := by
  refine told G19_ok follows Try.func21 (c := Try.f21.body.getD .skip) (by kernel_rfl) ?_
  intro args s k r hk
  unfold spec_TxnText_g at hk
  rcases onPats_inv hk with ⟨p, q, rfl, rfl⟩ | hk
  · exact ⟨spec_TxnText_loops, spec_TxnText_q p.1.1 p.1.2.1 p.1.2.2.1 p.1.2.2.2.1 p.1.2.2.2.2.1 p.1.2.2.2.2.2.1 p.1.2.2.2.2.2.2.1 p.1.2.2.2.2.2.2.2.1, spec_TxnText_y p.1.1 p.1.2.1 p.1.2.2.1 p.1.2.2.2.1 p.1.2.2.2.2.1 p.1.2.2.2.2.2.1 p.1.2.2.2.2.2.2.1 p.1.2.2.2.2.2.2.2.1, spec_TxnText_l⟩
  cases hk

def G20 : Glob := G19.add 21 spec_TxnText_g

theorem G20_ok : GlobOk Try.prog G20 := G19_ok.add ⟨Try.f21, Try.func21, by kernel_rfl, by kernel_rfl⟩ spec_TxnText_c

/-! ### loop.example/g00327/impl.within -/

def impl_within_loops : Nat → Option LoopSpec
  | _ => none

theorem impl_within_x (a0 : Int) (a1 : Int) (a2 : Int) : execFn G20 impl_within_loops Try.f147 [.int .i64 a0, .int .i64 a1, .int .i64 a2] [] = impl_within_d a0 a1 a2 (fun (y : Bool) => some ⟨.ret, [.bool y], []⟩) := by kernel_rfl

theorem impl_within_y (a0 : Int) (a1 : Int) (a2 : Int) : execFn G20 impl_within_loops Try.f147 [.int .i64 a0, .int .i64 a1, .int .i64 a2] [] = impl_within_k a0 a1 a2 (fun (y : Bool) => some ⟨.ret, [.bool y], []⟩) := (impl_within_x a0 a1 a2).trans (by rw [impl_within_e])

theorem impl_within_l : LoopsOk G20 ⟨0, 15, impl_within_loops⟩ (Try.f147.body.getD .skip) :=
  loopsOk_of (ids := []) (by kernel_rfl) (by kernel_rfl) trivial

theorem impl_within_c : Contract Try.prog 147 impl_within_g := by
  refine told G20_ok follows Try.func147 (c := Try.f147.body.getD .skip) (by kernel_rfl) ?_
  intro args s k r hk
  unfold impl_within_g at hk
  rcases onPats_inv hk with ⟨p, q, rfl, rfl⟩ | hk
  · exact ⟨impl_within_loops, impl_within_q p.1 p.2.1 p.2.2.1, impl_within_y p.1 p.2.1 p.2.2.1, impl_within_l⟩
  cases hk

def G21 : Glob := G20.add 147 impl_within_g

theorem G21_ok : GlobOk Try.prog G21 := G20_ok.add ⟨Try.f147, Try.func147, by kernel_rfl, by kernel_rfl⟩ impl_within_c

/-! ### loop.example/g00327/impl.KeyOk -/

def impl_KeyOk_loops : Nat → Option LoopSpec
  | 0 => some ⟨[0, 2, 3], [], fun vals st k => onPats [.str, .bool, .int .i64] [] vals st (fun p q => loopK impl_KeyOk_b0 Fuel (p.1, p.2.1, p.2.2.1) (Sum.elim (fun z => k .ret [.str z.1, .bool z.2.1, .int .i64 z.2.2] []) (fun z => k (.exit 0) [.str z.1, .bool z.2.1, .int .i64 z.2.2] [])))
      (none)⟩
  | _ => none

def impl_KeyOk_v0 : (ByteArray × Bool × Int) → List AV := (fun x => [.str x.1, .bool x.2.1, .int .i64 x.2.2])
def impl_KeyOk_s0 : (ByteArray × Bool × Int) → St := (fun x => [])
def impl_KeyOk_e0 : ((ByteArray × Bool × Int) ⊕ (ByteArray × Bool × Int)) → Out × List AV × St := (Sum.elim (fun z => (.ret, [.str z.1, .bool z.2.1, .int .i64 z.2.2], [])) (fun z => ((.exit 0), [.str z.1, .bool z.2.1, .int .i64 z.2.2], [])))

theorem impl_KeyOk_bx0 (x : (ByteArray × Bool × Int)) : exec G21 ⟨0, 23, impl_KeyOk_loops⟩ (loopBody Try.f170 0) (bodyK ⟨0, 23, impl_KeyOk_loops⟩ [0, 2, 3] []) (setEs (deads 23) [0, 2, 3] (impl_KeyOk_v0 x)) (impl_KeyOk_s0 x) = impl_KeyOk_b0 x (Sum.elim (fun y => some ⟨.norm, impl_KeyOk_v0 y, impl_KeyOk_s0 y⟩) fun z => some ⟨(impl_KeyOk_e0 z).1, (impl_KeyOk_e0 z).2.1, (impl_KeyOk_e0 z).2.2⟩) := by
  kernel_rfl

theorem impl_KeyOk_lo0 : ∀ sp, (impl_KeyOk_loops 0) = some sp → LoopOk G21 ⟨0, 23, impl_KeyOk_loops⟩ sp (loopBody Try.f170 0) := by
  intro sp hsp vals st k r h
  cases hsp
  dsimp only at h
  rcases onPats_inv2 h with ⟨p, q, rfl, rfl, h⟩ | h
  · exact loop_runs2 impl_KeyOk_bp0 impl_KeyOk_v0 impl_KeyOk_s0 impl_KeyOk_e0 (fun z => by rcases z with z | z <;> (intro h; cases h)) impl_KeyOk_bx0 Fuel (p.1, p.2.1, p.2.2.1) _ k r (fun z => by rcases z with z | z <;> rfl) h
  cases h

theorem impl_KeyOk_x (a0 : ByteArray) : execFn G21 impl_KeyOk_loops Try.f170 [.str a0] [] = impl_KeyOk_d a0 (fun (y : Bool) => some ⟨.ret, [.bool y], []⟩) := by kernel_rfl

theorem impl_KeyOk_y (a0 : ByteArray) : execFn G21 impl_KeyOk_loops Try.f170 [.str a0] [] = impl_KeyOk_k a0 (fun (y : Bool) => some ⟨.ret, [.bool y], []⟩) := (impl_KeyOk_x a0).trans (by rw [impl_KeyOk_e])

theorem impl_KeyOk_l : LoopsOk G21 ⟨0, 23, impl_KeyOk_loops⟩ (Try.f170.body.getD .skip) :=
  loopsOk_of (ids := [0]) (by kernel_rfl) (by kernel_rfl) ⟨impl_KeyOk_lo0, trivial⟩

theorem impl_KeyOk_c : Contract Try.prog 170 impl_KeyOk_g := by
  refine told G21_ok follows Try.func170 (c := Try.f170.body.getD .skip) (by kernel_rfl) ?_
  intro args s k r hk
  unfold impl_KeyOk_g at hk
  rcases onPats_inv hk with ⟨p, q, rfl, rfl⟩ | hk
  · exact ⟨impl_KeyOk_loops, impl_KeyOk_q p.1, impl_KeyOk_y p.1, impl_KeyOk_l⟩
  cases hk

def G22 : Glob := G21.add 170 impl_KeyOk_g

theorem G22_ok : GlobOk Try.prog G22 := G21_ok.add ⟨Try.f170, Try.func170, by kernel_rfl, by kernel_rfl⟩ impl_KeyOk_c

/-! ### loop.example/g00327/impl.RangeOk -/

def impl_RangeOk_loops : Nat → Option LoopSpec
  | _ => none

theorem impl_RangeOk_x (a0 : ByteArray) (a1 : ByteArray) : execFn G22 impl_RangeOk_loops Try.f130 [.agg [.str a0, .str a1]] [] = impl_RangeOk_d (a0, a1) (fun (y : Bool) => some ⟨.ret, [.bool y], []⟩) := by kernel_rfl

theorem impl_RangeOk_y (a0 : ByteArray) (a1 : ByteArray) : execFn G22 impl_RangeOk_loops Try.f130 [.agg [.str a0, .str a1]] [] = impl_RangeOk_k (a0, a1) (fun (y : Bool) => some ⟨.ret, [.bool y], []⟩) := (impl_RangeOk_x a0 a1).trans (by rw [impl_RangeOk_e])

theorem impl_RangeOk_l : LoopsOk G22 ⟨0, 18, impl_RangeOk_loops⟩ (Try.f130.body.getD .skip) :=
  loopsOk_of (ids := []) (by kernel_rfl) (by kernel_rfl) trivial

theorem impl_RangeOk_c : Contract Try.prog 130 impl_RangeOk_g := by
  refine told G22_ok follows Try.func130 (c := Try.f130.body.getD .skip) (by kernel_rfl) ?_
  intro args s k r hk
  unfold impl_RangeOk_g at hk
  rcases onPats_inv hk with ⟨p, q, rfl, rfl⟩ | hk
  · exact ⟨impl_RangeOk_loops, impl_RangeOk_q p.1.1 p.1.2.1, impl_RangeOk_y p.1.1 p.1.2.1, impl_RangeOk_l⟩
  cases hk

def G23 : Glob := G22.add 130 impl_RangeOk_g

theorem G23_ok : GlobOk Try.prog G23 := G22_ok.add ⟨Try.f130, Try.func130, by kernel_rfl, by kernel_rfl⟩ impl_RangeOk_c

/-! ### loop.example/g00327/impl.WriteOk -/

def impl_WriteOk_loops : Nat → Option LoopSpec
  | _ => none

theorem impl_WriteOk_x (a0 : ByteArray) (a1 : ByteArray) (a2 : Bool) : execFn G23 impl_WriteOk_loops Try.f142 [.agg [.str a0, .str a1, .bool a2]] [] = impl_WriteOk_d (a0, (a1, a2)) (fun (y : Bool) => some ⟨.ret, [.bool y], []⟩) := by kernel_rfl

theorem impl_WriteOk_y (a0 : ByteArray) (a1 : ByteArray) (a2 : Bool) : execFn G23 impl_WriteOk_loops Try.f142 [.agg [.str a0, .str a1, .bool a2]] [] = impl_WriteOk_k (a0, (a1, a2)) (fun (y : Bool) => some ⟨.ret, [.bool y], []⟩) := (impl_WriteOk_x a0 a1 a2).trans (by rw [impl_WriteOk_e])

theorem impl_WriteOk_l : LoopsOk G23 ⟨0, 22, impl_WriteOk_loops⟩ (Try.f142.body.getD .skip) :=
  loopsOk_of (ids := []) (by kernel_rfl) (by kernel_rfl) trivial

theorem impl_WriteOk_c : Contract Try.prog 142 impl_WriteOk_g := by
  refine told G23_ok follows Try.func142 (c := Try.f142.body.getD .skip) (by kernel_rfl) ?_
  intro args s k r hk
  unfold impl_WriteOk_g at hk
  rcases onPats_inv hk with ⟨p, q, rfl, rfl⟩ | hk
  · exact ⟨impl_WriteOk_loops, impl_WriteOk_q p.1.1 p.1.2.1 p.1.2.2.1, impl_WriteOk_y p.1.1 p.1.2.1 p.1.2.2.1, impl_WriteOk_l⟩
  cases hk

def G24 : Glob := G23.add 142 impl_WriteOk_g

theorem G24_ok : GlobOk Try.prog G24 := G23_ok.add ⟨Try.f142, Try.func142, by kernel_rfl, by kernel_rfl⟩ impl_WriteOk_c

/-! ### loop.example/g00327/impl.WritesOk -/

def impl_WritesOk_loops : Nat → Option LoopSpec
  | 0 => some ⟨[0, 2, 5, 6, 7], [], fun vals st k => onPats [.lst tWrite, .bool, .lst tWrite, .int .i64, .int .i64] [] vals st (fun p q => loopK impl_WritesOk_b0 Fuel (p.1, p.2.1, p.2.2.1, p.2.2.2.1, p.2.2.2.2.1) (Sum.elim (fun z => k .ret [.lst tWrite z.1, .bool z.2.1, .lst tWrite z.2.2.1, .int .i64 z.2.2.2.1, .int .i64 z.2.2.2.2] []) (fun z => k (.exit 0) [.lst tWrite z.1, .bool z.2.1, .lst tWrite z.2.2.1, .int .i64 z.2.2.2.1, .int .i64 z.2.2.2.2] [])))
      (none)⟩
  | _ => none

def impl_WritesOk_v0 : ((List dWrite) × Bool × (List dWrite) × Int × Int) → List AV := (fun x => [.lst tWrite x.1, .bool x.2.1, .lst tWrite x.2.2.1, .int .i64 x.2.2.2.1, .int .i64 x.2.2.2.2])
def impl_WritesOk_s0 : ((List dWrite) × Bool × (List dWrite) × Int × Int) → St := (fun x => [])
def impl_WritesOk_e0 : (((List dWrite) × Bool × (List dWrite) × Int × Int) ⊕ ((List dWrite) × Bool × (List dWrite) × Int × Int)) → Out × List AV × St := (Sum.elim (fun z => (.ret, [.lst tWrite z.1, .bool z.2.1, .lst tWrite z.2.2.1, .int .i64 z.2.2.2.1, .int .i64 z.2.2.2.2], [])) (fun z => ((.exit 0), [.lst tWrite z.1, .bool z.2.1, .lst tWrite z.2.2.1, .int .i64 z.2.2.2.1, .int .i64 z.2.2.2.2], [])))

theorem impl_WritesOk_bx0 (x : ((List dWrite) × Bool × (List dWrite) × Int × Int)) : exec G24 ⟨0, 34, impl_WritesOk_loops⟩ (loopBody Try.f169 0) (bodyK ⟨0, 34, impl_WritesOk_loops⟩ [0, 2, 5, 6, 7] []) (setEs (deads 34) [0, 2, 5, 6, 7] (impl_WritesOk_v0 x)) (impl_WritesOk_s0 x) = impl_WritesOk_b0 x (Sum.elim (fun y => some ⟨.norm, impl_WritesOk_v0 y, impl_WritesOk_s0 y⟩) fun z => some ⟨(impl_WritesOk_e0 z).1, (impl_WritesOk_e0 z).2.1, (impl_WritesOk_e0 z).2.2⟩) := by
  kernel_rfl

theorem impl_WritesOk_lo0 : ∀ sp, (impl_WritesOk_loops 0) = some sp → LoopOk G24 ⟨0, 34, impl_WritesOk_loops⟩ sp (loopBody Try.f169 0) := by
  intro sp hsp vals st k r h
  cases hsp
  dsimp only at h
  rcases onPats_inv2 h with ⟨p, q, rfl, rfl, h⟩ | h
  · exact loop_runs2 impl_WritesOk_bp0 impl_WritesOk_v0 impl_WritesOk_s0 impl_WritesOk_e0 (fun z => by rcases z with z | z <;> (intro h; cases h)) impl_WritesOk_bx0 Fuel (p.1, p.2.1, p.2.2.1, p.2.2.2.1, p.2.2.2.2.1) _ k r (fun z => by rcases z with z | z <;> rfl) h
  cases h

theorem impl_WritesOk_x (a0 : (List dWrite)) : execFn G24 impl_WritesOk_loops Try.f169 [.lst tWrite a0] [] = impl_WritesOk_d a0 (fun (y : Bool) => some ⟨.ret, [.bool y], []⟩) := by kernel_rfl

theorem impl_WritesOk_y (a0 : (List dWrite)) : execFn G24 impl_WritesOk_loops Try.f169 [.lst tWrite a0] [] = impl_WritesOk_k a0 (fun (y : Bool) => some ⟨.ret, [.bool y], []⟩) := (impl_WritesOk_x a0).trans (by rw [impl_WritesOk_e])

theorem impl_WritesOk_l : LoopsOk G24 ⟨0, 34, impl_WritesOk_loops⟩ (Try.f169.body.getD .skip) :=
  loopsOk_of (ids := [0]) (by kernel_rfl) (by kernel_rfl) ⟨impl_WritesOk_lo0, trivial⟩

theorem impl_WritesOk_c : Contract Try.prog 169 impl_WritesOk_g := by
  refine told G24_ok follows Try.func169 (c := Try.f169.body.getD .skip) (by kernel_rfl) ?_
  intro args s k r hk
  unfold impl_WritesOk_g at hk
  rcases onPats_inv hk with ⟨p, q, rfl, rfl⟩ | hk
  · exact ⟨impl_WritesOk_loops, impl_WritesOk_q p.1, impl_WritesOk_y p.1, impl_WritesOk_l⟩
  cases hk

def G25 : Glob := G24.add 169 impl_WritesOk_g

theorem G25_ok : GlobOk Try.prog G25 := G24_ok.add ⟨Try.f169, Try.func169, by kernel_rfl, by kernel_rfl⟩ impl_WritesOk_c

/-! ### loop.example/g00327/impl.TxnOk -/

def impl_TxnOk_loops : Nat → Option LoopSpec
  | 5000011 => some ⟨[1, 2], [], fun vals st k => onPats [.bp 0 0, .bool] [.box [.int .i64, .int .i64, .int .i64, .int .i64, .lst tRange, .lst tWrite, .bool, .str]] vals st (fun p q => impl_TxnOk_j5000011 (p.2.1, q.1.1, q.1.2.1, q.1.2.2.1, q.1.2.2.2.1, q.1.2.2.2.2.1, q.1.2.2.2.2.2.1, q.1.2.2.2.2.2.2.1, q.1.2.2.2.2.2.2.2.1) (fun z => k .ret [.bp 0 0, .bool z.1] [.box [.int .i64 z.2.1, .int .i64 z.2.2.1, .int .i64 z.2.2.2.1, .int .i64 z.2.2.2.2.1, .lst tRange z.2.2.2.2.2.1, .lst tWrite z.2.2.2.2.2.2.1, .bool z.2.2.2.2.2.2.2.1, .str z.2.2.2.2.2.2.2.2]]))
      (none)⟩
  | 5000009 => some ⟨[1, 2], [], fun vals st k => onPats [.bp 0 0, .bool] [.box [.int .i64, .int .i64, .int .i64, .int .i64, .lst tRange, .lst tWrite, .bool, .str]] vals st (fun p q => impl_TxnOk_j5000009 (p.2.1, q.1.1, q.1.2.1, q.1.2.2.1, q.1.2.2.2.1, q.1.2.2.2.2.1, q.1.2.2.2.2.2.1, q.1.2.2.2.2.2.2.1, q.1.2.2.2.2.2.2.2.1) (fun z => k .ret [.bp 0 0, .bool z.1] [.box [.int .i64 z.2.1, .int .i64 z.2.2.1, .int .i64 z.2.2.2.1, .int .i64 z.2.2.2.2.1, .lst tRange z.2.2.2.2.2.1, .lst tWrite z.2.2.2.2.2.2.1, .bool z.2.2.2.2.2.2.2.1, .str z.2.2.2.2.2.2.2.2]]))
      (none)⟩
  | 0 => some ⟨[1, 2, 6, 7, 8], [], fun vals st k => onPats [.bp 0 0, .bool, .lst tRange, .int .i64, .int .i64] [.box [.int .i64, .int .i64, .int .i64, .int .i64, .lst tRange, .lst tWrite, .bool, .str]] vals st (fun p q => loopK impl_TxnOk_b0 Fuel (p.2.1, p.2.2.1, p.2.2.2.1, p.2.2.2.2.1, q.1.1, q.1.2.1, q.1.2.2.1, q.1.2.2.2.1, q.1.2.2.2.2.1, q.1.2.2.2.2.2.1, q.1.2.2.2.2.2.2.1, q.1.2.2.2.2.2.2.2.1) (Sum.elim (fun z => k .ret [.bp 0 0, .bool z.1, .lst tRange z.2.1, .int .i64 z.2.2.1, .int .i64 z.2.2.2.1] [.box [.int .i64 z.2.2.2.2.1, .int .i64 z.2.2.2.2.2.1, .int .i64 z.2.2.2.2.2.2.1, .int .i64 z.2.2.2.2.2.2.2.1, .lst tRange z.2.2.2.2.2.2.2.2.1, .lst tWrite z.2.2.2.2.2.2.2.2.2.1, .bool z.2.2.2.2.2.2.2.2.2.2.1, .str z.2.2.2.2.2.2.2.2.2.2.2]]) (fun z => k (.exit 0) [.bp 0 0, .bool z.1, .lst tRange z.2.1, .int .i64 z.2.2.1, .int .i64 z.2.2.2.1] [.box [.int .i64 z.2.2.2.2.1, .int .i64 z.2.2.2.2.2.1, .int .i64 z.2.2.2.2.2.2.1, .int .i64 z.2.2.2.2.2.2.2.1, .lst tRange z.2.2.2.2.2.2.2.2.1, .lst tWrite z.2.2.2.2.2.2.2.2.2.1, .bool z.2.2.2.2.2.2.2.2.2.2.1, .str z.2.2.2.2.2.2.2.2.2.2.2]])))
      (none)⟩
  | _ => none

def impl_TxnOk_jv5000011 : (Bool × Int × Int × Int × Int × (List dRange) × (List dWrite) × Bool × ByteArray) → List AV := (fun x => [.bp 0 0, .bool x.1])
def impl_TxnOk_js5000011 : (Bool × Int × Int × Int × Int × (List dRange) × (List dWrite) × Bool × ByteArray) → St := (fun x => [.box [.int .i64 x.2.1, .int .i64 x.2.2.1, .int .i64 x.2.2.2.1, .int .i64 x.2.2.2.2.1, .lst tRange x.2.2.2.2.2.1, .lst tWrite x.2.2.2.2.2.2.1, .bool x.2.2.2.2.2.2.2.1, .str x.2.2.2.2.2.2.2.2]])
def impl_TxnOk_je5000011 : (Bool × Int × Int × Int × Int × (List dRange) × (List dWrite) × Bool × ByteArray) → Out × List AV × St := (fun z => (.ret, [.bp 0 0, .bool z.1], [.box [.int .i64 z.2.1, .int .i64 z.2.2.1, .int .i64 z.2.2.2.1, .int .i64 z.2.2.2.2.1, .lst tRange z.2.2.2.2.2.1, .lst tWrite z.2.2.2.2.2.2.1, .bool z.2.2.2.2.2.2.2.1, .str z.2.2.2.2.2.2.2.2]]))

theorem impl_TxnOk_jx5000011 (x : (Bool × Int × Int × Int × Int × (List dRange) × (List dWrite) × Bool × ByteArray)) : exec G25 ⟨0, 93, impl_TxnOk_loops⟩ (loopBody Try.f90 5000011) (bodyK ⟨0, 93, impl_TxnOk_loops⟩ [1, 2] []) (setEs (deads 93) [1, 2] (impl_TxnOk_jv5000011 x)) (impl_TxnOk_js5000011 x) = impl_TxnOk_j5000011 x (fun z => some ⟨(impl_TxnOk_je5000011 z).1, (impl_TxnOk_je5000011 z).2.1, (impl_TxnOk_je5000011 z).2.2⟩) := by
  kernel_rfl

theorem impl_TxnOk_lo5000011 : ∀ sp, (impl_TxnOk_loops 5000011) = some sp → CutOk G25 ⟨0, 93, impl_TxnOk_loops⟩ sp (loopBody Try.f90 5000011) := by
  intro sp hsp vals st k r h
  cases hsp
  dsimp only at h
  rcases onPats_inv2 h with ⟨p, q, rfl, rfl, h⟩ | h
  · exact cut_runs impl_TxnOk_jp5000011 impl_TxnOk_jv5000011 impl_TxnOk_js5000011 impl_TxnOk_je5000011 impl_TxnOk_jx5000011 (p.2.1, q.1.1, q.1.2.1, q.1.2.2.1, q.1.2.2.2.1, q.1.2.2.2.2.1, q.1.2.2.2.2.2.1, q.1.2.2.2.2.2.2.1, q.1.2.2.2.2.2.2.2.1) _ k r (fun z => rfl) h
  cases h

def impl_TxnOk_jv5000009 : (Bool × Int × Int × Int × Int × (List dRange) × (List dWrite) × Bool × ByteArray) → List AV := (fun x => [.bp 0 0, .bool x.1])
def impl_TxnOk_js5000009 : (Bool × Int × Int × Int × Int × (List dRange) × (List dWrite) × Bool × ByteArray) → St := (fun x => [.box [.int .i64 x.2.1, .int .i64 x.2.2.1, .int .i64 x.2.2.2.1, .int .i64 x.2.2.2.2.1, .lst tRange x.2.2.2.2.2.1, .lst tWrite x.2.2.2.2.2.2.1, .bool x.2.2.2.2.2.2.2.1, .str x.2.2.2.2.2.2.2.2]])
def impl_TxnOk_je5000009 : (Bool × Int × Int × Int × Int × (List dRange) × (List dWrite) × Bool × ByteArray) → Out × List AV × St := (fun z => (.ret, [.bp 0 0, .bool z.1], [.box [.int .i64 z.2.1, .int .i64 z.2.2.1, .int .i64 z.2.2.2.1, .int .i64 z.2.2.2.2.1, .lst tRange z.2.2.2.2.2.1, .lst tWrite z.2.2.2.2.2.2.1, .bool z.2.2.2.2.2.2.2.1, .str z.2.2.2.2.2.2.2.2]]))

theorem impl_TxnOk_jx5000009 (x : (Bool × Int × Int × Int × Int × (List dRange) × (List dWrite) × Bool × ByteArray)) : exec G25 ⟨0, 93, impl_TxnOk_loops⟩ (loopBody Try.f90 5000009) (bodyK ⟨0, 93, impl_TxnOk_loops⟩ [1, 2] []) (setEs (deads 93) [1, 2] (impl_TxnOk_jv5000009 x)) (impl_TxnOk_js5000009 x) = impl_TxnOk_j5000009 x (fun z => some ⟨(impl_TxnOk_je5000009 z).1, (impl_TxnOk_je5000009 z).2.1, (impl_TxnOk_je5000009 z).2.2⟩) := by
  kernel_rfl

theorem impl_TxnOk_lo5000009 : ∀ sp, (impl_TxnOk_loops 5000009) = some sp → CutOk G25 ⟨0, 93, impl_TxnOk_loops⟩ sp (loopBody Try.f90 5000009) := by
  intro sp hsp vals st k r h
  cases hsp
  dsimp only at h
  rcases onPats_inv2 h with ⟨p, q, rfl, rfl, h⟩ | h
  · exact cut_runs impl_TxnOk_jp5000009 impl_TxnOk_jv5000009 impl_TxnOk_js5000009 impl_TxnOk_je5000009 impl_TxnOk_jx5000009 (p.2.1, q.1.1, q.1.2.1, q.1.2.2.1, q.1.2.2.2.1, q.1.2.2.2.2.1, q.1.2.2.2.2.2.1, q.1.2.2.2.2.2.2.1, q.1.2.2.2.2.2.2.2.1) _ k r (fun z => rfl) h
  cases h

def impl_TxnOk_v0 : (Bool × (List dRange) × Int × Int × Int × Int × Int × Int × (List dRange) × (List dWrite) × Bool × ByteArray) → List AV := (fun x => [.bp 0 0, .bool x.1, .lst tRange x.2.1, .int .i64 x.2.2.1, .int .i64 x.2.2.2.1])
def impl_TxnOk_s0 : (Bool × (List dRange) × Int × Int × Int × Int × Int × Int × (List dRange) × (List dWrite) × Bool × ByteArray) → St := (fun x => [.box [.int .i64 x.2.2.2.2.1, .int .i64 x.2.2.2.2.2.1, .int .i64 x.2.2.2.2.2.2.1, .int .i64 x.2.2.2.2.2.2.2.1, .lst tRange x.2.2.2.2.2.2.2.2.1, .lst tWrite x.2.2.2.2.2.2.2.2.2.1, .bool x.2.2.2.2.2.2.2.2.2.2.1, .str x.2.2.2.2.2.2.2.2.2.2.2]])
def impl_TxnOk_e0 : ((Bool × (List dRange) × Int × Int × Int × Int × Int × Int × (List dRange) × (List dWrite) × Bool × ByteArray) ⊕ (Bool × (List dRange) × Int × Int × Int × Int × Int × Int × (List dRange) × (List dWrite) × Bool × ByteArray)) → Out × List AV × St := (Sum.elim (fun z => (.ret, [.bp 0 0, .bool z.1, .lst tRange z.2.1, .int .i64 z.2.2.1, .int .i64 z.2.2.2.1], [.box [.int .i64 z.2.2.2.2.1, .int .i64 z.2.2.2.2.2.1, .int .i64 z.2.2.2.2.2.2.1, .int .i64 z.2.2.2.2.2.2.2.1, .lst tRange z.2.2.2.2.2.2.2.2.1, .lst tWrite z.2.2.2.2.2.2.2.2.2.1, .bool z.2.2.2.2.2.2.2.2.2.2.1, .str z.2.2.2.2.2.2.2.2.2.2.2]])) (fun z => ((.exit 0), [.bp 0 0, .bool z.1, .lst tRange z.2.1, .int .i64 z.2.2.1, .int .i64 z.2.2.2.1], [.box [.int .i64 z.2.2.2.2.1, .int .i64 z.2.2.2.2.2.1, .int .i64 z.2.2.2.2.2.2.1, .int .i64 z.2.2.2.2.2.2.2.1, .lst tRange z.2.2.2.2.2.2.2.2.1, .lst tWrite z.2.2.2.2.2.2.2.2.2.1, .bool z.2.2.2.2.2.2.2.2.2.2.1, .str z.2.2.2.2.2.2.2.2.2.2.2]])))

theorem impl_TxnOk_bx0 (x : (Bool × (List dRange) × Int × Int × Int × Int × Int × Int × (List dRange) × (List dWrite) × Bool × ByteArray)) : exec G25 ⟨0, 93, impl_TxnOk_loops⟩ (loopBody Try.f90 0) (bodyK ⟨0, 93, impl_TxnOk_loops⟩ [1, 2, 6, 7, 8] []) (setEs (deads 93) [1, 2, 6, 7, 8] (impl_TxnOk_v0 x)) (impl_TxnOk_s0 x) = impl_TxnOk_b0 x (Sum.elim (fun y => some ⟨.norm, impl_TxnOk_v0 y, impl_TxnOk_s0 y⟩) fun z => some ⟨(impl_TxnOk_e0 z).1, (impl_TxnOk_e0 z).2.1, (impl_TxnOk_e0 z).2.2⟩) := by
  kernel_rfl

theorem impl_TxnOk_lo0 : ∀ sp, (impl_TxnOk_loops 0) = some sp → LoopOk G25 ⟨0, 93, impl_TxnOk_loops⟩ sp (loopBody Try.f90 0) := by
  intro sp hsp vals st k r h
  cases hsp
  dsimp only at h
  rcases onPats_inv2 h with ⟨p, q, rfl, rfl, h⟩ | h
  · exact loop_runs2 impl_TxnOk_bp0 impl_TxnOk_v0 impl_TxnOk_s0 impl_TxnOk_e0 (fun z => by rcases z with z | z <;> (intro h; cases h)) impl_TxnOk_bx0 Fuel (p.2.1, p.2.2.1, p.2.2.2.1, p.2.2.2.2.1, q.1.1, q.1.2.1, q.1.2.2.1, q.1.2.2.2.1, q.1.2.2.2.2.1, q.1.2.2.2.2.2.1, q.1.2.2.2.2.2.2.1, q.1.2.2.2.2.2.2.2.1) _ k r (fun z => by rcases z with z | z <;> rfl) h
  cases h

theorem impl_TxnOk_x (a0 : Int) (a1 : Int) (a2 : Int) (a3 : Int) (a4 : (List dRange)) (a5 : (List dWrite)) (a6 : Bool) (a7 : ByteArray) : execFn G25 impl_TxnOk_loops Try.f90 [.agg [.int .i64 a0, .int .i64 a1, .int .i64 a2, .int .i64 a3, .lst tRange a4, .lst tWrite a5, .bool a6, .str a7]] [] = impl_TxnOk_d (a0, (a1, (a2, (a3, (a4, (a5, (a6, a7))))))) (fun (y : Bool) => some ⟨.ret, [.bool y], []⟩) := by kernel_rfl

theorem impl_TxnOk_y (a0 : Int) (a1 : Int) (a2 : Int) (a3 : Int) (a4 : (List dRange)) (a5 : (List dWrite)) (a6 : Bool) (a7 : ByteArray) : execFn G25 impl_TxnOk_loops Try.f90 [.agg [.int .i64 a0, .int .i64 a1, .int .i64 a2, .int .i64 a3, .lst tRange a4, .lst tWrite a5, .bool a6, .str a7]] [] = impl_TxnOk_k (a0, (a1, (a2, (a3, (a4, (a5, (a6, a7))))))) (fun (y : Bool) => some ⟨.ret, [.bool y], []⟩) := (impl_TxnOk_x a0 a1 a2 a3 a4 a5 a6 a7).trans (by rw [impl_TxnOk_e])

theorem impl_TxnOk_l : LoopsOk G25 ⟨0, 93, impl_TxnOk_loops⟩ (Try.f90.body.getD .skip) :=
  loopsOk_of (ids := [5000011, 5000009, 0]) (by kernel_rfl) (by kernel_rfl) ⟨impl_TxnOk_lo5000011, ⟨impl_TxnOk_lo5000009, ⟨impl_TxnOk_lo0, trivial⟩⟩⟩

theorem impl_TxnOk_c : Contract Try.prog 90 impl_TxnOk_g := by
  refine told G25_ok follows Try.func90 (c := Try.f90.body.getD .skip) (by kernel_rfl) ?_
  intro args s k r hk
  unfold impl_TxnOk_g at hk
  rcases onPats_inv hk with ⟨p, q, rfl, rfl⟩ | hk
  · exact ⟨impl_TxnOk_loops, impl_TxnOk_q p.1.1 p.1.2.1 p.1.2.2.1 p.1.2.2.2.1 p.1.2.2.2.2.1 p.1.2.2.2.2.2.1 p.1.2.2.2.2.2.2.1 p.1.2.2.2.2.2.2.2.1, impl_TxnOk_y p.1.1 p.1.2.1 p.1.2.2.1 p.1.2.2.2.1 p.1.2.2.2.2.1 p.1.2.2.2.2.2.1 p.1.2.2.2.2.2.2.1 p.1.2.2.2.2.2.2.2.1, impl_TxnOk_l⟩
  cases hk

def G26 : Glob := G25.add 90 impl_TxnOk_g

theorem G26_ok : GlobOk Try.prog G26 := G25_ok.add ⟨Try.f90, Try.func90, by kernel_rfl, by kernel_rfl⟩ impl_TxnOk_c

/-! ### loop.example/g00327/impl.VarText -/

def impl_VarText_loops : Nat → Option LoopSpec
  | 0 => some ⟨[0, 4], [none, some (.int .u8)], fun vals st k => onPats [.int .i64, .own 0] [.arr (.int .u8)] vals st (fun p q => loopK impl_VarText_b0 Fuel (p.1, q.1) (fun z => k (.exit 0) [.int .i64 z.1, .own 0] [.arr (.int .u8) z.2]))
      (none)⟩
  | _ => none

def impl_VarText_v0 : (Int × (List Int)) → List AV := (fun x => [.int .i64 x.1, .own 0])
def impl_VarText_s0 : (Int × (List Int)) → St := (fun x => [.arr (.int .u8) x.2])
def impl_VarText_e0 : (Int × (List Int)) → Out × List AV × St := (fun z => ((.exit 0), [.int .i64 z.1, .own 0], [.arr (.int .u8) z.2]))

theorem impl_VarText_bx0 (x : (Int × (List Int))) : exec G26 ⟨0, 25, impl_VarText_loops⟩ (loopBody Try.f171 0) (bodyK ⟨0, 25, impl_VarText_loops⟩ [0, 4] [none, some (.int .u8)]) (setEs (deads 25) [0, 4] (impl_VarText_v0 x)) (impl_VarText_s0 x) = impl_VarText_b0 x (Sum.elim (fun y => some ⟨.norm, impl_VarText_v0 y, impl_VarText_s0 y⟩) fun z => some ⟨(impl_VarText_e0 z).1, (impl_VarText_e0 z).2.1, (impl_VarText_e0 z).2.2⟩) := by
  kernel_rfl

theorem impl_VarText_lo0 : ∀ sp, (impl_VarText_loops 0) = some sp → LoopOk G26 ⟨0, 25, impl_VarText_loops⟩ sp (loopBody Try.f171 0) := by
  intro sp hsp vals st k r h
  cases hsp
  dsimp only at h
  rcases onPats_inv2 h with ⟨p, q, rfl, rfl, h⟩ | h
  · exact loop_runs2 impl_VarText_bp0 impl_VarText_v0 impl_VarText_s0 impl_VarText_e0 (fun z => by (intro h; cases h)) impl_VarText_bx0 Fuel (p.1, q.1) _ k r (fun z => rfl) h
  cases h

theorem impl_VarText_x (a0 : Int) : execFn G26 impl_VarText_loops Try.f171 [.int .i64 a0] [] = impl_VarText_d a0 (fun (y : (ByteArray × Bool)) => some ⟨.ret, [.tup [.str y.1, .bool y.2]], []⟩) := by kernel_rfl

theorem impl_VarText_y (a0 : Int) : execFn G26 impl_VarText_loops Try.f171 [.int .i64 a0] [] = impl_VarText_k a0 (fun (y : (ByteArray × Bool)) => some ⟨.ret, [.tup [.str y.1, .bool y.2]], []⟩) := (impl_VarText_x a0).trans (by rw [impl_VarText_e])

theorem impl_VarText_l : LoopsOk G26 ⟨0, 25, impl_VarText_loops⟩ (Try.f171.body.getD .skip) :=
  loopsOk_of (ids := [0]) (by kernel_rfl) (by kernel_rfl) ⟨impl_VarText_lo0, trivial⟩

theorem impl_VarText_c : Contract Try.prog 171 impl_VarText_g := by
  refine told G26_ok follows Try.func171 (c := Try.f171.body.getD .skip) (by kernel_rfl) ?_
  intro args s k r hk
  unfold impl_VarText_g at hk
  rcases onPats_inv hk with ⟨p, q, rfl, rfl⟩ | hk
  · exact ⟨impl_VarText_loops, impl_VarText_q p.1, impl_VarText_y p.1, impl_VarText_l⟩
  cases hk

def G27 : Glob := G26.add 171 impl_VarText_g

theorem G27_ok : GlobOk Try.prog G27 := G26_ok.add ⟨Try.f171, Try.func171, by kernel_rfl, by kernel_rfl⟩ impl_VarText_c

/-! ### (*loop.example/g00327/impl.plan).num -/

def impl_plan_num_loops : Nat → Option LoopSpec
  | 0 => some ⟨[0, 8, 9, 10], [none, none, none, none, some (.int .u8)], fun vals st k => onPats [.bp 0 0, .lst (.int .i64), .int .i64, .int .i64] [.box [.own 1], .arr (.int .u8)] vals st (fun p q => loopK impl_plan_num_b0 Fuel (p.2.1, p.2.2.1, p.2.2.2.1, q.2.1) (fun z => k (.exit 0) [.bp 0 0, .lst (.int .i64) z.1, .int .i64 z.2.1, .int .i64 z.2.2.1] [.box [.own 1], .arr (.int .u8) z.2.2.2]))
      (none)⟩
  | _ => none

def impl_plan_num_v0 : ((List Int) × Int × Int × (List Int)) → List AV := (fun x => [.bp 0 0, .lst (.int .i64) x.1, .int .i64 x.2.1, .int .i64 x.2.2.1])
def impl_plan_num_s0 : ((List Int) × Int × Int × (List Int)) → St := (fun x => [.box [.own 1], .arr (.int .u8) x.2.2.2])
def impl_plan_num_e0 : ((List Int) × Int × Int × (List Int)) → Out × List AV × St := (fun z => ((.exit 0), [.bp 0 0, .lst (.int .i64) z.1, .int .i64 z.2.1, .int .i64 z.2.2.1], [.box [.own 1], .arr (.int .u8) z.2.2.2]))

theorem impl_plan_num_bx0 (x : ((List Int) × Int × Int × (List Int))) : exec G27 ⟨1, 29, impl_plan_num_loops⟩ (loopBody Try.f91 0) (bodyK ⟨1, 29, impl_plan_num_loops⟩ [0, 8, 9, 10] [none, none, none, none, some (.int .u8)]) (setEs (deads 29) [0, 8, 9, 10] (impl_plan_num_v0 x)) (impl_plan_num_s0 x) = impl_plan_num_b0 x (Sum.elim (fun y => some ⟨.norm, impl_plan_num_v0 y, impl_plan_num_s0 y⟩) fun z => some ⟨(impl_plan_num_e0 z).1, (impl_plan_num_e0 z).2.1, (impl_plan_num_e0 z).2.2⟩) := by
  kernel_rfl

theorem impl_plan_num_lo0 : ∀ sp, (impl_plan_num_loops 0) = some sp → LoopOk G27 ⟨1, 29, impl_plan_num_loops⟩ sp (loopBody Try.f91 0) := by
  intro sp hsp vals st k r h
  cases hsp
  dsimp only at h
  rcases onPats_inv2 h with ⟨p, q, rfl, rfl, h⟩ | h
  · exact loop_runs2 impl_plan_num_bp0 impl_plan_num_v0 impl_plan_num_s0 impl_plan_num_e0 (fun z => by (intro h; cases h)) impl_plan_num_bx0 Fuel (p.2.1, p.2.2.1, p.2.2.2.1, q.2.1) _ k r (fun z => rfl) h
  cases h

theorem impl_plan_num_x (a0 : (List Int)) : execFn G27 impl_plan_num_loops Try.f91 [.bp 0 0, .lst (.int .i64) a0] [.box [.nilS]] = impl_plan_num_d a0 (fun (y : (List Int)) => some ⟨.ret, [.tup []], [.box [.own 1], .arr (.int .u8) y]⟩) := by kernel_rfl

theorem impl_plan_num_y (a0 : (List Int)) : execFn G27 impl_plan_num_loops Try.f91 [.bp 0 0, .lst (.int .i64) a0] [.box [.nilS]] = impl_plan_num_k a0 (fun (y : (List Int)) => some ⟨.ret, [.tup []], [.box [.own 1], .arr (.int .u8) y]⟩) := (impl_plan_num_x a0).trans (by rw [impl_plan_num_e])

theorem impl_plan_num_l : LoopsOk G27 ⟨1, 29, impl_plan_num_loops⟩ (Try.f91.body.getD .skip) :=
  loopsOk_of (ids := [0]) (by kernel_rfl) (by kernel_rfl) ⟨impl_plan_num_lo0, trivial⟩

def impl_plan_num_61bd_loops : Nat → Option LoopSpec
  | 0 => some ⟨[0, 8, 9, 10], [], fun vals st k => onPats [.bp 0 0, .lst (.int .i64), .int .i64, .int .i64] [.box [.own 1], .arr (.int .u8)] vals st (fun p q => loopK impl_plan_num_61bd_b0 Fuel (.inl (p.2.1, p.2.2.1, p.2.2.2.1, q.2.1)) (Sum.elim (fun z => k (.exit 0) [.bp 0 0, .lst (.int .i64) z.1, .int .i64 z.2.1, .int .i64 z.2.2.1] [.box [.own 1], .arr (.int .u8) z.2.2.2]) (fun z => k (.exit 0) [.bp 0 0, .lst (.int .i64) z.1, .int .i64 z.2.1, .int .i64 z.2.2.1] [.box [.own 2], .gone, .arr (.int .u8) z.2.2.2])))
      (onPats [.bp 0 0, .lst (.int .i64), .int .i64, .int .i64] [.box [.own 2], .gone, .arr (.int .u8)] vals st (fun p q => loopK impl_plan_num_61bd_b0 Fuel (.inr (p.2.1, p.2.2.1, p.2.2.2.1, q.2.2.1)) (Sum.elim (fun z => k (.exit 0) [.bp 0 0, .lst (.int .i64) z.1, .int .i64 z.2.1, .int .i64 z.2.2.1] [.box [.own 1], .arr (.int .u8) z.2.2.2]) (fun z => k (.exit 0) [.bp 0 0, .lst (.int .i64) z.1, .int .i64 z.2.1, .int .i64 z.2.2.1] [.box [.own 2], .gone, .arr (.int .u8) z.2.2.2])))
      (none))⟩
  | _ => none

def impl_plan_num_61bd_v0 : (((List Int) × Int × Int × (List Int)) ⊕ ((List Int) × Int × Int × (List Int))) → List AV := (Sum.elim (fun x => [.bp 0 0, .lst (.int .i64) x.1, .int .i64 x.2.1, .int .i64 x.2.2.1]) (fun x => [.bp 0 0, .lst (.int .i64) x.1, .int .i64 x.2.1, .int .i64 x.2.2.1]))
def impl_plan_num_61bd_s0 : (((List Int) × Int × Int × (List Int)) ⊕ ((List Int) × Int × Int × (List Int))) → St := (Sum.elim (fun x => [.box [.own 1], .arr (.int .u8) x.2.2.2]) (fun x => [.box [.own 2], .gone, .arr (.int .u8) x.2.2.2]))
def impl_plan_num_61bd_e0 : (((List Int) × Int × Int × (List Int)) ⊕ ((List Int) × Int × Int × (List Int))) → Out × List AV × St := (Sum.elim (fun z => ((.exit 0), [.bp 0 0, .lst (.int .i64) z.1, .int .i64 z.2.1, .int .i64 z.2.2.1], [.box [.own 1], .arr (.int .u8) z.2.2.2])) (fun z => ((.exit 0), [.bp 0 0, .lst (.int .i64) z.1, .int .i64 z.2.1, .int .i64 z.2.2.1], [.box [.own 2], .gone, .arr (.int .u8) z.2.2.2])))

theorem impl_plan_num_61bd_bx0 (x : (((List Int) × Int × Int × (List Int)) ⊕ ((List Int) × Int × Int × (List Int)))) : exec G27 ⟨2, 29, impl_plan_num_61bd_loops⟩ (loopBody Try.f91 0) (bodyK ⟨2, 29, impl_plan_num_61bd_loops⟩ [0, 8, 9, 10] []) (setEs (deads 29) [0, 8, 9, 10] (impl_plan_num_61bd_v0 x)) (impl_plan_num_61bd_s0 x) = impl_plan_num_61bd_b0 x (Sum.elim (fun y => some ⟨.norm, impl_plan_num_61bd_v0 y, impl_plan_num_61bd_s0 y⟩) fun z => some ⟨(impl_plan_num_61bd_e0 z).1, (impl_plan_num_61bd_e0 z).2.1, (impl_plan_num_61bd_e0 z).2.2⟩) := by
  rcases x with x | x <;> kernel_rfl

theorem impl_plan_num_61bd_lo0 : ∀ sp, (impl_plan_num_61bd_loops 0) = some sp → LoopOk G27 ⟨2, 29, impl_plan_num_61bd_loops⟩ sp (loopBody Try.f91 0) := by
  intro sp hsp vals st k r h
  cases hsp
  dsimp only at h
  rcases onPats_inv2 h with ⟨p, q, rfl, rfl, h⟩ | h
  · exact loop_runs2 impl_plan_num_61bd_bp0 impl_plan_num_61bd_v0 impl_plan_num_61bd_s0 impl_plan_num_61bd_e0 (fun z => by rcases z with z | z <;> (intro h; cases h)) impl_plan_num_61bd_bx0 Fuel (.inl (p.2.1, p.2.2.1, p.2.2.2.1, q.2.1)) _ k r (fun z => by rcases z with z | z <;> rfl) h
  rcases onPats_inv2 h with ⟨p, q, rfl, rfl, h⟩ | h
  · exact loop_runs2 impl_plan_num_61bd_bp0 impl_plan_num_61bd_v0 impl_plan_num_61bd_s0 impl_plan_num_61bd_e0 (fun z => by rcases z with z | z <;> (intro h; cases h)) impl_plan_num_61bd_bx0 Fuel (.inr (p.2.1, p.2.2.1, p.2.2.2.1, q.2.2.1)) _ k r (fun z => by rcases z with z | z <;> rfl) h
  cases h

theorem impl_plan_num_61bd_x (a0 : (List Int)) (a1 : (List Int)) : execFn G27 impl_plan_num_61bd_loops Try.f91 [.bp 0 0, .lst (.int .i64) a0] [.box [.own 1], .arr (.int .u8) a1] = impl_plan_num_61bd_d a0 a1 (Sum.elim (fun (y : (List Int)) => some ⟨.ret, [.tup []], [.box [.own 1], .arr (.int .u8) y]⟩) (fun (y : (List Int)) => some ⟨.ret, [.tup []], [.box [.own 2], .gone, .arr (.int .u8) y]⟩)) := by kernel_rfl

theorem impl_plan_num_61bd_y (a0 : (List Int)) (a1 : (List Int)) : execFn G27 impl_plan_num_61bd_loops Try.f91 [.bp 0 0, .lst (.int .i64) a0] [.box [.own 1], .arr (.int .u8) a1] = impl_plan_num_61bd_k a0 a1 (Sum.elim (fun (y : (List Int)) => some ⟨.ret, [.tup []], [.box [.own 1], .arr (.int .u8) y]⟩) (fun (y : (List Int)) => some ⟨.ret, [.tup []], [.box [.own 2], .gone, .arr (.int .u8) y]⟩)) := (impl_plan_num_61bd_x a0 a1).trans (by rw [impl_plan_num_61bd_e])

theorem impl_plan_num_61bd_l : LoopsOk G27 ⟨2, 29, impl_plan_num_61bd_loops⟩ (Try.f91.body.getD .skip) :=
  loopsOk_of (ids := [0]) (by kernel_rfl) (by kernel_rfl) ⟨impl_plan_num_61bd_lo0, trivial⟩

theorem impl_plan_num_c : Contract Try.prog 91 impl_plan_num_g := by
  refine told G27_ok follows Try.func91 (c := Try.f91.body.getD .skip) (by kernel_rfl) ?_
  intro args s k r hk
  unfold impl_plan_num_g at hk
  rcases onPats_inv hk with ⟨p, q, rfl, rfl⟩ | hk
  · exact ⟨impl_plan_num_loops, impl_plan_num_q p.2.1, impl_plan_num_y p.2.1, impl_plan_num_l⟩
  rcases onPats_inv hk with ⟨p, q, rfl, rfl⟩ | hk
  · exact ⟨impl_plan_num_61bd_loops, impl_plan_num_61bd_q p.2.1 q.2.1, impl_plan_num_61bd_y p.2.1 q.2.1, impl_plan_num_61bd_l⟩
  cases hk

def G28 : Glob := G27.add 91 impl_plan_num_g

theorem G28_ok : GlobOk Try.prog G28 := G27_ok.add ⟨Try.f91, Try.func91, by kernel_rfl, by kernel_rfl⟩ impl_plan_num_c

/-! ### loop.example/g00327/impl.ShortText -/

def impl_ShortText_loops : Nat → Option LoopSpec
  | _ => none

theorem impl_ShortText_x (a0 : ByteArray) : execFn G28 impl_ShortText_loops Try.f172 [.str a0] [] = impl_ShortText_d a0 (fun (y : (ByteArray × Bool)) => some ⟨.ret, [.tup [.str y.1, .bool y.2]], []⟩) := by kernel_rfl

theorem impl_ShortText_y (a0 : ByteArray) : execFn G28 impl_ShortText_loops Try.f172 [.str a0] [] = impl_ShortText_k a0 (fun (y : (ByteArray × Bool)) => some ⟨.ret, [.tup [.str y.1, .bool y.2]], []⟩) := (impl_ShortText_x a0).trans (by rw [impl_ShortText_e])

theorem impl_ShortText_l : LoopsOk G28 ⟨0, 18, impl_ShortText_loops⟩ (Try.f172.body.getD .skip) :=
  loopsOk_of (ids := []) (by kernel_rfl) (by kernel_rfl) trivial

theorem impl_ShortText_c : Contract Try.prog 172 impl_ShortText_g := by
  refine told G28_ok follows Try.func172 (c := Try.f172.body.getD .skip) (by kernel_rfl) ?_
  intro args s k r hk
  unfold impl_ShortText_g at hk
  rcases onPats_inv hk with ⟨p, q, rfl, rfl⟩ | hk
  · exact ⟨impl_ShortText_loops, impl_ShortText_q p.1, impl_ShortText_y p.1, impl_ShortText_l⟩
  cases hk

def G29 : Glob := G28.add 172 impl_ShortText_g

theorem G29_ok : GlobOk Try.prog G29 := G28_ok.add ⟨Try.f172, Try.func172, by kernel_rfl, by kernel_rfl⟩ impl_ShortText_c

/-! ### (*loop.example/g00327/impl.plan).text -/

def impl_plan_text_loops : Nat → Option LoopSpec
  | 0 => some ⟨[0, 8, 9, 10], [], fun vals st k => onPats [.bp 0 0, .lst .str, .int .i64, .int .i64] [.box [.own 1], .arr (.int .u8)] vals st (fun p q => loopK impl_plan_text_b0 Fuel (.inl (p.2.1, p.2.2.1, p.2.2.2.1, q.2.1)) (Sum.elim (fun z => k (.exit 0) [.bp 0 0, .lst .str z.1, .int .i64 z.2.1, .int .i64 z.2.2.1] [.box [.own 1], .arr (.int .u8) z.2.2.2]) (fun z => k (.exit 0) [.bp 0 0, .lst .str z.1, .int .i64 z.2.1, .int .i64 z.2.2.1] [.box [.own 2], .gone, .arr (.int .u8) z.2.2.2])))
      (onPats [.bp 0 0, .lst .str, .int .i64, .int .i64] [.box [.own 2], .gone, .arr (.int .u8)] vals st (fun p q => loopK impl_plan_text_b0 Fuel (.inr (p.2.1, p.2.2.1, p.2.2.2.1, q.2.2.1)) (Sum.elim (fun z => k (.exit 0) [.bp 0 0, .lst .str z.1, .int .i64 z.2.1, .int .i64 z.2.2.1] [.box [.own 1], .arr (.int .u8) z.2.2.2]) (fun z => k (.exit 0) [.bp 0 0, .lst .str z.1, .int .i64 z.2.1, .int .i64 z.2.2.1] [.box [.own 2], .gone, .arr (.int .u8) z.2.2.2])))
      (none))⟩
  | _ => none

def impl_plan_text_v0 : (((List ByteArray) × Int × Int × (List Int)) ⊕ ((List ByteArray) × Int × Int × (List Int))) → List AV := (Sum.elim (fun x => [.bp 0 0, .lst .str x.1, .int .i64 x.2.1, .int .i64 x.2.2.1]) (fun x => [.bp 0 0, .lst .str x.1, .int .i64 x.2.1, .int .i64 x.2.2.1]))
def impl_plan_text_s0 : (((List ByteArray) × Int × Int × (List Int)) ⊕ ((List ByteArray) × Int × Int × (List Int))) → St := (Sum.elim (fun x => [.box [.own 1], .arr (.int .u8) x.2.2.2]) (fun x => [.box [.own 2], .gone, .arr (.int .u8) x.2.2.2]))
def impl_plan_text_e0 : (((List ByteArray) × Int × Int × (List Int)) ⊕ ((List ByteArray) × Int × Int × (List Int))) → Out × List AV × St := (Sum.elim (fun z => ((.exit 0), [.bp 0 0, .lst .str z.1, .int .i64 z.2.1, .int .i64 z.2.2.1], [.box [.own 1], .arr (.int .u8) z.2.2.2])) (fun z => ((.exit 0), [.bp 0 0, .lst .str z.1, .int .i64 z.2.1, .int .i64 z.2.2.1], [.box [.own 2], .gone, .arr (.int .u8) z.2.2.2])))

theorem impl_plan_text_bx0 (x : (((List ByteArray) × Int × Int × (List Int)) ⊕ ((List ByteArray) × Int × Int × (List Int)))) : exec G29 ⟨2, 29, impl_plan_text_loops⟩ (loopBody Try.f92 0) (bodyK ⟨2, 29, impl_plan_text_loops⟩ [0, 8, 9, 10] []) (setEs (deads 29) [0, 8, 9, 10] (impl_plan_text_v0 x)) (impl_plan_text_s0 x) = impl_plan_text_b0 x (Sum.elim (fun y => some ⟨.norm, impl_plan_text_v0 y, impl_plan_text_s0 y⟩) fun z => some ⟨(impl_plan_text_e0 z).1, (impl_plan_text_e0 z).2.1, (impl_plan_text_e0 z).2.2⟩) := by
  rcases x with x | x <;> kernel_rfl

theorem impl_plan_text_lo0 : ∀ sp, (impl_plan_text_loops 0) = some sp → LoopOk G29 ⟨2, 29, impl_plan_text_loops⟩ sp (loopBody Try.f92 0) := by
  intro sp hsp vals st k r h
  cases hsp
  dsimp only at h
  rcases onPats_inv2 h with ⟨p, q, rfl, rfl, h⟩ | h
  · exact loop_runs2 impl_plan_text_bp0 impl_plan_text_v0 impl_plan_text_s0 impl_plan_text_e0 (fun z => by rcases z with z | z <;> (intro h; cases h)) impl_plan_text_bx0 Fuel (.inl (p.2.1, p.2.2.1, p.2.2.2.1, q.2.1)) _ k r (fun z => by rcases z with z | z <;> rfl) h
  rcases onPats_inv2 h with ⟨p, q, rfl, rfl, h⟩ | h
  · exact loop_runs2 impl_plan_text_bp0 impl_plan_text_v0 impl_plan_text_s0 impl_plan_text_e0 (fun z => by rcases z with z | z <;> (intro h; cases h)) impl_plan_text_bx0 Fuel (.inr (p.2.1, p.2.2.1, p.2.2.2.1, q.2.2.1)) _ k r (fun z => by rcases z with z | z <;> rfl) h
  cases h

theorem impl_plan_text_x (a0 : (List ByteArray)) (a1 : (List Int)) : execFn G29 impl_plan_text_loops Try.f92 [.bp 0 0, .lst .str a0] [.box [.own 1], .arr (.int .u8) a1] = impl_plan_text_d a0 a1 (Sum.elim (fun (y : (List Int)) => some ⟨.ret, [.tup []], [.box [.own 1], .arr (.int .u8) y]⟩) (fun (y : (List Int)) => some ⟨.ret, [.tup []], [.box [.own 2], .gone, .arr (.int .u8) y]⟩)) := by kernel_rfl

theorem impl_plan_text_y (a0 : (List ByteArray)) (a1 : (List Int)) : execFn G29 impl_plan_text_loops Try.f92 [.bp 0 0, .lst .str a0] [.box [.own 1], .arr (.int .u8) a1] = impl_plan_text_k a0 a1 (Sum.elim (fun (y : (List Int)) => some ⟨.ret, [.tup []], [.box [.own 1], .arr (.int .u8) y]⟩) (fun (y : (List Int)) => some ⟨.ret, [.tup []], [.box [.own 2], .gone, .arr (.int .u8) y]⟩)) := (impl_plan_text_x a0 a1).trans (by rw [impl_plan_text_e])

theorem impl_plan_text_l : LoopsOk G29 ⟨2, 29, impl_plan_text_loops⟩ (Try.f92.body.getD .skip) :=
  loopsOk_of (ids := [0]) (by kernel_rfl) (by kernel_rfl) ⟨impl_plan_text_lo0, trivial⟩

theorem impl_plan_text_c : Contract Try.prog 92 impl_plan_text_g := by
  refine told G29_ok follows Try.func92 (c := Try.f92.body.getD .skip) (by kernel_rfl) ?_
  intro args s k r hk
  unfold impl_plan_text_g at hk
  rcases onPats_inv hk with ⟨p, q, rfl, rfl⟩ | hk
  · exact ⟨impl_plan_text_loops, impl_plan_text_q p.2.1 q.2.1, impl_plan_text_y p.2.1 q.2.1, impl_plan_text_l⟩
  cases hk

def G30 : Glob := G29.add 92 impl_plan_text_g

theorem G30_ok : GlobOk Try.prog G30 := G29_ok.add ⟨Try.f92, Try.func92, by kernel_rfl, by kernel_rfl⟩ impl_plan_text_c

/-! ### (*loop.example/g00327/impl.plan).flag -/

def impl_plan_flag_loops : Nat → Option LoopSpec
  | 5000003 => some ⟨[0, 4], [], fun vals st k => onPats [.bp 0 0, .int .u8] [.box [.own 1], .arr (.int .u8)] vals st (fun p q => impl_plan_flag_j5000003 (p.2.1, q.2.1) (fun z => k .norm [.bp 0 0, .int .u8 z.1] [.box [.own 2], .gone, .arr (.int .u8) z.2]))
      (none)⟩
  | _ => none

def impl_plan_flag_jv5000003 : (Int × (List Int)) → List AV := (fun x => [.bp 0 0, .int .u8 x.1])
def impl_plan_flag_js5000003 : (Int × (List Int)) → St := (fun x => [.box [.own 1], .arr (.int .u8) x.2])
def impl_plan_flag_je5000003 : (Int × (List Int)) → Out × List AV × St := (fun z => (.norm, [.bp 0 0, .int .u8 z.1], [.box [.own 2], .gone, .arr (.int .u8) z.2]))

theorem impl_plan_flag_jx5000003 (x : (Int × (List Int))) : exec G30 ⟨2, 16, impl_plan_flag_loops⟩ (loopBody Try.f93 5000003) (bodyK ⟨2, 16, impl_plan_flag_loops⟩ [0, 4] []) (setEs (deads 16) [0, 4] (impl_plan_flag_jv5000003 x)) (impl_plan_flag_js5000003 x) = impl_plan_flag_j5000003 x (fun z => some ⟨(impl_plan_flag_je5000003 z).1, (impl_plan_flag_je5000003 z).2.1, (impl_plan_flag_je5000003 z).2.2⟩) := by
  kernel_rfl

theorem impl_plan_flag_lo5000003 : ∀ sp, (impl_plan_flag_loops 5000003) = some sp → CutOk G30 ⟨2, 16, impl_plan_flag_loops⟩ sp (loopBody Try.f93 5000003) := by
  intro sp hsp vals st k r h
  cases hsp
  dsimp only at h
  rcases onPats_inv2 h with ⟨p, q, rfl, rfl, h⟩ | h
  · exact cut_runs impl_plan_flag_jp5000003 impl_plan_flag_jv5000003 impl_plan_flag_js5000003 impl_plan_flag_je5000003 impl_plan_flag_jx5000003 (p.2.1, q.2.1) _ k r (fun z => rfl) h
  cases h

theorem impl_plan_flag_x (a0 : Bool) (a1 : (List Int)) : execFn G30 impl_plan_flag_loops Try.f93 [.bp 0 0, .bool a0] [.box [.own 1], .arr (.int .u8) a1] = impl_plan_flag_d a0 a1 (fun (y : (List Int)) => some ⟨.ret, [.tup []], [.box [.own 2], .gone, .arr (.int .u8) y]⟩) := by kernel_rfl

theorem impl_plan_flag_y (a0 : Bool) (a1 : (List Int)) : execFn G30 impl_plan_flag_loops Try.f93 [.bp 0 0, .bool a0] [.box [.own 1], .arr (.int .u8) a1] = impl_plan_flag_k a0 a1 (fun (y : (List Int)) => some ⟨.ret, [.tup []], [.box [.own 2], .gone, .arr (.int .u8) y]⟩) := (impl_plan_flag_x a0 a1).trans (by rw [impl_plan_flag_e])

theorem impl_plan_flag_l : LoopsOk G30 ⟨2, 16, impl_plan_flag_loops⟩ (Try.f93.body.getD .skip) :=
  loopsOk_of (ids := [5000003]) (by kernel_rfl) (by kernel_rfl) ⟨impl_plan_flag_lo5000003, trivial⟩

theorem impl_plan_flag_c : Contract Try.prog 93 impl_plan_flag_g := by
  refine told G30_ok follows Try.func93 (c := Try.f93.body.getD .skip) (by kernel_rfl) ?_
  intro args s k r hk
  unfold impl_plan_flag_g at hk
  rcases onPats_inv hk with ⟨p, q, rfl, rfl⟩ | hk
  · exact ⟨impl_plan_flag_loops, impl_plan_flag_q p.2.1 q.2.1, impl_plan_flag_y p.2.1 q.2.1, impl_plan_flag_l⟩
  cases hk

def G31 : Glob := G30.add 93 impl_plan_flag_g

theorem G31_ok : GlobOk Try.prog G31 := G30_ok.add ⟨Try.f93, Try.func93, by kernel_rfl, by kernel_rfl⟩ impl_plan_flag_c

/-! ### loop.example/g00327/impl.TxnText -/

def impl_TxnText_loops : Nat → Option LoopSpec
  | 0 => some ⟨[1, 4, 29, 30, 31], [], fun vals st k => onPats [.bp 0 0, .bp 1 0, .lst tRange, .int .i64, .int .i64] [.box [.int .i64, .int .i64, .int .i64, .int .i64, .lst tRange, .lst tWrite, .bool, .str], .box [.own 2], .arr (.int .u8)] vals st (fun p q => loopK impl_TxnText_b0 Fuel (p.2.2.1, p.2.2.2.1, p.2.2.2.2.1, q.1.1, q.1.2.1, q.1.2.2.1, q.1.2.2.2.1, q.1.2.2.2.2.1, q.1.2.2.2.2.2.1, q.1.2.2.2.2.2.2.1, q.1.2.2.2.2.2.2.2.1, q.2.2.1) (fun z => k (.exit 0) [.bp 0 0, .bp 1 0, .lst tRange z.1, .int .i64 z.2.1, .int .i64 z.2.2.1] [.box [.int .i64 z.2.2.2.1, .int .i64 z.2.2.2.2.1, .int .i64 z.2.2.2.2.2.1, .int .i64 z.2.2.2.2.2.2.1, .lst tRange z.2.2.2.2.2.2.2.1, .lst tWrite z.2.2.2.2.2.2.2.2.1, .bool z.2.2.2.2.2.2.2.2.2.1, .str z.2.2.2.2.2.2.2.2.2.2.1], .box [.own 2], .arr (.int .u8) z.2.2.2.2.2.2.2.2.2.2.2]))
      (none)⟩
  | 2 => some ⟨[1, 4, 50, 51, 52], [], fun vals st k => onPats [.bp 0 0, .bp 1 0, .lst tWrite, .int .i64, .int .i64] [.box [.int .i64, .int .i64, .int .i64, .int .i64, .lst tRange, .lst tWrite, .bool, .str], .box [.own 2], .arr (.int .u8)] vals st (fun p q => loopK impl_TxnText_b2 Fuel (p.2.2.1, p.2.2.2.1, p.2.2.2.2.1, q.1.1, q.1.2.1, q.1.2.2.1, q.1.2.2.2.1, q.1.2.2.2.2.1, q.1.2.2.2.2.2.1, q.1.2.2.2.2.2.2.1, q.1.2.2.2.2.2.2.2.1, q.2.2.1) (fun z => k (.exit 2) [.bp 0 0, .bp 1 0, .lst tWrite z.1, .int .i64 z.2.1, .int .i64 z.2.2.1] [.box [.int .i64 z.2.2.2.1, .int .i64 z.2.2.2.2.1, .int .i64 z.2.2.2.2.2.1, .int .i64 z.2.2.2.2.2.2.1, .lst tRange z.2.2.2.2.2.2.2.1, .lst tWrite z.2.2.2.2.2.2.2.2.1, .bool z.2.2.2.2.2.2.2.2.2.1, .str z.2.2.2.2.2.2.2.2.2.2.1], .box [.own 2], .arr (.int .u8) z.2.2.2.2.2.2.2.2.2.2.2]))
      (none)⟩
  | _ => none

def impl_TxnText_v0 : ((List dRange) × Int × Int × Int × Int × Int × Int × (List dRange) × (List dWrite) × Bool × ByteArray × (List Int)) → List AV := (fun x => [.bp 0 0, .bp 1 0, .lst tRange x.1, .int .i64 x.2.1, .int .i64 x.2.2.1])
def impl_TxnText_s0 : ((List dRange) × Int × Int × Int × Int × Int × Int × (List dRange) × (List dWrite) × Bool × ByteArray × (List Int)) → St := (fun x => [.box [.int .i64 x.2.2.2.1, .int .i64 x.2.2.2.2.1, .int .i64 x.2.2.2.2.2.1, .int .i64 x.2.2.2.2.2.2.1, .lst tRange x.2.2.2.2.2.2.2.1, .lst tWrite x.2.2.2.2.2.2.2.2.1, .bool x.2.2.2.2.2.2.2.2.2.1, .str x.2.2.2.2.2.2.2.2.2.2.1], .box [.own 2], .arr (.int .u8) x.2.2.2.2.2.2.2.2.2.2.2])
def impl_TxnText_e0 : ((List dRange) × Int × Int × Int × Int × Int × Int × (List dRange) × (List dWrite) × Bool × ByteArray × (List Int)) → Out × List AV × St := (fun z => ((.exit 0), [.bp 0 0, .bp 1 0, .lst tRange z.1, .int .i64 z.2.1, .int .i64 z.2.2.1], [.box [.int .i64 z.2.2.2.1, .int .i64 z.2.2.2.2.1, .int .i64 z.2.2.2.2.2.1, .int .i64 z.2.2.2.2.2.2.1, .lst tRange z.2.2.2.2.2.2.2.1, .lst tWrite z.2.2.2.2.2.2.2.2.1, .bool z.2.2.2.2.2.2.2.2.2.1, .str z.2.2.2.2.2.2.2.2.2.2.1], .box [.own 2], .arr (.int .u8) z.2.2.2.2.2.2.2.2.2.2.2]))

theorem impl_TxnText_bx0 (x : ((List dRange) × Int × Int × Int × Int × Int × Int × (List dRange) × (List dWrite) × Bool × ByteArray × (List Int))) : exec G31 ⟨0, 82, impl_TxnText_loops⟩ (loopBody Try.f23 0) (bodyK ⟨0, 82, impl_TxnText_loops⟩ [1, 4, 29, 30, 31] []) (setEs (deads 82) [1, 4, 29, 30, 31] (impl_TxnText_v0 x)) (impl_TxnText_s0 x) = impl_TxnText_b0 x (Sum.elim (fun y => some ⟨.norm, impl_TxnText_v0 y, impl_TxnText_s0 y⟩) fun z => some ⟨(impl_TxnText_e0 z).1, (impl_TxnText_e0 z).2.1, (impl_TxnText_e0 z).2.2⟩) := by
  kernel_rfl

theorem impl_TxnText_lo0 : ∀ sp, (impl_TxnText_loops 0) = some sp → LoopOk G31 ⟨0, 82, impl_TxnText_loops⟩ sp (loopBody Try.f23 0) := by
  intro sp hsp vals st k r h
  cases hsp
  dsimp only at h
  rcases onPats_inv2 h with ⟨p, q, rfl, rfl, h⟩ | h
  · exact loop_runs2 impl_TxnText_bp0 impl_TxnText_v0 impl_TxnText_s0 impl_TxnText_e0 (fun z => by (intro h; cases h)) impl_TxnText_bx0 Fuel (p.2.2.1, p.2.2.2.1, p.2.2.2.2.1, q.1.1, q.1.2.1, q.1.2.2.1, q.1.2.2.2.1, q.1.2.2.2.2.1, q.1.2.2.2.2.2.1, q.1.2.2.2.2.2.2.1, q.1.2.2.2.2.2.2.2.1, q.2.2.1) _ k r (fun z => rfl) h
  cases h

def impl_TxnText_v2 : ((List dWrite) × Int × Int × Int × Int × Int × Int × (List dRange) × (List dWrite) × Bool × ByteArray × (List Int)) → List AV := (fun x => [.bp 0 0, .bp 1 0, .lst tWrite x.1, .int .i64 x.2.1, .int .i64 x.2.2.1])
def impl_TxnText_s2 : ((List dWrite) × Int × Int × Int × Int × Int × Int × (List dRange) × (List dWrite) × Bool × ByteArray × (List Int)) → St := (fun x => [.box [.int .i64 x.2.2.2.1, .int .i64 x.2.2.2.2.1, .int .i64 x.2.2.2.2.2.1, .int .i64 x.2.2.2.2.2.2.1, .lst tRange x.2.2.2.2.2.2.2.1, .lst tWrite x.2.2.2.2.2.2.2.2.1, .bool x.2.2.2.2.2.2.2.2.2.1, .str x.2.2.2.2.2.2.2.2.2.2.1], .box [.own 2], .arr (.int .u8) x.2.2.2.2.2.2.2.2.2.2.2])
def impl_TxnText_e2 : ((List dWrite) × Int × Int × Int × Int × Int × Int × (List dRange) × (List dWrite) × Bool × ByteArray × (List Int)) → Out × List AV × St := (fun z => ((.exit 2), [.bp 0 0, .bp 1 0, .lst tWrite z.1, .int .i64 z.2.1, .int .i64 z.2.2.1], [.box [.int .i64 z.2.2.2.1, .int .i64 z.2.2.2.2.1, .int .i64 z.2.2.2.2.2.1, .int .i64 z.2.2.2.2.2.2.1, .lst tRange z.2.2.2.2.2.2.2.1, .lst tWrite z.2.2.2.2.2.2.2.2.1, .bool z.2.2.2.2.2.2.2.2.2.1, .str z.2.2.2.2.2.2.2.2.2.2.1], .box [.own 2], .arr (.int .u8) z.2.2.2.2.2.2.2.2.2.2.2]))

theorem impl_TxnText_bx2 (x : ((List dWrite) × Int × Int × Int × Int × Int × Int × (List dRange) × (List dWrite) × Bool × ByteArray × (List Int))) : exec G31 ⟨0, 82, impl_TxnText_loops⟩ (loopBody Try.f23 2) (bodyK ⟨0, 82, impl_TxnText_loops⟩ [1, 4, 50, 51, 52] []) (setEs (deads 82) [1, 4, 50, 51, 52] (impl_TxnText_v2 x)) (impl_TxnText_s2 x) = impl_TxnText_b2 x (Sum.elim (fun y => some ⟨.norm, impl_TxnText_v2 y, impl_TxnText_s2 y⟩) fun z => some ⟨(impl_TxnText_e2 z).1, (impl_TxnText_e2 z).2.1, (impl_TxnText_e2 z).2.2⟩) := by
  kernel_rfl

theorem impl_TxnText_lo2 : ∀ sp, (impl_TxnText_loops 2) = some sp → LoopOk G31 ⟨0, 82, impl_TxnText_loops⟩ sp (loopBody Try.f23 2) := by
  intro sp hsp vals st k r h
  cases hsp
  dsimp only at h
  rcases onPats_inv2 h with ⟨p, q, rfl, rfl, h⟩ | h
  · exact loop_runs2 impl_TxnText_bp2 impl_TxnText_v2 impl_TxnText_s2 impl_TxnText_e2 (fun z => by (intro h; cases h)) impl_TxnText_bx2 Fuel (p.2.2.1, p.2.2.2.1, p.2.2.2.2.1, q.1.1, q.1.2.1, q.1.2.2.1, q.1.2.2.2.1, q.1.2.2.2.2.1, q.1.2.2.2.2.2.1, q.1.2.2.2.2.2.2.1, q.1.2.2.2.2.2.2.2.1, q.2.2.1) _ k r (fun z => rfl) h
  cases h

theorem impl_TxnText_x (a0 : Int) (a1 : Int) (a2 : Int) (a3 : Int) (a4 : (List dRange)) (a5 : (List dWrite)) (a6 : Bool) (a7 : ByteArray) : execFn G31 impl_TxnText_loops Try.f23 [.agg [.int .i64 a0, .int .i64 a1, .int .i64 a2, .int .i64 a3, .lst tRange a4, .lst tWrite a5, .bool a6, .str a7]] [] = impl_TxnText_d (a0, (a1, (a2, (a3, (a4, (a5, (a6, a7))))))) (fun (y : (ByteArray × Bool)) => some ⟨.ret, [.tup [.str y.1, .bool y.2]], []⟩) := by kernel_rfl

theorem impl_TxnText_y (a0 : Int) (a1 : Int) (a2 : Int) (a3 : Int) (a4 : (List dRange)) (a5 : (List dWrite)) (a6 : Bool) (a7 : ByteArray) : execFn G31 impl_TxnText_loops Try.f23 [.agg [.int .i64 a0, .int .i64 a1, .int .i64 a2, .int .i64 a3, .lst tRange a4, .lst tWrite a5, .bool a6, .str a7]] [] = impl_TxnText_k (a0, (a1, (a2, (a3, (a4, (a5, (a6, a7))))))) (fun (y : (ByteArray × Bool)) => some ⟨.ret, [.tup [.str y.1, .bool y.2]], []⟩) := (impl_TxnText_x a0 a1 a2 a3 a4 a5 a6 a7).trans (by rw [impl_TxnText_e])

theorem impl_TxnText_l : LoopsOk G31 ⟨0, 82, impl_TxnText_loops⟩ (Try.f23.body.getD .skip) :=
  loopsOk_of (ids := [0, 2]) (by kernel_rfl) (by kernel_rfl) ⟨impl_TxnText_lo0, ⟨impl_TxnText_lo2, trivial⟩⟩

theorem impl_TxnText_c : Contract Try.prog 23 impl_TxnText_g := by
  refine told G31_ok follows Try.func23 (c := Try.f23.body.getD .skip) (by kernel_rfl) ?_
  intro args s k r hk
  unfold impl_TxnText_g at hk
  rcases onPats_inv hk with ⟨p, q, rfl, rfl⟩ | hk
  · exact ⟨impl_TxnText_loops, impl_TxnText_q p.1.1 p.1.2.1 p.1.2.2.1 p.1.2.2.2.1 p.1.2.2.2.2.1 p.1.2.2.2.2.2.1 p.1.2.2.2.2.2.2.1 p.1.2.2.2.2.2.2.2.1, impl_TxnText_y p.1.1 p.1.2.1 p.1.2.2.1 p.1.2.2.2.1 p.1.2.2.2.2.1 p.1.2.2.2.2.2.1 p.1.2.2.2.2.2.2.1 p.1.2.2.2.2.2.2.2.1, impl_TxnText_l⟩
  cases hk

def G32 : Glob := G31.add 23 impl_TxnText_g

theorem G32_ok : GlobOk Try.prog G32 := G31_ok.add ⟨Try.f23, Try.func23, by kernel_rfl, by kernel_rfl⟩ impl_TxnText_c

/-! ### loop.example/g00327/laws.eqRange -/

def laws_eqRange_loops : Nat → Option LoopSpec
  | _ => none

theorem laws_eqRange_x (a0 : ByteArray) (a1 : ByteArray) (a2 : ByteArray) (a3 : ByteArray) : execFn G32 laws_eqRange_loops Try.f173 [.agg [.str a0, .str a1], .agg [.str a2, .str a3]] [] = laws_eqRange_d (a0, a1) (a2, a3) (fun (y : Bool) => some ⟨.ret, [.bool y], []⟩) := by kernel_rfl

theorem laws_eqRange_y (a0 : ByteArray) (a1 : ByteArray) (a2 : ByteArray) (a3 : ByteArray) : execFn G32 laws_eqRange_loops Try.f173 [.agg [.str a0, .str a1], .agg [.str a2, .str a3]] [] = laws_eqRange_k (a0, a1) (a2, a3) (fun (y : Bool) => some ⟨.ret, [.bool y], []⟩) := (laws_eqRange_x a0 a1 a2 a3).trans (by rw [laws_eqRange_e])

theorem laws_eqRange_l : LoopsOk G32 ⟨0, 15, laws_eqRange_loops⟩ (Try.f173.body.getD .skip) :=
  loopsOk_of (ids := []) (by kernel_rfl) (by kernel_rfl) trivial

theorem laws_eqRange_c : Contract Try.prog 173 laws_eqRange_g := by
  refine told G32_ok follows Try.func173 (c := Try.f173.body.getD .skip) (by kernel_rfl) ?_
  intro args s k r hk
  unfold laws_eqRange_g at hk
  rcases onPats_inv hk with ⟨p, q, rfl, rfl⟩ | hk
  · exact ⟨laws_eqRange_loops, laws_eqRange_q p.1.1 p.1.2.1 p.2.1.1 p.2.1.2.1, laws_eqRange_y p.1.1 p.1.2.1 p.2.1.1 p.2.1.2.1, laws_eqRange_l⟩
  cases hk

def G33 : Glob := G32.add 173 laws_eqRange_g

theorem G33_ok : GlobOk Try.prog G33 := G32_ok.add ⟨Try.f173, Try.func173, by kernel_rfl, by kernel_rfl⟩ laws_eqRange_c

/-! ### loop.example/g00327/laws.eqRangeS -/

def laws_eqRangeS_loops : Nat → Option LoopSpec
  | 0 => some ⟨[0, 1, 4, 5], [], fun vals st k => onPats [.lst tRange, .lst tRange, .bool, .int .i64] [] vals st (fun p q => loopK laws_eqRangeS_b0 Fuel (p.1, p.2.1, p.2.2.1, p.2.2.2.1) (Sum.elim (fun z => k .ret [.lst tRange z.1, .lst tRange z.2.1, .bool z.2.2.1, .int .i64 z.2.2.2] []) (fun z => k (.exit 0) [.lst tRange z.1, .lst tRange z.2.1, .bool z.2.2.1, .int .i64 z.2.2.2] [])))
      (none)⟩
  | _ => none

def laws_eqRangeS_v0 : ((List dRange) × (List dRange) × Bool × Int) → List AV := (fun x => [.lst tRange x.1, .lst tRange x.2.1, .bool x.2.2.1, .int .i64 x.2.2.2])
def laws_eqRangeS_s0 : ((List dRange) × (List dRange) × Bool × Int) → St := (fun x => [])
def laws_eqRangeS_e0 : (((List dRange) × (List dRange) × Bool × Int) ⊕ ((List dRange) × (List dRange) × Bool × Int)) → Out × List AV × St := (Sum.elim (fun z => (.ret, [.lst tRange z.1, .lst tRange z.2.1, .bool z.2.2.1, .int .i64 z.2.2.2], [])) (fun z => ((.exit 0), [.lst tRange z.1, .lst tRange z.2.1, .bool z.2.2.1, .int .i64 z.2.2.2], [])))

theorem laws_eqRangeS_bx0 (x : ((List dRange) × (List dRange) × Bool × Int)) : exec G33 ⟨0, 27, laws_eqRangeS_loops⟩ (loopBody Try.f94 0) (bodyK ⟨0, 27, laws_eqRangeS_loops⟩ [0, 1, 4, 5] []) (setEs (deads 27) [0, 1, 4, 5] (laws_eqRangeS_v0 x)) (laws_eqRangeS_s0 x) = laws_eqRangeS_b0 x (Sum.elim (fun y => some ⟨.norm, laws_eqRangeS_v0 y, laws_eqRangeS_s0 y⟩) fun z => some ⟨(laws_eqRangeS_e0 z).1, (laws_eqRangeS_e0 z).2.1, (laws_eqRangeS_e0 z).2.2⟩) := by
  kernel_rfl

theorem laws_eqRangeS_lo0 : ∀ sp, (laws_eqRangeS_loops 0) = some sp → LoopOk G33 ⟨0, 27, laws_eqRangeS_loops⟩ sp (loopBody Try.f94 0) := by
  intro sp hsp vals st k r h
  cases hsp
  dsimp only at h
  rcases onPats_inv2 h with ⟨p, q, rfl, rfl, h⟩ | h
  · exact loop_runs2 laws_eqRangeS_bp0 laws_eqRangeS_v0 laws_eqRangeS_s0 laws_eqRangeS_e0 (fun z => by rcases z with z | z <;> (intro h; cases h)) laws_eqRangeS_bx0 Fuel (p.1, p.2.1, p.2.2.1, p.2.2.2.1) _ k r (fun z => by rcases z with z | z <;> rfl) h
  cases h

theorem laws_eqRangeS_x (a0 : (List dRange)) (a1 : (List dRange)) : execFn G33 laws_eqRangeS_loops Try.f94 [.lst tRange a0, .lst tRange a1] [] = laws_eqRangeS_d a0 a1 (fun (y : Bool) => some ⟨.ret, [.bool y], []⟩) := by kernel_rfl

theorem laws_eqRangeS_y (a0 : (List dRange)) (a1 : (List dRange)) : execFn G33 laws_eqRangeS_loops Try.f94 [.lst tRange a0, .lst tRange a1] [] = laws_eqRangeS_k a0 a1 (fun (y : Bool) => some ⟨.ret, [.bool y], []⟩) := (laws_eqRangeS_x a0 a1).trans (by rw [laws_eqRangeS_e])

theorem laws_eqRangeS_l : LoopsOk G33 ⟨0, 27, laws_eqRangeS_loops⟩ (Try.f94.body.getD .skip) :=
  loopsOk_of (ids := [0]) (by kernel_rfl) (by kernel_rfl) ⟨laws_eqRangeS_lo0, trivial⟩

theorem laws_eqRangeS_c : Contract Try.prog 94 laws_eqRangeS_g := by
  refine told G33_ok follows Try.func94 (c := Try.f94.body.getD .skip) (by kernel_rfl) ?_
  intro args s k r hk
  unfold laws_eqRangeS_g at hk
  rcases onPats_inv hk with ⟨p, q, rfl, rfl⟩ | hk
  · exact ⟨laws_eqRangeS_loops, laws_eqRangeS_q p.1 p.2.1, laws_eqRangeS_y p.1 p.2.1, laws_eqRangeS_l⟩
  cases hk

def G34 : Glob := G33.add 94 laws_eqRangeS_g

theorem G34_ok : GlobOk Try.prog G34 := G33_ok.add ⟨Try.f94, Try.func94, by kernel_rfl, by kernel_rfl⟩ laws_eqRangeS_c

/-! ### loop.example/g00327/laws.eqWrite -/

def laws_eqWrite_loops : Nat → Option LoopSpec
  | _ => none

theorem laws_eqWrite_x (a0 : ByteArray) (a1 : ByteArray) (a2 : Bool) (a3 : ByteArray) (a4 : ByteArray) (a5 : Bool) : execFn G34 laws_eqWrite_loops Try.f124 [.agg [.str a0, .str a1, .bool a2], .agg [.str a3, .str a4, .bool a5]] [] = laws_eqWrite_d (a0, (a1, a2)) (a3, (a4, a5)) (fun (y : Bool) => some ⟨.ret, [.bool y], []⟩) := by kernel_rfl

theorem laws_eqWrite_y (a0 : ByteArray) (a1 : ByteArray) (a2 : Bool) (a3 : ByteArray) (a4 : ByteArray) (a5 : Bool) : execFn G34 laws_eqWrite_loops Try.f124 [.agg [.str a0, .str a1, .bool a2], .agg [.str a3, .str a4, .bool a5]] [] = laws_eqWrite_k (a0, (a1, a2)) (a3, (a4, a5)) (fun (y : Bool) => some ⟨.ret, [.bool y], []⟩) := (laws_eqWrite_x a0 a1 a2 a3 a4 a5).trans (by rw [laws_eqWrite_e])

theorem laws_eqWrite_l : LoopsOk G34 ⟨0, 20, laws_eqWrite_loops⟩ (Try.f124.body.getD .skip) :=
  loopsOk_of (ids := []) (by kernel_rfl) (by kernel_rfl) trivial

theorem laws_eqWrite_c : Contract Try.prog 124 laws_eqWrite_g := by
  refine told G34_ok follows Try.func124 (c := Try.f124.body.getD .skip) (by kernel_rfl) ?_
  intro args s k r hk
  unfold laws_eqWrite_g at hk
  rcases onPats_inv hk with ⟨p, q, rfl, rfl⟩ | hk
  · exact ⟨laws_eqWrite_loops, laws_eqWrite_q p.1.1 p.1.2.1 p.1.2.2.1 p.2.1.1 p.2.1.2.1 p.2.1.2.2.1, laws_eqWrite_y p.1.1 p.1.2.1 p.1.2.2.1 p.2.1.1 p.2.1.2.1 p.2.1.2.2.1, laws_eqWrite_l⟩
  cases hk

def G35 : Glob := G34.add 124 laws_eqWrite_g

theorem G35_ok : GlobOk Try.prog G35 := G34_ok.add ⟨Try.f124, Try.func124, by kernel_rfl, by kernel_rfl⟩ laws_eqWrite_c

/-! ### loop.example/g00327/laws.eqWriteS -/

def laws_eqWriteS_loops : Nat → Option LoopSpec
  | 0 => some ⟨[0, 1, 4, 5], [], fun vals st k => onPats [.lst tWrite, .lst tWrite, .bool, .int .i64] [] vals st (fun p q => loopK laws_eqWriteS_b0 Fuel (p.1, p.2.1, p.2.2.1, p.2.2.2.1) (Sum.elim (fun z => k .ret [.lst tWrite z.1, .lst tWrite z.2.1, .bool z.2.2.1, .int .i64 z.2.2.2] []) (fun z => k (.exit 0) [.lst tWrite z.1, .lst tWrite z.2.1, .bool z.2.2.1, .int .i64 z.2.2.2] [])))
      (none)⟩
  | _ => none

def laws_eqWriteS_v0 : ((List dWrite) × (List dWrite) × Bool × Int) → List AV := (fun x => [.lst tWrite x.1, .lst tWrite x.2.1, .bool x.2.2.1, .int .i64 x.2.2.2])
def laws_eqWriteS_s0 : ((List dWrite) × (List dWrite) × Bool × Int) → St := (fun x => [])
def laws_eqWriteS_e0 : (((List dWrite) × (List dWrite) × Bool × Int) ⊕ ((List dWrite) × (List dWrite) × Bool × Int)) → Out × List AV × St := (Sum.elim (fun z => (.ret, [.lst tWrite z.1, .lst tWrite z.2.1, .bool z.2.2.1, .int .i64 z.2.2.2], [])) (fun z => ((.exit 0), [.lst tWrite z.1, .lst tWrite z.2.1, .bool z.2.2.1, .int .i64 z.2.2.2], [])))

theorem laws_eqWriteS_bx0 (x : ((List dWrite) × (List dWrite) × Bool × Int)) : exec G35 ⟨0, 27, laws_eqWriteS_loops⟩ (loopBody Try.f45 0) (bodyK ⟨0, 27, laws_eqWriteS_loops⟩ [0, 1, 4, 5] []) (setEs (deads 27) [0, 1, 4, 5] (laws_eqWriteS_v0 x)) (laws_eqWriteS_s0 x) = laws_eqWriteS_b0 x (Sum.elim (fun y => some ⟨.norm, laws_eqWriteS_v0 y, laws_eqWriteS_s0 y⟩) fun z => some ⟨(laws_eqWriteS_e0 z).1, (laws_eqWriteS_e0 z).2.1, (laws_eqWriteS_e0 z).2.2⟩) := by
  kernel_rfl

theorem laws_eqWriteS_lo0 : ∀ sp, (laws_eqWriteS_loops 0) = some sp → LoopOk G35 ⟨0, 27, laws_eqWriteS_loops⟩ sp (loopBody Try.f45 0) := by
  intro sp hsp vals st k r h
  cases hsp
  dsimp only at h
  rcases onPats_inv2 h with ⟨p, q, rfl, rfl, h⟩ | h
  · exact loop_runs2 laws_eqWriteS_bp0 laws_eqWriteS_v0 laws_eqWriteS_s0 laws_eqWriteS_e0 (fun z => by rcases z with z | z <;> (intro h; cases h)) laws_eqWriteS_bx0 Fuel (p.1, p.2.1, p.2.2.1, p.2.2.2.1) _ k r (fun z => by rcases z with z | z <;> rfl) h
  cases h

theorem laws_eqWriteS_x (a0 : (List dWrite)) (a1 : (List dWrite)) : execFn G35 laws_eqWriteS_loops Try.f45 [.lst tWrite a0, .lst tWrite a1] [] = laws_eqWriteS_d a0 a1 (fun (y : Bool) => some ⟨.ret, [.bool y], []⟩) := by kernel_rfl

theorem laws_eqWriteS_y (a0 : (List dWrite)) (a1 : (List dWrite)) : execFn G35 laws_eqWriteS_loops Try.f45 [.lst tWrite a0, .lst tWrite a1] [] = laws_eqWriteS_k a0 a1 (fun (y : Bool) => some ⟨.ret, [.bool y], []⟩) := (laws_eqWriteS_x a0 a1).trans (by rw [laws_eqWriteS_e])

theorem laws_eqWriteS_l : LoopsOk G35 ⟨0, 27, laws_eqWriteS_loops⟩ (Try.f45.body.getD .skip) :=
  loopsOk_of (ids := [0]) (by kernel_rfl) (by kernel_rfl) ⟨laws_eqWriteS_lo0, trivial⟩

theorem laws_eqWriteS_c : Contract Try.prog 45 laws_eqWriteS_g := by
  refine told G35_ok follows Try.func45 (c := Try.f45.body.getD .skip) (by kernel_rfl) ?_
  intro args s k r hk
  unfold laws_eqWriteS_g at hk
  rcases onPats_inv hk with ⟨p, q, rfl, rfl⟩ | hk
  · exact ⟨laws_eqWriteS_loops, laws_eqWriteS_q p.1 p.2.1, laws_eqWriteS_y p.1 p.2.1, laws_eqWriteS_l⟩
  cases hk

def G36 : Glob := G35.add 45 laws_eqWriteS_g

theorem G36_ok : GlobOk Try.prog G36 := G35_ok.add ⟨Try.f45, Try.func45, by kernel_rfl, by kernel_rfl⟩ laws_eqWriteS_c

/-! ### loop.example/g00327/laws.eqTxn -/

def laws_eqTxn_loops : Nat → Option LoopSpec
  | _ => none

theorem laws_eqTxn_x (a0 : Int) (a1 : Int) (a2 : Int) (a3 : Int) (a4 : (List dRange)) (a5 : (List dWrite)) (a6 : Bool) (a7 : ByteArray) (a8 : Int) (a9 : Int) (a10 : Int) (a11 : Int) (a12 : (List dRange)) (a13 : (List dWrite)) (a14 : Bool) (a15 : ByteArray) : execFn G36 laws_eqTxn_loops Try.f24 [.agg [.int .i64 a0, .int .i64 a1, .int .i64 a2, .int .i64 a3, .lst tRange a4, .lst tWrite a5, .bool a6, .str a7], .agg [.int .i64 a8, .int .i64 a9, .int .i64 a10, .int .i64 a11, .lst tRange a12, .lst tWrite a13, .bool a14, .str a15]] [] = laws_eqTxn_d (a0, (a1, (a2, (a3, (a4, (a5, (a6, a7))))))) (a8, (a9, (a10, (a11, (a12, (a13, (a14, a15))))))) (fun (y : Bool) => some ⟨.ret, [.bool y], []⟩) := by kernel_rfl

theorem laws_eqTxn_y (a0 : Int) (a1 : Int) (a2 : Int) (a3 : Int) (a4 : (List dRange)) (a5 : (List dWrite)) (a6 : Bool) (a7 : ByteArray) (a8 : Int) (a9 : Int) (a10 : Int) (a11 : Int) (a12 : (List dRange)) (a13 : (List dWrite)) (a14 : Bool) (a15 : ByteArray) : execFn G36 laws_eqTxn_loops Try.f24 [.agg [.int .i64 a0, .int .i64 a1, .int .i64 a2, .int .i64 a3, .lst tRange a4, .lst tWrite a5, .bool a6, .str a7], .agg [.int .i64 a8, .int .i64 a9, .int .i64 a10, .int .i64 a11, .lst tRange a12, .lst tWrite a13, .bool a14, .str a15]] [] = laws_eqTxn_k (a0, (a1, (a2, (a3, (a4, (a5, (a6, a7))))))) (a8, (a9, (a10, (a11, (a12, (a13, (a14, a15))))))) (fun (y : Bool) => some ⟨.ret, [.bool y], []⟩) := (laws_eqTxn_x a0 a1 a2 a3 a4 a5 a6 a7 a8 a9 a10 a11 a12 a13 a14 a15).trans (by rw [laws_eqTxn_e])

theorem laws_eqTxn_l : LoopsOk G36 ⟨0, 47, laws_eqTxn_loops⟩ (Try.f24.body.getD .skip) :=
  loopsOk_of (ids := []) (by kernel_rfl) (by kernel_rfl) trivial

theorem laws_eqTxn_c : Contract Try.prog 24 laws_eqTxn_g := by
  refine told G36_ok follows Try.func24 (c := Try.f24.body.getD .skip) (by kernel_rfl) ?_
  intro args s k r hk
  unfold laws_eqTxn_g at hk
  rcases onPats_inv hk with ⟨p, q, rfl, rfl⟩ | hk
  · exact ⟨laws_eqTxn_loops, laws_eqTxn_q p.1.1 p.1.2.1 p.1.2.2.1 p.1.2.2.2.1 p.1.2.2.2.2.1 p.1.2.2.2.2.2.1 p.1.2.2.2.2.2.2.1 p.1.2.2.2.2.2.2.2.1 p.2.1.1 p.2.1.2.1 p.2.1.2.2.1 p.2.1.2.2.2.1 p.2.1.2.2.2.2.1 p.2.1.2.2.2.2.2.1 p.2.1.2.2.2.2.2.2.1 p.2.1.2.2.2.2.2.2.2.1, laws_eqTxn_y p.1.1 p.1.2.1 p.1.2.2.1 p.1.2.2.2.1 p.1.2.2.2.2.1 p.1.2.2.2.2.2.1 p.1.2.2.2.2.2.2.1 p.1.2.2.2.2.2.2.2.1 p.2.1.1 p.2.1.2.1 p.2.1.2.2.1 p.2.1.2.2.2.1 p.2.1.2.2.2.2.1 p.2.1.2.2.2.2.2.1 p.2.1.2.2.2.2.2.2.1 p.2.1.2.2.2.2.2.2.2.1, laws_eqTxn_l⟩
  cases hk

def G37 : Glob := G36.add 24 laws_eqTxn_g

theorem G37_ok : GlobOk Try.prog G37 := G36_ok.add ⟨Try.f24, Try.func24, by kernel_rfl, by kernel_rfl⟩ laws_eqTxn_c

/-! ### loop.example/g00327/laws.FnExactTxnText -/

def laws_FnExactTxnText_loops : Nat → Option LoopSpec
  | 5000010 => some ⟨[1, 2, 6], [], fun vals st k => onPats [.bp 0 0, .bool, .bp 1 0] [.box [.int .i64, .int .i64, .int .i64, .int .i64, .lst tRange, .lst tWrite, .bool, .str], .box [.int .i64, .int .i64, .int .i64, .int .i64, .own 2, .own 3, .bool, .str], .arr tRange, .arr tWrite] vals st (fun p q => laws_FnExactTxnText_j5000010 (p.2.1, q.1.1, q.1.2.1, q.1.2.2.1, q.1.2.2.2.1, q.1.2.2.2.2.1, q.1.2.2.2.2.2.1, q.1.2.2.2.2.2.2.1, q.1.2.2.2.2.2.2.2.1, q.2.1.1, q.2.1.2.1, q.2.1.2.2.1, q.2.1.2.2.2.1, q.2.1.2.2.2.2.2.2.1, q.2.1.2.2.2.2.2.2.2.1, q.2.2.1, q.2.2.2.1) (fun z => k .ret [.bp 0 0, .bool z.1, .bp 1 0] [.box [.int .i64 z.2.1, .int .i64 z.2.2.1, .int .i64 z.2.2.2.1, .int .i64 z.2.2.2.2.1, .lst tRange z.2.2.2.2.2.1, .lst tWrite z.2.2.2.2.2.2.1, .bool z.2.2.2.2.2.2.2.1, .str z.2.2.2.2.2.2.2.2.1], .box [.int .i64 z.2.2.2.2.2.2.2.2.2.1, .int .i64 z.2.2.2.2.2.2.2.2.2.2.1, .int .i64 z.2.2.2.2.2.2.2.2.2.2.2.1, .int .i64 z.2.2.2.2.2.2.2.2.2.2.2.2.1, .own 2, .own 3, .bool z.2.2.2.2.2.2.2.2.2.2.2.2.2.1, .str z.2.2.2.2.2.2.2.2.2.2.2.2.2.2.1], .arr tRange z.2.2.2.2.2.2.2.2.2.2.2.2.2.2.2.1, .arr tWrite z.2.2.2.2.2.2.2.2.2.2.2.2.2.2.2.2]))
      (none)⟩
  | _ => none

def laws_FnExactTxnText_jv5000010 : (Bool × Int × Int × Int × Int × (List dRange) × (List dWrite) × Bool × ByteArray × Int × Int × Int × Int × Bool × ByteArray × (List dRange) × (List dWrite)) → List AV := (fun x => [.bp 0 0, .bool x.1, .bp 1 0])
def laws_FnExactTxnText_js5000010 : (Bool × Int × Int × Int × Int × (List dRange) × (List dWrite) × Bool × ByteArray × Int × Int × Int × Int × Bool × ByteArray × (List dRange) × (List dWrite)) → St := (fun x => [.box [.int .i64 x.2.1, .int .i64 x.2.2.1, .int .i64 x.2.2.2.1, .int .i64 x.2.2.2.2.1, .lst tRange x.2.2.2.2.2.1, .lst tWrite x.2.2.2.2.2.2.1, .bool x.2.2.2.2.2.2.2.1, .str x.2.2.2.2.2.2.2.2.1], .box [.int .i64 x.2.2.2.2.2.2.2.2.2.1, .int .i64 x.2.2.2.2.2.2.2.2.2.2.1, .int .i64 x.2.2.2.2.2.2.2.2.2.2.2.1, .int .i64 x.2.2.2.2.2.2.2.2.2.2.2.2.1, .own 2, .own 3, .bool x.2.2.2.2.2.2.2.2.2.2.2.2.2.1, .str x.2.2.2.2.2.2.2.2.2.2.2.2.2.2.1], .arr tRange x.2.2.2.2.2.2.2.2.2.2.2.2.2.2.2.1, .arr tWrite x.2.2.2.2.2.2.2.2.2.2.2.2.2.2.2.2])
def laws_FnExactTxnText_je5000010 : (Bool × Int × Int × Int × Int × (List dRange) × (List dWrite) × Bool × ByteArray × Int × Int × Int × Int × Bool × ByteArray × (List dRange) × (List dWrite)) → Out × List AV × St := (fun z => (.ret, [.bp 0 0, .bool z.1, .bp 1 0], [.box [.int .i64 z.2.1, .int .i64 z.2.2.1, .int .i64 z.2.2.2.1, .int .i64 z.2.2.2.2.1, .lst tRange z.2.2.2.2.2.1, .lst tWrite z.2.2.2.2.2.2.1, .bool z.2.2.2.2.2.2.2.1, .str z.2.2.2.2.2.2.2.2.1], .box [.int .i64 z.2.2.2.2.2.2.2.2.2.1, .int .i64 z.2.2.2.2.2.2.2.2.2.2.1, .int .i64 z.2.2.2.2.2.2.2.2.2.2.2.1, .int .i64 z.2.2.2.2.2.2.2.2.2.2.2.2.1, .own 2, .own 3, .bool z.2.2.2.2.2.2.2.2.2.2.2.2.2.1, .str z.2.2.2.2.2.2.2.2.2.2.2.2.2.2.1], .arr tRange z.2.2.2.2.2.2.2.2.2.2.2.2.2.2.2.1, .arr tWrite z.2.2.2.2.2.2.2.2.2.2.2.2.2.2.2.2]))

theorem laws_FnExactTxnText_jx5000010 (x : (Bool × Int × Int × Int × Int × (List dRange) × (List dWrite) × Bool × ByteArray × Int × Int × Int × Int × Bool × ByteArray × (List dRange) × (List dWrite))) : exec G37 ⟨0, 40, laws_FnExactTxnText_loops⟩ (loopBody Try.f4 5000010) (bodyK ⟨0, 40, laws_FnExactTxnText_loops⟩ [1, 2, 6] []) (setEs (deads 40) [1, 2, 6] (laws_FnExactTxnText_jv5000010 x)) (laws_FnExactTxnText_js5000010 x) = laws_FnExactTxnText_j5000010 x (fun z => some ⟨(laws_FnExactTxnText_je5000010 z).1, (laws_FnExactTxnText_je5000010 z).2.1, (laws_FnExactTxnText_je5000010 z).2.2⟩) := by
  kernel_rfl

theorem laws_FnExactTxnText_lo5000010 : ∀ sp, (laws_FnExactTxnText_loops 5000010) = some sp → CutOk G37 ⟨0, 40, laws_FnExactTxnText_loops⟩ sp (loopBody Try.f4 5000010) := by
  intro sp hsp vals st k r h
  cases hsp
  dsimp only at h
  rcases onPats_inv2 h with ⟨p, q, rfl, rfl, h⟩ | h
  · exact cut_runs laws_FnExactTxnText_jp5000010 laws_FnExactTxnText_jv5000010 laws_FnExactTxnText_js5000010 laws_FnExactTxnText_je5000010 laws_FnExactTxnText_jx5000010 (p.2.1, q.1.1, q.1.2.1, q.1.2.2.1, q.1.2.2.2.1, q.1.2.2.2.2.1, q.1.2.2.2.2.2.1, q.1.2.2.2.2.2.2.1, q.1.2.2.2.2.2.2.2.1, q.2.1.1, q.2.1.2.1, q.2.1.2.2.1, q.2.1.2.2.2.1, q.2.1.2.2.2.2.2.2.1, q.2.1.2.2.2.2.2.2.2.1, q.2.2.1, q.2.2.2.1) _ k r (fun z => rfl) h
  cases h

theorem laws_FnExactTxnText_x (a0 : Int) (a1 : Int) (a2 : Int) (a3 : Int) (a4 : (List dRange)) (a5 : (List dWrite)) (a6 : Bool) (a7 : ByteArray) : execFn G37 laws_FnExactTxnText_loops Try.f4 [.agg [.int .i64 a0, .int .i64 a1, .int .i64 a2, .int .i64 a3, .lst tRange a4, .lst tWrite a5, .bool a6, .str a7]] [] = laws_FnExactTxnText_d (a0, (a1, (a2, (a3, (a4, (a5, (a6, a7))))))) (fun (y : Bool) => some ⟨.ret, [.bool y], []⟩) := by kernel_rfl

theorem laws_FnExactTxnText_y (a0 : Int) (a1 : Int) (a2 : Int) (a3 : Int) (a4 : (List dRange)) (a5 : (List dWrite)) (a6 : Bool) (a7 : ByteArray) : execFn G37 laws_FnExactTxnText_loops Try.f4 [.agg [.int .i64 a0, .int .i64 a1, .int .i64 a2, .int .i64 a3, .lst tRange a4, .lst tWrite a5, .bool a6, .str a7]] [] = laws_FnExactTxnText_k (a0, (a1, (a2, (a3, (a4, (a5, (a6, a7))))))) (fun (y : Bool) => some ⟨.ret, [.bool y], []⟩) := (laws_FnExactTxnText_x a0 a1 a2 a3 a4 a5 a6 a7).trans (by rw [laws_FnExactTxnText_e])

theorem laws_FnExactTxnText_l : LoopsOk G37 ⟨0, 40, laws_FnExactTxnText_loops⟩ (Try.f4.body.getD .skip) :=
  loopsOk_of (ids := [5000010]) (by kernel_rfl) (by kernel_rfl) ⟨laws_FnExactTxnText_lo5000010, trivial⟩

theorem laws_FnExactTxnText_c : Contract Try.prog 4 laws_FnExactTxnText_g := by
  refine told G37_ok follows Try.func4 (c := Try.f4.body.getD .skip) (by kernel_rfl) ?_
  intro args s k r hk
  unfold laws_FnExactTxnText_g at hk
  rcases onPats_inv hk with ⟨p, q, rfl, rfl⟩ | hk
  · exact ⟨laws_FnExactTxnText_loops, laws_FnExactTxnText_q p.1.1 p.1.2.1 p.1.2.2.1 p.1.2.2.2.1 p.1.2.2.2.2.1 p.1.2.2.2.2.2.1 p.1.2.2.2.2.2.2.1 p.1.2.2.2.2.2.2.2.1, laws_FnExactTxnText_y p.1.1 p.1.2.1 p.1.2.2.1 p.1.2.2.2.1 p.1.2.2.2.2.1 p.1.2.2.2.2.2.1 p.1.2.2.2.2.2.2.1 p.1.2.2.2.2.2.2.2.1, laws_FnExactTxnText_l⟩
  cases hk

def G38 : Glob := G37.add 4 laws_FnExactTxnText_g

theorem G38_ok : GlobOk Try.prog G38 := G37_ok.add ⟨Try.f4, Try.func4, by kernel_rfl, by kernel_rfl⟩ laws_FnExactTxnText_c

end

end Go.VE
