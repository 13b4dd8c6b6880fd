/- Each function told by its native program; written by gen.py. -/

import Derived.Test.YteolgjmeigifbaaOwnScanS0

namespace Go.VE

open Go.Proofs

noncomputable section

set_option linter.unusedVariables false
set_option linter.unusedSimpArgs false
set_option maxRecDepth 100000




def laws_szRange_loops : Nat → Option LoopSpec
  | _ => none

theorem laws_szRange_y (a0 : ByteArray) (a1 : ByteArray) (a2 : Int) : execFn G0 laws_szRange_loops Try.f11 [.agg [.str a0, .str a1], .int .i64 a2] [] = laws_szRange_k (a0, a1) a2 (fun (y : Int) => some ⟨.ret, [.int .i64 y], []⟩) := by rw [laws_szRange_e]; kernel_rfl

theorem laws_szRange_l : LoopsOk G0 ⟨0, 20, laws_szRange_loops⟩ (Try.f11.body.getD .skip) :=
  loopsOk_of (ids := []) (by kernel_rfl) (by kernel_rfl) trivial

theorem laws_szRange_c : Contract Try.prog 11 laws_szRange_g := by
  refine told G0_ok follows Try.func11 (c := Try.f11.body.getD .skip) (by kernel_rfl) ?_
  intro args s k r hk
  unfold laws_szRange_g at hk
  rcases onPats_inv hk with ⟨p, q, rfl, rfl⟩ | hk
  · exact ⟨laws_szRange_loops, laws_szRange_q p.1.1 p.1.2.1 p.2.1, laws_szRange_y p.1.1 p.1.2.1 p.2.1, laws_szRange_l⟩
  cases hk

def G1 : Glob := G0.add 11 laws_szRange_g

theorem G1_ok : GlobOk Try.prog G1 := G0_ok.add ⟨Try.f11, Try.func11, by kernel_rfl, by kernel_rfl⟩ laws_szRange_c



def laws_szRangeS_loops : Nat → Option LoopSpec
  | 0 => some ⟨[0, 1, 4, 5], [], fun vals st k => onPats [.lst tRange, .int .i64, .int .i64, .int .i64] [] vals st (fun p q => loopK laws_szRangeS_b0 Fuel (p.1, p.2.1, p.2.2.1, p.2.2.2.1) (Sum.elim (fun z => k .ret [.lst tRange z.1, .int .i64 z.2.1, .int .i64 z.2.2.1, .int .i64 z.2.2.2] []) (fun z => k (.exit 0) [.lst tRange z.1, .int .i64 z.2.1, .int .i64 z.2.2.1, .int .i64 z.2.2.2] [])))
      (none)⟩
  | _ => none

def laws_szRangeS_v0 : ((List dRange) × Int × Int × Int) → List AV := (fun x => [.lst tRange x.1, .int .i64 x.2.1, .int .i64 x.2.2.1, .int .i64 x.2.2.2])
def laws_szRangeS_s0 : ((List dRange) × Int × Int × Int) → St := (fun x => [])
def laws_szRangeS_e0 : (((List dRange) × Int × Int × Int) ⊕ ((List dRange) × Int × Int × Int)) → Out × List AV × St := (Sum.elim (fun z => (.ret, [.lst tRange z.1, .int .i64 z.2.1, .int .i64 z.2.2.1, .int .i64 z.2.2.2], [])) (fun z => ((.exit 0), [.lst tRange z.1, .int .i64 z.2.1, .int .i64 z.2.2.1, .int .i64 z.2.2.2], [])))

theorem laws_szRangeS_bx0 (x : ((List dRange) × Int × Int × Int)) : exec G1 ⟨0, 27, laws_szRangeS_loops⟩ (loopBody Try.f64 0) (bodyK ⟨0, 27, laws_szRangeS_loops⟩ [0, 1, 4, 5] []) (setEs (deads 27) [0, 1, 4, 5] (laws_szRangeS_v0 x)) (laws_szRangeS_s0 x) = laws_szRangeS_b0 x (Sum.elim (fun y => some ⟨.norm, laws_szRangeS_v0 y, laws_szRangeS_s0 y⟩) fun z => some ⟨(laws_szRangeS_e0 z).1, (laws_szRangeS_e0 z).2.1, (laws_szRangeS_e0 z).2.2⟩) := by
  kernel_rfl

theorem laws_szRangeS_lo0 : ∀ sp, (laws_szRangeS_loops 0) = some sp → LoopOk G1 ⟨0, 27, laws_szRangeS_loops⟩ sp (loopBody Try.f64 0) := by
  intro sp hsp vals st k r h
  cases hsp
  dsimp only at h
  rcases onPats_inv2 h with ⟨p, q, rfl, rfl, h⟩ | h
  · exact loop_runs2 laws_szRangeS_bp0 laws_szRangeS_v0 laws_szRangeS_s0 laws_szRangeS_e0 (fun z => by rcases z with z | z <;> (intro h; cases h)) laws_szRangeS_bx0 Fuel (p.1, p.2.1, p.2.2.1, p.2.2.2.1) _ k r (fun z => by rcases z with z | z <;> rfl) h
  cases h

theorem laws_szRangeS_y (a0 : (List dRange)) (a1 : Int) : execFn G1 laws_szRangeS_loops Try.f64 [.lst tRange a0, .int .i64 a1] [] = laws_szRangeS_k a0 a1 (fun (y : Int) => some ⟨.ret, [.int .i64 y], []⟩) := by rw [laws_szRangeS_e]; kernel_rfl

theorem laws_szRangeS_l : LoopsOk G1 ⟨0, 27, laws_szRangeS_loops⟩ (Try.f64.body.getD .skip) :=
  loopsOk_of (ids := [0]) (by kernel_rfl) (by kernel_rfl) ⟨laws_szRangeS_lo0, trivial⟩

theorem laws_szRangeS_c : Contract Try.prog 64 laws_szRangeS_g := by
  refine told G1_ok follows Try.func64 (c := Try.f64.body.getD .skip) (by kernel_rfl) ?_
  intro args s k r hk
  unfold laws_szRangeS_g at hk
  rcases onPats_inv hk with ⟨p, q, rfl, rfl⟩ | hk
  · exact ⟨laws_szRangeS_loops, laws_szRangeS_q p.1 p.2.1, laws_szRangeS_y p.1 p.2.1, laws_szRangeS_l⟩
  cases hk

def G2 : Glob := G1.add 64 laws_szRangeS_g

theorem G2_ok : GlobOk Try.prog G2 := G1_ok.add ⟨Try.f64, Try.func64, by kernel_rfl, by kernel_rfl⟩ laws_szRangeS_c



def laws_szWrite_loops : Nat → Option LoopSpec
  | _ => none

theorem laws_szWrite_y (a0 : ByteArray) (a1 : ByteArray) (a2 : Bool) (a3 : Int) : execFn G2 laws_szWrite_loops Try.f49 [.agg [.str a0, .str a1, .bool a2], .int .i64 a3] [] = laws_szWrite_k (a0, (a1, a2)) a3 (fun (y : Int) => some ⟨.ret, [.int .i64 y], []⟩) := by rw [laws_szWrite_e]; kernel_rfl

theorem laws_szWrite_l : LoopsOk G2 ⟨0, 20, laws_szWrite_loops⟩ (Try.f49.body.getD .skip) :=
  loopsOk_of (ids := []) (by kernel_rfl) (by kernel_rfl) trivial

theorem laws_szWrite_c : Contract Try.prog 49 laws_szWrite_g := by
  refine told G2_ok follows Try.func49 (c := Try.f49.body.getD .skip) (by kernel_rfl) ?_
  intro args s k r hk
  unfold laws_szWrite_g at hk
  rcases onPats_inv hk with ⟨p, q, rfl, rfl⟩ | hk
  · exact ⟨laws_szWrite_loops, laws_szWrite_q p.1.1 p.1.2.1 p.1.2.2.1 p.2.1, laws_szWrite_y p.1.1 p.1.2.1 p.1.2.2.1 p.2.1, laws_szWrite_l⟩
  cases hk

def G3 : Glob := G2.add 49 laws_szWrite_g

theorem G3_ok : GlobOk Try.prog G3 := G2_ok.add ⟨Try.f49, Try.func49, by kernel_rfl, by kernel_rfl⟩ laws_szWrite_c



def laws_szWriteS_loops : Nat → Option LoopSpec
  | 0 => some ⟨[0, 1, 4, 5], [], fun vals st k => onPats [.lst tWrite, .int .i64, .int .i64, .int .i64] [] vals st (fun p q => loopK laws_szWriteS_b0 Fuel (p.1, p.2.1, p.2.2.1, p.2.2.2.1) (Sum.elim (fun z => k .ret [.lst tWrite z.1, .int .i64 z.2.1, .int .i64 z.2.2.1, .int .i64 z.2.2.2] []) (fun z => k (.exit 0) [.lst tWrite z.1, .int .i64 z.2.1, .int .i64 z.2.2.1, .int .i64 z.2.2.2] [])))
      (none)⟩
  | _ => none

def laws_szWriteS_v0 : ((List dWrite) × Int × Int × Int) → List AV := (fun x => [.lst tWrite x.1, .int .i64 x.2.1, .int .i64 x.2.2.1, .int .i64 x.2.2.2])
def laws_szWriteS_s0 : ((List dWrite) × Int × Int × Int) → St := (fun x => [])
def laws_szWriteS_e0 : (((List dWrite) × Int × Int × Int) ⊕ ((List dWrite) × Int × Int × Int)) → Out × List AV × St := (Sum.elim (fun z => (.ret, [.lst tWrite z.1, .int .i64 z.2.1, .int .i64 z.2.2.1, .int .i64 z.2.2.2], [])) (fun z => ((.exit 0), [.lst tWrite z.1, .int .i64 z.2.1, .int .i64 z.2.2.1, .int .i64 z.2.2.2], [])))

theorem laws_szWriteS_bx0 (x : ((List dWrite) × Int × Int × Int)) : exec G3 ⟨0, 27, laws_szWriteS_loops⟩ (loopBody Try.f65 0) (bodyK ⟨0, 27, laws_szWriteS_loops⟩ [0, 1, 4, 5] []) (setEs (deads 27) [0, 1, 4, 5] (laws_szWriteS_v0 x)) (laws_szWriteS_s0 x) = laws_szWriteS_b0 x (Sum.elim (fun y => some ⟨.norm, laws_szWriteS_v0 y, laws_szWriteS_s0 y⟩) fun z => some ⟨(laws_szWriteS_e0 z).1, (laws_szWriteS_e0 z).2.1, (laws_szWriteS_e0 z).2.2⟩) := by
  kernel_rfl

theorem laws_szWriteS_lo0 : ∀ sp, (laws_szWriteS_loops 0) = some sp → LoopOk G3 ⟨0, 27, laws_szWriteS_loops⟩ sp (loopBody Try.f65 0) := by
  intro sp hsp vals st k r h
  cases hsp
  dsimp only at h
  rcases onPats_inv2 h with ⟨p, q, rfl, rfl, h⟩ | h
  · exact loop_runs2 laws_szWriteS_bp0 laws_szWriteS_v0 laws_szWriteS_s0 laws_szWriteS_e0 (fun z => by rcases z with z | z <;> (intro h; cases h)) laws_szWriteS_bx0 Fuel (p.1, p.2.1, p.2.2.1, p.2.2.2.1) _ k r (fun z => by rcases z with z | z <;> rfl) h
  cases h

theorem laws_szWriteS_y (a0 : (List dWrite)) (a1 : Int) : execFn G3 laws_szWriteS_loops Try.f65 [.lst tWrite a0, .int .i64 a1] [] = laws_szWriteS_k a0 a1 (fun (y : Int) => some ⟨.ret, [.int .i64 y], []⟩) := by rw [laws_szWriteS_e]; kernel_rfl

theorem laws_szWriteS_l : LoopsOk G3 ⟨0, 27, laws_szWriteS_loops⟩ (Try.f65.body.getD .skip) :=
  loopsOk_of (ids := [0]) (by kernel_rfl) (by kernel_rfl) ⟨laws_szWriteS_lo0, trivial⟩

theorem laws_szWriteS_c : Contract Try.prog 65 laws_szWriteS_g := by
  refine told G3_ok follows Try.func65 (c := Try.f65.body.getD .skip) (by kernel_rfl) ?_
  intro args s k r hk
  unfold laws_szWriteS_g at hk
  rcases onPats_inv hk with ⟨p, q, rfl, rfl⟩ | hk
  · exact ⟨laws_szWriteS_loops, laws_szWriteS_q p.1 p.2.1, laws_szWriteS_y p.1 p.2.1, laws_szWriteS_l⟩
  cases hk

def G4 : Glob := G3.add 65 laws_szWriteS_g

theorem G4_ok : GlobOk Try.prog G4 := G3_ok.add ⟨Try.f65, Try.func65, by kernel_rfl, by kernel_rfl⟩ laws_szWriteS_c



def laws_szTxn_loops : Nat → Option LoopSpec
  | _ => none

theorem laws_szTxn_y (a0 : Int) (a1 : Int) (a2 : Int) (a3 : Int) (a4 : (List dRange)) (a5 : (List dWrite)) (a6 : Bool) (a7 : ByteArray) (a8 : Int) : execFn G4 laws_szTxn_loops Try.f9 [.agg [.int .i64 a0, .int .i64 a1, .int .i64 a2, .int .i64 a3, .lst tRange a4, .lst tWrite a5, .bool a6, .str a7], .int .i64 a8] [] = laws_szTxn_k (a0, (a1, (a2, (a3, (a4, (a5, (a6, a7))))))) a8 (fun (y : Int) => some ⟨.ret, [.int .i64 y], []⟩) := by rw [laws_szTxn_e]; kernel_rfl

theorem laws_szTxn_l : LoopsOk G4 ⟨0, 25, laws_szTxn_loops⟩ (Try.f9.body.getD .skip) :=
  loopsOk_of (ids := []) (by kernel_rfl) (by kernel_rfl) trivial

theorem laws_szTxn_c : Contract Try.prog 9 laws_szTxn_g := by
  refine told G4_ok follows Try.func9 (c := Try.f9.body.getD .skip) (by kernel_rfl) ?_
  intro args s k r hk
  unfold laws_szTxn_g at hk
  rcases onPats_inv hk with ⟨p, q, rfl, rfl⟩ | hk
  · exact ⟨laws_szTxn_loops, laws_szTxn_q p.1.1 p.1.2.1 p.1.2.2.1 p.1.2.2.2.1 p.1.2.2.2.2.1 p.1.2.2.2.2.2.1 p.1.2.2.2.2.2.2.1 p.1.2.2.2.2.2.2.2.1 p.2.1, laws_szTxn_y p.1.1 p.1.2.1 p.1.2.2.1 p.1.2.2.2.1 p.1.2.2.2.2.1 p.1.2.2.2.2.2.1 p.1.2.2.2.2.2.2.1 p.1.2.2.2.2.2.2.2.1 p.2.1, laws_szTxn_l⟩
  cases hk

def G5 : Glob := G4.add 9 laws_szTxn_g

theorem G5_ok : GlobOk Try.prog G5 := G4_ok.add ⟨Try.f9, Try.func9, by kernel_rfl, by kernel_rfl⟩ laws_szTxn_c



def laws_szVersion_loops : Nat → Option LoopSpec
  | _ => none

theorem laws_szVersion_y (a0 : ByteArray) (a1 : ByteArray) (a2 : Bool) (a3 : Int) (a4 : Int) : execFn G5 laws_szVersion_loops Try.f66 [.agg [.str a0, .str a1, .bool a2, .int .i64 a3], .int .i64 a4] [] = laws_szVersion_k (a0, (a1, (a2, a3))) a4 (fun (y : Int) => some ⟨.ret, [.int .i64 y], []⟩) := by rw [laws_szVersion_e]; kernel_rfl

theorem laws_szVersion_l : LoopsOk G5 ⟨0, 20, laws_szVersion_loops⟩ (Try.f66.body.getD .skip) :=
  loopsOk_of (ids := []) (by kernel_rfl) (by kernel_rfl) trivial

theorem laws_szVersion_c : Contract Try.prog 66 laws_szVersion_g := by
  refine told G5_ok follows Try.func66 (c := Try.f66.body.getD .skip) (by kernel_rfl) ?_
  intro args s k r hk
  unfold laws_szVersion_g at hk
  rcases onPats_inv hk with ⟨p, q, rfl, rfl⟩ | hk
  · exact ⟨laws_szVersion_loops, laws_szVersion_q p.1.1 p.1.2.1 p.1.2.2.1 p.1.2.2.2.1 p.2.1, laws_szVersion_y p.1.1 p.1.2.1 p.1.2.2.1 p.1.2.2.2.1 p.2.1, laws_szVersion_l⟩
  cases hk

def G6 : Glob := G5.add 66 laws_szVersion_g

theorem G6_ok : GlobOk Try.prog G6 := G5_ok.add ⟨Try.f66, Try.func66, by kernel_rfl, by kernel_rfl⟩ laws_szVersion_c



def laws_szVersionS_loops : Nat → Option LoopSpec
  | 0 => some ⟨[0, 1, 4, 5], [], fun vals st k => onPats [.lst tVersion, .int .i64, .int .i64, .int .i64] [] vals st (fun p q => loopK laws_szVersionS_b0 Fuel (p.1, p.2.1, p.2.2.1, p.2.2.2.1) (Sum.elim (fun z => k .ret [.lst tVersion z.1, .int .i64 z.2.1, .int .i64 z.2.2.1, .int .i64 z.2.2.2] []) (fun z => k (.exit 0) [.lst tVersion z.1, .int .i64 z.2.1, .int .i64 z.2.2.1, .int .i64 z.2.2.2] [])))
      (none)⟩
  | _ => none

def laws_szVersionS_v0 : ((List dVersion) × Int × Int × Int) → List AV := (fun x => [.lst tVersion x.1, .int .i64 x.2.1, .int .i64 x.2.2.1, .int .i64 x.2.2.2])
def laws_szVersionS_s0 : ((List dVersion) × Int × Int × Int) → St := (fun x => [])
def laws_szVersionS_e0 : (((List dVersion) × Int × Int × Int) ⊕ ((List dVersion) × Int × Int × Int)) → Out × List AV × St := (Sum.elim (fun z => (.ret, [.lst tVersion z.1, .int .i64 z.2.1, .int .i64 z.2.2.1, .int .i64 z.2.2.2], [])) (fun z => ((.exit 0), [.lst tVersion z.1, .int .i64 z.2.1, .int .i64 z.2.2.1, .int .i64 z.2.2.2], [])))

theorem laws_szVersionS_bx0 (x : ((List dVersion) × Int × Int × Int)) : exec G6 ⟨0, 27, laws_szVersionS_loops⟩ (loopBody Try.f10 0) (bodyK ⟨0, 27, laws_szVersionS_loops⟩ [0, 1, 4, 5] []) (setEs (deads 27) [0, 1, 4, 5] (laws_szVersionS_v0 x)) (laws_szVersionS_s0 x) = laws_szVersionS_b0 x (Sum.elim (fun y => some ⟨.norm, laws_szVersionS_v0 y, laws_szVersionS_s0 y⟩) fun z => some ⟨(laws_szVersionS_e0 z).1, (laws_szVersionS_e0 z).2.1, (laws_szVersionS_e0 z).2.2⟩) := by
  kernel_rfl

theorem laws_szVersionS_lo0 : ∀ sp, (laws_szVersionS_loops 0) = some sp → LoopOk G6 ⟨0, 27, laws_szVersionS_loops⟩ sp (loopBody Try.f10 0) := by
  intro sp hsp vals st k r h
  cases hsp
  dsimp only at h
  rcases onPats_inv2 h with ⟨p, q, rfl, rfl, h⟩ | h
  · exact loop_runs2 laws_szVersionS_bp0 laws_szVersionS_v0 laws_szVersionS_s0 laws_szVersionS_e0 (fun z => by rcases z with z | z <;> (intro h; cases h)) laws_szVersionS_bx0 Fuel (p.1, p.2.1, p.2.2.1, p.2.2.2.1) _ k r (fun z => by rcases z with z | z <;> rfl) h
  cases h

theorem laws_szVersionS_y (a0 : (List dVersion)) (a1 : Int) : execFn G6 laws_szVersionS_loops Try.f10 [.lst tVersion a0, .int .i64 a1] [] = laws_szVersionS_k a0 a1 (fun (y : Int) => some ⟨.ret, [.int .i64 y], []⟩) := by rw [laws_szVersionS_e]; kernel_rfl

theorem laws_szVersionS_l : LoopsOk G6 ⟨0, 27, laws_szVersionS_loops⟩ (Try.f10.body.getD .skip) :=
  loopsOk_of (ids := [0]) (by kernel_rfl) (by kernel_rfl) ⟨laws_szVersionS_lo0, trivial⟩

theorem laws_szVersionS_c : Contract Try.prog 10 laws_szVersionS_g := by
  refine told G6_ok follows Try.func10 (c := Try.f10.body.getD .skip) (by kernel_rfl) ?_
  intro args s k r hk
  unfold laws_szVersionS_g at hk
  rcases onPats_inv hk with ⟨p, q, rfl, rfl⟩ | hk
  · exact ⟨laws_szVersionS_loops, laws_szVersionS_q p.1 p.2.1, laws_szVersionS_y p.1 p.2.1, laws_szVersionS_l⟩
  cases hk

def G7 : Glob := G6.add 10 laws_szVersionS_g

theorem G7_ok : GlobOk Try.prog G7 := G6_ok.add ⟨Try.f10, Try.func10, by kernel_rfl, by kernel_rfl⟩ laws_szVersionS_c



def laws_toRange_loops : Nat → Option LoopSpec
  | _ => none

theorem laws_toRange_y (a0 : ByteArray) (a1 : ByteArray) : execFn G7 laws_toRange_loops Try.f15 [.agg [.str a0, .str a1]] [] = laws_toRange_k (a0, a1) (fun (y : (ByteArray × ByteArray)) => some ⟨.ret, [.agg [.str y.1, .str y.2]], []⟩) := by rw [laws_toRange_e]; kernel_rfl

theorem laws_toRange_l : LoopsOk G7 ⟨0, 11, laws_toRange_loops⟩ (Try.f15.body.getD .skip) :=
  loopsOk_of (ids := []) (by kernel_rfl) (by kernel_rfl) trivial

theorem laws_toRange_c : Contract Try.prog 15 laws_toRange_g := by
  refine told G7_ok follows Try.func15 (c := Try.f15.body.getD .skip) (by kernel_rfl) ?_
  intro args s k r hk
  unfold laws_toRange_g at hk
  rcases onPats_inv hk with ⟨p, q, rfl, rfl⟩ | hk
  · exact ⟨laws_toRange_loops, laws_toRange_q p.1.1 p.1.2.1, laws_toRange_y p.1.1 p.1.2.1, laws_toRange_l⟩
  cases hk

def G8 : Glob := G7.add 15 laws_toRange_g

theorem G8_ok : GlobOk Try.prog G8 := G7_ok.add ⟨Try.f15, Try.func15, by kernel_rfl, by kernel_rfl⟩ laws_toRange_c



def laws_toRangeS_loops : Nat → Option LoopSpec
  | 0 => some ⟨[0, 3, 4], [], fun vals st k => onPats [.lst tRange, .own 0, .int .i64] [.arr tRange] vals st (fun p q => loopK laws_toRangeS_b0 Fuel (p.1, p.2.2.1, q.1) (fun z => k (.exit 0) [.lst tRange z.1, .own 0, .int .i64 z.2.1] [.arr tRange z.2.2]))
      (none)⟩
  | _ => none

def laws_toRangeS_v0 : ((List dRange) × Int × (List dRange)) → List AV := (fun x => [.lst tRange x.1, .own 0, .int .i64 x.2.1])
def laws_toRangeS_s0 : ((List dRange) × Int × (List dRange)) → St := (fun x => [.arr tRange x.2.2])
def laws_toRangeS_e0 : ((List dRange) × Int × (List dRange)) → Out × List AV × St := (fun z => ((.exit 0), [.lst tRange z.1, .own 0, .int .i64 z.2.1], [.arr tRange z.2.2]))

theorem laws_toRangeS_bx0 (x : ((List dRange) × Int × (List dRange))) : exec G8 ⟨0, 23, laws_toRangeS_loops⟩ (loopBody Try.f68 0) (bodyK ⟨0, 23, laws_toRangeS_loops⟩ [0, 3, 4] []) (setEs (deads 23) [0, 3, 4] (laws_toRangeS_v0 x)) (laws_toRangeS_s0 x) = laws_toRangeS_b0 x (Sum.elim (fun y => some ⟨.norm, laws_toRangeS_v0 y, laws_toRangeS_s0 y⟩) fun z => some ⟨(laws_toRangeS_e0 z).1, (laws_toRangeS_e0 z).2.1, (laws_toRangeS_e0 z).2.2⟩) := by
  kernel_rfl

theorem laws_toRangeS_lo0 : ∀ sp, (laws_toRangeS_loops 0) = some sp → LoopOk G8 ⟨0, 23, laws_toRangeS_loops⟩ sp (loopBody Try.f68 0) := by
  intro sp hsp vals st k r h
  cases hsp
  dsimp only at h
  rcases onPats_inv2 h with ⟨p, q, rfl, rfl, h⟩ | h
  · exact loop_runs2 laws_toRangeS_bp0 laws_toRangeS_v0 laws_toRangeS_s0 laws_toRangeS_e0 (fun z => by (intro h; cases h)) laws_toRangeS_bx0 Fuel (p.1, p.2.2.1, q.1) _ k r (fun z => rfl) h
  cases h

theorem laws_toRangeS_y (a0 : (List dRange)) : execFn G8 laws_toRangeS_loops Try.f68 [.lst tRange a0] [] = laws_toRangeS_k a0 (fun (y : (List dRange)) => some ⟨.ret, [.own 0], [.arr tRange y]⟩) := by rw [laws_toRangeS_e]; kernel_rfl

theorem laws_toRangeS_l : LoopsOk G8 ⟨0, 23, laws_toRangeS_loops⟩ (Try.f68.body.getD .skip) :=
  loopsOk_of (ids := [0]) (by kernel_rfl) (by kernel_rfl) ⟨laws_toRangeS_lo0, trivial⟩

theorem laws_toRangeS_c : Contract Try.prog 68 laws_toRangeS_g := by
  refine told G8_ok follows Try.func68 (c := Try.f68.body.getD .skip) (by kernel_rfl) ?_
  intro args s k r hk
  unfold laws_toRangeS_g at hk
  rcases onPats_inv hk with ⟨p, q, rfl, rfl⟩ | hk
  · exact ⟨laws_toRangeS_loops, laws_toRangeS_q p.1, laws_toRangeS_y p.1, laws_toRangeS_l⟩
  cases hk

def G9 : Glob := G8.add 68 laws_toRangeS_g

theorem G9_ok : GlobOk Try.prog G9 := G8_ok.add ⟨Try.f68, Try.func68, by kernel_rfl, by kernel_rfl⟩ laws_toRangeS_c



def laws_toWrite_loops : Nat → Option LoopSpec
  | _ => none

theorem laws_toWrite_y (a0 : ByteArray) (a1 : ByteArray) (a2 : Bool) : execFn G9 laws_toWrite_loops Try.f52 [.agg [.str a0, .str a1, .bool a2]] [] = laws_toWrite_k (a0, (a1, a2)) (fun (y : (ByteArray × ByteArray × Bool)) => some ⟨.ret, [.agg [.str y.1, .str y.2.1, .bool y.2.2]], []⟩) := by rw [laws_toWrite_e]; kernel_rfl

theorem laws_toWrite_l : LoopsOk G9 ⟨0, 14, laws_toWrite_loops⟩ (Try.f52.body.getD .skip) :=
  loopsOk_of (ids := []) (by kernel_rfl) (by kernel_rfl) trivial

theorem laws_toWrite_c : Contract Try.prog 52 laws_toWrite_g := by
  refine told G9_ok follows Try.func52 (c := Try.f52.body.getD .skip) (by kernel_rfl) ?_
  intro args s k r hk
  unfold laws_toWrite_g at hk
  rcases onPats_inv hk with ⟨p, q, rfl, rfl⟩ | hk
  · exact ⟨laws_toWrite_loops, laws_toWrite_q p.1.1 p.1.2.1 p.1.2.2.1, laws_toWrite_y p.1.1 p.1.2.1 p.1.2.2.1, laws_toWrite_l⟩
  cases hk

def G10 : Glob := G9.add 52 laws_toWrite_g

theorem G10_ok : GlobOk Try.prog G10 := G9_ok.add ⟨Try.f52, Try.func52, by kernel_rfl, by kernel_rfl⟩ laws_toWrite_c



def laws_toWriteS_loops : Nat → Option LoopSpec
  | 0 => some ⟨[0, 3, 4], [], fun vals st k => onPats [.lst tWrite, .own 0, .int .i64] [.arr tWrite] vals st (fun p q => loopK laws_toWriteS_b0 Fuel (p.1, p.2.2.1, q.1) (fun z => k (.exit 0) [.lst tWrite z.1, .own 0, .int .i64 z.2.1] [.arr tWrite z.2.2]))
      (none)⟩
  | _ => none

def laws_toWriteS_v0 : ((List dWrite) × Int × (List dWrite)) → List AV := (fun x => [.lst tWrite x.1, .own 0, .int .i64 x.2.1])
def laws_toWriteS_s0 : ((List dWrite) × Int × (List dWrite)) → St := (fun x => [.arr tWrite x.2.2])
def laws_toWriteS_e0 : ((List dWrite) × Int × (List dWrite)) → Out × List AV × St := (fun z => ((.exit 0), [.lst tWrite z.1, .own 0, .int .i64 z.2.1], [.arr tWrite z.2.2]))

theorem laws_toWriteS_bx0 (x : ((List dWrite) × Int × (List dWrite))) : exec G10 ⟨0, 23, laws_toWriteS_loops⟩ (loopBody Try.f69 0) (bodyK ⟨0, 23, laws_toWriteS_loops⟩ [0, 3, 4] []) (setEs (deads 23) [0, 3, 4] (laws_toWriteS_v0 x)) (laws_toWriteS_s0 x) = laws_toWriteS_b0 x (Sum.elim (fun y => some ⟨.norm, laws_toWriteS_v0 y, laws_toWriteS_s0 y⟩) fun z => some ⟨(laws_toWriteS_e0 z).1, (laws_toWriteS_e0 z).2.1, (laws_toWriteS_e0 z).2.2⟩) := by
  kernel_rfl

theorem laws_toWriteS_lo0 : ∀ sp, (laws_toWriteS_loops 0) = some sp → LoopOk G10 ⟨0, 23, laws_toWriteS_loops⟩ sp (loopBody Try.f69 0) := by
  intro sp hsp vals st k r h
  cases hsp
  dsimp only at h
  rcases onPats_inv2 h with ⟨p, q, rfl, rfl, h⟩ | h
  · exact loop_runs2 laws_toWriteS_bp0 laws_toWriteS_v0 laws_toWriteS_s0 laws_toWriteS_e0 (fun z => by (intro h; cases h)) laws_toWriteS_bx0 Fuel (p.1, p.2.2.1, q.1) _ k r (fun z => rfl) h
  cases h

theorem laws_toWriteS_y (a0 : (List dWrite)) : execFn G10 laws_toWriteS_loops Try.f69 [.lst tWrite a0] [] = laws_toWriteS_k a0 (fun (y : (List dWrite)) => some ⟨.ret, [.own 0], [.arr tWrite y]⟩) := by rw [laws_toWriteS_e]; kernel_rfl

theorem laws_toWriteS_l : LoopsOk G10 ⟨0, 23, laws_toWriteS_loops⟩ (Try.f69.body.getD .skip) :=
  loopsOk_of (ids := [0]) (by kernel_rfl) (by kernel_rfl) ⟨laws_toWriteS_lo0, trivial⟩

theorem laws_toWriteS_c : Contract Try.prog 69 laws_toWriteS_g := by
  refine told G10_ok follows Try.func69 (c := Try.f69.body.getD .skip) (by kernel_rfl) ?_
  intro args s k r hk
  unfold laws_toWriteS_g at hk
  rcases onPats_inv hk with ⟨p, q, rfl, rfl⟩ | hk
  · exact ⟨laws_toWriteS_loops, laws_toWriteS_q p.1, laws_toWriteS_y p.1, laws_toWriteS_l⟩
  cases hk

def G11 : Glob := G10.add 69 laws_toWriteS_g

theorem G11_ok : GlobOk Try.prog G11 := G10_ok.add ⟨Try.f69, Try.func69, by kernel_rfl, by kernel_rfl⟩ laws_toWriteS_c



def laws_toTxn_loops : Nat → Option LoopSpec
  | _ => none

theorem laws_toTxn_y (a0 : Int) (a1 : Int) (a2 : Int) (a3 : Int) (a4 : (List dRange)) (a5 : (List dWrite)) (a6 : Bool) (a7 : ByteArray) : execFn G11 laws_toTxn_loops Try.f13 [.agg [.int .i64 a0, .int .i64 a1, .int .i64 a2, .int .i64 a3, .lst tRange a4, .lst tWrite a5, .bool a6, .str a7]] [] = laws_toTxn_k (a0, (a1, (a2, (a3, (a4, (a5, (a6, a7))))))) (fun (y : (Int × Int × Int × Int × Bool × ByteArray × (List dRange) × (List dWrite))) => some ⟨.ret, [.agg [.int .i64 y.1, .int .i64 y.2.1, .int .i64 y.2.2.1, .int .i64 y.2.2.2.1, .own 0, .own 1, .bool y.2.2.2.2.1, .str y.2.2.2.2.2.1]], [.arr tRange y.2.2.2.2.2.2.1, .arr tWrite y.2.2.2.2.2.2.2]⟩) := by rw [laws_toTxn_e]; kernel_rfl

theorem laws_toTxn_l : LoopsOk G11 ⟨0, 31, laws_toTxn_loops⟩ (Try.f13.body.getD .skip) :=
  loopsOk_of (ids := []) (by kernel_rfl) (by kernel_rfl) trivial

theorem laws_toTxn_c : Contract Try.prog 13 laws_toTxn_g := by
  refine told G11_ok follows Try.func13 (c := Try.f13.body.getD .skip) (by kernel_rfl) ?_
  intro args s k r hk
  unfold laws_toTxn_g at hk
  rcases onPats_inv hk with ⟨p, q, rfl, rfl⟩ | hk
  · exact ⟨laws_toTxn_loops, laws_toTxn_q p.1.1 p.1.2.1 p.1.2.2.1 p.1.2.2.2.1 p.1.2.2.2.2.1 p.1.2.2.2.2.2.1 p.1.2.2.2.2.2.2.1 p.1.2.2.2.2.2.2.2.1, laws_toTxn_y p.1.1 p.1.2.1 p.1.2.2.1 p.1.2.2.2.1 p.1.2.2.2.2.1 p.1.2.2.2.2.2.1 p.1.2.2.2.2.2.2.1 p.1.2.2.2.2.2.2.2.1, laws_toTxn_l⟩
  cases hk

def G12 : Glob := G11.add 13 laws_toTxn_g

theorem G12_ok : GlobOk Try.prog G12 := G11_ok.add ⟨Try.f13, Try.func13, by kernel_rfl, by kernel_rfl⟩ laws_toTxn_c



def laws_toVersion_loops : Nat → Option LoopSpec
  | _ => none

theorem laws_toVersion_y (a0 : ByteArray) (a1 : ByteArray) (a2 : Bool) (a3 : Int) : execFn G12 laws_toVersion_loops Try.f70 [.agg [.str a0, .str a1, .bool a2, .int .i64 a3]] [] = laws_toVersion_k (a0, (a1, (a2, a3))) (fun (y : (ByteArray × ByteArray × Bool × Int)) => some ⟨.ret, [.agg [.str y.1, .str y.2.1, .bool y.2.2.1, .int .i64 y.2.2.2]], []⟩) := by rw [laws_toVersion_e]; kernel_rfl

theorem laws_toVersion_l : LoopsOk G12 ⟨0, 17, laws_toVersion_loops⟩ (Try.f70.body.getD .skip) :=
  loopsOk_of (ids := []) (by kernel_rfl) (by kernel_rfl) trivial

theorem laws_toVersion_c : Contract Try.prog 70 laws_toVersion_g := by
  refine told G12_ok follows Try.func70 (c := Try.f70.body.getD .skip) (by kernel_rfl) ?_
  intro args s k r hk
  unfold laws_toVersion_g at hk
  rcases onPats_inv hk with ⟨p, q, rfl, rfl⟩ | hk
  · exact ⟨laws_toVersion_loops, laws_toVersion_q p.1.1 p.1.2.1 p.1.2.2.1 p.1.2.2.2.1, laws_toVersion_y p.1.1 p.1.2.1 p.1.2.2.1 p.1.2.2.2.1, laws_toVersion_l⟩
  cases hk

def G13 : Glob := G12.add 70 laws_toVersion_g

theorem G13_ok : GlobOk Try.prog G13 := G12_ok.add ⟨Try.f70, Try.func70, by kernel_rfl, by kernel_rfl⟩ laws_toVersion_c



def laws_toVersionS_loops : Nat → Option LoopSpec
  | 0 => some ⟨[0, 3, 4], [], fun vals st k => onPats [.lst tVersion, .own 0, .int .i64] [.arr tVersion] vals st (fun p q => loopK laws_toVersionS_b0 Fuel (p.1, p.2.2.1, q.1) (fun z => k (.exit 0) [.lst tVersion z.1, .own 0, .int .i64 z.2.1] [.arr tVersion z.2.2]))
      (none)⟩
  | _ => none

def laws_toVersionS_v0 : ((List dVersion) × Int × (List dVersion)) → List AV := (fun x => [.lst tVersion x.1, .own 0, .int .i64 x.2.1])
def laws_toVersionS_s0 : ((List dVersion) × Int × (List dVersion)) → St := (fun x => [.arr tVersion x.2.2])
def laws_toVersionS_e0 : ((List dVersion) × Int × (List dVersion)) → Out × List AV × St := (fun z => ((.exit 0), [.lst tVersion z.1, .own 0, .int .i64 z.2.1], [.arr tVersion z.2.2]))

theorem laws_toVersionS_bx0 (x : ((List dVersion) × Int × (List dVersion))) : exec G13 ⟨0, 23, laws_toVersionS_loops⟩ (loopBody Try.f14 0) (bodyK ⟨0, 23, laws_toVersionS_loops⟩ [0, 3, 4] []) (setEs (deads 23) [0, 3, 4] (laws_toVersionS_v0 x)) (laws_toVersionS_s0 x) = laws_toVersionS_b0 x (Sum.elim (fun y => some ⟨.norm, laws_toVersionS_v0 y, laws_toVersionS_s0 y⟩) fun z => some ⟨(laws_toVersionS_e0 z).1, (laws_toVersionS_e0 z).2.1, (laws_toVersionS_e0 z).2.2⟩) := by
  kernel_rfl

theorem laws_toVersionS_lo0 : ∀ sp, (laws_toVersionS_loops 0) = some sp → LoopOk G13 ⟨0, 23, laws_toVersionS_loops⟩ sp (loopBody Try.f14 0) := by
  intro sp hsp vals st k r h
  cases hsp
  dsimp only at h
  rcases onPats_inv2 h with ⟨p, q, rfl, rfl, h⟩ | h
  · exact loop_runs2 laws_toVersionS_bp0 laws_toVersionS_v0 laws_toVersionS_s0 laws_toVersionS_e0 (fun z => by (intro h; cases h)) laws_toVersionS_bx0 Fuel (p.1, p.2.2.1, q.1) _ k r (fun z => rfl) h
  cases h

theorem laws_toVersionS_y (a0 : (List dVersion)) : execFn G13 laws_toVersionS_loops Try.f14 [.lst tVersion a0] [] = laws_toVersionS_k a0 (fun (y : (List dVersion)) => some ⟨.ret, [.own 0], [.arr tVersion y]⟩) := by rw [laws_toVersionS_e]; kernel_rfl

theorem laws_toVersionS_l : LoopsOk G13 ⟨0, 23, laws_toVersionS_loops⟩ (Try.f14.body.getD .skip) :=
  loopsOk_of (ids := [0]) (by kernel_rfl) (by kernel_rfl) ⟨laws_toVersionS_lo0, trivial⟩

theorem laws_toVersionS_c : Contract Try.prog 14 laws_toVersionS_g := by
  refine told G13_ok follows Try.func14 (c := Try.f14.body.getD .skip) (by kernel_rfl) ?_
  intro args s k r hk
  unfold laws_toVersionS_g at hk
  rcases onPats_inv hk with ⟨p, q, rfl, rfl⟩ | hk
  · exact ⟨laws_toVersionS_loops, laws_toVersionS_q p.1, laws_toVersionS_y p.1, laws_toVersionS_l⟩
  cases hk

def G14 : Glob := G13.add 14 laws_toVersionS_g

theorem G14_ok : GlobOk Try.prog G14 := G13_ok.add ⟨Try.f14, Try.func14, by kernel_rfl, by kernel_rfl⟩ laws_toVersionS_c



def spec_InRange_loops : Nat → Option LoopSpec
  | _ => none

theorem spec_InRange_y (a0 : ByteArray) (a1 : ByteArray) (a2 : ByteArray) : execFn G14 spec_InRange_loops Try.f146 [.agg [.str a0, .str a1], .str a2] [] = spec_InRange_k (a0, a1) a2 (fun (y : Bool) => some ⟨.ret, [.bool y], []⟩) := by rw [spec_InRange_e]; kernel_rfl

theorem spec_InRange_l : LoopsOk G14 ⟨0, 15, spec_InRange_loops⟩ (Try.f146.body.getD .skip) :=
  loopsOk_of (ids := []) (by kernel_rfl) (by kernel_rfl) trivial

theorem spec_InRange_c : Contract Try.prog 146 spec_InRange_g := by
  refine told G14_ok follows Try.func146 (c := Try.f146.body.getD .skip) (by kernel_rfl) ?_
  intro args s k r hk
  unfold spec_InRange_g at hk
  rcases onPats_inv hk with ⟨p, q, rfl, rfl⟩ | hk
  · exact ⟨spec_InRange_loops, spec_InRange_q p.1.1 p.1.2.1 p.2.1, spec_InRange_y p.1.1 p.1.2.1 p.2.1, spec_InRange_l⟩
  cases hk

def G15 : Glob := G14.add 146 spec_InRange_g

theorem G15_ok : GlobOk Try.prog G15 := G14_ok.add ⟨Try.f146, Try.func146, by kernel_rfl, by kernel_rfl⟩ spec_InRange_c



def spec_l06Keys_loops : Nat → Option LoopSpec
  | 2 => some ⟨[0, 3, 5, 6, 7, 8, 9], [], fun vals st k => onPats [.lst tVersion, .bp 0 0, .own 1, .int .i64, .str, .own 2, .int .i64] [.box [.str, .str], .arr .str, .arr .str] vals st (fun p q => loopK spec_l06Keys_b2 Fuel (p.1, p.2.2.2.1, p.2.2.2.2.1, p.2.2.2.2.2.2.1, q.1.1, q.1.2.1, q.2.1, q.2.2.1) (fun z => k (.exit 2) [.lst tVersion z.1, .bp 0 0, .own 1, .int .i64 z.2.1, .str z.2.2.1, .own 2, .int .i64 z.2.2.2.1] [.box [.str z.2.2.2.2.1, .str z.2.2.2.2.2.1], .arr .str z.2.2.2.2.2.2.1, .arr .str z.2.2.2.2.2.2.2]))
      (none)⟩
  | 4 => some ⟨[0, 3, 5, 6, 7, 8, 10], [], fun vals st k => onPats [.lst tVersion, .bp 0 0, .own 1, .int .i64, .str, .own 2, .int .i64] [.box [.str, .str], .arr .str, .arr .str] vals st (fun p q => loopK spec_l06Keys_b4 Fuel (p.1, p.2.2.2.1, p.2.2.2.2.1, p.2.2.2.2.2.2.1, q.1.1, q.1.2.1, q.2.1, q.2.2.1) (fun z => k (.exit 4) [.lst tVersion z.1, .bp 0 0, .own 1, .int .i64 z.2.1, .str z.2.2.1, .own 2, .int .i64 z.2.2.2.1] [.box [.str z.2.2.2.2.1, .str z.2.2.2.2.2.1], .arr .str z.2.2.2.2.2.2.1, .arr .str z.2.2.2.2.2.2.2]))
      (none)⟩
  | 0 => some ⟨[0, 3, 5, 6], [], fun vals st k => onPats [.lst tVersion, .bp 0 0, .own 1, .int .i64] [.box [.str, .str], .arr .str] vals st (fun p q => loopK spec_l06Keys_b0 Fuel (p.1, p.2.2.2.1, q.1.1, q.1.2.1, q.2.1) (fun z => k (.exit 0) [.lst tVersion z.1, .bp 0 0, .own 1, .int .i64 z.2.1] [.box [.str z.2.2.1, .str z.2.2.2.1], .arr .str z.2.2.2.2]))
      (none)⟩
  | _ => none

def spec_l06Keys_v2 : ((List dVersion) × Int × ByteArray × Int × ByteArray × ByteArray × (List ByteArray) × (List ByteArray)) → List AV := (fun x => [.lst tVersion x.1, .bp 0 0, .own 1, .int .i64 x.2.1, .str x.2.2.1, .own 2, .int .i64 x.2.2.2.1])
def spec_l06Keys_s2 : ((List dVersion) × Int × ByteArray × Int × ByteArray × ByteArray × (List ByteArray) × (List ByteArray)) → St := (fun x => [.box [.str x.2.2.2.2.1, .str x.2.2.2.2.2.1], .arr .str x.2.2.2.2.2.2.1, .arr .str x.2.2.2.2.2.2.2])
def spec_l06Keys_e2 : ((List dVersion) × Int × ByteArray × Int × ByteArray × ByteArray × (List ByteArray) × (List ByteArray)) → Out × List AV × St := (fun z => ((.exit 2), [.lst tVersion z.1, .bp 0 0, .own 1, .int .i64 z.2.1, .str z.2.2.1, .own 2, .int .i64 z.2.2.2.1], [.box [.str z.2.2.2.2.1, .str z.2.2.2.2.2.1], .arr .str z.2.2.2.2.2.2.1, .arr .str z.2.2.2.2.2.2.2]))

theorem spec_l06Keys_bx2 (x : ((List dVersion) × Int × ByteArray × Int × ByteArray × ByteArray × (List ByteArray) × (List ByteArray))) : exec G15 ⟨0, 72, spec_l06Keys_loops⟩ (loopBody Try.f67 2) (bodyK ⟨0, 72, spec_l06Keys_loops⟩ [0, 3, 5, 6, 7, 8, 9] []) (setEs (deads 72) [0, 3, 5, 6, 7, 8, 9] (spec_l06Keys_v2 x)) (spec_l06Keys_s2 x) = spec_l06Keys_b2 x (Sum.elim (fun y => some ⟨.norm, spec_l06Keys_v2 y, spec_l06Keys_s2 y⟩) fun z => some ⟨(spec_l06Keys_e2 z).1, (spec_l06Keys_e2 z).2.1, (spec_l06Keys_e2 z).2.2⟩) := by
  kernel_rfl

theorem spec_l06Keys_lo2 : ∀ sp, (spec_l06Keys_loops 2) = some sp → LoopOk G15 ⟨0, 72, spec_l06Keys_loops⟩ sp (loopBody Try.f67 2) := by
  intro sp hsp vals st k r h
  cases hsp
  dsimp only at h
  rcases onPats_inv2 h with ⟨p, q, rfl, rfl, h⟩ | h
  · exact loop_runs2 spec_l06Keys_bp2 spec_l06Keys_v2 spec_l06Keys_s2 spec_l06Keys_e2 (fun z => by (intro h; cases h)) spec_l06Keys_bx2 Fuel (p.1, p.2.2.2.1, p.2.2.2.2.1, p.2.2.2.2.2.2.1, q.1.1, q.1.2.1, q.2.1, q.2.2.1) _ k r (fun z => rfl) h
  cases h

def spec_l06Keys_v4 : ((List dVersion) × Int × ByteArray × Int × ByteArray × ByteArray × (List ByteArray) × (List ByteArray)) → List AV := (fun x => [.lst tVersion x.1, .bp 0 0, .own 1, .int .i64 x.2.1, .str x.2.2.1, .own 2, .int .i64 x.2.2.2.1])
def spec_l06Keys_s4 : ((List dVersion) × Int × ByteArray × Int × ByteArray × ByteArray × (List ByteArray) × (List ByteArray)) → St := (fun x => [.box [.str x.2.2.2.2.1, .str x.2.2.2.2.2.1], .arr .str x.2.2.2.2.2.2.1, .arr .str x.2.2.2.2.2.2.2])
def spec_l06Keys_e4 : ((List dVersion) × Int × ByteArray × Int × ByteArray × ByteArray × (List ByteArray) × (List ByteArray)) → Out × List AV × St := (fun z => ((.exit 4), [.lst tVersion z.1, .bp 0 0, .own 1, .int .i64 z.2.1, .str z.2.2.1, .own 2, .int .i64 z.2.2.2.1], [.box [.str z.2.2.2.2.1, .str z.2.2.2.2.2.1], .arr .str z.2.2.2.2.2.2.1, .arr .str z.2.2.2.2.2.2.2]))

theorem spec_l06Keys_bx4 (x : ((List dVersion) × Int × ByteArray × Int × ByteArray × ByteArray × (List ByteArray) × (List ByteArray))) : exec G15 ⟨0, 72, spec_l06Keys_loops⟩ (loopBody Try.f67 4) (bodyK ⟨0, 72, spec_l06Keys_loops⟩ [0, 3, 5, 6, 7, 8, 10] []) (setEs (deads 72) [0, 3, 5, 6, 7, 8, 10] (spec_l06Keys_v4 x)) (spec_l06Keys_s4 x) = spec_l06Keys_b4 x (Sum.elim (fun y => some ⟨.norm, spec_l06Keys_v4 y, spec_l06Keys_s4 y⟩) fun z => some ⟨(spec_l06Keys_e4 z).1, (spec_l06Keys_e4 z).2.1, (spec_l06Keys_e4 z).2.2⟩) := by
  kernel_rfl

theorem spec_l06Keys_lo4 : ∀ sp, (spec_l06Keys_loops 4) = some sp → LoopOk G15 ⟨0, 72, spec_l06Keys_loops⟩ sp (loopBody Try.f67 4) := by
  intro sp hsp vals st k r h
  cases hsp
  dsimp only at h
  rcases onPats_inv2 h with ⟨p, q, rfl, rfl, h⟩ | h
  · exact loop_runs2 spec_l06Keys_bp4 spec_l06Keys_v4 spec_l06Keys_s4 spec_l06Keys_e4 (fun z => by (intro h; cases h)) spec_l06Keys_bx4 Fuel (p.1, p.2.2.2.1, p.2.2.2.2.1, p.2.2.2.2.2.2.1, q.1.1, q.1.2.1, q.2.1, q.2.2.1) _ k r (fun z => rfl) h
  cases h

def spec_l06Keys_v0 : ((List dVersion) × Int × ByteArray × ByteArray × (List ByteArray)) → List AV := (fun x => [.lst tVersion x.1, .bp 0 0, .own 1, .int .i64 x.2.1])
def spec_l06Keys_s0 : ((List dVersion) × Int × ByteArray × ByteArray × (List ByteArray)) → St := (fun x => [.box [.str x.2.2.1, .str x.2.2.2.1], .arr .str x.2.2.2.2])
def spec_l06Keys_e0 : ((List dVersion) × Int × ByteArray × ByteArray × (List ByteArray)) → Out × List AV × St := (fun z => ((.exit 0), [.lst tVersion z.1, .bp 0 0, .own 1, .int .i64 z.2.1], [.box [.str z.2.2.1, .str z.2.2.2.1], .arr .str z.2.2.2.2]))

theorem spec_l06Keys_bx0 (x : ((List dVersion) × Int × ByteArray × ByteArray × (List ByteArray))) : exec G15 ⟨0, 72, spec_l06Keys_loops⟩ (loopBody Try.f67 0) (bodyK ⟨0, 72, spec_l06Keys_loops⟩ [0, 3, 5, 6] []) (setEs (deads 72) [0, 3, 5, 6] (spec_l06Keys_v0 x)) (spec_l06Keys_s0 x) = spec_l06Keys_b0 x (Sum.elim (fun y => some ⟨.norm, spec_l06Keys_v0 y, spec_l06Keys_s0 y⟩) fun z => some ⟨(spec_l06Keys_e0 z).1, (spec_l06Keys_e0 z).2.1, (spec_l06Keys_e0 z).2.2⟩) := by
  kernel_rfl

theorem spec_l06Keys_lo0 : ∀ sp, (spec_l06Keys_loops 0) = some sp → LoopOk G15 ⟨0, 72, spec_l06Keys_loops⟩ sp (loopBody Try.f67 0) := by
  intro sp hsp vals st k r h
  cases hsp
  dsimp only at h
  rcases onPats_inv2 h with ⟨p, q, rfl, rfl, h⟩ | h
  · exact loop_runs2 spec_l06Keys_bp0 spec_l06Keys_v0 spec_l06Keys_s0 spec_l06Keys_e0 (fun z => by (intro h; cases h)) spec_l06Keys_bx0 Fuel (p.1, p.2.2.2.1, q.1.1, q.1.2.1, q.2.1) _ k r (fun z => rfl) h
  cases h

theorem spec_l06Keys_y (a0 : (List dVersion)) (a1 : ByteArray) (a2 : ByteArray) : execFn G15 spec_l06Keys_loops Try.f67 [.lst tVersion a0, .agg [.str a1, .str a2]] [] = spec_l06Keys_k a0 (a1, a2) (fun (y : (List ByteArray)) => some ⟨.ret, [.own 0], [.arr .str y]⟩) := by rw [spec_l06Keys_e]; kernel_rfl

theorem spec_l06Keys_l : LoopsOk G15 ⟨0, 72, spec_l06Keys_loops⟩ (Try.f67.body.getD .skip) :=
  loopsOk_of (ids := [2, 4, 0]) (by kernel_rfl) (by kernel_rfl) ⟨spec_l06Keys_lo2, ⟨spec_l06Keys_lo4, ⟨spec_l06Keys_lo0, trivial⟩⟩⟩

theorem spec_l06Keys_c : Contract Try.prog 67 spec_l06Keys_g := by
  refine told G15_ok follows Try.func67 (c := Try.f67.body.getD .skip) (by kernel_rfl) ?_
  intro args s k r hk
  unfold spec_l06Keys_g at hk
  rcases onPats_inv hk with ⟨p, q, rfl, rfl⟩ | hk
  · exact ⟨spec_l06Keys_loops, spec_l06Keys_q p.1 p.2.1.1 p.2.1.2.1, spec_l06Keys_y p.1 p.2.1.1 p.2.1.2.1, spec_l06Keys_l⟩
  cases hk

def G16 : Glob := G15.add 67 spec_l06Keys_g

theorem G16_ok : GlobOk Try.prog G16 := G15_ok.add ⟨Try.f67, Try.func67, by kernel_rfl, by kernel_rfl⟩ spec_l06Keys_c



def spec_l06At_loops : Nat → Option LoopSpec
  | 0 => some ⟨[0, 1, 2, 7, 8], [], fun vals st k => onPats [.lst tVersion, .str, .int .i64, .int .i64, .int .i64] [] vals st (fun p q => loopK spec_l06At_b0 Fuel (p.1, p.2.1, p.2.2.1, p.2.2.2.1, p.2.2.2.2.1) (fun z => k (.exit 0) [.lst tVersion z.1, .str z.2.1, .int .i64 z.2.2.1, .int .i64 z.2.2.2.1, .int .i64 z.2.2.2.2] []))
      (none)⟩
  | 2000005 => some ⟨[0, 2, 4, 6, 8, 10, 12, 14, 16, 18, 20, 22, 24, 26, 28, 30, 32, 34, 36, 38, 40, 42, 44, 46, 48, 50, 52, 54, 56, 58, 60, 62, 64], [], fun _ _ _ => none⟩
  | _ => none

def spec_l06At_v0 : ((List dVersion) × ByteArray × Int × Int × Int) → List AV := (fun x => [.lst tVersion x.1, .str x.2.1, .int .i64 x.2.2.1, .int .i64 x.2.2.2.1, .int .i64 x.2.2.2.2])
def spec_l06At_s0 : ((List dVersion) × ByteArray × Int × Int × Int) → St := (fun x => [])
def spec_l06At_e0 : ((List dVersion) × ByteArray × Int × Int × Int) → Out × List AV × St := (fun z => ((.exit 0), [.lst tVersion z.1, .str z.2.1, .int .i64 z.2.2.1, .int .i64 z.2.2.2.1, .int .i64 z.2.2.2.2], []))

theorem spec_l06At_bx0 (x : ((List dVersion) × ByteArray × Int × Int × Int)) : exec G16 ⟨0, 50, spec_l06At_loops⟩ (loopBody Try.f186 0) (bodyK ⟨0, 50, spec_l06At_loops⟩ [0, 1, 2, 7, 8] []) (setEs (deads 50) [0, 1, 2, 7, 8] (spec_l06At_v0 x)) (spec_l06At_s0 x) = spec_l06At_b0 x (Sum.elim (fun y => some ⟨.norm, spec_l06At_v0 y, spec_l06At_s0 y⟩) fun z => some ⟨(spec_l06At_e0 z).1, (spec_l06At_e0 z).2.1, (spec_l06At_e0 z).2.2⟩) := by
  kernel_rfl

theorem spec_l06At_lo0 : ∀ sp, (spec_l06At_loops 0) = some sp → LoopOk G16 ⟨0, 50, spec_l06At_loops⟩ sp (loopBody Try.f186 0) := by
  intro sp hsp vals st k r h
  cases hsp
  dsimp only at h
  rcases onPats_inv2 h with ⟨p, q, rfl, rfl, h⟩ | h
  · exact loop_runs2 spec_l06At_bp0 spec_l06At_v0 spec_l06At_s0 spec_l06At_e0 (fun z => by (intro h; cases h)) spec_l06At_bx0 Fuel (p.1, p.2.1, p.2.2.1, p.2.2.2.1, p.2.2.2.2.1) _ k r (fun z => rfl) h
  cases h

theorem spec_l06At_y (a0 : (List dVersion)) (a1 : ByteArray) (a2 : Int) : execFn G16 spec_l06At_loops Try.f186 [.lst tVersion a0, .str a1, .int .i64 a2] [] = spec_l06At_k a0 a1 a2 (fun (y : Int) => some ⟨.ret, [.int .i64 y], []⟩) := by rw [spec_l06At_e]; kernel_rfl

theorem spec_l06At_l : LoopsOk G16 ⟨0, 50, spec_l06At_loops⟩ (Try.f186.body.getD .skip) :=
  loopsOk_of (ids := [0]) (by kernel_rfl) (by kernel_rfl) ⟨spec_l06At_lo0, trivial⟩

theorem spec_l06At_c : Contract Try.prog 186 spec_l06At_g := by
  refine told G16_ok follows Try.func186 (c := Try.f186.body.getD .skip) (by kernel_rfl) ?_
  intro args s k r hk
  unfold spec_l06At_g at hk
  rcases onPats_inv hk with ⟨p, q, rfl, rfl⟩ | hk
  · exact ⟨spec_l06At_loops, spec_l06At_q p.1 p.2.1 p.2.2.1, spec_l06At_y p.1 p.2.1 p.2.2.1, spec_l06At_l⟩
  cases hk

def G17 : Glob := G16.add 186 spec_l06At_g

theorem G17_ok : GlobOk Try.prog G17 := G16_ok.add ⟨Try.f186, Try.func186, by kernel_rfl, by kernel_rfl⟩ spec_l06At_c



def spec_SeenAt_loops : Nat → Option LoopSpec
  | _ => none

theorem spec_SeenAt_y (a0 : (List dVersion)) (a1 : ByteArray) (a2 : Int) : execFn G17 spec_SeenAt_loops Try.f121 [.lst tVersion a0, .str a1, .int .i64 a2] [] = spec_SeenAt_k a0 a1 a2 (fun (y : (ByteArray × Bool)) => some ⟨.ret, [.tup [.str y.1, .bool y.2]], []⟩) := by rw [spec_SeenAt_e]; kernel_rfl

theorem spec_SeenAt_l : LoopsOk G17 ⟨0, 27, spec_SeenAt_loops⟩ (Try.f121.body.getD .skip) :=
  loopsOk_of (ids := []) (by kernel_rfl) (by kernel_rfl) trivial

theorem spec_SeenAt_c : Contract Try.prog 121 spec_SeenAt_g := by
  refine told G17_ok follows Try.func121 (c := Try.f121.body.getD .skip) (by kernel_rfl) ?_
  intro args s k r hk
  unfold spec_SeenAt_g at hk
  rcases onPats_inv hk with ⟨p, q, rfl, rfl⟩ | hk
  · exact ⟨spec_SeenAt_loops, spec_SeenAt_q p.1 p.2.1 p.2.2.1, spec_SeenAt_y p.1 p.2.1 p.2.2.1, spec_SeenAt_l⟩
  cases hk

def G18 : Glob := G17.add 121 spec_SeenAt_g

theorem G18_ok : GlobOk Try.prog G18 := G17_ok.add ⟨Try.f121, Try.func121, by kernel_rfl, by kernel_rfl⟩ spec_SeenAt_c



def spec_OwnGet_loops : Nat → Option LoopSpec
  | 0 => some ⟨[1, 2, 3, 6, 7, 8], [], fun vals st k => onPats [.lst tVersion, .str, .bp 0 0, .str, .bool, .int .i64] [.box [.int .i64, .int .i64, .int .i64, .int .i64, .lst tRange, .lst tWrite, .bool, .str]] vals st (fun p q => loopK spec_OwnGet_b0 Fuel (p.1, p.2.1, p.2.2.2.1, p.2.2.2.2.1, p.2.2.2.2.2.1, q.1.1, q.1.2.1, q.1.2.2.1, q.1.2.2.2.1, q.1.2.2.2.2.1, q.1.2.2.2.2.2.1, q.1.2.2.2.2.2.2.1, q.1.2.2.2.2.2.2.2.1) (Sum.elim (fun z => k .ret [.lst tVersion z.1, .str z.2.1, .bp 0 0, .str z.2.2.1, .bool z.2.2.2.1, .int .i64 z.2.2.2.2.1] [.box [.int .i64 z.2.2.2.2.2.1, .int .i64 z.2.2.2.2.2.2.1, .int .i64 z.2.2.2.2.2.2.2.1, .int .i64 z.2.2.2.2.2.2.2.2.1, .lst tRange z.2.2.2.2.2.2.2.2.2.1, .lst tWrite z.2.2.2.2.2.2.2.2.2.2.1, .bool z.2.2.2.2.2.2.2.2.2.2.2.1, .str z.2.2.2.2.2.2.2.2.2.2.2.2]]) (fun z => k (.exit 0) [.lst tVersion z.1, .str z.2.1, .bp 0 0, .str z.2.2.1, .bool z.2.2.2.1, .int .i64 z.2.2.2.2.1] [.box [.int .i64 z.2.2.2.2.2.1, .int .i64 z.2.2.2.2.2.2.1, .int .i64 z.2.2.2.2.2.2.2.1, .int .i64 z.2.2.2.2.2.2.2.2.1, .lst tRange z.2.2.2.2.2.2.2.2.2.1, .lst tWrite z.2.2.2.2.2.2.2.2.2.2.1, .bool z.2.2.2.2.2.2.2.2.2.2.2.1, .str z.2.2.2.2.2.2.2.2.2.2.2.2]])))
      (none)⟩
  | _ => none

def spec_OwnGet_v0 : ((List dVersion) × ByteArray × ByteArray × Bool × Int × Int × Int × Int × Int × (List dRange) × (List dWrite) × Bool × ByteArray) → List AV := (fun x => [.lst tVersion x.1, .str x.2.1, .bp 0 0, .str x.2.2.1, .bool x.2.2.2.1, .int .i64 x.2.2.2.2.1])
def spec_OwnGet_s0 : ((List dVersion) × ByteArray × ByteArray × Bool × Int × Int × Int × Int × Int × (List dRange) × (List dWrite) × Bool × ByteArray) → St := (fun x => [.box [.int .i64 x.2.2.2.2.2.1, .int .i64 x.2.2.2.2.2.2.1, .int .i64 x.2.2.2.2.2.2.2.1, .int .i64 x.2.2.2.2.2.2.2.2.1, .lst tRange x.2.2.2.2.2.2.2.2.2.1, .lst tWrite x.2.2.2.2.2.2.2.2.2.2.1, .bool x.2.2.2.2.2.2.2.2.2.2.2.1, .str x.2.2.2.2.2.2.2.2.2.2.2.2]])
def spec_OwnGet_e0 : (((List dVersion) × ByteArray × ByteArray × Bool × Int × Int × Int × Int × Int × (List dRange) × (List dWrite) × Bool × ByteArray) ⊕ ((List dVersion) × ByteArray × ByteArray × Bool × Int × Int × Int × Int × Int × (List dRange) × (List dWrite) × Bool × ByteArray)) → Out × List AV × St := (Sum.elim (fun z => (.ret, [.lst tVersion z.1, .str z.2.1, .bp 0 0, .str z.2.2.1, .bool z.2.2.2.1, .int .i64 z.2.2.2.2.1], [.box [.int .i64 z.2.2.2.2.2.1, .int .i64 z.2.2.2.2.2.2.1, .int .i64 z.2.2.2.2.2.2.2.1, .int .i64 z.2.2.2.2.2.2.2.2.1, .lst tRange z.2.2.2.2.2.2.2.2.2.1, .lst tWrite z.2.2.2.2.2.2.2.2.2.2.1, .bool z.2.2.2.2.2.2.2.2.2.2.2.1, .str z.2.2.2.2.2.2.2.2.2.2.2.2]])) (fun z => ((.exit 0), [.lst tVersion z.1, .str z.2.1, .bp 0 0, .str z.2.2.1, .bool z.2.2.2.1, .int .i64 z.2.2.2.2.1], [.box [.int .i64 z.2.2.2.2.2.1, .int .i64 z.2.2.2.2.2.2.1, .int .i64 z.2.2.2.2.2.2.2.1, .int .i64 z.2.2.2.2.2.2.2.2.1, .lst tRange z.2.2.2.2.2.2.2.2.2.1, .lst tWrite z.2.2.2.2.2.2.2.2.2.2.1, .bool z.2.2.2.2.2.2.2.2.2.2.2.1, .str z.2.2.2.2.2.2.2.2.2.2.2.2]])))

theorem spec_OwnGet_bx0 (x : ((List dVersion) × ByteArray × ByteArray × Bool × Int × Int × Int × Int × Int × (List dRange) × (List dWrite) × Bool × ByteArray)) : exec G18 ⟨0, 43, spec_OwnGet_loops⟩ (loopBody Try.f43 0) (bodyK ⟨0, 43, spec_OwnGet_loops⟩ [1, 2, 3, 6, 7, 8] []) (setEs (deads 43) [1, 2, 3, 6, 7, 8] (spec_OwnGet_v0 x)) (spec_OwnGet_s0 x) = spec_OwnGet_b0 x (Sum.elim (fun y => some ⟨.norm, spec_OwnGet_v0 y, spec_OwnGet_s0 y⟩) fun z => some ⟨(spec_OwnGet_e0 z).1, (spec_OwnGet_e0 z).2.1, (spec_OwnGet_e0 z).2.2⟩) := by
  kernel_rfl

theorem spec_OwnGet_lo0 : ∀ sp, (spec_OwnGet_loops 0) = some sp → LoopOk G18 ⟨0, 43, spec_OwnGet_loops⟩ sp (loopBody Try.f43 0) := by
  intro sp hsp vals st k r h
  cases hsp
  dsimp only at h
  rcases onPats_inv2 h with ⟨p, q, rfl, rfl, h⟩ | h
  · exact loop_runs2 spec_OwnGet_bp0 spec_OwnGet_v0 spec_OwnGet_s0 spec_OwnGet_e0 (fun z => by rcases z with z | z <;> (intro h; cases h)) spec_OwnGet_bx0 Fuel (p.1, p.2.1, p.2.2.2.1, p.2.2.2.2.1, p.2.2.2.2.2.1, q.1.1, q.1.2.1, q.1.2.2.1, q.1.2.2.2.1, q.1.2.2.2.2.1, q.1.2.2.2.2.2.1, q.1.2.2.2.2.2.2.1, q.1.2.2.2.2.2.2.2.1) _ k r (fun z => by rcases z with z | z <;> rfl) h
  cases h

theorem spec_OwnGet_y (a0 : Int) (a1 : Int) (a2 : Int) (a3 : Int) (a4 : (List dRange)) (a5 : (List dWrite)) (a6 : Bool) (a7 : ByteArray) (a8 : (List dVersion)) (a9 : ByteArray) : execFn G18 spec_OwnGet_loops Try.f43 [.agg [.int .i64 a0, .int .i64 a1, .int .i64 a2, .int .i64 a3, .lst tRange a4, .lst tWrite a5, .bool a6, .str a7], .lst tVersion a8, .str a9] [] = spec_OwnGet_k (a0, (a1, (a2, (a3, (a4, (a5, (a6, a7))))))) a8 a9 (fun (y : (ByteArray × Bool)) => some ⟨.ret, [.tup [.str y.1, .bool y.2]], []⟩) := by rw [spec_OwnGet_e]; kernel_rfl

theorem spec_OwnGet_l : LoopsOk G18 ⟨0, 43, spec_OwnGet_loops⟩ (Try.f43.body.getD .skip) :=
  loopsOk_of (ids := [0]) (by kernel_rfl) (by kernel_rfl) ⟨spec_OwnGet_lo0, trivial⟩

theorem spec_OwnGet_c : Contract Try.prog 43 spec_OwnGet_g := by
  refine told G18_ok follows Try.func43 (c := Try.f43.body.getD .skip) (by kernel_rfl) ?_
  intro args s k r hk
  unfold spec_OwnGet_g at hk
  rcases onPats_inv hk with ⟨p, q, rfl, rfl⟩ | hk
  · exact ⟨spec_OwnGet_loops, spec_OwnGet_q p.1.1 p.1.2.1 p.1.2.2.1 p.1.2.2.2.1 p.1.2.2.2.2.1 p.1.2.2.2.2.2.1 p.1.2.2.2.2.2.2.1 p.1.2.2.2.2.2.2.2.1 p.2.1 p.2.2.1, spec_OwnGet_y p.1.1 p.1.2.1 p.1.2.2.1 p.1.2.2.2.1 p.1.2.2.2.2.1 p.1.2.2.2.2.2.1 p.1.2.2.2.2.2.2.1 p.1.2.2.2.2.2.2.2.1 p.2.1 p.2.2.1, spec_OwnGet_l⟩
  cases hk

def G19 : Glob := G18.add 43 spec_OwnGet_g

theorem G19_ok : GlobOk Try.prog G19 := G18_ok.add ⟨Try.f43, Try.func43, by kernel_rfl, by kernel_rfl⟩ spec_OwnGet_c



def spec_OwnScan_loops : Nat → Option LoopSpec
  | 0 => some ⟨[1, 3, 5, 7, 8], [], fun vals st k => onPats [.lst tVersion, .bp 0 0, .bp 1 0, .own 2, .int .i64] [.box [.int .i64, .int .i64, .int .i64, .int .i64, .lst tRange, .lst tWrite, .bool, .str], .box [.str, .str], .arr tVersion] vals st (fun p q => loopK spec_OwnScan_b0 Fuel (p.1, p.2.2.2.2.1, q.1.1, q.1.2.1, q.1.2.2.1, q.1.2.2.2.1, q.1.2.2.2.2.1, q.1.2.2.2.2.2.1, q.1.2.2.2.2.2.2.1, q.1.2.2.2.2.2.2.2.1, q.2.1.1, q.2.1.2.1, q.2.2.1) (fun z => k (.exit 0) [.lst tVersion z.1, .bp 0 0, .bp 1 0, .own 2, .int .i64 z.2.1] [.box [.int .i64 z.2.2.1, .int .i64 z.2.2.2.1, .int .i64 z.2.2.2.2.1, .int .i64 z.2.2.2.2.2.1, .lst tRange z.2.2.2.2.2.2.1, .lst tWrite z.2.2.2.2.2.2.2.1, .bool z.2.2.2.2.2.2.2.2.1, .str z.2.2.2.2.2.2.2.2.2.1], .box [.str z.2.2.2.2.2.2.2.2.2.2.1, .str z.2.2.2.2.2.2.2.2.2.2.2.1], .arr tVersion z.2.2.2.2.2.2.2.2.2.2.2.2]))
      (none)⟩
  | 2 => some ⟨[1, 3, 9, 10, 11], [], fun vals st k => onPats [.lst tVersion, .bp 0 0, .own 1, .own 2, .int .i64] [.box [.int .i64, .int .i64, .int .i64, .int .i64, .lst tRange, .lst tWrite, .bool, .str], .arr tRange, .arr .str] vals st (fun p q => loopK spec_OwnScan_b2 Fuel (p.1, p.2.2.2.2.1, q.1.1, q.1.2.1, q.1.2.2.1, q.1.2.2.2.1, q.1.2.2.2.2.1, q.1.2.2.2.2.2.1, q.1.2.2.2.2.2.2.1, q.1.2.2.2.2.2.2.2.1, q.2.1, q.2.2.1) (fun z => k (.exit 2) [.lst tVersion z.1, .bp 0 0, .own 1, .own 2, .int .i64 z.2.1] [.box [.int .i64 z.2.2.1, .int .i64 z.2.2.2.1, .int .i64 z.2.2.2.2.1, .int .i64 z.2.2.2.2.2.1, .lst tRange z.2.2.2.2.2.2.1, .lst tWrite z.2.2.2.2.2.2.2.1, .bool z.2.2.2.2.2.2.2.2.1, .str z.2.2.2.2.2.2.2.2.2.1], .arr tRange z.2.2.2.2.2.2.2.2.2.2.1, .arr .str z.2.2.2.2.2.2.2.2.2.2.2]))
      (none)⟩
  | 2000011 => some ⟨[0, 2, 4, 6, 8, 10, 12, 14, 16, 18, 20, 22], [], fun _ _ _ => none⟩
  | _ => none

def spec_OwnScan_v0 : ((List dVersion) × Int × Int × Int × Int × Int × (List dRange) × (List dWrite) × Bool × ByteArray × ByteArray × ByteArray × (List dVersion)) → List AV := (fun x => [.lst tVersion x.1, .bp 0 0, .bp 1 0, .own 2, .int .i64 x.2.1])
def spec_OwnScan_s0 : ((List dVersion) × Int × Int × Int × Int × Int × (List dRange) × (List dWrite) × Bool × ByteArray × ByteArray × ByteArray × (List dVersion)) → St := (fun x => [.box [.int .i64 x.2.2.1, .int .i64 x.2.2.2.1, .int .i64 x.2.2.2.2.1, .int .i64 x.2.2.2.2.2.1, .lst tRange x.2.2.2.2.2.2.1, .lst tWrite x.2.2.2.2.2.2.2.1, .bool x.2.2.2.2.2.2.2.2.1, .str x.2.2.2.2.2.2.2.2.2.1], .box [.str x.2.2.2.2.2.2.2.2.2.2.1, .str x.2.2.2.2.2.2.2.2.2.2.2.1], .arr tVersion x.2.2.2.2.2.2.2.2.2.2.2.2])
def spec_OwnScan_e0 : ((List dVersion) × Int × Int × Int × Int × Int × (List dRange) × (List dWrite) × Bool × ByteArray × ByteArray × ByteArray × (List dVersion)) → Out × List AV × St := (fun z => ((.exit 0), [.lst tVersion z.1, .bp 0 0, .bp 1 0, .own 2, .int .i64 z.2.1], [.box [.int .i64 z.2.2.1, .int .i64 z.2.2.2.1, .int .i64 z.2.2.2.2.1, .int .i64 z.2.2.2.2.2.1, .lst tRange z.2.2.2.2.2.2.1, .lst tWrite z.2.2.2.2.2.2.2.1, .bool z.2.2.2.2.2.2.2.2.1, .str z.2.2.2.2.2.2.2.2.2.1], .box [.str z.2.2.2.2.2.2.2.2.2.2.1, .str z.2.2.2.2.2.2.2.2.2.2.2.1], .arr tVersion z.2.2.2.2.2.2.2.2.2.2.2.2]))

theorem spec_OwnScan_bx0 (x : ((List dVersion) × Int × Int × Int × Int × Int × (List dRange) × (List dWrite) × Bool × ByteArray × ByteArray × ByteArray × (List dVersion))) : exec G19 ⟨0, 65, spec_OwnScan_loops⟩ (loopBody Try.f12 0) (bodyK ⟨0, 65, spec_OwnScan_loops⟩ [1, 3, 5, 7, 8] []) (setEs (deads 65) [1, 3, 5, 7, 8] (spec_OwnScan_v0 x)) (spec_OwnScan_s0 x) = spec_OwnScan_b0 x (Sum.elim (fun y => some ⟨.norm, spec_OwnScan_v0 y, spec_OwnScan_s0 y⟩) fun z => some ⟨(spec_OwnScan_e0 z).1, (spec_OwnScan_e0 z).2.1, (spec_OwnScan_e0 z).2.2⟩) := by
  kernel_rfl

theorem spec_OwnScan_lo0 : ∀ sp, (spec_OwnScan_loops 0) = some sp → LoopOk G19 ⟨0, 65, spec_OwnScan_loops⟩ sp (loopBody Try.f12 0) := by
  intro sp hsp vals st k r h
  cases hsp
  dsimp only at h
  rcases onPats_inv2 h with ⟨p, q, rfl, rfl, h⟩ | h
  · exact loop_runs2 spec_OwnScan_bp0 spec_OwnScan_v0 spec_OwnScan_s0 spec_OwnScan_e0 (fun z => by (intro h; cases h)) spec_OwnScan_bx0 Fuel (p.1, p.2.2.2.2.1, q.1.1, q.1.2.1, q.1.2.2.1, q.1.2.2.2.1, q.1.2.2.2.2.1, q.1.2.2.2.2.2.1, q.1.2.2.2.2.2.2.1, q.1.2.2.2.2.2.2.2.1, q.2.1.1, q.2.1.2.1, q.2.2.1) _ k r (fun z => rfl) h
  cases h

def spec_OwnScan_v2 : ((List dVersion) × Int × Int × Int × Int × Int × (List dRange) × (List dWrite) × Bool × ByteArray × (List dRange) × (List ByteArray)) → List AV := (fun x => [.lst tVersion x.1, .bp 0 0, .own 1, .own 2, .int .i64 x.2.1])
def spec_OwnScan_s2 : ((List dVersion) × Int × Int × Int × Int × Int × (List dRange) × (List dWrite) × Bool × ByteArray × (List dRange) × (List ByteArray)) → St := (fun x => [.box [.int .i64 x.2.2.1, .int .i64 x.2.2.2.1, .int .i64 x.2.2.2.2.1, .int .i64 x.2.2.2.2.2.1, .lst tRange x.2.2.2.2.2.2.1, .lst tWrite x.2.2.2.2.2.2.2.1, .bool x.2.2.2.2.2.2.2.2.1, .str x.2.2.2.2.2.2.2.2.2.1], .arr tRange x.2.2.2.2.2.2.2.2.2.2.1, .arr .str x.2.2.2.2.2.2.2.2.2.2.2])
def spec_OwnScan_e2 : ((List dVersion) × Int × Int × Int × Int × Int × (List dRange) × (List dWrite) × Bool × ByteArray × (List dRange) × (List ByteArray)) → Out × List AV × St := (fun z => ((.exit 2), [.lst tVersion z.1, .bp 0 0, .own 1, .own 2, .int .i64 z.2.1], [.box [.int .i64 z.2.2.1, .int .i64 z.2.2.2.1, .int .i64 z.2.2.2.2.1, .int .i64 z.2.2.2.2.2.1, .lst tRange z.2.2.2.2.2.2.1, .lst tWrite z.2.2.2.2.2.2.2.1, .bool z.2.2.2.2.2.2.2.2.1, .str z.2.2.2.2.2.2.2.2.2.1], .arr tRange z.2.2.2.2.2.2.2.2.2.2.1, .arr .str z.2.2.2.2.2.2.2.2.2.2.2]))

theorem spec_OwnScan_bx2 (x : ((List dVersion) × Int × Int × Int × Int × Int × (List dRange) × (List dWrite) × Bool × ByteArray × (List dRange) × (List ByteArray))) : exec G19 ⟨0, 65, spec_OwnScan_loops⟩ (loopBody Try.f12 2) (bodyK ⟨0, 65, spec_OwnScan_loops⟩ [1, 3, 9, 10, 11] []) (setEs (deads 65) [1, 3, 9, 10, 11] (spec_OwnScan_v2 x)) (spec_OwnScan_s2 x) = spec_OwnScan_b2 x (Sum.elim (fun y => some ⟨.norm, spec_OwnScan_v2 y, spec_OwnScan_s2 y⟩) fun z => some ⟨(spec_OwnScan_e2 z).1, (spec_OwnScan_e2 z).2.1, (spec_OwnScan_e2 z).2.2⟩) := by
  kernel_rfl

theorem spec_OwnScan_lo2 : ∀ sp, (spec_OwnScan_loops 2) = some sp → LoopOk G19 ⟨0, 65, spec_OwnScan_loops⟩ sp (loopBody Try.f12 2) := by
  intro sp hsp vals st k r h
  cases hsp
  dsimp only at h
  rcases onPats_inv2 h with ⟨p, q, rfl, rfl, h⟩ | h
  · exact loop_runs2 spec_OwnScan_bp2 spec_OwnScan_v2 spec_OwnScan_s2 spec_OwnScan_e2 (fun z => by (intro h; cases h)) spec_OwnScan_bx2 Fuel (p.1, p.2.2.2.2.1, q.1.1, q.1.2.1, q.1.2.2.1, q.1.2.2.2.1, q.1.2.2.2.2.1, q.1.2.2.2.2.2.1, q.1.2.2.2.2.2.2.1, q.1.2.2.2.2.2.2.2.1, q.2.1, q.2.2.1) _ k r (fun z => rfl) h
  cases h

theorem spec_OwnScan_y (a0 : Int) (a1 : Int) (a2 : Int) (a3 : Int) (a4 : (List dRange)) (a5 : (List dWrite)) (a6 : Bool) (a7 : ByteArray) (a8 : (List dVersion)) (a9 : ByteArray) (a10 : ByteArray) : execFn G19 spec_OwnScan_loops Try.f12 [.agg [.int .i64 a0, .int .i64 a1, .int .i64 a2, .int .i64 a3, .lst tRange a4, .lst tWrite a5, .bool a6, .str a7], .lst tVersion a8, .agg [.str a9, .str a10]] [] = spec_OwnScan_k (a0, (a1, (a2, (a3, (a4, (a5, (a6, a7))))))) a8 (a9, a10) (fun (y : (List dRange)) => some ⟨.ret, [.own 0], [.arr tRange y]⟩) := by rw [spec_OwnScan_e]; kernel_rfl

theorem spec_OwnScan_l : LoopsOk G19 ⟨0, 65, spec_OwnScan_loops⟩ (Try.f12.body.getD .skip) :=
  loopsOk_of (ids := [0, 2]) (by kernel_rfl) (by kernel_rfl) ⟨spec_OwnScan_lo0, ⟨spec_OwnScan_lo2, trivial⟩⟩

theorem spec_OwnScan_c : Contract Try.prog 12 spec_OwnScan_g := by
  refine told G19_ok follows Try.func12 (c := Try.f12.body.getD .skip) (by kernel_rfl) ?_
  intro args s k r hk
  unfold spec_OwnScan_g at hk
  rcases onPats_inv hk with ⟨p, q, rfl, rfl⟩ | hk
  · exact ⟨spec_OwnScan_loops, spec_OwnScan_q p.1.1 p.1.2.1 p.1.2.2.1 p.1.2.2.2.1 p.1.2.2.2.2.1 p.1.2.2.2.2.2.1 p.1.2.2.2.2.2.2.1 p.1.2.2.2.2.2.2.2.1 p.2.1 p.2.2.1.1 p.2.2.1.2.1, spec_OwnScan_y p.1.1 p.1.2.1 p.1.2.2.1 p.1.2.2.2.1 p.1.2.2.2.2.1 p.1.2.2.2.2.2.1 p.1.2.2.2.2.2.2.1 p.1.2.2.2.2.2.2.2.1 p.2.1 p.2.2.1.1 p.2.2.1.2.1, spec_OwnScan_l⟩
  cases hk

def G20 : Glob := G19.add 12 spec_OwnScan_g

theorem G20_ok : GlobOk Try.prog G20 := G19_ok.add ⟨Try.f12, Try.func12, by kernel_rfl, by kernel_rfl⟩ spec_OwnScan_c



theorem slices_Sort_string_c : Contract Try.prog 72 slices_Sort_string_g := by
  intro args s k r hk
  unfold slices_Sort_string_g at hk
  rw [slices_Sort_string_vo_e] at hk
  unfold slices_Sort_string_vo_d at hk
  have e : Try.laysSort_ren.f 190 = 72 := by kernel_rfl
  exact e ▸ sort_contract Try.laysSort args s k r hk

def G21 : Glob := G20.add 72 slices_Sort_string_g

theorem G21_ok : GlobOk Try.prog G21 := G20_ok.add ⟨Try.f72, Try.func72, by kernel_rfl, by kernel_rfl⟩ slices_Sort_string_c



def slices_Compact_string_vo_loops : Nat → Option LoopSpec
  | 2 => some ⟨[0, 3, 4, 5], [], fun vals st k => onPats [.own 0, .int .i64, .win 0, .int .i64] [.arr .str] vals st (fun p q => loopK slices_Compact_string_vo_b2 Fuel (p.2.1, p.2.2.1, p.2.2.2.1, q.1) (fun z => k (.exit 2) [.own 0, .int .i64 z.1, .win 0 z.2.1, .int .i64 z.2.2.1] [.arr .str z.2.2.2]))
      (none)⟩
  | 0 => some ⟨[0, 2, 3], [none, some .str], fun vals st k => onPats [.own 0, .own 1, .int .i64] [.arr .str, .arr .str] vals st (fun p q => loopK slices_Compact_string_vo_b0 Fuel (p.2.2.1, q.1, q.2.1) (Sum.elim (fun z => k (.exit 0) [.own 0, .own 1, .int .i64 z.1] [.arr .str z.2.1, .arr .str z.2.2]) (fun z => k .ret [.own 0, .own 1, .int .i64 z.1] [.gone, .arr .str z.2])))
      (none)⟩
  | 2000006 => some ⟨[0, 2, 4, 6, 8, 10, 12, 14, 16, 18], [], fun _ _ _ => none⟩
  | 2000011 => some ⟨[0, 2, 4, 6, 8, 10, 12, 14, 16, 18], [], fun _ _ _ => none⟩
  | _ => none

def slices_Compact_string_vo_v2 : (Int × Nat × Int × (List ByteArray)) → List AV := (fun x => [.own 0, .int .i64 x.1, .win 0 x.2.1, .int .i64 x.2.2.1])
def slices_Compact_string_vo_s2 : (Int × Nat × Int × (List ByteArray)) → St := (fun x => [.arr .str x.2.2.2])
def slices_Compact_string_vo_e2 : (Int × Nat × Int × (List ByteArray)) → Out × List AV × St := (fun z => ((.exit 2), [.own 0, .int .i64 z.1, .win 0 z.2.1, .int .i64 z.2.2.1], [.arr .str z.2.2.2]))

theorem slices_Compact_string_vo_bx2 (x : (Int × Nat × Int × (List ByteArray))) : exec G21 ⟨1, 61, slices_Compact_string_vo_loops⟩ (loopBody Try.f73 2) (bodyK ⟨1, 61, slices_Compact_string_vo_loops⟩ [0, 3, 4, 5] []) (setEs (deads 61) [0, 3, 4, 5] (slices_Compact_string_vo_v2 x)) (slices_Compact_string_vo_s2 x) = slices_Compact_string_vo_b2 x (Sum.elim (fun y => some ⟨.norm, slices_Compact_string_vo_v2 y, slices_Compact_string_vo_s2 y⟩) fun z => some ⟨(slices_Compact_string_vo_e2 z).1, (slices_Compact_string_vo_e2 z).2.1, (slices_Compact_string_vo_e2 z).2.2⟩) := by
  kernel_rfl

theorem slices_Compact_string_vo_lo2 : ∀ sp, (slices_Compact_string_vo_loops 2) = some sp → LoopOk G21 ⟨1, 61, slices_Compact_string_vo_loops⟩ sp (loopBody Try.f73 2) := by
  intro sp hsp vals st k r h
  cases hsp
  dsimp only at h
  rcases onPats_inv2 h with ⟨p, q, rfl, rfl, h⟩ | h
  · exact loop_runs2 slices_Compact_string_vo_bp2 slices_Compact_string_vo_v2 slices_Compact_string_vo_s2 slices_Compact_string_vo_e2 (fun z => by (intro h; cases h)) slices_Compact_string_vo_bx2 Fuel (p.2.1, p.2.2.1, p.2.2.2.1, q.1) _ k r (fun z => rfl) h
  cases h

def slices_Compact_string_vo_v0 : (Int × (List ByteArray) × (List ByteArray)) → List AV := (fun x => [.own 0, .own 1, .int .i64 x.1])
def slices_Compact_string_vo_s0 : (Int × (List ByteArray) × (List ByteArray)) → St := (fun x => [.arr .str x.2.1, .arr .str x.2.2])
def slices_Compact_string_vo_e0 : ((Int × (List ByteArray) × (List ByteArray)) ⊕ (Int × (List ByteArray))) → Out × List AV × St := (Sum.elim (fun z => ((.exit 0), [.own 0, .own 1, .int .i64 z.1], [.arr .str z.2.1, .arr .str z.2.2])) (fun z => (.ret, [.own 0, .own 1, .int .i64 z.1], [.gone, .arr .str z.2])))

theorem slices_Compact_string_vo_bx0 (x : (Int × (List ByteArray) × (List ByteArray))) : exec G21 ⟨1, 61, slices_Compact_string_vo_loops⟩ (loopBody Try.f73 0) (bodyK ⟨1, 61, slices_Compact_string_vo_loops⟩ [0, 2, 3] [none, some .str]) (setEs (deads 61) [0, 2, 3] (slices_Compact_string_vo_v0 x)) (slices_Compact_string_vo_s0 x) = slices_Compact_string_vo_b0 x (Sum.elim (fun y => some ⟨.norm, slices_Compact_string_vo_v0 y, slices_Compact_string_vo_s0 y⟩) fun z => some ⟨(slices_Compact_string_vo_e0 z).1, (slices_Compact_string_vo_e0 z).2.1, (slices_Compact_string_vo_e0 z).2.2⟩) := by
  kernel_rfl

theorem slices_Compact_string_vo_lo0 : ∀ sp, (slices_Compact_string_vo_loops 0) = some sp → LoopOk G21 ⟨1, 61, slices_Compact_string_vo_loops⟩ sp (loopBody Try.f73 0) := by
  intro sp hsp vals st k r h
  cases hsp
  dsimp only at h
  rcases onPats_inv2 h with ⟨p, q, rfl, rfl, h⟩ | h
  · exact loop_runs2 slices_Compact_string_vo_bp0 slices_Compact_string_vo_v0 slices_Compact_string_vo_s0 slices_Compact_string_vo_e0 (fun z => by rcases z with z | z <;> (intro h; cases h)) slices_Compact_string_vo_bx0 Fuel (p.2.2.1, q.1, q.2.1) _ k r (fun z => by rcases z with z | z <;> rfl) h
  cases h

theorem slices_Compact_string_vo_y (a0 : (List ByteArray)) : execFn G21 slices_Compact_string_vo_loops Try.f73 [.own 0] [.arr .str a0] = slices_Compact_string_vo_k a0 (Sum.elim (fun (y : (List ByteArray)) => some ⟨.ret, [.own 0], [.arr .str y]⟩) (fun (y : (List ByteArray)) => some ⟨.ret, [.own 1], [.gone, .arr .str y]⟩)) := by rw [slices_Compact_string_vo_e]; kernel_rfl

theorem slices_Compact_string_vo_l : LoopsOk G21 ⟨1, 61, slices_Compact_string_vo_loops⟩ (Try.f73.body.getD .skip) :=
  loopsOk_of (ids := [2, 0]) (by kernel_rfl) (by kernel_rfl) ⟨slices_Compact_string_vo_lo2, ⟨slices_Compact_string_vo_lo0, trivial⟩⟩

theorem slices_Compact_string_c : Contract Try.prog 73 slices_Compact_string_g := by
  refine told G21_ok follows Try.func73 (c := Try.f73.body.getD .skip) (by kernel_rfl) ?_
  intro args s k r hk
  unfold slices_Compact_string_g at hk
  rcases onPats_inv hk with ⟨p, q, rfl, rfl⟩ | hk
  · exact ⟨slices_Compact_string_vo_loops, slices_Compact_string_vo_q q.1, slices_Compact_string_vo_y q.1, slices_Compact_string_vo_l⟩
  cases hk

def G22 : Glob := G21.add 73 slices_Compact_string_g

theorem G22_ok : GlobOk Try.prog G22 := G21_ok.add ⟨Try.f73, Try.func73, by kernel_rfl, by kernel_rfl⟩ slices_Compact_string_c



def impl_keysOf_loops : Nat → Option LoopSpec
  | 0 => some ⟨[3, 6, 7, 8], [some .str], fun vals st k => onPats [.own 0, .lst tVersion, .int .i64, .int .i64] [.arr .str] vals st (fun p q => loopK impl_keysOf_b0 Fuel (p.2.1, p.2.2.1, p.2.2.2.1, q.1) (fun z => k (.exit 0) [.own 0, .lst tVersion z.1, .int .i64 z.2.1, .int .i64 z.2.2.1] [.arr .str z.2.2.2]))
      (none)⟩
  | _ => none

def impl_keysOf_v0 : ((List dVersion) × Int × Int × (List ByteArray)) → List AV := (fun x => [.own 0, .lst tVersion x.1, .int .i64 x.2.1, .int .i64 x.2.2.1])
def impl_keysOf_s0 : ((List dVersion) × Int × Int × (List ByteArray)) → St := (fun x => [.arr .str x.2.2.2])
def impl_keysOf_e0 : ((List dVersion) × Int × Int × (List ByteArray)) → Out × List AV × St := (fun z => ((.exit 0), [.own 0, .lst tVersion z.1, .int .i64 z.2.1, .int .i64 z.2.2.1], [.arr .str z.2.2.2]))

theorem impl_keysOf_bx0 (x : ((List dVersion) × Int × Int × (List ByteArray))) : exec G22 ⟨0, 22, impl_keysOf_loops⟩ (loopBody Try.f71 0) (bodyK ⟨0, 22, impl_keysOf_loops⟩ [3, 6, 7, 8] [some .str]) (setEs (deads 22) [3, 6, 7, 8] (impl_keysOf_v0 x)) (impl_keysOf_s0 x) = impl_keysOf_b0 x (Sum.elim (fun y => some ⟨.norm, impl_keysOf_v0 y, impl_keysOf_s0 y⟩) fun z => some ⟨(impl_keysOf_e0 z).1, (impl_keysOf_e0 z).2.1, (impl_keysOf_e0 z).2.2⟩) := by
  kernel_rfl

theorem impl_keysOf_lo0 : ∀ sp, (impl_keysOf_loops 0) = some sp → LoopOk G22 ⟨0, 22, impl_keysOf_loops⟩ sp (loopBody Try.f71 0) := by
  intro sp hsp vals st k r h
  cases hsp
  dsimp only at h
  rcases onPats_inv2 h with ⟨p, q, rfl, rfl, h⟩ | h
  · exact loop_runs2 impl_keysOf_bp0 impl_keysOf_v0 impl_keysOf_s0 impl_keysOf_e0 (fun z => by (intro h; cases h)) impl_keysOf_bx0 Fuel (p.2.1, p.2.2.1, p.2.2.2.1, q.1) _ k r (fun z => rfl) h
  cases h

theorem impl_keysOf_y (a0 : (List dVersion)) : execFn G22 impl_keysOf_loops Try.f71 [.lst tVersion a0] [] = impl_keysOf_k a0 (fun (y : (List ByteArray)) => some ⟨.ret, [.own 0], [.arr .str y]⟩) := by rw [impl_keysOf_e]; kernel_rfl

theorem impl_keysOf_l : LoopsOk G22 ⟨0, 22, impl_keysOf_loops⟩ (Try.f71.body.getD .skip) :=
  loopsOk_of (ids := [0]) (by kernel_rfl) (by kernel_rfl) ⟨impl_keysOf_lo0, trivial⟩

theorem impl_keysOf_c : Contract Try.prog 71 impl_keysOf_g := by
  refine told G22_ok follows Try.func71 (c := Try.f71.body.getD .skip) (by kernel_rfl) ?_
  intro args s k r hk
  unfold impl_keysOf_g at hk
  rcases onPats_inv hk with ⟨p, q, rfl, rfl⟩ | hk
  · exact ⟨impl_keysOf_loops, impl_keysOf_q p.1, impl_keysOf_y p.1, impl_keysOf_l⟩
  cases hk

def G23 : Glob := G22.add 71 impl_keysOf_g

theorem G23_ok : GlobOk Try.prog G23 := G22_ok.add ⟨Try.f71, Try.func71, by kernel_rfl, by kernel_rfl⟩ impl_keysOf_c



def impl_ownAt_1_loops : Nat → Option LoopSpec
  | _ => none

theorem impl_ownAt_1_y (a0 : ByteArray) (a1 : ByteArray) (a2 : Bool) (a3 : ByteArray) : execFn G23 impl_ownAt_1_loops Try.f184 [.agg [.str a0, .str a1, .bool a2], .bp 0 0] [.box [.str a3]] = impl_ownAt_1_k (a0, (a1, a2)) a3 (fun (y : (Bool × ByteArray)) => some ⟨.ret, [.bool y.1], [.box [.str y.2]]⟩) := by rw [impl_ownAt_1_e]; kernel_rfl

theorem impl_ownAt_1_l : LoopsOk G23 ⟨1, 8, impl_ownAt_1_loops⟩ (Try.f184.body.getD .skip) :=
  loopsOk_of (ids := []) (by kernel_rfl) (by kernel_rfl) trivial

theorem impl_ownAt_1_c : Contract Try.prog 184 impl_ownAt_1_g := by
  refine told G23_ok follows Try.func184 (c := Try.f184.body.getD .skip) (by kernel_rfl) ?_
  intro args s k r hk
  unfold impl_ownAt_1_g at hk
  rcases onPats_inv hk with ⟨p, q, rfl, rfl⟩ | hk
  · exact ⟨impl_ownAt_1_loops, impl_ownAt_1_q p.1.1 p.1.2.1 p.1.2.2.1 q.1.1, impl_ownAt_1_y p.1.1 p.1.2.1 p.1.2.2.1 q.1.1, impl_ownAt_1_l⟩
  cases hk

def G24 : Glob := G23.add 184 impl_ownAt_1_g

theorem G24_ok : GlobOk Try.prog G24 := G23_ok.add ⟨Try.f184, Try.func184, by kernel_rfl, by kernel_rfl⟩ impl_ownAt_1_c



def slices_IndexFunc_Write_ownAt_1_loops : Nat → Option LoopSpec
  | 0 => some ⟨[0, 1, 4, 7, 8], [], fun vals st k => onPats [.lst tWrite, .fn 184 [.bp 0 0], .int .i64, .int .i64, .int .i64] [.box [.str]] vals st (fun p q => loopK slices_IndexFunc_Write_ownAt_1_b0 Fuel (p.1, p.2.2.1, p.2.2.2.1, p.2.2.2.2.1, q.1.1) (Sum.elim (fun z => k .ret [.lst tWrite z.1, .fn 184 [.bp 0 0], .int .i64 z.2.1, .int .i64 z.2.2.1, .int .i64 z.2.2.2.1] [.box [.str z.2.2.2.2]]) (fun z => k (.exit 0) [.lst tWrite z.1, .fn 184 [.bp 0 0], .int .i64 z.2.1, .int .i64 z.2.2.1, .int .i64 z.2.2.2.1] [.box [.str z.2.2.2.2]])))
      (none)⟩
  | _ => none

def slices_IndexFunc_Write_ownAt_1_v0 : ((List dWrite) × Int × Int × Int × ByteArray) → List AV := (fun x => [.lst tWrite x.1, .fn 184 [.bp 0 0], .int .i64 x.2.1, .int .i64 x.2.2.1, .int .i64 x.2.2.2.1])
def slices_IndexFunc_Write_ownAt_1_s0 : ((List dWrite) × Int × Int × Int × ByteArray) → St := (fun x => [.box [.str x.2.2.2.2]])
def slices_IndexFunc_Write_ownAt_1_e0 : (((List dWrite) × Int × Int × Int × ByteArray) ⊕ ((List dWrite) × Int × Int × Int × ByteArray)) → Out × List AV × St := (Sum.elim (fun z => (.ret, [.lst tWrite z.1, .fn 184 [.bp 0 0], .int .i64 z.2.1, .int .i64 z.2.2.1, .int .i64 z.2.2.2.1], [.box [.str z.2.2.2.2]])) (fun z => ((.exit 0), [.lst tWrite z.1, .fn 184 [.bp 0 0], .int .i64 z.2.1, .int .i64 z.2.2.1, .int .i64 z.2.2.2.1], [.box [.str z.2.2.2.2]])))

theorem slices_IndexFunc_Write_ownAt_1_bx0 (x : ((List dWrite) × Int × Int × Int × ByteArray)) : exec G24 ⟨1, 19, slices_IndexFunc_Write_ownAt_1_loops⟩ (loopBody Try.f183 0) (bodyK ⟨1, 19, slices_IndexFunc_Write_ownAt_1_loops⟩ [0, 1, 4, 7, 8] []) (setEs (deads 19) [0, 1, 4, 7, 8] (slices_IndexFunc_Write_ownAt_1_v0 x)) (slices_IndexFunc_Write_ownAt_1_s0 x) = slices_IndexFunc_Write_ownAt_1_b0 x (Sum.elim (fun y => some ⟨.norm, slices_IndexFunc_Write_ownAt_1_v0 y, slices_IndexFunc_Write_ownAt_1_s0 y⟩) fun z => some ⟨(slices_IndexFunc_Write_ownAt_1_e0 z).1, (slices_IndexFunc_Write_ownAt_1_e0 z).2.1, (slices_IndexFunc_Write_ownAt_1_e0 z).2.2⟩) := by
  kernel_rfl

theorem slices_IndexFunc_Write_ownAt_1_lo0 : ∀ sp, (slices_IndexFunc_Write_ownAt_1_loops 0) = some sp → LoopOk G24 ⟨1, 19, slices_IndexFunc_Write_ownAt_1_loops⟩ sp (loopBody Try.f183 0) := by
  intro sp hsp vals st k r h
  cases hsp
  dsimp only at h
  rcases onPats_inv2 h with ⟨p, q, rfl, rfl, h⟩ | h
  · exact loop_runs2 slices_IndexFunc_Write_ownAt_1_bp0 slices_IndexFunc_Write_ownAt_1_v0 slices_IndexFunc_Write_ownAt_1_s0 slices_IndexFunc_Write_ownAt_1_e0 (fun z => by rcases z with z | z <;> (intro h; cases h)) slices_IndexFunc_Write_ownAt_1_bx0 Fuel (p.1, p.2.2.1, p.2.2.2.1, p.2.2.2.2.1, q.1.1) _ k r (fun z => by rcases z with z | z <;> rfl) h
  cases h

theorem slices_IndexFunc_Write_ownAt_1_y (a0 : (List dWrite)) (a1 : ByteArray) : execFn G24 slices_IndexFunc_Write_ownAt_1_loops Try.f183 [.lst tWrite a0, .fn 184 [.bp 0 0]] [.box [.str a1]] = slices_IndexFunc_Write_ownAt_1_k a0 a1 (fun (y : (Int × ByteArray)) => some ⟨.ret, [.int .i64 y.1], [.box [.str y.2]]⟩) := by rw [slices_IndexFunc_Write_ownAt_1_e]; kernel_rfl

theorem slices_IndexFunc_Write_ownAt_1_l : LoopsOk G24 ⟨1, 19, slices_IndexFunc_Write_ownAt_1_loops⟩ (Try.f183.body.getD .skip) :=
  loopsOk_of (ids := [0]) (by kernel_rfl) (by kernel_rfl) ⟨slices_IndexFunc_Write_ownAt_1_lo0, trivial⟩

theorem slices_IndexFunc_Write_c : Contract Try.prog 183 slices_IndexFunc_Write_g := by
  refine told G24_ok follows Try.func183 (c := Try.f183.body.getD .skip) (by kernel_rfl) ?_
  intro args s k r hk
  unfold slices_IndexFunc_Write_g at hk
  rcases onPats_inv hk with ⟨p, q, rfl, rfl⟩ | hk
  · exact ⟨slices_IndexFunc_Write_ownAt_1_loops, slices_IndexFunc_Write_ownAt_1_q p.1 q.1.1, slices_IndexFunc_Write_ownAt_1_y p.1 q.1.1, slices_IndexFunc_Write_ownAt_1_l⟩
  cases hk

def G25 : Glob := G24.add 183 slices_IndexFunc_Write_g

theorem G25_ok : GlobOk Try.prog G25 := G24_ok.add ⟨Try.f183, Try.func183, by kernel_rfl, by kernel_rfl⟩ slices_IndexFunc_Write_c



def impl_ownAt_loops : Nat → Option LoopSpec
  | _ => none

theorem impl_ownAt_y (a0 : Int) (a1 : Int) (a2 : Int) (a3 : Int) (a4 : (List dRange)) (a5 : (List dWrite)) (a6 : Bool) (a7 : ByteArray) (a8 : ByteArray) : execFn G25 impl_ownAt_loops Try.f119 [.agg [.int .i64 a0, .int .i64 a1, .int .i64 a2, .int .i64 a3, .lst tRange a4, .lst tWrite a5, .bool a6, .str a7], .str a8] [] = impl_ownAt_k (a0, (a1, (a2, (a3, (a4, (a5, (a6, a7))))))) a8 (fun (y : Int) => some ⟨.ret, [.int .i64 y], []⟩) := by rw [impl_ownAt_e]; kernel_rfl

theorem impl_ownAt_l : LoopsOk G25 ⟨0, 9, impl_ownAt_loops⟩ (Try.f119.body.getD .skip) :=
  loopsOk_of (ids := []) (by kernel_rfl) (by kernel_rfl) trivial

theorem impl_ownAt_c : Contract Try.prog 119 impl_ownAt_g := by
  refine told G25_ok follows Try.func119 (c := Try.f119.body.getD .skip) (by kernel_rfl) ?_
  intro args s k r hk
  unfold impl_ownAt_g at hk
  rcases onPats_inv hk with ⟨p, q, rfl, rfl⟩ | hk
  · exact ⟨impl_ownAt_loops, impl_ownAt_q p.1.1 p.1.2.1 p.1.2.2.1 p.1.2.2.2.1 p.1.2.2.2.2.1 p.1.2.2.2.2.2.1 p.1.2.2.2.2.2.2.1 p.1.2.2.2.2.2.2.2.1 p.2.1, impl_ownAt_y p.1.1 p.1.2.1 p.1.2.2.1 p.1.2.2.2.1 p.1.2.2.2.2.1 p.1.2.2.2.2.2.1 p.1.2.2.2.2.2.2.1 p.1.2.2.2.2.2.2.2.1 p.2.1, impl_ownAt_l⟩
  cases hk

def G26 : Glob := G25.add 119 impl_ownAt_g

theorem G26_ok : GlobOk Try.prog G26 := G25_ok.add ⟨Try.f119, Try.func119, by kernel_rfl, by kernel_rfl⟩ impl_ownAt_c



def impl_lastAt_loops : Nat → Option LoopSpec
  | 0 => some ⟨[0, 1, 2, 7, 10, 11, 12], [], fun vals st k => onPats [.lst tVersion, .str, .int .i64, .int .i64, .lst tVersion, .int .i64, .int .i64] [] vals st (fun p q => loopK impl_lastAt_b0 Fuel (p.1, p.2.1, p.2.2.1, p.2.2.2.1, p.2.2.2.2.1, p.2.2.2.2.2.1, p.2.2.2.2.2.2.1) (fun z => k (.exit 0) [.lst tVersion z.1, .str z.2.1, .int .i64 z.2.2.1, .int .i64 z.2.2.2.1, .lst tVersion z.2.2.2.2.1, .int .i64 z.2.2.2.2.2.1, .int .i64 z.2.2.2.2.2.2] []))
      (none)⟩
  | 2000005 => some ⟨[0, 2, 4, 6, 8, 10, 12, 14, 16, 18, 20, 22, 24, 26, 28, 30, 32, 34, 36, 38, 40, 42, 44, 46], [], fun _ _ _ => none⟩
  | _ => none

def impl_lastAt_v0 : ((List dVersion) × ByteArray × Int × Int × (List dVersion) × Int × Int) → List AV := (fun x => [.lst tVersion x.1, .str x.2.1, .int .i64 x.2.2.1, .int .i64 x.2.2.2.1, .lst tVersion x.2.2.2.2.1, .int .i64 x.2.2.2.2.2.1, .int .i64 x.2.2.2.2.2.2])
def impl_lastAt_s0 : ((List dVersion) × ByteArray × Int × Int × (List dVersion) × Int × Int) → St := (fun x => [])
def impl_lastAt_e0 : ((List dVersion) × ByteArray × Int × Int × (List dVersion) × Int × Int) → Out × List AV × St := (fun z => ((.exit 0), [.lst tVersion z.1, .str z.2.1, .int .i64 z.2.2.1, .int .i64 z.2.2.2.1, .lst tVersion z.2.2.2.2.1, .int .i64 z.2.2.2.2.2.1, .int .i64 z.2.2.2.2.2.2], []))

theorem impl_lastAt_bx0 (x : ((List dVersion) × ByteArray × Int × Int × (List dVersion) × Int × Int)) : exec G26 ⟨0, 44, impl_lastAt_loops⟩ (loopBody Try.f185 0) (bodyK ⟨0, 44, impl_lastAt_loops⟩ [0, 1, 2, 7, 10, 11, 12] []) (setEs (deads 44) [0, 1, 2, 7, 10, 11, 12] (impl_lastAt_v0 x)) (impl_lastAt_s0 x) = impl_lastAt_b0 x (Sum.elim (fun y => some ⟨.norm, impl_lastAt_v0 y, impl_lastAt_s0 y⟩) fun z => some ⟨(impl_lastAt_e0 z).1, (impl_lastAt_e0 z).2.1, (impl_lastAt_e0 z).2.2⟩) := by
  kernel_rfl

theorem impl_lastAt_lo0 : ∀ sp, (impl_lastAt_loops 0) = some sp → LoopOk G26 ⟨0, 44, impl_lastAt_loops⟩ sp (loopBody Try.f185 0) := by
  intro sp hsp vals st k r h
  cases hsp
  dsimp only at h
  rcases onPats_inv2 h with ⟨p, q, rfl, rfl, h⟩ | h
  · exact loop_runs2 impl_lastAt_bp0 impl_lastAt_v0 impl_lastAt_s0 impl_lastAt_e0 (fun z => by (intro h; cases h)) impl_lastAt_bx0 Fuel (p.1, p.2.1, p.2.2.1, p.2.2.2.1, p.2.2.2.2.1, p.2.2.2.2.2.1, p.2.2.2.2.2.2.1) _ k r (fun z => rfl) h
  cases h

theorem impl_lastAt_y (a0 : (List dVersion)) (a1 : ByteArray) (a2 : Int) : execFn G26 impl_lastAt_loops Try.f185 [.lst tVersion a0, .str a1, .int .i64 a2] [] = impl_lastAt_k a0 a1 a2 (fun (y : Int) => some ⟨.ret, [.int .i64 y], []⟩) := by rw [impl_lastAt_e]; kernel_rfl

theorem impl_lastAt_l : LoopsOk G26 ⟨0, 44, impl_lastAt_loops⟩ (Try.f185.body.getD .skip) :=
  loopsOk_of (ids := [0]) (by kernel_rfl) (by kernel_rfl) ⟨impl_lastAt_lo0, trivial⟩

theorem impl_lastAt_c : Contract Try.prog 185 impl_lastAt_g := by
  refine told G26_ok follows Try.func185 (c := Try.f185.body.getD .skip) (by kernel_rfl) ?_
  intro args s k r hk
  unfold impl_lastAt_g at hk
  rcases onPats_inv hk with ⟨p, q, rfl, rfl⟩ | hk
  · exact ⟨impl_lastAt_loops, impl_lastAt_q p.1 p.2.1 p.2.2.1, impl_lastAt_y p.1 p.2.1 p.2.2.1, impl_lastAt_l⟩
  cases hk

def G27 : Glob := G26.add 185 impl_lastAt_g

theorem G27_ok : GlobOk Try.prog G27 := G26_ok.add ⟨Try.f185, Try.func185, by kernel_rfl, by kernel_rfl⟩ impl_lastAt_c



def impl_SeenAt_loops : Nat → Option LoopSpec
  | _ => none

theorem impl_SeenAt_y (a0 : (List dVersion)) (a1 : ByteArray) (a2 : Int) : execFn G27 impl_SeenAt_loops Try.f120 [.lst tVersion a0, .str a1, .int .i64 a2] [] = impl_SeenAt_k a0 a1 a2 (fun (y : (ByteArray × Bool)) => some ⟨.ret, [.tup [.str y.1, .bool y.2]], []⟩) := by rw [impl_SeenAt_e]; kernel_rfl

theorem impl_SeenAt_l : LoopsOk G27 ⟨0, 27, impl_SeenAt_loops⟩ (Try.f120.body.getD .skip) :=
  loopsOk_of (ids := []) (by kernel_rfl) (by kernel_rfl) trivial

theorem impl_SeenAt_c : Contract Try.prog 120 impl_SeenAt_g := by
  refine told G27_ok follows Try.func120 (c := Try.f120.body.getD .skip) (by kernel_rfl) ?_
  intro args s k r hk
  unfold impl_SeenAt_g at hk
  rcases onPats_inv hk with ⟨p, q, rfl, rfl⟩ | hk
  · exact ⟨impl_SeenAt_loops, impl_SeenAt_q p.1 p.2.1 p.2.2.1, impl_SeenAt_y p.1 p.2.1 p.2.2.1, impl_SeenAt_l⟩
  cases hk

def G28 : Glob := G27.add 120 impl_SeenAt_g

theorem G28_ok : GlobOk Try.prog G28 := G27_ok.add ⟨Try.f120, Try.func120, by kernel_rfl, by kernel_rfl⟩ impl_SeenAt_c



def impl_OwnGet_loops : Nat → Option LoopSpec
  | _ => none

theorem impl_OwnGet_y (a0 : Int) (a1 : Int) (a2 : Int) (a3 : Int) (a4 : (List dRange)) (a5 : (List dWrite)) (a6 : Bool) (a7 : ByteArray) (a8 : (List dVersion)) (a9 : ByteArray) : execFn G28 impl_OwnGet_loops Try.f42 [.agg [.int .i64 a0, .int .i64 a1, .int .i64 a2, .int .i64 a3, .lst tRange a4, .lst tWrite a5, .bool a6, .str a7], .lst tVersion a8, .str a9] [] = impl_OwnGet_k (a0, (a1, (a2, (a3, (a4, (a5, (a6, a7))))))) a8 a9 (fun (y : (ByteArray × Bool)) => some ⟨.ret, [.tup [.str y.1, .bool y.2]], []⟩) := by rw [impl_OwnGet_e]; kernel_rfl

theorem impl_OwnGet_l : LoopsOk G28 ⟨0, 33, impl_OwnGet_loops⟩ (Try.f42.body.getD .skip) :=
  loopsOk_of (ids := []) (by kernel_rfl) (by kernel_rfl) trivial

theorem impl_OwnGet_c : Contract Try.prog 42 impl_OwnGet_g := by
  refine told G28_ok follows Try.func42 (c := Try.f42.body.getD .skip) (by kernel_rfl) ?_
  intro args s k r hk
  unfold impl_OwnGet_g at hk
  rcases onPats_inv hk with ⟨p, q, rfl, rfl⟩ | hk
  · exact ⟨impl_OwnGet_loops, impl_OwnGet_q p.1.1 p.1.2.1 p.1.2.2.1 p.1.2.2.2.1 p.1.2.2.2.2.1 p.1.2.2.2.2.2.1 p.1.2.2.2.2.2.2.1 p.1.2.2.2.2.2.2.2.1 p.2.1 p.2.2.1, impl_OwnGet_y p.1.1 p.1.2.1 p.1.2.2.1 p.1.2.2.2.1 p.1.2.2.2.2.1 p.1.2.2.2.2.2.1 p.1.2.2.2.2.2.2.1 p.1.2.2.2.2.2.2.2.1 p.2.1 p.2.2.1, impl_OwnGet_l⟩
  cases hk

def G29 : Glob := G28.add 42 impl_OwnGet_g

theorem G29_ok : GlobOk Try.prog G29 := G28_ok.add ⟨Try.f42, Try.func42, by kernel_rfl, by kernel_rfl⟩ impl_OwnGet_c



def impl_InRange_loops : Nat → Option LoopSpec
  | _ => none

theorem impl_InRange_y (a0 : ByteArray) (a1 : ByteArray) (a2 : ByteArray) : execFn G29 impl_InRange_loops Try.f74 [.agg [.str a0, .str a1], .str a2] [] = impl_InRange_k (a0, a1) a2 (fun (y : Bool) => some ⟨.ret, [.bool y], []⟩) := by rw [impl_InRange_e]; kernel_rfl

theorem impl_InRange_l : LoopsOk G29 ⟨0, 15, impl_InRange_loops⟩ (Try.f74.body.getD .skip) :=
  loopsOk_of (ids := []) (by kernel_rfl) (by kernel_rfl) trivial

theorem impl_InRange_c : Contract Try.prog 74 impl_InRange_g := by
  refine told G29_ok follows Try.func74 (c := Try.f74.body.getD .skip) (by kernel_rfl) ?_
  intro args s k r hk
  unfold impl_InRange_g at hk
  rcases onPats_inv hk with ⟨p, q, rfl, rfl⟩ | hk
  · exact ⟨impl_InRange_loops, impl_InRange_q p.1.1 p.1.2.1 p.2.1, impl_InRange_y p.1.1 p.1.2.1 p.2.1, impl_InRange_l⟩
  cases hk

def G30 : Glob := G29.add 74 impl_InRange_g

theorem G30_ok : GlobOk Try.prog G30 := G29_ok.add ⟨Try.f74, Try.func74, by kernel_rfl, by kernel_rfl⟩ impl_InRange_c



def impl_OwnScan_loops : Nat → Option LoopSpec
  | 0 => some ⟨[1, 3, 5, 7, 18, 19, 20], [], fun vals st k => onPats [.lst tVersion, .bp 0 0, .bp 1 0, .own 2, .lst tWrite, .int .i64, .int .i64] [.box [.int .i64, .int .i64, .int .i64, .int .i64, .lst tRange, .lst tWrite, .bool, .str], .box [.str, .str], .arr .str] vals st (fun p q => loopK impl_OwnScan_b0 Fuel (p.1, p.2.2.2.2.1, p.2.2.2.2.2.1, p.2.2.2.2.2.2.1, q.1.1, q.1.2.1, q.1.2.2.1, q.1.2.2.2.1, q.1.2.2.2.2.1, q.1.2.2.2.2.2.1, q.1.2.2.2.2.2.2.1, q.1.2.2.2.2.2.2.2.1, q.2.1.1, q.2.1.2.1, q.2.2.1) (fun z => k (.exit 0) [.lst tVersion z.1, .bp 0 0, .bp 1 0, .own 2, .lst tWrite z.2.1, .int .i64 z.2.2.1, .int .i64 z.2.2.2.1] [.box [.int .i64 z.2.2.2.2.1, .int .i64 z.2.2.2.2.2.1, .int .i64 z.2.2.2.2.2.2.1, .int .i64 z.2.2.2.2.2.2.2.1, .lst tRange z.2.2.2.2.2.2.2.2.1, .lst tWrite z.2.2.2.2.2.2.2.2.2.1, .bool z.2.2.2.2.2.2.2.2.2.2.1, .str z.2.2.2.2.2.2.2.2.2.2.2.1], .box [.str z.2.2.2.2.2.2.2.2.2.2.2.2.1, .str z.2.2.2.2.2.2.2.2.2.2.2.2.2.1], .arr .str z.2.2.2.2.2.2.2.2.2.2.2.2.2.2]))
      (none)⟩
  | 2 => some ⟨[1, 3, 5, 10, 33, 34, 35], [none, none, none, some tRange], fun vals st k => onPats [.lst tVersion, .bp 0 0, .bp 1 0, .own 2, .own 3, .int .i64, .int .i64] [.box [.int .i64, .int .i64, .int .i64, .int .i64, .lst tRange, .lst tWrite, .bool, .str], .box [.str, .str], .arr tRange, .arr .str] vals st (fun p q => loopK impl_OwnScan_b2 Fuel (p.1, p.2.2.2.2.2.1, p.2.2.2.2.2.2.1, q.1.1, q.1.2.1, q.1.2.2.1, q.1.2.2.2.1, q.1.2.2.2.2.1, q.1.2.2.2.2.2.1, q.1.2.2.2.2.2.2.1, q.1.2.2.2.2.2.2.2.1, q.2.1.1, q.2.1.2.1, q.2.2.1, q.2.2.2.1) (fun z => k (.exit 2) [.lst tVersion z.1, .bp 0 0, .bp 1 0, .own 2, .own 3, .int .i64 z.2.1, .int .i64 z.2.2.1] [.box [.int .i64 z.2.2.2.1, .int .i64 z.2.2.2.2.1, .int .i64 z.2.2.2.2.2.1, .int .i64 z.2.2.2.2.2.2.1, .lst tRange z.2.2.2.2.2.2.2.1, .lst tWrite z.2.2.2.2.2.2.2.2.1, .bool z.2.2.2.2.2.2.2.2.2.1, .str z.2.2.2.2.2.2.2.2.2.2.1], .box [.str z.2.2.2.2.2.2.2.2.2.2.2.1, .str z.2.2.2.2.2.2.2.2.2.2.2.2.1], .arr tRange z.2.2.2.2.2.2.2.2.2.2.2.2.2.1, .arr .str z.2.2.2.2.2.2.2.2.2.2.2.2.2.2]))
      (none)⟩
  | _ => none

def impl_OwnScan_v0 : ((List dVersion) × (List dWrite) × Int × Int × Int × Int × Int × Int × (List dRange) × (List dWrite) × Bool × ByteArray × ByteArray × ByteArray × (List ByteArray)) → List AV := (fun x => [.lst tVersion x.1, .bp 0 0, .bp 1 0, .own 2, .lst tWrite x.2.1, .int .i64 x.2.2.1, .int .i64 x.2.2.2.1])
def impl_OwnScan_s0 : ((List dVersion) × (List dWrite) × Int × Int × Int × Int × Int × Int × (List dRange) × (List dWrite) × Bool × ByteArray × ByteArray × ByteArray × (List ByteArray)) → St := (fun x => [.box [.int .i64 x.2.2.2.2.1, .int .i64 x.2.2.2.2.2.1, .int .i64 x.2.2.2.2.2.2.1, .int .i64 x.2.2.2.2.2.2.2.1, .lst tRange x.2.2.2.2.2.2.2.2.1, .lst tWrite x.2.2.2.2.2.2.2.2.2.1, .bool x.2.2.2.2.2.2.2.2.2.2.1, .str x.2.2.2.2.2.2.2.2.2.2.2.1], .box [.str x.2.2.2.2.2.2.2.2.2.2.2.2.1, .str x.2.2.2.2.2.2.2.2.2.2.2.2.2.1], .arr .str x.2.2.2.2.2.2.2.2.2.2.2.2.2.2])
def impl_OwnScan_e0 : ((List dVersion) × (List dWrite) × Int × Int × Int × Int × Int × Int × (List dRange) × (List dWrite) × Bool × ByteArray × ByteArray × ByteArray × (List ByteArray)) → Out × List AV × St := (fun z => ((.exit 0), [.lst tVersion z.1, .bp 0 0, .bp 1 0, .own 2, .lst tWrite z.2.1, .int .i64 z.2.2.1, .int .i64 z.2.2.2.1], [.box [.int .i64 z.2.2.2.2.1, .int .i64 z.2.2.2.2.2.1, .int .i64 z.2.2.2.2.2.2.1, .int .i64 z.2.2.2.2.2.2.2.1, .lst tRange z.2.2.2.2.2.2.2.2.1, .lst tWrite z.2.2.2.2.2.2.2.2.2.1, .bool z.2.2.2.2.2.2.2.2.2.2.1, .str z.2.2.2.2.2.2.2.2.2.2.2.1], .box [.str z.2.2.2.2.2.2.2.2.2.2.2.2.1, .str z.2.2.2.2.2.2.2.2.2.2.2.2.2.1], .arr .str z.2.2.2.2.2.2.2.2.2.2.2.2.2.2]))

theorem impl_OwnScan_bx0 (x : ((List dVersion) × (List dWrite) × Int × Int × Int × Int × Int × Int × (List dRange) × (List dWrite) × Bool × ByteArray × ByteArray × ByteArray × (List ByteArray))) : exec G30 ⟨0, 60, impl_OwnScan_loops⟩ (loopBody Try.f16 0) (bodyK ⟨0, 60, impl_OwnScan_loops⟩ [1, 3, 5, 7, 18, 19, 20] []) (setEs (deads 60) [1, 3, 5, 7, 18, 19, 20] (impl_OwnScan_v0 x)) (impl_OwnScan_s0 x) = impl_OwnScan_b0 x (Sum.elim (fun y => some ⟨.norm, impl_OwnScan_v0 y, impl_OwnScan_s0 y⟩) fun z => some ⟨(impl_OwnScan_e0 z).1, (impl_OwnScan_e0 z).2.1, (impl_OwnScan_e0 z).2.2⟩) := by
  kernel_rfl

theorem impl_OwnScan_lo0 : ∀ sp, (impl_OwnScan_loops 0) = some sp → LoopOk G30 ⟨0, 60, impl_OwnScan_loops⟩ sp (loopBody Try.f16 0) := by
  intro sp hsp vals st k r h
  cases hsp
  dsimp only at h
  rcases onPats_inv2 h with ⟨p, q, rfl, rfl, h⟩ | h
  · exact loop_runs2 impl_OwnScan_bp0 impl_OwnScan_v0 impl_OwnScan_s0 impl_OwnScan_e0 (fun z => by (intro h; cases h)) impl_OwnScan_bx0 Fuel (p.1, p.2.2.2.2.1, p.2.2.2.2.2.1, p.2.2.2.2.2.2.1, q.1.1, q.1.2.1, q.1.2.2.1, q.1.2.2.2.1, q.1.2.2.2.2.1, q.1.2.2.2.2.2.1, q.1.2.2.2.2.2.2.1, q.1.2.2.2.2.2.2.2.1, q.2.1.1, q.2.1.2.1, q.2.2.1) _ k r (fun z => rfl) h
  cases h

def impl_OwnScan_v2 : ((List dVersion) × Int × Int × Int × Int × Int × Int × (List dRange) × (List dWrite) × Bool × ByteArray × ByteArray × ByteArray × (List dRange) × (List ByteArray)) → List AV := (fun x => [.lst tVersion x.1, .bp 0 0, .bp 1 0, .own 2, .own 3, .int .i64 x.2.1, .int .i64 x.2.2.1])
def impl_OwnScan_s2 : ((List dVersion) × Int × Int × Int × Int × Int × Int × (List dRange) × (List dWrite) × Bool × ByteArray × ByteArray × ByteArray × (List dRange) × (List ByteArray)) → St := (fun x => [.box [.int .i64 x.2.2.2.1, .int .i64 x.2.2.2.2.1, .int .i64 x.2.2.2.2.2.1, .int .i64 x.2.2.2.2.2.2.1, .lst tRange x.2.2.2.2.2.2.2.1, .lst tWrite x.2.2.2.2.2.2.2.2.1, .bool x.2.2.2.2.2.2.2.2.2.1, .str x.2.2.2.2.2.2.2.2.2.2.1], .box [.str x.2.2.2.2.2.2.2.2.2.2.2.1, .str x.2.2.2.2.2.2.2.2.2.2.2.2.1], .arr tRange x.2.2.2.2.2.2.2.2.2.2.2.2.2.1, .arr .str x.2.2.2.2.2.2.2.2.2.2.2.2.2.2])
def impl_OwnScan_e2 : ((List dVersion) × Int × Int × Int × Int × Int × Int × (List dRange) × (List dWrite) × Bool × ByteArray × ByteArray × ByteArray × (List dRange) × (List ByteArray)) → Out × List AV × St := (fun z => ((.exit 2), [.lst tVersion z.1, .bp 0 0, .bp 1 0, .own 2, .own 3, .int .i64 z.2.1, .int .i64 z.2.2.1], [.box [.int .i64 z.2.2.2.1, .int .i64 z.2.2.2.2.1, .int .i64 z.2.2.2.2.2.1, .int .i64 z.2.2.2.2.2.2.1, .lst tRange z.2.2.2.2.2.2.2.1, .lst tWrite z.2.2.2.2.2.2.2.2.1, .bool z.2.2.2.2.2.2.2.2.2.1, .str z.2.2.2.2.2.2.2.2.2.2.1], .box [.str z.2.2.2.2.2.2.2.2.2.2.2.1, .str z.2.2.2.2.2.2.2.2.2.2.2.2.1], .arr tRange z.2.2.2.2.2.2.2.2.2.2.2.2.2.1, .arr .str z.2.2.2.2.2.2.2.2.2.2.2.2.2.2]))

theorem impl_OwnScan_bx2 (x : ((List dVersion) × Int × Int × Int × Int × Int × Int × (List dRange) × (List dWrite) × Bool × ByteArray × ByteArray × ByteArray × (List dRange) × (List ByteArray))) : exec G30 ⟨0, 60, impl_OwnScan_loops⟩ (loopBody Try.f16 2) (bodyK ⟨0, 60, impl_OwnScan_loops⟩ [1, 3, 5, 10, 33, 34, 35] [none, none, none, some tRange]) (setEs (deads 60) [1, 3, 5, 10, 33, 34, 35] (impl_OwnScan_v2 x)) (impl_OwnScan_s2 x) = impl_OwnScan_b2 x (Sum.elim (fun y => some ⟨.norm, impl_OwnScan_v2 y, impl_OwnScan_s2 y⟩) fun z => some ⟨(impl_OwnScan_e2 z).1, (impl_OwnScan_e2 z).2.1, (impl_OwnScan_e2 z).2.2⟩) := by
  kernel_rfl

theorem impl_OwnScan_lo2 : ∀ sp, (impl_OwnScan_loops 2) = some sp → LoopOk G30 ⟨0, 60, impl_OwnScan_loops⟩ sp (loopBody Try.f16 2) := by
  intro sp hsp vals st k r h
  cases hsp
  dsimp only at h
  rcases onPats_inv2 h with ⟨p, q, rfl, rfl, h⟩ | h
  · exact loop_runs2 impl_OwnScan_bp2 impl_OwnScan_v2 impl_OwnScan_s2 impl_OwnScan_e2 (fun z => by (intro h; cases h)) impl_OwnScan_bx2 Fuel (p.1, p.2.2.2.2.2.1, p.2.2.2.2.2.2.1, q.1.1, q.1.2.1, q.1.2.2.1, q.1.2.2.2.1, q.1.2.2.2.2.1, q.1.2.2.2.2.2.1, q.1.2.2.2.2.2.2.1, q.1.2.2.2.2.2.2.2.1, q.2.1.1, q.2.1.2.1, q.2.2.1, q.2.2.2.1) _ k r (fun z => rfl) h
  cases h

theorem impl_OwnScan_y (a0 : Int) (a1 : Int) (a2 : Int) (a3 : Int) (a4 : (List dRange)) (a5 : (List dWrite)) (a6 : Bool) (a7 : ByteArray) (a8 : (List dVersion)) (a9 : ByteArray) (a10 : ByteArray) : execFn G30 impl_OwnScan_loops Try.f16 [.agg [.int .i64 a0, .int .i64 a1, .int .i64 a2, .int .i64 a3, .lst tRange a4, .lst tWrite a5, .bool a6, .str a7], .lst tVersion a8, .agg [.str a9, .str a10]] [] = impl_OwnScan_k (a0, (a1, (a2, (a3, (a4, (a5, (a6, a7))))))) a8 (a9, a10) (fun (y : (List dRange)) => some ⟨.ret, [.own 0], [.arr tRange y]⟩) := by rw [impl_OwnScan_e]; kernel_rfl

theorem impl_OwnScan_l : LoopsOk G30 ⟨0, 60, impl_OwnScan_loops⟩ (Try.f16.body.getD .skip) :=
  loopsOk_of (ids := [0, 2]) (by kernel_rfl) (by kernel_rfl) ⟨impl_OwnScan_lo0, ⟨impl_OwnScan_lo2, trivial⟩⟩

theorem impl_OwnScan_c : Contract Try.prog 16 impl_OwnScan_g := by
  refine told G30_ok follows Try.func16 (c := Try.f16.body.getD .skip) (by kernel_rfl) ?_
  intro args s k r hk
  unfold impl_OwnScan_g at hk
  rcases onPats_inv hk with ⟨p, q, rfl, rfl⟩ | hk
  · exact ⟨impl_OwnScan_loops, impl_OwnScan_q p.1.1 p.1.2.1 p.1.2.2.1 p.1.2.2.2.1 p.1.2.2.2.2.1 p.1.2.2.2.2.2.1 p.1.2.2.2.2.2.2.1 p.1.2.2.2.2.2.2.2.1 p.2.1 p.2.2.1.1 p.2.2.1.2.1, impl_OwnScan_y p.1.1 p.1.2.1 p.1.2.2.1 p.1.2.2.2.1 p.1.2.2.2.2.1 p.1.2.2.2.2.2.1 p.1.2.2.2.2.2.2.1 p.1.2.2.2.2.2.2.2.1 p.2.1 p.2.2.1.1 p.2.2.1.2.1, impl_OwnScan_l⟩
  cases hk

def G31 : Glob := G30.add 16 impl_OwnScan_g

theorem G31_ok : GlobOk Try.prog G31 := G30_ok.add ⟨Try.f16, Try.func16, by kernel_rfl, by kernel_rfl⟩ impl_OwnScan_c



def laws_eqPair_loops : Nat → Option LoopSpec
  | _ => none

theorem laws_eqPair_y (a0 : ByteArray) (a1 : ByteArray) (a2 : ByteArray) (a3 : ByteArray) : execFn G31 laws_eqPair_loops Try.f75 [.agg [.str a0, .str a1], .agg [.str a2, .str a3]] [] = laws_eqPair_k (a0, a1) (a2, a3) (fun (y : Bool) => some ⟨.ret, [.bool y], []⟩) := by rw [laws_eqPair_e]; kernel_rfl

theorem laws_eqPair_l : LoopsOk G31 ⟨0, 15, laws_eqPair_loops⟩ (Try.f75.body.getD .skip) :=
  loopsOk_of (ids := []) (by kernel_rfl) (by kernel_rfl) trivial

theorem laws_eqPair_c : Contract Try.prog 75 laws_eqPair_g := by
  refine told G31_ok follows Try.func75 (c := Try.f75.body.getD .skip) (by kernel_rfl) ?_
  intro args s k r hk
  unfold laws_eqPair_g at hk
  rcases onPats_inv hk with ⟨p, q, rfl, rfl⟩ | hk
  · exact ⟨laws_eqPair_loops, laws_eqPair_q p.1.1 p.1.2.1 p.2.1.1 p.2.1.2.1, laws_eqPair_y p.1.1 p.1.2.1 p.2.1.1 p.2.1.2.1, laws_eqPair_l⟩
  cases hk

def G32 : Glob := G31.add 75 laws_eqPair_g

theorem G32_ok : GlobOk Try.prog G32 := G31_ok.add ⟨Try.f75, Try.func75, by kernel_rfl, by kernel_rfl⟩ laws_eqPair_c



def laws_eqPairS_loops : Nat → Option LoopSpec
  | 0 => some ⟨[0, 1, 4, 5], [], fun vals st k => onPats [.lst tRange, .lst tRange, .bool, .int .i64] [] vals st (fun p q => loopK laws_eqPairS_b0 Fuel (p.1, p.2.1, p.2.2.1, p.2.2.2.1) (Sum.elim (fun z => k .ret [.lst tRange z.1, .lst tRange z.2.1, .bool z.2.2.1, .int .i64 z.2.2.2] []) (fun z => k (.exit 0) [.lst tRange z.1, .lst tRange z.2.1, .bool z.2.2.1, .int .i64 z.2.2.2] [])))
      (none)⟩
  | 2000006 => some ⟨[0, 2, 4, 6, 8, 10, 12, 14, 16, 18], [], fun _ _ _ => none⟩
  | _ => none

def laws_eqPairS_v0 : ((List dRange) × (List dRange) × Bool × Int) → List AV := (fun x => [.lst tRange x.1, .lst tRange x.2.1, .bool x.2.2.1, .int .i64 x.2.2.2])
def laws_eqPairS_s0 : ((List dRange) × (List dRange) × Bool × Int) → St := (fun x => [])
def laws_eqPairS_e0 : (((List dRange) × (List dRange) × Bool × Int) ⊕ ((List dRange) × (List dRange) × Bool × Int)) → Out × List AV × St := (Sum.elim (fun z => (.ret, [.lst tRange z.1, .lst tRange z.2.1, .bool z.2.2.1, .int .i64 z.2.2.2], [])) (fun z => ((.exit 0), [.lst tRange z.1, .lst tRange z.2.1, .bool z.2.2.1, .int .i64 z.2.2.2], [])))

theorem laws_eqPairS_bx0 (x : ((List dRange) × (List dRange) × Bool × Int)) : exec G32 ⟨0, 27, laws_eqPairS_loops⟩ (loopBody Try.f17 0) (bodyK ⟨0, 27, laws_eqPairS_loops⟩ [0, 1, 4, 5] []) (setEs (deads 27) [0, 1, 4, 5] (laws_eqPairS_v0 x)) (laws_eqPairS_s0 x) = laws_eqPairS_b0 x (Sum.elim (fun y => some ⟨.norm, laws_eqPairS_v0 y, laws_eqPairS_s0 y⟩) fun z => some ⟨(laws_eqPairS_e0 z).1, (laws_eqPairS_e0 z).2.1, (laws_eqPairS_e0 z).2.2⟩) := by
  kernel_rfl

theorem laws_eqPairS_lo0 : ∀ sp, (laws_eqPairS_loops 0) = some sp → LoopOk G32 ⟨0, 27, laws_eqPairS_loops⟩ sp (loopBody Try.f17 0) := by
  intro sp hsp vals st k r h
  cases hsp
  dsimp only at h
  rcases onPats_inv2 h with ⟨p, q, rfl, rfl, h⟩ | h
  · exact loop_runs2 laws_eqPairS_bp0 laws_eqPairS_v0 laws_eqPairS_s0 laws_eqPairS_e0 (fun z => by rcases z with z | z <;> (intro h; cases h)) laws_eqPairS_bx0 Fuel (p.1, p.2.1, p.2.2.1, p.2.2.2.1) _ k r (fun z => by rcases z with z | z <;> rfl) h
  cases h

theorem laws_eqPairS_y (a0 : (List dRange)) (a1 : (List dRange)) : execFn G32 laws_eqPairS_loops Try.f17 [.lst tRange a0, .lst tRange a1] [] = laws_eqPairS_k a0 a1 (fun (y : Bool) => some ⟨.ret, [.bool y], []⟩) := by rw [laws_eqPairS_e]; kernel_rfl

theorem laws_eqPairS_l : LoopsOk G32 ⟨0, 27, laws_eqPairS_loops⟩ (Try.f17.body.getD .skip) :=
  loopsOk_of (ids := [0]) (by kernel_rfl) (by kernel_rfl) ⟨laws_eqPairS_lo0, trivial⟩

theorem laws_eqPairS_c : Contract Try.prog 17 laws_eqPairS_g := by
  refine told G32_ok follows Try.func17 (c := Try.f17.body.getD .skip) (by kernel_rfl) ?_
  intro args s k r hk
  unfold laws_eqPairS_g at hk
  rcases onPats_inv hk with ⟨p, q, rfl, rfl⟩ | hk
  · exact ⟨laws_eqPairS_loops, laws_eqPairS_q p.1 p.2.1, laws_eqPairS_y p.1 p.2.1, laws_eqPairS_l⟩
  cases hk

def G33 : Glob := G32.add 17 laws_eqPairS_g

theorem G33_ok : GlobOk Try.prog G33 := G32_ok.add ⟨Try.f17, Try.func17, by kernel_rfl, by kernel_rfl⟩ laws_eqPairS_c



def laws_eqRange_loops : Nat → Option LoopSpec
  | _ => none

theorem laws_eqRange_y (a0 : ByteArray) (a1 : ByteArray) (a2 : ByteArray) (a3 : ByteArray) : execFn G33 laws_eqRange_loops Try.f149 [.agg [.str a0, .str a1], .agg [.str a2, .str a3]] [] = laws_eqRange_k (a0, a1) (a2, a3) (fun (y : Bool) => some ⟨.ret, [.bool y], []⟩) := by rw [laws_eqRange_e]; kernel_rfl

theorem laws_eqRange_l : LoopsOk G33 ⟨0, 15, laws_eqRange_loops⟩ (Try.f149.body.getD .skip) :=
  loopsOk_of (ids := []) (by kernel_rfl) (by kernel_rfl) trivial

theorem laws_eqRange_c : Contract Try.prog 149 laws_eqRange_g := by
  refine told G33_ok follows Try.func149 (c := Try.f149.body.getD .skip) (by kernel_rfl) ?_
  intro args s k r hk
  unfold laws_eqRange_g at hk
  rcases onPats_inv hk with ⟨p, q, rfl, rfl⟩ | hk
  · exact ⟨laws_eqRange_loops, laws_eqRange_q p.1.1 p.1.2.1 p.2.1.1 p.2.1.2.1, laws_eqRange_y p.1.1 p.1.2.1 p.2.1.1 p.2.1.2.1, laws_eqRange_l⟩
  cases hk

def G34 : Glob := G33.add 149 laws_eqRange_g

theorem G34_ok : GlobOk Try.prog G34 := G33_ok.add ⟨Try.f149, Try.func149, by kernel_rfl, by kernel_rfl⟩ laws_eqRange_c



def laws_eqRangeS_loops : Nat → Option LoopSpec
  | 0 => some ⟨[0, 1, 4, 5], [], fun vals st k => onPats [.lst tRange, .lst tRange, .bool, .int .i64] [] vals st (fun p q => loopK laws_eqRangeS_b0 Fuel (p.1, p.2.1, p.2.2.1, p.2.2.2.1) (Sum.elim (fun z => k .ret [.lst tRange z.1, .lst tRange z.2.1, .bool z.2.2.1, .int .i64 z.2.2.2] []) (fun z => k (.exit 0) [.lst tRange z.1, .lst tRange z.2.1, .bool z.2.2.1, .int .i64 z.2.2.2] [])))
      (none)⟩
  | 2000006 => some ⟨[0, 2, 4, 6, 8, 10, 12, 14, 16, 18], [], fun _ _ _ => none⟩
  | _ => none

def laws_eqRangeS_v0 : ((List dRange) × (List dRange) × Bool × Int) → List AV := (fun x => [.lst tRange x.1, .lst tRange x.2.1, .bool x.2.2.1, .int .i64 x.2.2.2])
def laws_eqRangeS_s0 : ((List dRange) × (List dRange) × Bool × Int) → St := (fun x => [])
def laws_eqRangeS_e0 : (((List dRange) × (List dRange) × Bool × Int) ⊕ ((List dRange) × (List dRange) × Bool × Int)) → Out × List AV × St := (Sum.elim (fun z => (.ret, [.lst tRange z.1, .lst tRange z.2.1, .bool z.2.2.1, .int .i64 z.2.2.2], [])) (fun z => ((.exit 0), [.lst tRange z.1, .lst tRange z.2.1, .bool z.2.2.1, .int .i64 z.2.2.2], [])))

theorem laws_eqRangeS_bx0 (x : ((List dRange) × (List dRange) × Bool × Int)) : exec G34 ⟨0, 27, laws_eqRangeS_loops⟩ (loopBody Try.f76 0) (bodyK ⟨0, 27, laws_eqRangeS_loops⟩ [0, 1, 4, 5] []) (setEs (deads 27) [0, 1, 4, 5] (laws_eqRangeS_v0 x)) (laws_eqRangeS_s0 x) = laws_eqRangeS_b0 x (Sum.elim (fun y => some ⟨.norm, laws_eqRangeS_v0 y, laws_eqRangeS_s0 y⟩) fun z => some ⟨(laws_eqRangeS_e0 z).1, (laws_eqRangeS_e0 z).2.1, (laws_eqRangeS_e0 z).2.2⟩) := by
  kernel_rfl

theorem laws_eqRangeS_lo0 : ∀ sp, (laws_eqRangeS_loops 0) = some sp → LoopOk G34 ⟨0, 27, laws_eqRangeS_loops⟩ sp (loopBody Try.f76 0) := by
  intro sp hsp vals st k r h
  cases hsp
  dsimp only at h
  rcases onPats_inv2 h with ⟨p, q, rfl, rfl, h⟩ | h
  · exact loop_runs2 laws_eqRangeS_bp0 laws_eqRangeS_v0 laws_eqRangeS_s0 laws_eqRangeS_e0 (fun z => by rcases z with z | z <;> (intro h; cases h)) laws_eqRangeS_bx0 Fuel (p.1, p.2.1, p.2.2.1, p.2.2.2.1) _ k r (fun z => by rcases z with z | z <;> rfl) h
  cases h

theorem laws_eqRangeS_y (a0 : (List dRange)) (a1 : (List dRange)) : execFn G34 laws_eqRangeS_loops Try.f76 [.lst tRange a0, .lst tRange a1] [] = laws_eqRangeS_k a0 a1 (fun (y : Bool) => some ⟨.ret, [.bool y], []⟩) := by rw [laws_eqRangeS_e]; kernel_rfl

theorem laws_eqRangeS_l : LoopsOk G34 ⟨0, 27, laws_eqRangeS_loops⟩ (Try.f76.body.getD .skip) :=
  loopsOk_of (ids := [0]) (by kernel_rfl) (by kernel_rfl) ⟨laws_eqRangeS_lo0, trivial⟩

theorem laws_eqRangeS_c : Contract Try.prog 76 laws_eqRangeS_g := by
  refine told G34_ok follows Try.func76 (c := Try.f76.body.getD .skip) (by kernel_rfl) ?_
  intro args s k r hk
  unfold laws_eqRangeS_g at hk
  rcases onPats_inv hk with ⟨p, q, rfl, rfl⟩ | hk
  · exact ⟨laws_eqRangeS_loops, laws_eqRangeS_q p.1 p.2.1, laws_eqRangeS_y p.1 p.2.1, laws_eqRangeS_l⟩
  cases hk

def G35 : Glob := G34.add 76 laws_eqRangeS_g

theorem G35_ok : GlobOk Try.prog G35 := G34_ok.add ⟨Try.f76, Try.func76, by kernel_rfl, by kernel_rfl⟩ laws_eqRangeS_c



def laws_eqWrite_loops : Nat → Option LoopSpec
  | _ => none

theorem laws_eqWrite_y (a0 : ByteArray) (a1 : ByteArray) (a2 : Bool) (a3 : ByteArray) (a4 : ByteArray) (a5 : Bool) : execFn G35 laws_eqWrite_loops Try.f150 [.agg [.str a0, .str a1, .bool a2], .agg [.str a3, .str a4, .bool a5]] [] = laws_eqWrite_k (a0, (a1, a2)) (a3, (a4, a5)) (fun (y : Bool) => some ⟨.ret, [.bool y], []⟩) := by rw [laws_eqWrite_e]; kernel_rfl

theorem laws_eqWrite_l : LoopsOk G35 ⟨0, 20, laws_eqWrite_loops⟩ (Try.f150.body.getD .skip) :=
  loopsOk_of (ids := []) (by kernel_rfl) (by kernel_rfl) trivial

theorem laws_eqWrite_c : Contract Try.prog 150 laws_eqWrite_g := by
  refine told G35_ok follows Try.func150 (c := Try.f150.body.getD .skip) (by kernel_rfl) ?_
  intro args s k r hk
  unfold laws_eqWrite_g at hk
  rcases onPats_inv hk with ⟨p, q, rfl, rfl⟩ | hk
  · exact ⟨laws_eqWrite_loops, laws_eqWrite_q p.1.1 p.1.2.1 p.1.2.2.1 p.2.1.1 p.2.1.2.1 p.2.1.2.2.1, laws_eqWrite_y p.1.1 p.1.2.1 p.1.2.2.1 p.2.1.1 p.2.1.2.1 p.2.1.2.2.1, laws_eqWrite_l⟩
  cases hk

def G36 : Glob := G35.add 150 laws_eqWrite_g

theorem G36_ok : GlobOk Try.prog G36 := G35_ok.add ⟨Try.f150, Try.func150, by kernel_rfl, by kernel_rfl⟩ laws_eqWrite_c



def laws_eqWriteS_loops : Nat → Option LoopSpec
  | 0 => some ⟨[0, 1, 4, 5], [], fun vals st k => onPats [.lst tWrite, .lst tWrite, .bool, .int .i64] [] vals st (fun p q => loopK laws_eqWriteS_b0 Fuel (p.1, p.2.1, p.2.2.1, p.2.2.2.1) (Sum.elim (fun z => k .ret [.lst tWrite z.1, .lst tWrite z.2.1, .bool z.2.2.1, .int .i64 z.2.2.2] []) (fun z => k (.exit 0) [.lst tWrite z.1, .lst tWrite z.2.1, .bool z.2.2.1, .int .i64 z.2.2.2] [])))
      (none)⟩
  | 2000006 => some ⟨[0, 2, 4, 6, 8, 10, 12, 14, 16, 18], [], fun _ _ _ => none⟩
  | _ => none

def laws_eqWriteS_v0 : ((List dWrite) × (List dWrite) × Bool × Int) → List AV := (fun x => [.lst tWrite x.1, .lst tWrite x.2.1, .bool x.2.2.1, .int .i64 x.2.2.2])
def laws_eqWriteS_s0 : ((List dWrite) × (List dWrite) × Bool × Int) → St := (fun x => [])
def laws_eqWriteS_e0 : (((List dWrite) × (List dWrite) × Bool × Int) ⊕ ((List dWrite) × (List dWrite) × Bool × Int)) → Out × List AV × St := (Sum.elim (fun z => (.ret, [.lst tWrite z.1, .lst tWrite z.2.1, .bool z.2.2.1, .int .i64 z.2.2.2], [])) (fun z => ((.exit 0), [.lst tWrite z.1, .lst tWrite z.2.1, .bool z.2.2.1, .int .i64 z.2.2.2], [])))

theorem laws_eqWriteS_bx0 (x : ((List dWrite) × (List dWrite) × Bool × Int)) : exec G36 ⟨0, 27, laws_eqWriteS_loops⟩ (loopBody Try.f77 0) (bodyK ⟨0, 27, laws_eqWriteS_loops⟩ [0, 1, 4, 5] []) (setEs (deads 27) [0, 1, 4, 5] (laws_eqWriteS_v0 x)) (laws_eqWriteS_s0 x) = laws_eqWriteS_b0 x (Sum.elim (fun y => some ⟨.norm, laws_eqWriteS_v0 y, laws_eqWriteS_s0 y⟩) fun z => some ⟨(laws_eqWriteS_e0 z).1, (laws_eqWriteS_e0 z).2.1, (laws_eqWriteS_e0 z).2.2⟩) := by
  kernel_rfl

theorem laws_eqWriteS_lo0 : ∀ sp, (laws_eqWriteS_loops 0) = some sp → LoopOk G36 ⟨0, 27, laws_eqWriteS_loops⟩ sp (loopBody Try.f77 0) := by
  intro sp hsp vals st k r h
  cases hsp
  dsimp only at h
  rcases onPats_inv2 h with ⟨p, q, rfl, rfl, h⟩ | h
  · exact loop_runs2 laws_eqWriteS_bp0 laws_eqWriteS_v0 laws_eqWriteS_s0 laws_eqWriteS_e0 (fun z => by rcases z with z | z <;> (intro h; cases h)) laws_eqWriteS_bx0 Fuel (p.1, p.2.1, p.2.2.1, p.2.2.2.1) _ k r (fun z => by rcases z with z | z <;> rfl) h
  cases h

theorem laws_eqWriteS_y (a0 : (List dWrite)) (a1 : (List dWrite)) : execFn G36 laws_eqWriteS_loops Try.f77 [.lst tWrite a0, .lst tWrite a1] [] = laws_eqWriteS_k a0 a1 (fun (y : Bool) => some ⟨.ret, [.bool y], []⟩) := by rw [laws_eqWriteS_e]; kernel_rfl

theorem laws_eqWriteS_l : LoopsOk G36 ⟨0, 27, laws_eqWriteS_loops⟩ (Try.f77.body.getD .skip) :=
  loopsOk_of (ids := [0]) (by kernel_rfl) (by kernel_rfl) ⟨laws_eqWriteS_lo0, trivial⟩

theorem laws_eqWriteS_c : Contract Try.prog 77 laws_eqWriteS_g := by
  refine told G36_ok follows Try.func77 (c := Try.f77.body.getD .skip) (by kernel_rfl) ?_
  intro args s k r hk
  unfold laws_eqWriteS_g at hk
  rcases onPats_inv hk with ⟨p, q, rfl, rfl⟩ | hk
  · exact ⟨laws_eqWriteS_loops, laws_eqWriteS_q p.1 p.2.1, laws_eqWriteS_y p.1 p.2.1, laws_eqWriteS_l⟩
  cases hk

def G37 : Glob := G36.add 77 laws_eqWriteS_g

theorem G37_ok : GlobOk Try.prog G37 := G36_ok.add ⟨Try.f77, Try.func77, by kernel_rfl, by kernel_rfl⟩ laws_eqWriteS_c



def laws_eqTxn_loops : Nat → Option LoopSpec
  | _ => none

theorem laws_eqTxn_y (a0 : Int) (a1 : Int) (a2 : Int) (a3 : Int) (a4 : (List dRange)) (a5 : (List dWrite)) (a6 : Bool) (a7 : ByteArray) (a8 : Int) (a9 : Int) (a10 : Int) (a11 : Int) (a12 : (List dRange)) (a13 : (List dWrite)) (a14 : Bool) (a15 : ByteArray) : execFn G37 laws_eqTxn_loops Try.f18 [.agg [.int .i64 a0, .int .i64 a1, .int .i64 a2, .int .i64 a3, .lst tRange a4, .lst tWrite a5, .bool a6, .str a7], .agg [.int .i64 a8, .int .i64 a9, .int .i64 a10, .int .i64 a11, .lst tRange a12, .lst tWrite a13, .bool a14, .str a15]] [] = laws_eqTxn_k (a0, (a1, (a2, (a3, (a4, (a5, (a6, a7))))))) (a8, (a9, (a10, (a11, (a12, (a13, (a14, a15))))))) (fun (y : Bool) => some ⟨.ret, [.bool y], []⟩) := by rw [laws_eqTxn_e]; kernel_rfl

theorem laws_eqTxn_l : LoopsOk G37 ⟨0, 47, laws_eqTxn_loops⟩ (Try.f18.body.getD .skip) :=
  loopsOk_of (ids := []) (by kernel_rfl) (by kernel_rfl) trivial

theorem laws_eqTxn_c : Contract Try.prog 18 laws_eqTxn_g := by
  refine told G37_ok follows Try.func18 (c := Try.f18.body.getD .skip) (by kernel_rfl) ?_
  intro args s k r hk
  unfold laws_eqTxn_g at hk
  rcases onPats_inv hk with ⟨p, q, rfl, rfl⟩ | hk
  · exact ⟨laws_eqTxn_loops, laws_eqTxn_q p.1.1 p.1.2.1 p.1.2.2.1 p.1.2.2.2.1 p.1.2.2.2.2.1 p.1.2.2.2.2.2.1 p.1.2.2.2.2.2.2.1 p.1.2.2.2.2.2.2.2.1 p.2.1.1 p.2.1.2.1 p.2.1.2.2.1 p.2.1.2.2.2.1 p.2.1.2.2.2.2.1 p.2.1.2.2.2.2.2.1 p.2.1.2.2.2.2.2.2.1 p.2.1.2.2.2.2.2.2.2.1, laws_eqTxn_y p.1.1 p.1.2.1 p.1.2.2.1 p.1.2.2.2.1 p.1.2.2.2.2.1 p.1.2.2.2.2.2.1 p.1.2.2.2.2.2.2.1 p.1.2.2.2.2.2.2.2.1 p.2.1.1 p.2.1.2.1 p.2.1.2.2.1 p.2.1.2.2.2.1 p.2.1.2.2.2.2.1 p.2.1.2.2.2.2.2.1 p.2.1.2.2.2.2.2.2.1 p.2.1.2.2.2.2.2.2.2.1, laws_eqTxn_l⟩
  cases hk

def G38 : Glob := G37.add 18 laws_eqTxn_g

theorem G38_ok : GlobOk Try.prog G38 := G37_ok.add ⟨Try.f18, Try.func18, by kernel_rfl, by kernel_rfl⟩ laws_eqTxn_c



def laws_eqVersion_loops : Nat → Option LoopSpec
  | _ => none

theorem laws_eqVersion_y (a0 : ByteArray) (a1 : ByteArray) (a2 : Bool) (a3 : Int) (a4 : ByteArray) (a5 : ByteArray) (a6 : Bool) (a7 : Int) : execFn G38 laws_eqVersion_loops Try.f78 [.agg [.str a0, .str a1, .bool a2, .int .i64 a3], .agg [.str a4, .str a5, .bool a6, .int .i64 a7]] [] = laws_eqVersion_k (a0, (a1, (a2, a3))) (a4, (a5, (a6, a7))) (fun (y : Bool) => some ⟨.ret, [.bool y], []⟩) := by rw [laws_eqVersion_e]; kernel_rfl

theorem laws_eqVersion_l : LoopsOk G38 ⟨0, 25, laws_eqVersion_loops⟩ (Try.f78.body.getD .skip) :=
  loopsOk_of (ids := []) (by kernel_rfl) (by kernel_rfl) trivial

theorem laws_eqVersion_c : Contract Try.prog 78 laws_eqVersion_g := by
  refine told G38_ok follows Try.func78 (c := Try.f78.body.getD .skip) (by kernel_rfl) ?_
  intro args s k r hk
  unfold laws_eqVersion_g at hk
  rcases onPats_inv hk with ⟨p, q, rfl, rfl⟩ | hk
  · exact ⟨laws_eqVersion_loops, laws_eqVersion_q p.1.1 p.1.2.1 p.1.2.2.1 p.1.2.2.2.1 p.2.1.1 p.2.1.2.1 p.2.1.2.2.1 p.2.1.2.2.2.1, laws_eqVersion_y p.1.1 p.1.2.1 p.1.2.2.1 p.1.2.2.2.1 p.2.1.1 p.2.1.2.1 p.2.1.2.2.1 p.2.1.2.2.2.1, laws_eqVersion_l⟩
  cases hk

def G39 : Glob := G38.add 78 laws_eqVersion_g

theorem G39_ok : GlobOk Try.prog G39 := G38_ok.add ⟨Try.f78, Try.func78, by kernel_rfl, by kernel_rfl⟩ laws_eqVersion_c



def laws_eqVersionS_loops : Nat → Option LoopSpec
  | 0 => some ⟨[0, 1, 4, 5], [], fun vals st k => onPats [.lst tVersion, .lst tVersion, .bool, .int .i64] [] vals st (fun p q => loopK laws_eqVersionS_b0 Fuel (p.1, p.2.1, p.2.2.1, p.2.2.2.1) (Sum.elim (fun z => k .ret [.lst tVersion z.1, .lst tVersion z.2.1, .bool z.2.2.1, .int .i64 z.2.2.2] []) (fun z => k (.exit 0) [.lst tVersion z.1, .lst tVersion z.2.1, .bool z.2.2.1, .int .i64 z.2.2.2] [])))
      (none)⟩
  | 2000006 => some ⟨[0, 2, 4, 6, 8, 10, 12, 14, 16, 18], [], fun _ _ _ => none⟩
  | _ => none

def laws_eqVersionS_v0 : ((List dVersion) × (List dVersion) × Bool × Int) → List AV := (fun x => [.lst tVersion x.1, .lst tVersion x.2.1, .bool x.2.2.1, .int .i64 x.2.2.2])
def laws_eqVersionS_s0 : ((List dVersion) × (List dVersion) × Bool × Int) → St := (fun x => [])
def laws_eqVersionS_e0 : (((List dVersion) × (List dVersion) × Bool × Int) ⊕ ((List dVersion) × (List dVersion) × Bool × Int)) → Out × List AV × St := (Sum.elim (fun z => (.ret, [.lst tVersion z.1, .lst tVersion z.2.1, .bool z.2.2.1, .int .i64 z.2.2.2], [])) (fun z => ((.exit 0), [.lst tVersion z.1, .lst tVersion z.2.1, .bool z.2.2.1, .int .i64 z.2.2.2], [])))

theorem laws_eqVersionS_bx0 (x : ((List dVersion) × (List dVersion) × Bool × Int)) : exec G39 ⟨0, 27, laws_eqVersionS_loops⟩ (loopBody Try.f19 0) (bodyK ⟨0, 27, laws_eqVersionS_loops⟩ [0, 1, 4, 5] []) (setEs (deads 27) [0, 1, 4, 5] (laws_eqVersionS_v0 x)) (laws_eqVersionS_s0 x) = laws_eqVersionS_b0 x (Sum.elim (fun y => some ⟨.norm, laws_eqVersionS_v0 y, laws_eqVersionS_s0 y⟩) fun z => some ⟨(laws_eqVersionS_e0 z).1, (laws_eqVersionS_e0 z).2.1, (laws_eqVersionS_e0 z).2.2⟩) := by
  kernel_rfl

theorem laws_eqVersionS_lo0 : ∀ sp, (laws_eqVersionS_loops 0) = some sp → LoopOk G39 ⟨0, 27, laws_eqVersionS_loops⟩ sp (loopBody Try.f19 0) := by
  intro sp hsp vals st k r h
  cases hsp
  dsimp only at h
  rcases onPats_inv2 h with ⟨p, q, rfl, rfl, h⟩ | h
  · exact loop_runs2 laws_eqVersionS_bp0 laws_eqVersionS_v0 laws_eqVersionS_s0 laws_eqVersionS_e0 (fun z => by rcases z with z | z <;> (intro h; cases h)) laws_eqVersionS_bx0 Fuel (p.1, p.2.1, p.2.2.1, p.2.2.2.1) _ k r (fun z => by rcases z with z | z <;> rfl) h
  cases h

theorem laws_eqVersionS_y (a0 : (List dVersion)) (a1 : (List dVersion)) : execFn G39 laws_eqVersionS_loops Try.f19 [.lst tVersion a0, .lst tVersion a1] [] = laws_eqVersionS_k a0 a1 (fun (y : Bool) => some ⟨.ret, [.bool y], []⟩) := by rw [laws_eqVersionS_e]; kernel_rfl

theorem laws_eqVersionS_l : LoopsOk G39 ⟨0, 27, laws_eqVersionS_loops⟩ (Try.f19.body.getD .skip) :=
  loopsOk_of (ids := [0]) (by kernel_rfl) (by kernel_rfl) ⟨laws_eqVersionS_lo0, trivial⟩

theorem laws_eqVersionS_c : Contract Try.prog 19 laws_eqVersionS_g := by
  refine told G39_ok follows Try.func19 (c := Try.f19.body.getD .skip) (by kernel_rfl) ?_
  intro args s k r hk
  unfold laws_eqVersionS_g at hk
  rcases onPats_inv hk with ⟨p, q, rfl, rfl⟩ | hk
  · exact ⟨laws_eqVersionS_loops, laws_eqVersionS_q p.1 p.2.1, laws_eqVersionS_y p.1 p.2.1, laws_eqVersionS_l⟩
  cases hk

def G40 : Glob := G39.add 19 laws_eqVersionS_g

theorem G40_ok : GlobOk Try.prog G40 := G39_ok.add ⟨Try.f19, Try.func19, by kernel_rfl, by kernel_rfl⟩ laws_eqVersionS_c



def laws_markText_loops : Nat → Option LoopSpec
  | 0 => some ⟨[0, 3], [], fun vals st k => onPats [.int .i64, .str] [] vals st (fun p q => loopK laws_markText_b0 Fuel (p.1, p.2.1) (fun z => k (.exit 0) [.int .i64 z.1, .str z.2] []))
      (none)⟩
  | _ => none

def laws_markText_v0 : (Int × ByteArray) → List AV := (fun x => [.int .i64 x.1, .str x.2])
def laws_markText_s0 : (Int × ByteArray) → St := (fun x => [])
def laws_markText_e0 : (Int × ByteArray) → Out × List AV × St := (fun z => ((.exit 0), [.int .i64 z.1, .str z.2], []))

theorem laws_markText_bx0 (x : (Int × ByteArray)) : exec G40 ⟨0, 20, laws_markText_loops⟩ (loopBody Try.f81 0) (bodyK ⟨0, 20, laws_markText_loops⟩ [0, 3] []) (setEs (deads 20) [0, 3] (laws_markText_v0 x)) (laws_markText_s0 x) = laws_markText_b0 x (Sum.elim (fun y => some ⟨.norm, laws_markText_v0 y, laws_markText_s0 y⟩) fun z => some ⟨(laws_markText_e0 z).1, (laws_markText_e0 z).2.1, (laws_markText_e0 z).2.2⟩) := by
  kernel_rfl

theorem laws_markText_lo0 : ∀ sp, (laws_markText_loops 0) = some sp → LoopOk G40 ⟨0, 20, laws_markText_loops⟩ sp (loopBody Try.f81 0) := by
  intro sp hsp vals st k r h
  cases hsp
  dsimp only at h
  rcases onPats_inv2 h with ⟨p, q, rfl, rfl, h⟩ | h
  · exact loop_runs2 laws_markText_bp0 laws_markText_v0 laws_markText_s0 laws_markText_e0 (fun z => by (intro h; cases h)) laws_markText_bx0 Fuel (p.1, p.2.1) _ k r (fun z => rfl) h
  cases h

theorem laws_markText_y (a0 : Int) : execFn G40 laws_markText_loops Try.f81 [.int .i64 a0] [] = laws_markText_k a0 (fun (y : ByteArray) => some ⟨.ret, [.str y], []⟩) := by rw [laws_markText_e]; kernel_rfl

theorem laws_markText_l : LoopsOk G40 ⟨0, 20, laws_markText_loops⟩ (Try.f81.body.getD .skip) :=
  loopsOk_of (ids := [0]) (by kernel_rfl) (by kernel_rfl) ⟨laws_markText_lo0, trivial⟩

theorem laws_markText_c : Contract Try.prog 81 laws_markText_g := by
  refine told G40_ok follows Try.func81 (c := Try.f81.body.getD .skip) (by kernel_rfl) ?_
  intro args s k r hk
  unfold laws_markText_g at hk
  rcases onPats_inv hk with ⟨p, q, rfl, rfl⟩ | hk
  · exact ⟨laws_markText_loops, laws_markText_q p.1, laws_markText_y p.1, laws_markText_l⟩
  cases hk

def G41 : Glob := G40.add 81 laws_markText_g

theorem G41_ok : GlobOk Try.prog G41 := G40_ok.add ⟨Try.f81, Try.func81, by kernel_rfl, by kernel_rfl⟩ laws_markText_c



def laws_markRangeS_vo_loops : Nat → Option LoopSpec
  | 0 => some ⟨[0, 1, 5], [], fun vals st k => onPats [.own 0, .int .i64, .int .i64] [.arr tRange] vals st (fun p q => loopK laws_markRangeS_vo_b0 Fuel (p.2.1, p.2.2.1, q.1) (fun z => k (.exit 0) [.own 0, .int .i64 z.1, .int .i64 z.2.1] [.arr tRange z.2.2]))
      (none)⟩
  | _ => none

def laws_markRangeS_vo_v0 : (Int × Int × (List dRange)) → List AV := (fun x => [.own 0, .int .i64 x.1, .int .i64 x.2.1])
def laws_markRangeS_vo_s0 : (Int × Int × (List dRange)) → St := (fun x => [.arr tRange x.2.2])
def laws_markRangeS_vo_e0 : (Int × Int × (List dRange)) → Out × List AV × St := (fun z => ((.exit 0), [.own 0, .int .i64 z.1, .int .i64 z.2.1], [.arr tRange z.2.2]))

theorem laws_markRangeS_vo_bx0 (x : (Int × Int × (List dRange))) : exec G41 ⟨1, 29, laws_markRangeS_vo_loops⟩ (loopBody Try.f79 0) (bodyK ⟨1, 29, laws_markRangeS_vo_loops⟩ [0, 1, 5] []) (setEs (deads 29) [0, 1, 5] (laws_markRangeS_vo_v0 x)) (laws_markRangeS_vo_s0 x) = laws_markRangeS_vo_b0 x (Sum.elim (fun y => some ⟨.norm, laws_markRangeS_vo_v0 y, laws_markRangeS_vo_s0 y⟩) fun z => some ⟨(laws_markRangeS_vo_e0 z).1, (laws_markRangeS_vo_e0 z).2.1, (laws_markRangeS_vo_e0 z).2.2⟩) := by
  kernel_rfl

theorem laws_markRangeS_vo_lo0 : ∀ sp, (laws_markRangeS_vo_loops 0) = some sp → LoopOk G41 ⟨1, 29, laws_markRangeS_vo_loops⟩ sp (loopBody Try.f79 0) := by
  intro sp hsp vals st k r h
  cases hsp
  dsimp only at h
  rcases onPats_inv2 h with ⟨p, q, rfl, rfl, h⟩ | h
  · exact loop_runs2 laws_markRangeS_vo_bp0 laws_markRangeS_vo_v0 laws_markRangeS_vo_s0 laws_markRangeS_vo_e0 (fun z => by (intro h; cases h)) laws_markRangeS_vo_bx0 Fuel (p.2.1, p.2.2.1, q.1) _ k r (fun z => rfl) h
  cases h

theorem laws_markRangeS_vo_y (a0 : Int) (a1 : (List dRange)) : execFn G41 laws_markRangeS_vo_loops Try.f79 [.own 0, .int .i64 a0] [.arr tRange a1] = laws_markRangeS_vo_k a0 a1 (fun (y : (Int × (List dRange))) => some ⟨.ret, [.int .i64 y.1], [.arr tRange y.2]⟩) := by rw [laws_markRangeS_vo_e]; kernel_rfl

theorem laws_markRangeS_vo_l : LoopsOk G41 ⟨1, 29, laws_markRangeS_vo_loops⟩ (Try.f79.body.getD .skip) :=
  loopsOk_of (ids := [0]) (by kernel_rfl) (by kernel_rfl) ⟨laws_markRangeS_vo_lo0, trivial⟩

theorem laws_markRangeS_c : Contract Try.prog 79 laws_markRangeS_g := by
  refine told G41_ok follows Try.func79 (c := Try.f79.body.getD .skip) (by kernel_rfl) ?_
  intro args s k r hk
  unfold laws_markRangeS_g at hk
  rcases onPats_inv hk with ⟨p, q, rfl, rfl⟩ | hk
  · exact ⟨laws_markRangeS_vo_loops, laws_markRangeS_vo_q p.2.1 q.1, laws_markRangeS_vo_y p.2.1 q.1, laws_markRangeS_vo_l⟩
  cases hk

def G42 : Glob := G41.add 79 laws_markRangeS_g

theorem G42_ok : GlobOk Try.prog G42 := G41_ok.add ⟨Try.f79, Try.func79, by kernel_rfl, by kernel_rfl⟩ laws_markRangeS_c



def laws_markWriteS_vo_loops : Nat → Option LoopSpec
  | 0 => some ⟨[0, 1, 5], [], fun vals st k => onPats [.own 0, .int .i64, .int .i64] [.arr tWrite] vals st (fun p q => loopK laws_markWriteS_vo_b0 Fuel (p.2.1, p.2.2.1, q.1) (fun z => k (.exit 0) [.own 0, .int .i64 z.1, .int .i64 z.2.1] [.arr tWrite z.2.2]))
      (none)⟩
  | _ => none

def laws_markWriteS_vo_v0 : (Int × Int × (List dWrite)) → List AV := (fun x => [.own 0, .int .i64 x.1, .int .i64 x.2.1])
def laws_markWriteS_vo_s0 : (Int × Int × (List dWrite)) → St := (fun x => [.arr tWrite x.2.2])
def laws_markWriteS_vo_e0 : (Int × Int × (List dWrite)) → Out × List AV × St := (fun z => ((.exit 0), [.own 0, .int .i64 z.1, .int .i64 z.2.1], [.arr tWrite z.2.2]))

theorem laws_markWriteS_vo_bx0 (x : (Int × Int × (List dWrite))) : exec G42 ⟨1, 38, laws_markWriteS_vo_loops⟩ (loopBody Try.f80 0) (bodyK ⟨1, 38, laws_markWriteS_vo_loops⟩ [0, 1, 5] []) (setEs (deads 38) [0, 1, 5] (laws_markWriteS_vo_v0 x)) (laws_markWriteS_vo_s0 x) = laws_markWriteS_vo_b0 x (Sum.elim (fun y => some ⟨.norm, laws_markWriteS_vo_v0 y, laws_markWriteS_vo_s0 y⟩) fun z => some ⟨(laws_markWriteS_vo_e0 z).1, (laws_markWriteS_vo_e0 z).2.1, (laws_markWriteS_vo_e0 z).2.2⟩) := by
  kernel_rfl

theorem laws_markWriteS_vo_lo0 : ∀ sp, (laws_markWriteS_vo_loops 0) = some sp → LoopOk G42 ⟨1, 38, laws_markWriteS_vo_loops⟩ sp (loopBody Try.f80 0) := by
  intro sp hsp vals st k r h
  cases hsp
  dsimp only at h
  rcases onPats_inv2 h with ⟨p, q, rfl, rfl, h⟩ | h
  · exact loop_runs2 laws_markWriteS_vo_bp0 laws_markWriteS_vo_v0 laws_markWriteS_vo_s0 laws_markWriteS_vo_e0 (fun z => by (intro h; cases h)) laws_markWriteS_vo_bx0 Fuel (p.2.1, p.2.2.1, q.1) _ k r (fun z => rfl) h
  cases h

theorem laws_markWriteS_vo_y (a0 : Int) (a1 : (List dWrite)) : execFn G42 laws_markWriteS_vo_loops Try.f80 [.own 0, .int .i64 a0] [.arr tWrite a1] = laws_markWriteS_vo_k a0 a1 (fun (y : (Int × (List dWrite))) => some ⟨.ret, [.int .i64 y.1], [.arr tWrite y.2]⟩) := by rw [laws_markWriteS_vo_e]; kernel_rfl

theorem laws_markWriteS_vo_l : LoopsOk G42 ⟨1, 38, laws_markWriteS_vo_loops⟩ (Try.f80.body.getD .skip) :=
  loopsOk_of (ids := [0]) (by kernel_rfl) (by kernel_rfl) ⟨laws_markWriteS_vo_lo0, trivial⟩

theorem laws_markWriteS_c : Contract Try.prog 80 laws_markWriteS_g := by
  refine told G42_ok follows Try.func80 (c := Try.f80.body.getD .skip) (by kernel_rfl) ?_
  intro args s k r hk
  unfold laws_markWriteS_g at hk
  rcases onPats_inv hk with ⟨p, q, rfl, rfl⟩ | hk
  · exact ⟨laws_markWriteS_vo_loops, laws_markWriteS_vo_q p.2.1 q.1, laws_markWriteS_vo_y p.2.1 q.1, laws_markWriteS_vo_l⟩
  cases hk

def G43 : Glob := G42.add 80 laws_markWriteS_g

theorem G43_ok : GlobOk Try.prog G43 := G42_ok.add ⟨Try.f80, Try.func80, by kernel_rfl, by kernel_rfl⟩ laws_markWriteS_c



def laws_markTxn_va_loops : Nat → Option LoopSpec
  | _ => none

theorem laws_markTxn_va_y (a0 : Int) (a1 : Int) (a2 : Int) (a3 : Int) (a4 : Bool) (a5 : ByteArray) (a6 : Int) (a7 : (List dRange)) (a8 : (List dWrite)) : execFn G43 laws_markTxn_va_loops Try.f20 [.agg [.int .i64 a0, .int .i64 a1, .int .i64 a2, .int .i64 a3, .own 0, .own 1, .bool a4, .str a5], .int .i64 a6] [.arr tRange a7, .arr tWrite a8] = laws_markTxn_va_k a0 a1 a2 a3 a4 a5 a6 a7 a8 (fun (y : (Int × (List dRange) × (List dWrite))) => some ⟨.ret, [.int .i64 y.1], [.arr tRange y.2.1, .arr tWrite y.2.2]⟩) := by rw [laws_markTxn_va_e]; kernel_rfl

theorem laws_markTxn_va_l : LoopsOk G43 ⟨2, 14, laws_markTxn_va_loops⟩ (Try.f20.body.getD .skip) :=
  loopsOk_of (ids := []) (by kernel_rfl) (by kernel_rfl) trivial

theorem laws_markTxn_c : Contract Try.prog 20 laws_markTxn_g := by
  refine told G43_ok follows Try.func20 (c := Try.f20.body.getD .skip) (by kernel_rfl) ?_
  intro args s k r hk
  unfold laws_markTxn_g at hk
  rcases onPats_inv hk with ⟨p, q, rfl, rfl⟩ | hk
  · exact ⟨laws_markTxn_va_loops, laws_markTxn_va_q p.1.1 p.1.2.1 p.1.2.2.1 p.1.2.2.2.1 p.1.2.2.2.2.2.2.1 p.1.2.2.2.2.2.2.2.1 p.2.1 q.1 q.2.1, laws_markTxn_va_y p.1.1 p.1.2.1 p.1.2.2.1 p.1.2.2.2.1 p.1.2.2.2.2.2.2.1 p.1.2.2.2.2.2.2.2.1 p.2.1 q.1 q.2.1, laws_markTxn_va_l⟩
  cases hk

def G44 : Glob := G43.add 20 laws_markTxn_g

theorem G44_ok : GlobOk Try.prog G44 := G43_ok.add ⟨Try.f20, Try.func20, by kernel_rfl, by kernel_rfl⟩ laws_markTxn_c



def laws_markVersionS_vo_loops : Nat → Option LoopSpec
  | 0 => some ⟨[0, 1, 5], [], fun vals st k => onPats [.own 0, .int .i64, .int .i64] [.arr tVersion] vals st (fun p q => loopK laws_markVersionS_vo_b0 Fuel (p.2.1, p.2.2.1, q.1) (fun z => k (.exit 0) [.own 0, .int .i64 z.1, .int .i64 z.2.1] [.arr tVersion z.2.2]))
      (none)⟩
  | _ => none

def laws_markVersionS_vo_v0 : (Int × Int × (List dVersion)) → List AV := (fun x => [.own 0, .int .i64 x.1, .int .i64 x.2.1])
def laws_markVersionS_vo_s0 : (Int × Int × (List dVersion)) → St := (fun x => [.arr tVersion x.2.2])
def laws_markVersionS_vo_e0 : (Int × Int × (List dVersion)) → Out × List AV × St := (fun z => ((.exit 0), [.own 0, .int .i64 z.1, .int .i64 z.2.1], [.arr tVersion z.2.2]))

theorem laws_markVersionS_vo_bx0 (x : (Int × Int × (List dVersion))) : exec G44 ⟨1, 45, laws_markVersionS_vo_loops⟩ (loopBody Try.f21 0) (bodyK ⟨1, 45, laws_markVersionS_vo_loops⟩ [0, 1, 5] []) (setEs (deads 45) [0, 1, 5] (laws_markVersionS_vo_v0 x)) (laws_markVersionS_vo_s0 x) = laws_markVersionS_vo_b0 x (Sum.elim (fun y => some ⟨.norm, laws_markVersionS_vo_v0 y, laws_markVersionS_vo_s0 y⟩) fun z => some ⟨(laws_markVersionS_vo_e0 z).1, (laws_markVersionS_vo_e0 z).2.1, (laws_markVersionS_vo_e0 z).2.2⟩) := by
  kernel_rfl

theorem laws_markVersionS_vo_lo0 : ∀ sp, (laws_markVersionS_vo_loops 0) = some sp → LoopOk G44 ⟨1, 45, laws_markVersionS_vo_loops⟩ sp (loopBody Try.f21 0) := by
  intro sp hsp vals st k r h
  cases hsp
  dsimp only at h
  rcases onPats_inv2 h with ⟨p, q, rfl, rfl, h⟩ | h
  · exact loop_runs2 laws_markVersionS_vo_bp0 laws_markVersionS_vo_v0 laws_markVersionS_vo_s0 laws_markVersionS_vo_e0 (fun z => by (intro h; cases h)) laws_markVersionS_vo_bx0 Fuel (p.2.1, p.2.2.1, q.1) _ k r (fun z => rfl) h
  cases h

theorem laws_markVersionS_vo_y (a0 : Int) (a1 : (List dVersion)) : execFn G44 laws_markVersionS_vo_loops Try.f21 [.own 0, .int .i64 a0] [.arr tVersion a1] = laws_markVersionS_vo_k a0 a1 (fun (y : (Int × (List dVersion))) => some ⟨.ret, [.int .i64 y.1], [.arr tVersion y.2]⟩) := by rw [laws_markVersionS_vo_e]; kernel_rfl

theorem laws_markVersionS_vo_l : LoopsOk G44 ⟨1, 45, laws_markVersionS_vo_loops⟩ (Try.f21.body.getD .skip) :=
  loopsOk_of (ids := [0]) (by kernel_rfl) (by kernel_rfl) ⟨laws_markVersionS_vo_lo0, trivial⟩

theorem laws_markVersionS_c : Contract Try.prog 21 laws_markVersionS_g := by
  refine told G44_ok follows Try.func21 (c := Try.f21.body.getD .skip) (by kernel_rfl) ?_
  intro args s k r hk
  unfold laws_markVersionS_g at hk
  rcases onPats_inv hk with ⟨p, q, rfl, rfl⟩ | hk
  · exact ⟨laws_markVersionS_vo_loops, laws_markVersionS_vo_q p.2.1 q.1, laws_markVersionS_vo_y p.2.1 q.1, laws_markVersionS_vo_l⟩
  cases hk

def G45 : Glob := G44.add 21 laws_markVersionS_g

theorem G45_ok : GlobOk Try.prog G45 := G44_ok.add ⟨Try.f21, Try.func21, by kernel_rfl, by kernel_rfl⟩ laws_markVersionS_c



def laws_markPairS_vo_loops : Nat → Option LoopSpec
  | 0 => some ⟨[0, 1, 5], [], fun vals st k => onPats [.own 0, .int .i64, .int .i64] [.arr tRange] vals st (fun p q => loopK laws_markPairS_vo_b0 Fuel (p.2.1, p.2.2.1, q.1) (fun z => k (.exit 0) [.own 0, .int .i64 z.1, .int .i64 z.2.1] [.arr tRange z.2.2]))
      (none)⟩
  | _ => none

def laws_markPairS_vo_v0 : (Int × Int × (List dRange)) → List AV := (fun x => [.own 0, .int .i64 x.1, .int .i64 x.2.1])
def laws_markPairS_vo_s0 : (Int × Int × (List dRange)) → St := (fun x => [.arr tRange x.2.2])
def laws_markPairS_vo_e0 : (Int × Int × (List dRange)) → Out × List AV × St := (fun z => ((.exit 0), [.own 0, .int .i64 z.1, .int .i64 z.2.1], [.arr tRange z.2.2]))

theorem laws_markPairS_vo_bx0 (x : (Int × Int × (List dRange))) : exec G45 ⟨1, 29, laws_markPairS_vo_loops⟩ (loopBody Try.f22 0) (bodyK ⟨1, 29, laws_markPairS_vo_loops⟩ [0, 1, 5] []) (setEs (deads 29) [0, 1, 5] (laws_markPairS_vo_v0 x)) (laws_markPairS_vo_s0 x) = laws_markPairS_vo_b0 x (Sum.elim (fun y => some ⟨.norm, laws_markPairS_vo_v0 y, laws_markPairS_vo_s0 y⟩) fun z => some ⟨(laws_markPairS_vo_e0 z).1, (laws_markPairS_vo_e0 z).2.1, (laws_markPairS_vo_e0 z).2.2⟩) := by
  kernel_rfl

theorem laws_markPairS_vo_lo0 : ∀ sp, (laws_markPairS_vo_loops 0) = some sp → LoopOk G45 ⟨1, 29, laws_markPairS_vo_loops⟩ sp (loopBody Try.f22 0) := by
  intro sp hsp vals st k r h
  cases hsp
  dsimp only at h
  rcases onPats_inv2 h with ⟨p, q, rfl, rfl, h⟩ | h
  · exact loop_runs2 laws_markPairS_vo_bp0 laws_markPairS_vo_v0 laws_markPairS_vo_s0 laws_markPairS_vo_e0 (fun z => by (intro h; cases h)) laws_markPairS_vo_bx0 Fuel (p.2.1, p.2.2.1, q.1) _ k r (fun z => rfl) h
  cases h

theorem laws_markPairS_vo_y (a0 : Int) (a1 : (List dRange)) : execFn G45 laws_markPairS_vo_loops Try.f22 [.own 0, .int .i64 a0] [.arr tRange a1] = laws_markPairS_vo_k a0 a1 (fun (y : (Int × (List dRange))) => some ⟨.ret, [.int .i64 y.1], [.arr tRange y.2]⟩) := by rw [laws_markPairS_vo_e]; kernel_rfl

theorem laws_markPairS_vo_l : LoopsOk G45 ⟨1, 29, laws_markPairS_vo_loops⟩ (Try.f22.body.getD .skip) :=
  loopsOk_of (ids := [0]) (by kernel_rfl) (by kernel_rfl) ⟨laws_markPairS_vo_lo0, trivial⟩

theorem laws_markPairS_c : Contract Try.prog 22 laws_markPairS_g := by
  refine told G45_ok follows Try.func22 (c := Try.f22.body.getD .skip) (by kernel_rfl) ?_
  intro args s k r hk
  unfold laws_markPairS_g at hk
  rcases onPats_inv hk with ⟨p, q, rfl, rfl⟩ | hk
  · exact ⟨laws_markPairS_vo_loops, laws_markPairS_vo_q p.2.1 q.1, laws_markPairS_vo_y p.2.1 q.1, laws_markPairS_vo_l⟩
  cases hk

def G46 : Glob := G45.add 22 laws_markPairS_g

theorem G46_ok : GlobOk Try.prog G46 := G45_ok.add ⟨Try.f22, Try.func22, by kernel_rfl, by kernel_rfl⟩ laws_markPairS_c



def laws_heldPairS_loops : Nat → Option LoopSpec
  | 0 => some ⟨[0, 1, 4, 5], [], fun vals st k => onPats [.lst tRange, .int .i64, .int .i64, .int .i64] [] vals st (fun p q => loopK laws_heldPairS_b0 Fuel (p.1, p.2.1, p.2.2.1, p.2.2.2.1) (Sum.elim (fun z => k .ret [.lst tRange z.1, .int .i64 z.2.1, .int .i64 z.2.2.1, .int .i64 z.2.2.2] []) (fun z => k (.exit 0) [.lst tRange z.1, .int .i64 z.2.1, .int .i64 z.2.2.1, .int .i64 z.2.2.2] [])))
      (none)⟩
  | 2000004 => some ⟨[0, 2, 4, 6, 8, 10, 13, 14], [], fun _ _ _ => none⟩
  | 2000007 => some ⟨[0, 2, 4, 6, 8, 10, 13, 14], [], fun _ _ _ => none⟩
  | _ => none

def laws_heldPairS_v0 : ((List dRange) × Int × Int × Int) → List AV := (fun x => [.lst tRange x.1, .int .i64 x.2.1, .int .i64 x.2.2.1, .int .i64 x.2.2.2])
def laws_heldPairS_s0 : ((List dRange) × Int × Int × Int) → St := (fun x => [])
def laws_heldPairS_e0 : (((List dRange) × Int × Int × Int) ⊕ ((List dRange) × Int × Int × Int)) → Out × List AV × St := (Sum.elim (fun z => (.ret, [.lst tRange z.1, .int .i64 z.2.1, .int .i64 z.2.2.1, .int .i64 z.2.2.2], [])) (fun z => ((.exit 0), [.lst tRange z.1, .int .i64 z.2.1, .int .i64 z.2.2.1, .int .i64 z.2.2.2], [])))

theorem laws_heldPairS_bx0 (x : ((List dRange) × Int × Int × Int)) : exec G46 ⟨0, 33, laws_heldPairS_loops⟩ (loopBody Try.f23 0) (bodyK ⟨0, 33, laws_heldPairS_loops⟩ [0, 1, 4, 5] []) (setEs (deads 33) [0, 1, 4, 5] (laws_heldPairS_v0 x)) (laws_heldPairS_s0 x) = laws_heldPairS_b0 x (Sum.elim (fun y => some ⟨.norm, laws_heldPairS_v0 y, laws_heldPairS_s0 y⟩) fun z => some ⟨(laws_heldPairS_e0 z).1, (laws_heldPairS_e0 z).2.1, (laws_heldPairS_e0 z).2.2⟩) := by
  kernel_rfl

theorem laws_heldPairS_lo0 : ∀ sp, (laws_heldPairS_loops 0) = some sp → LoopOk G46 ⟨0, 33, laws_heldPairS_loops⟩ sp (loopBody Try.f23 0) := by
  intro sp hsp vals st k r h
  cases hsp
  dsimp only at h
  rcases onPats_inv2 h with ⟨p, q, rfl, rfl, h⟩ | h
  · exact loop_runs2 laws_heldPairS_bp0 laws_heldPairS_v0 laws_heldPairS_s0 laws_heldPairS_e0 (fun z => by rcases z with z | z <;> (intro h; cases h)) laws_heldPairS_bx0 Fuel (p.1, p.2.1, p.2.2.1, p.2.2.2.1) _ k r (fun z => by rcases z with z | z <;> rfl) h
  cases h

theorem laws_heldPairS_y (a0 : (List dRange)) (a1 : Int) : execFn G46 laws_heldPairS_loops Try.f23 [.lst tRange a0, .int .i64 a1] [] = laws_heldPairS_k a0 a1 (fun (y : Int) => some ⟨.ret, [.int .i64 y], []⟩) := by rw [laws_heldPairS_e]; kernel_rfl

theorem laws_heldPairS_l : LoopsOk G46 ⟨0, 33, laws_heldPairS_loops⟩ (Try.f23.body.getD .skip) :=
  loopsOk_of (ids := [0]) (by kernel_rfl) (by kernel_rfl) ⟨laws_heldPairS_lo0, trivial⟩

theorem laws_heldPairS_c : Contract Try.prog 23 laws_heldPairS_g := by
  refine told G46_ok follows Try.func23 (c := Try.f23.body.getD .skip) (by kernel_rfl) ?_
  intro args s k r hk
  unfold laws_heldPairS_g at hk
  rcases onPats_inv hk with ⟨p, q, rfl, rfl⟩ | hk
  · exact ⟨laws_heldPairS_loops, laws_heldPairS_q p.1 p.2.1, laws_heldPairS_y p.1 p.2.1, laws_heldPairS_l⟩
  cases hk

def G47 : Glob := G46.add 23 laws_heldPairS_g

theorem G47_ok : GlobOk Try.prog G47 := G46_ok.add ⟨Try.f23, Try.func23, by kernel_rfl, by kernel_rfl⟩ laws_heldPairS_c



def laws_FnExactOwnScan_loops : Nat → Option LoopSpec
  | 5000026 => some ⟨[1, 3, 5, 6, 8, 11], [], fun vals st k => onPats [.lst tVersion, .bp 0 0, .bp 1 0, .bool, .own 2, .own 3] [.box [.int .i64, .int .i64, .int .i64, .int .i64, .lst tRange, .lst tWrite, .bool, .str], .box [.str, .str], .arr tRange, .arr tRange] vals st (fun p q => laws_FnExactOwnScan_j5000026 (p.1, p.2.2.2.1, q.1.1, q.1.2.1, q.1.2.2.1, q.1.2.2.2.1, q.1.2.2.2.2.1, q.1.2.2.2.2.2.1, q.1.2.2.2.2.2.2.1, q.1.2.2.2.2.2.2.2.1, q.2.1.1, q.2.1.2.1, q.2.2.1, q.2.2.2.1) (fun z => k .ret [.lst tVersion z.1, .bp 0 0, .bp 1 0, .bool z.2.1, .own 2, .own 3] [.box [.int .i64 z.2.2.1, .int .i64 z.2.2.2.1, .int .i64 z.2.2.2.2.1, .int .i64 z.2.2.2.2.2.1, .lst tRange z.2.2.2.2.2.2.1, .lst tWrite z.2.2.2.2.2.2.2.1, .bool z.2.2.2.2.2.2.2.2.1, .str z.2.2.2.2.2.2.2.2.2.1], .box [.str z.2.2.2.2.2.2.2.2.2.2.1, .str z.2.2.2.2.2.2.2.2.2.2.2.1], .arr tRange z.2.2.2.2.2.2.2.2.2.2.2.2.1, .arr tRange z.2.2.2.2.2.2.2.2.2.2.2.2.2]))
      (none)⟩
  | 2000011 => some ⟨[0, 4, 8, 3, 7, 11, 13, 14], [], fun _ _ _ => none⟩
  | 2000034 => some ⟨[0, 4, 8, 3, 7, 11, 13, 14], [], fun _ _ _ => none⟩
  | _ => none

def laws_FnExactOwnScan_jv5000026 : ((List dVersion) × Bool × Int × Int × Int × Int × (List dRange) × (List dWrite) × Bool × ByteArray × ByteArray × ByteArray × (List dRange) × (List dRange)) → List AV := (fun x => [.lst tVersion x.1, .bp 0 0, .bp 1 0, .bool x.2.1, .own 2, .own 3])
def laws_FnExactOwnScan_js5000026 : ((List dVersion) × Bool × Int × Int × Int × Int × (List dRange) × (List dWrite) × Bool × ByteArray × ByteArray × ByteArray × (List dRange) × (List dRange)) → St := (fun x => [.box [.int .i64 x.2.2.1, .int .i64 x.2.2.2.1, .int .i64 x.2.2.2.2.1, .int .i64 x.2.2.2.2.2.1, .lst tRange x.2.2.2.2.2.2.1, .lst tWrite x.2.2.2.2.2.2.2.1, .bool x.2.2.2.2.2.2.2.2.1, .str x.2.2.2.2.2.2.2.2.2.1], .box [.str x.2.2.2.2.2.2.2.2.2.2.1, .str x.2.2.2.2.2.2.2.2.2.2.2.1], .arr tRange x.2.2.2.2.2.2.2.2.2.2.2.2.1, .arr tRange x.2.2.2.2.2.2.2.2.2.2.2.2.2])
def laws_FnExactOwnScan_je5000026 : ((List dVersion) × Bool × Int × Int × Int × Int × (List dRange) × (List dWrite) × Bool × ByteArray × ByteArray × ByteArray × (List dRange) × (List dRange)) → Out × List AV × St := (fun z => (.ret, [.lst tVersion z.1, .bp 0 0, .bp 1 0, .bool z.2.1, .own 2, .own 3], [.box [.int .i64 z.2.2.1, .int .i64 z.2.2.2.1, .int .i64 z.2.2.2.2.1, .int .i64 z.2.2.2.2.2.1, .lst tRange z.2.2.2.2.2.2.1, .lst tWrite z.2.2.2.2.2.2.2.1, .bool z.2.2.2.2.2.2.2.2.1, .str z.2.2.2.2.2.2.2.2.2.1], .box [.str z.2.2.2.2.2.2.2.2.2.2.1, .str z.2.2.2.2.2.2.2.2.2.2.2.1], .arr tRange z.2.2.2.2.2.2.2.2.2.2.2.2.1, .arr tRange z.2.2.2.2.2.2.2.2.2.2.2.2.2]))

theorem laws_FnExactOwnScan_jx5000026 (x : ((List dVersion) × Bool × Int × Int × Int × Int × (List dRange) × (List dWrite) × Bool × ByteArray × ByteArray × ByteArray × (List dRange) × (List dRange))) : exec G47 ⟨0, 105, laws_FnExactOwnScan_loops⟩ (loopBody Try.f3 5000026) (bodyK ⟨0, 105, laws_FnExactOwnScan_loops⟩ [1, 3, 5, 6, 8, 11] []) (setEs (deads 105) [1, 3, 5, 6, 8, 11] (laws_FnExactOwnScan_jv5000026 x)) (laws_FnExactOwnScan_js5000026 x) = laws_FnExactOwnScan_j5000026 x (fun z => some ⟨(laws_FnExactOwnScan_je5000026 z).1, (laws_FnExactOwnScan_je5000026 z).2.1, (laws_FnExactOwnScan_je5000026 z).2.2⟩) := by
  kernel_rfl

theorem laws_FnExactOwnScan_lo5000026 : ∀ sp, (laws_FnExactOwnScan_loops 5000026) = some sp → CutOk G47 ⟨0, 105, laws_FnExactOwnScan_loops⟩ sp (loopBody Try.f3 5000026) := by
  intro sp hsp vals st k r h
  cases hsp
  dsimp only at h
  rcases onPats_inv2 h with ⟨p, q, rfl, rfl, h⟩ | h
  · exact cut_runs laws_FnExactOwnScan_jp5000026 laws_FnExactOwnScan_jv5000026 laws_FnExactOwnScan_js5000026 laws_FnExactOwnScan_je5000026 laws_FnExactOwnScan_jx5000026 (p.1, p.2.2.2.1, q.1.1, q.1.2.1, q.1.2.2.1, q.1.2.2.2.1, q.1.2.2.2.2.1, q.1.2.2.2.2.2.1, q.1.2.2.2.2.2.2.1, q.1.2.2.2.2.2.2.2.1, q.2.1.1, q.2.1.2.1, q.2.2.1, q.2.2.2.1) _ k r (fun z => rfl) h
  cases h

theorem laws_FnExactOwnScan_y (a0 : Int) (a1 : Int) (a2 : Int) (a3 : Int) (a4 : (List dRange)) (a5 : (List dWrite)) (a6 : Bool) (a7 : ByteArray) (a8 : (List dVersion)) (a9 : ByteArray) (a10 : ByteArray) : execFn G47 laws_FnExactOwnScan_loops Try.f3 [.agg [.int .i64 a0, .int .i64 a1, .int .i64 a2, .int .i64 a3, .lst tRange a4, .lst tWrite a5, .bool a6, .str a7], .lst tVersion a8, .agg [.str a9, .str a10]] [] = laws_FnExactOwnScan_k (a0, (a1, (a2, (a3, (a4, (a5, (a6, a7))))))) a8 (a9, a10) (fun (y : Bool) => some ⟨.ret, [.bool y], []⟩) := by rw [laws_FnExactOwnScan_e]; kernel_rfl

theorem laws_FnExactOwnScan_l : LoopsOk G47 ⟨0, 105, laws_FnExactOwnScan_loops⟩ (Try.f3.body.getD .skip) :=
  loopsOk_of (ids := [5000026]) (by kernel_rfl) (by kernel_rfl) ⟨laws_FnExactOwnScan_lo5000026, trivial⟩

theorem laws_FnExactOwnScan_c : Contract Try.prog 3 laws_FnExactOwnScan_g := by
  refine told G47_ok follows Try.func3 (c := Try.f3.body.getD .skip) (by kernel_rfl) ?_
  intro args s k r hk
  unfold laws_FnExactOwnScan_g at hk
  rcases onPats_inv hk with ⟨p, q, rfl, rfl⟩ | hk
  · exact ⟨laws_FnExactOwnScan_loops, laws_FnExactOwnScan_q p.1.1 p.1.2.1 p.1.2.2.1 p.1.2.2.2.1 p.1.2.2.2.2.1 p.1.2.2.2.2.2.1 p.1.2.2.2.2.2.2.1 p.1.2.2.2.2.2.2.2.1 p.2.1 p.2.2.1.1 p.2.2.1.2.1, laws_FnExactOwnScan_y p.1.1 p.1.2.1 p.1.2.2.1 p.1.2.2.2.1 p.1.2.2.2.2.1 p.1.2.2.2.2.2.1 p.1.2.2.2.2.2.2.1 p.1.2.2.2.2.2.2.2.1 p.2.1 p.2.2.1.1 p.2.2.1.2.1, laws_FnExactOwnScan_l⟩
  cases hk

def G48 : Glob := G47.add 3 laws_FnExactOwnScan_g

theorem G48_ok : GlobOk Try.prog G48 := G47_ok.add ⟨Try.f3, Try.func3, by kernel_rfl, by kernel_rfl⟩ laws_FnExactOwnScan_c

end

end Go.VE
