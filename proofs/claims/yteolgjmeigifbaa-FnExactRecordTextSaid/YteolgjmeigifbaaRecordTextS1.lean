/- Each function told by its native program; written by gen.py. -/

import Derived.Test.YteolgjmeigifbaaRecordTextS0

namespace Go.VE

open Go.Proofs

noncomputable section

set_option linter.unusedVariables false
set_option linter.unusedSimpArgs false
set_option maxRecDepth 100000




def laws_szRange_loops : Nat → Option LoopSpec
  | _ => none

theorem laws_szRange_y (a0 : ByteArray) (a1 : ByteArray) (a2 : Int) : execFn G0 laws_szRange_loops Try.f11 [.agg [.str a0, .str a1], .int .i64 a2] [] = laws_szRange_k (a0, a1) a2 (fun (y : Int) => some ⟨.ret, [.int .i64 y], []⟩) := by rw [laws_szRange_e]; kernel_rfl

theorem laws_szRange_l : LoopsOk G0 ⟨0, 20, laws_szRange_loops⟩ (Try.f11.body.getD .skip) :=
  loopsOk_of (ids := []) (by kernel_rfl) (by kernel_rfl) trivial

theorem laws_szRange_c : Contract Try.prog 11 laws_szRange_g := by
  refine told G0_ok follows Try.func11 (c := Try.f11.body.getD .skip) (by kernel_rfl) ?_
  intro args s k r hk
  unfold laws_szRange_g at hk
  rcases onPats_inv hk with ⟨p, q, rfl, rfl⟩ | hk
  · exact ⟨laws_szRange_loops, laws_szRange_q p.1.1 p.1.2.1 p.2.1, laws_szRange_y p.1.1 p.1.2.1 p.2.1, laws_szRange_l⟩
  cases hk

def G1 : Glob := G0.add 11 laws_szRange_g

theorem G1_ok : GlobOk Try.prog G1 := G0_ok.add ⟨Try.f11, Try.func11, by kernel_rfl, by kernel_rfl⟩ laws_szRange_c



def laws_szRangeS_loops : Nat → Option LoopSpec
  | 0 => some ⟨[0, 1, 4, 5], [], fun vals st k => onPats [.lst tRange, .int .i64, .int .i64, .int .i64] [] vals st (fun p q => loopK laws_szRangeS_b0 Fuel (p.1, p.2.1, p.2.2.1, p.2.2.2.1) (Sum.elim (fun z => k .ret [.lst tRange z.1, .int .i64 z.2.1, .int .i64 z.2.2.1, .int .i64 z.2.2.2] []) (fun z => k (.exit 0) [.lst tRange z.1, .int .i64 z.2.1, .int .i64 z.2.2.1, .int .i64 z.2.2.2] [])))
      (none)⟩
  | _ => none

def laws_szRangeS_v0 : q7T → List AV := (fun x => [.lst tRange x.1, .int .i64 x.2.1, .int .i64 x.2.2.1, .int .i64 x.2.2.2])
def laws_szRangeS_s0 : q7T → St := (fun x => [])
def laws_szRangeS_e0 : (q7T ⊕ q7T) → Out × List AV × St := (Sum.elim (fun z => (.ret, [.lst tRange z.1, .int .i64 z.2.1, .int .i64 z.2.2.1, .int .i64 z.2.2.2], [])) (fun z => ((.exit 0), [.lst tRange z.1, .int .i64 z.2.1, .int .i64 z.2.2.1, .int .i64 z.2.2.2], [])))

theorem laws_szRangeS_bx0 (x : q7T) : exec G1 ⟨0, 27, laws_szRangeS_loops⟩ (loopBody Try.f64 0) (bodyK ⟨0, 27, laws_szRangeS_loops⟩ [0, 1, 4, 5] []) (setEs (deads 27) [0, 1, 4, 5] (laws_szRangeS_v0 x)) (laws_szRangeS_s0 x) = laws_szRangeS_b0 x (Sum.elim (fun y => some ⟨.norm, laws_szRangeS_v0 y, laws_szRangeS_s0 y⟩) fun z => some ⟨(laws_szRangeS_e0 z).1, (laws_szRangeS_e0 z).2.1, (laws_szRangeS_e0 z).2.2⟩) := by
  kernel_rfl

theorem laws_szRangeS_lo0 : ∀ sp, (laws_szRangeS_loops 0) = some sp → LoopOk G1 ⟨0, 27, laws_szRangeS_loops⟩ sp (loopBody Try.f64 0) := by
  intro sp hsp vals st k r h
  cases hsp
  dsimp only at h
  rcases onPats_inv2 h with ⟨p, q, rfl, rfl, h⟩ | h
  · exact loop_runs2 laws_szRangeS_bp0 laws_szRangeS_v0 laws_szRangeS_s0 laws_szRangeS_e0 (fun z => by rcases z with z | z <;> (intro h; cases h)) laws_szRangeS_bx0 Fuel (p.1, p.2.1, p.2.2.1, p.2.2.2.1) _ k r (fun z => by rcases z with z | z <;> rfl) h
  cases h

theorem laws_szRangeS_y (a0 : (List dRange)) (a1 : Int) : execFn G1 laws_szRangeS_loops Try.f64 [.lst tRange a0, .int .i64 a1] [] = laws_szRangeS_k a0 a1 (fun (y : Int) => some ⟨.ret, [.int .i64 y], []⟩) := by rw [laws_szRangeS_e]; kernel_rfl

theorem laws_szRangeS_l : LoopsOk G1 ⟨0, 27, laws_szRangeS_loops⟩ (Try.f64.body.getD .skip) :=
  loopsOk_of (ids := [0]) (by kernel_rfl) (by kernel_rfl) ⟨laws_szRangeS_lo0, trivial⟩

theorem laws_szRangeS_c : Contract Try.prog 64 laws_szRangeS_g := by
  refine told G1_ok follows Try.func64 (c := Try.f64.body.getD .skip) (by kernel_rfl) ?_
  intro args s k r hk
  unfold laws_szRangeS_g at hk
  rcases onPats_inv hk with ⟨p, q, rfl, rfl⟩ | hk
  · exact ⟨laws_szRangeS_loops, laws_szRangeS_q p.1 p.2.1, laws_szRangeS_y p.1 p.2.1, laws_szRangeS_l⟩
  cases hk

def G2 : Glob := G1.add 64 laws_szRangeS_g

theorem G2_ok : GlobOk Try.prog G2 := G1_ok.add ⟨Try.f64, Try.func64, by kernel_rfl, by kernel_rfl⟩ laws_szRangeS_c



def laws_szWrite_loops : Nat → Option LoopSpec
  | _ => none

theorem laws_szWrite_y (a0 : ByteArray) (a1 : ByteArray) (a2 : Bool) (a3 : Int) : execFn G2 laws_szWrite_loops Try.f49 [.agg [.str a0, .str a1, .bool a2], .int .i64 a3] [] = laws_szWrite_k (a0, (a1, a2)) a3 (fun (y : Int) => some ⟨.ret, [.int .i64 y], []⟩) := by rw [laws_szWrite_e]; kernel_rfl

theorem laws_szWrite_l : LoopsOk G2 ⟨0, 20, laws_szWrite_loops⟩ (Try.f49.body.getD .skip) :=
  loopsOk_of (ids := []) (by kernel_rfl) (by kernel_rfl) trivial

theorem laws_szWrite_c : Contract Try.prog 49 laws_szWrite_g := by
  refine told G2_ok follows Try.func49 (c := Try.f49.body.getD .skip) (by kernel_rfl) ?_
  intro args s k r hk
  unfold laws_szWrite_g at hk
  rcases onPats_inv hk with ⟨p, q, rfl, rfl⟩ | hk
  · exact ⟨laws_szWrite_loops, laws_szWrite_q p.1.1 p.1.2.1 p.1.2.2.1 p.2.1, laws_szWrite_y p.1.1 p.1.2.1 p.1.2.2.1 p.2.1, laws_szWrite_l⟩
  cases hk

def G3 : Glob := G2.add 49 laws_szWrite_g

theorem G3_ok : GlobOk Try.prog G3 := G2_ok.add ⟨Try.f49, Try.func49, by kernel_rfl, by kernel_rfl⟩ laws_szWrite_c



def laws_szWriteS_loops : Nat → Option LoopSpec
  | 0 => some ⟨[0, 1, 4, 5], [], fun vals st k => onPats [.lst tWrite, .int .i64, .int .i64, .int .i64] [] vals st (fun p q => loopK laws_szWriteS_b0 Fuel (p.1, p.2.1, p.2.2.1, p.2.2.2.1) (Sum.elim (fun z => k .ret [.lst tWrite z.1, .int .i64 z.2.1, .int .i64 z.2.2.1, .int .i64 z.2.2.2] []) (fun z => k (.exit 0) [.lst tWrite z.1, .int .i64 z.2.1, .int .i64 z.2.2.1, .int .i64 z.2.2.2] [])))
      (none)⟩
  | _ => none

def laws_szWriteS_v0 : q24T → List AV := (fun x => [.lst tWrite x.1, .int .i64 x.2.1, .int .i64 x.2.2.1, .int .i64 x.2.2.2])
def laws_szWriteS_s0 : q24T → St := (fun x => [])
def laws_szWriteS_e0 : (q24T ⊕ q24T) → Out × List AV × St := (Sum.elim (fun z => (.ret, [.lst tWrite z.1, .int .i64 z.2.1, .int .i64 z.2.2.1, .int .i64 z.2.2.2], [])) (fun z => ((.exit 0), [.lst tWrite z.1, .int .i64 z.2.1, .int .i64 z.2.2.1, .int .i64 z.2.2.2], [])))

theorem laws_szWriteS_bx0 (x : q24T) : exec G3 ⟨0, 27, laws_szWriteS_loops⟩ (loopBody Try.f65 0) (bodyK ⟨0, 27, laws_szWriteS_loops⟩ [0, 1, 4, 5] []) (setEs (deads 27) [0, 1, 4, 5] (laws_szWriteS_v0 x)) (laws_szWriteS_s0 x) = laws_szWriteS_b0 x (Sum.elim (fun y => some ⟨.norm, laws_szWriteS_v0 y, laws_szWriteS_s0 y⟩) fun z => some ⟨(laws_szWriteS_e0 z).1, (laws_szWriteS_e0 z).2.1, (laws_szWriteS_e0 z).2.2⟩) := by
  kernel_rfl

theorem laws_szWriteS_lo0 : ∀ sp, (laws_szWriteS_loops 0) = some sp → LoopOk G3 ⟨0, 27, laws_szWriteS_loops⟩ sp (loopBody Try.f65 0) := by
  intro sp hsp vals st k r h
  cases hsp
  dsimp only at h
  rcases onPats_inv2 h with ⟨p, q, rfl, rfl, h⟩ | h
  · exact loop_runs2 laws_szWriteS_bp0 laws_szWriteS_v0 laws_szWriteS_s0 laws_szWriteS_e0 (fun z => by rcases z with z | z <;> (intro h; cases h)) laws_szWriteS_bx0 Fuel (p.1, p.2.1, p.2.2.1, p.2.2.2.1) _ k r (fun z => by rcases z with z | z <;> rfl) h
  cases h

theorem laws_szWriteS_y (a0 : (List dWrite)) (a1 : Int) : execFn G3 laws_szWriteS_loops Try.f65 [.lst tWrite a0, .int .i64 a1] [] = laws_szWriteS_k a0 a1 (fun (y : Int) => some ⟨.ret, [.int .i64 y], []⟩) := by rw [laws_szWriteS_e]; kernel_rfl

theorem laws_szWriteS_l : LoopsOk G3 ⟨0, 27, laws_szWriteS_loops⟩ (Try.f65.body.getD .skip) :=
  loopsOk_of (ids := [0]) (by kernel_rfl) (by kernel_rfl) ⟨laws_szWriteS_lo0, trivial⟩

theorem laws_szWriteS_c : Contract Try.prog 65 laws_szWriteS_g := by
  refine told G3_ok follows Try.func65 (c := Try.f65.body.getD .skip) (by kernel_rfl) ?_
  intro args s k r hk
  unfold laws_szWriteS_g at hk
  rcases onPats_inv hk with ⟨p, q, rfl, rfl⟩ | hk
  · exact ⟨laws_szWriteS_loops, laws_szWriteS_q p.1 p.2.1, laws_szWriteS_y p.1 p.2.1, laws_szWriteS_l⟩
  cases hk

def G4 : Glob := G3.add 65 laws_szWriteS_g

theorem G4_ok : GlobOk Try.prog G4 := G3_ok.add ⟨Try.f65, Try.func65, by kernel_rfl, by kernel_rfl⟩ laws_szWriteS_c



def laws_szTxn_loops : Nat → Option LoopSpec
  | _ => none

theorem laws_szTxn_y (a0 : Int) (a1 : Int) (a2 : Int) (a3 : Int) (a4 : (List dRange)) (a5 : (List dWrite)) (a6 : Bool) (a7 : ByteArray) (a8 : Int) : execFn G4 laws_szTxn_loops Try.f9 [.agg [.int .i64 a0, .int .i64 a1, .int .i64 a2, .int .i64 a3, .lst tRange a4, .lst tWrite a5, .bool a6, .str a7], .int .i64 a8] [] = laws_szTxn_k (a0, (a1, (a2, (a3, (a4, (a5, (a6, a7))))))) a8 (fun (y : Int) => some ⟨.ret, [.int .i64 y], []⟩) := by rw [laws_szTxn_e]; kernel_rfl

theorem laws_szTxn_l : LoopsOk G4 ⟨0, 25, laws_szTxn_loops⟩ (Try.f9.body.getD .skip) :=
  loopsOk_of (ids := []) (by kernel_rfl) (by kernel_rfl) trivial

theorem laws_szTxn_c : Contract Try.prog 9 laws_szTxn_g := by
  refine told G4_ok follows Try.func9 (c := Try.f9.body.getD .skip) (by kernel_rfl) ?_
  intro args s k r hk
  unfold laws_szTxn_g at hk
  rcases onPats_inv hk with ⟨p, q, rfl, rfl⟩ | hk
  · exact ⟨laws_szTxn_loops, laws_szTxn_q p.1.1 p.1.2.1 p.1.2.2.1 p.1.2.2.2.1 p.1.2.2.2.2.1 p.1.2.2.2.2.2.1 p.1.2.2.2.2.2.2.1 p.1.2.2.2.2.2.2.2.1 p.2.1, laws_szTxn_y p.1.1 p.1.2.1 p.1.2.2.1 p.1.2.2.2.1 p.1.2.2.2.2.1 p.1.2.2.2.2.2.1 p.1.2.2.2.2.2.2.1 p.1.2.2.2.2.2.2.2.1 p.2.1, laws_szTxn_l⟩
  cases hk

def G5 : Glob := G4.add 9 laws_szTxn_g

theorem G5_ok : GlobOk Try.prog G5 := G4_ok.add ⟨Try.f9, Try.func9, by kernel_rfl, by kernel_rfl⟩ laws_szTxn_c



def laws_szVersion_loops : Nat → Option LoopSpec
  | _ => none

theorem laws_szVersion_y (a0 : ByteArray) (a1 : ByteArray) (a2 : Bool) (a3 : Int) (a4 : Int) : execFn G5 laws_szVersion_loops Try.f66 [.agg [.str a0, .str a1, .bool a2, .int .i64 a3], .int .i64 a4] [] = laws_szVersion_k (a0, (a1, (a2, a3))) a4 (fun (y : Int) => some ⟨.ret, [.int .i64 y], []⟩) := by rw [laws_szVersion_e]; kernel_rfl

theorem laws_szVersion_l : LoopsOk G5 ⟨0, 20, laws_szVersion_loops⟩ (Try.f66.body.getD .skip) :=
  loopsOk_of (ids := []) (by kernel_rfl) (by kernel_rfl) trivial

theorem laws_szVersion_c : Contract Try.prog 66 laws_szVersion_g := by
  refine told G5_ok follows Try.func66 (c := Try.f66.body.getD .skip) (by kernel_rfl) ?_
  intro args s k r hk
  unfold laws_szVersion_g at hk
  rcases onPats_inv hk with ⟨p, q, rfl, rfl⟩ | hk
  · exact ⟨laws_szVersion_loops, laws_szVersion_q p.1.1 p.1.2.1 p.1.2.2.1 p.1.2.2.2.1 p.2.1, laws_szVersion_y p.1.1 p.1.2.1 p.1.2.2.1 p.1.2.2.2.1 p.2.1, laws_szVersion_l⟩
  cases hk

def G6 : Glob := G5.add 66 laws_szVersion_g

theorem G6_ok : GlobOk Try.prog G6 := G5_ok.add ⟨Try.f66, Try.func66, by kernel_rfl, by kernel_rfl⟩ laws_szVersion_c



def laws_szVersionS_loops : Nat → Option LoopSpec
  | 0 => some ⟨[0, 1, 4, 5], [], fun vals st k => onPats [.lst tVersion, .int .i64, .int .i64, .int .i64] [] vals st (fun p q => loopK laws_szVersionS_b0 Fuel (p.1, p.2.1, p.2.2.1, p.2.2.2.1) (Sum.elim (fun z => k .ret [.lst tVersion z.1, .int .i64 z.2.1, .int .i64 z.2.2.1, .int .i64 z.2.2.2] []) (fun z => k (.exit 0) [.lst tVersion z.1, .int .i64 z.2.1, .int .i64 z.2.2.1, .int .i64 z.2.2.2] [])))
      (none)⟩
  | _ => none

def laws_szVersionS_v0 : q19T → List AV := (fun x => [.lst tVersion x.1, .int .i64 x.2.1, .int .i64 x.2.2.1, .int .i64 x.2.2.2])
def laws_szVersionS_s0 : q19T → St := (fun x => [])
def laws_szVersionS_e0 : (q19T ⊕ q19T) → Out × List AV × St := (Sum.elim (fun z => (.ret, [.lst tVersion z.1, .int .i64 z.2.1, .int .i64 z.2.2.1, .int .i64 z.2.2.2], [])) (fun z => ((.exit 0), [.lst tVersion z.1, .int .i64 z.2.1, .int .i64 z.2.2.1, .int .i64 z.2.2.2], [])))

theorem laws_szVersionS_bx0 (x : q19T) : exec G6 ⟨0, 27, laws_szVersionS_loops⟩ (loopBody Try.f10 0) (bodyK ⟨0, 27, laws_szVersionS_loops⟩ [0, 1, 4, 5] []) (setEs (deads 27) [0, 1, 4, 5] (laws_szVersionS_v0 x)) (laws_szVersionS_s0 x) = laws_szVersionS_b0 x (Sum.elim (fun y => some ⟨.norm, laws_szVersionS_v0 y, laws_szVersionS_s0 y⟩) fun z => some ⟨(laws_szVersionS_e0 z).1, (laws_szVersionS_e0 z).2.1, (laws_szVersionS_e0 z).2.2⟩) := by
  kernel_rfl

theorem laws_szVersionS_lo0 : ∀ sp, (laws_szVersionS_loops 0) = some sp → LoopOk G6 ⟨0, 27, laws_szVersionS_loops⟩ sp (loopBody Try.f10 0) := by
  intro sp hsp vals st k r h
  cases hsp
  dsimp only at h
  rcases onPats_inv2 h with ⟨p, q, rfl, rfl, h⟩ | h
  · exact loop_runs2 laws_szVersionS_bp0 laws_szVersionS_v0 laws_szVersionS_s0 laws_szVersionS_e0 (fun z => by rcases z with z | z <;> (intro h; cases h)) laws_szVersionS_bx0 Fuel (p.1, p.2.1, p.2.2.1, p.2.2.2.1) _ k r (fun z => by rcases z with z | z <;> rfl) h
  cases h

theorem laws_szVersionS_y (a0 : (List dVersion)) (a1 : Int) : execFn G6 laws_szVersionS_loops Try.f10 [.lst tVersion a0, .int .i64 a1] [] = laws_szVersionS_k a0 a1 (fun (y : Int) => some ⟨.ret, [.int .i64 y], []⟩) := by rw [laws_szVersionS_e]; kernel_rfl

theorem laws_szVersionS_l : LoopsOk G6 ⟨0, 27, laws_szVersionS_loops⟩ (Try.f10.body.getD .skip) :=
  loopsOk_of (ids := [0]) (by kernel_rfl) (by kernel_rfl) ⟨laws_szVersionS_lo0, trivial⟩

theorem laws_szVersionS_c : Contract Try.prog 10 laws_szVersionS_g := by
  refine told G6_ok follows Try.func10 (c := Try.f10.body.getD .skip) (by kernel_rfl) ?_
  intro args s k r hk
  unfold laws_szVersionS_g at hk
  rcases onPats_inv hk with ⟨p, q, rfl, rfl⟩ | hk
  · exact ⟨laws_szVersionS_loops, laws_szVersionS_q p.1 p.2.1, laws_szVersionS_y p.1 p.2.1, laws_szVersionS_l⟩
  cases hk

def G7 : Glob := G6.add 10 laws_szVersionS_g

theorem G7_ok : GlobOk Try.prog G7 := G6_ok.add ⟨Try.f10, Try.func10, by kernel_rfl, by kernel_rfl⟩ laws_szVersionS_c



def laws_szTxnS_loops : Nat → Option LoopSpec
  | 0 => some ⟨[0, 1, 4, 5], [], fun vals st k => onPats [.lst tTxn, .int .i64, .int .i64, .int .i64] [] vals st (fun p q => loopK laws_szTxnS_b0 Fuel (p.1, p.2.1, p.2.2.1, p.2.2.2.1) (Sum.elim (fun z => k .ret [.lst tTxn z.1, .int .i64 z.2.1, .int .i64 z.2.2.1, .int .i64 z.2.2.2] []) (fun z => k (.exit 0) [.lst tTxn z.1, .int .i64 z.2.1, .int .i64 z.2.2.1, .int .i64 z.2.2.2] [])))
      (none)⟩
  | _ => none

def laws_szTxnS_v0 : q13T → List AV := (fun x => [.lst tTxn x.1, .int .i64 x.2.1, .int .i64 x.2.2.1, .int .i64 x.2.2.2])
def laws_szTxnS_s0 : q13T → St := (fun x => [])
def laws_szTxnS_e0 : (q13T ⊕ q13T) → Out × List AV × St := (Sum.elim (fun z => (.ret, [.lst tTxn z.1, .int .i64 z.2.1, .int .i64 z.2.2.1, .int .i64 z.2.2.2], [])) (fun z => ((.exit 0), [.lst tTxn z.1, .int .i64 z.2.1, .int .i64 z.2.2.1, .int .i64 z.2.2.2], [])))

theorem laws_szTxnS_bx0 (x : q13T) : exec G7 ⟨0, 27, laws_szTxnS_loops⟩ (loopBody Try.f128 0) (bodyK ⟨0, 27, laws_szTxnS_loops⟩ [0, 1, 4, 5] []) (setEs (deads 27) [0, 1, 4, 5] (laws_szTxnS_v0 x)) (laws_szTxnS_s0 x) = laws_szTxnS_b0 x (Sum.elim (fun y => some ⟨.norm, laws_szTxnS_v0 y, laws_szTxnS_s0 y⟩) fun z => some ⟨(laws_szTxnS_e0 z).1, (laws_szTxnS_e0 z).2.1, (laws_szTxnS_e0 z).2.2⟩) := by
  kernel_rfl

theorem laws_szTxnS_lo0 : ∀ sp, (laws_szTxnS_loops 0) = some sp → LoopOk G7 ⟨0, 27, laws_szTxnS_loops⟩ sp (loopBody Try.f128 0) := by
  intro sp hsp vals st k r h
  cases hsp
  dsimp only at h
  rcases onPats_inv2 h with ⟨p, q, rfl, rfl, h⟩ | h
  · exact loop_runs2 laws_szTxnS_bp0 laws_szTxnS_v0 laws_szTxnS_s0 laws_szTxnS_e0 (fun z => by rcases z with z | z <;> (intro h; cases h)) laws_szTxnS_bx0 Fuel (p.1, p.2.1, p.2.2.1, p.2.2.2.1) _ k r (fun z => by rcases z with z | z <;> rfl) h
  cases h

theorem laws_szTxnS_y (a0 : (List dTxn)) (a1 : Int) : execFn G7 laws_szTxnS_loops Try.f128 [.lst tTxn a0, .int .i64 a1] [] = laws_szTxnS_k a0 a1 (fun (y : Int) => some ⟨.ret, [.int .i64 y], []⟩) := by rw [laws_szTxnS_e]; kernel_rfl

theorem laws_szTxnS_l : LoopsOk G7 ⟨0, 27, laws_szTxnS_loops⟩ (Try.f128.body.getD .skip) :=
  loopsOk_of (ids := [0]) (by kernel_rfl) (by kernel_rfl) ⟨laws_szTxnS_lo0, trivial⟩

theorem laws_szTxnS_c : Contract Try.prog 128 laws_szTxnS_g := by
  refine told G7_ok follows Try.func128 (c := Try.f128.body.getD .skip) (by kernel_rfl) ?_
  intro args s k r hk
  unfold laws_szTxnS_g at hk
  rcases onPats_inv hk with ⟨p, q, rfl, rfl⟩ | hk
  · exact ⟨laws_szTxnS_loops, laws_szTxnS_q p.1 p.2.1, laws_szTxnS_y p.1 p.2.1, laws_szTxnS_l⟩
  cases hk

def G8 : Glob := G7.add 128 laws_szTxnS_g

theorem G8_ok : GlobOk Try.prog G8 := G7_ok.add ⟨Try.f128, Try.func128, by kernel_rfl, by kernel_rfl⟩ laws_szTxnS_c



def laws_szBase_loops : Nat → Option LoopSpec
  | _ => none

theorem laws_szBase_y (a0 : (List dVersion)) (a1 : (List dTxn)) (a2 : (List dTxn)) (a3 : Int) (a4 : Int) (a5 : Int) : execFn G8 laws_szBase_loops Try.f59 [.agg [.lst tVersion a0, .lst tTxn a1, .lst tTxn a2, .int .i64 a3, .int .i64 a4], .int .i64 a5] [] = laws_szBase_k (a0, (a1, (a2, (a3, a4)))) a5 (fun (y : Int) => some ⟨.ret, [.int .i64 y], []⟩) := by rw [laws_szBase_e]; kernel_rfl

theorem laws_szBase_l : LoopsOk G8 ⟨0, 24, laws_szBase_loops⟩ (Try.f59.body.getD .skip) :=
  loopsOk_of (ids := []) (by kernel_rfl) (by kernel_rfl) trivial

theorem laws_szBase_c : Contract Try.prog 59 laws_szBase_g := by
  refine told G8_ok follows Try.func59 (c := Try.f59.body.getD .skip) (by kernel_rfl) ?_
  intro args s k r hk
  unfold laws_szBase_g at hk
  rcases onPats_inv hk with ⟨p, q, rfl, rfl⟩ | hk
  · exact ⟨laws_szBase_loops, laws_szBase_q p.1.1 p.1.2.1 p.1.2.2.1 p.1.2.2.2.1 p.1.2.2.2.2.1 p.2.1, laws_szBase_y p.1.1 p.1.2.1 p.1.2.2.1 p.1.2.2.2.1 p.1.2.2.2.2.1 p.2.1, laws_szBase_l⟩
  cases hk

def G9 : Glob := G8.add 59 laws_szBase_g

theorem G9_ok : GlobOk Try.prog G9 := G8_ok.add ⟨Try.f59, Try.func59, by kernel_rfl, by kernel_rfl⟩ laws_szBase_c



def laws_szRecord_loops : Nat → Option LoopSpec
  | _ => none

theorem laws_szRecord_y (a0 : Int) (a1 : Int) (a2 : Int) (a3 : Int) (a4 : Int) (a5 : (List dRange)) (a6 : (List dWrite)) (a7 : Bool) (a8 : ByteArray) (a9 : ByteArray) (a10 : Bool) (a11 : (List dVersion)) (a12 : (List dTxn)) (a13 : (List dTxn)) (a14 : Int) (a15 : Int) (a16 : Int) : execFn G9 laws_szRecord_loops Try.f24 [.agg [.int .i64 a0, .int .i64 a1, .int .i64 a2, .int .i64 a3, .int .i64 a4, .lst tRange a5, .lst tWrite a6, .bool a7, .str a8, .str a9, .bool a10, .lst tVersion a11, .lst tTxn a12, .lst tTxn a13, .int .i64 a14, .int .i64 a15], .int .i64 a16] [] = laws_szRecord_k (a0, ((a1, (a2, (a3, (a4, (a5, (a6, (a7, a8))))))), (a9, (a10, (a11, (a12, (a13, (a14, a15)))))))) a16 (fun (y : Int) => some ⟨.ret, [.int .i64 y], []⟩) := by rw [laws_szRecord_e]; kernel_rfl

theorem laws_szRecord_l : LoopsOk G9 ⟨0, 25, laws_szRecord_loops⟩ (Try.f24.body.getD .skip) :=
  loopsOk_of (ids := []) (by kernel_rfl) (by kernel_rfl) trivial

theorem laws_szRecord_c : Contract Try.prog 24 laws_szRecord_g := by
  refine told G9_ok follows Try.func24 (c := Try.f24.body.getD .skip) (by kernel_rfl) ?_
  intro args s k r hk
  unfold laws_szRecord_g at hk
  rcases onPats_inv hk with ⟨p, q, rfl, rfl⟩ | hk
  · exact ⟨laws_szRecord_loops, laws_szRecord_q p.1.1 p.1.2.1 p.1.2.2.1 p.1.2.2.2.1 p.1.2.2.2.2.1 p.1.2.2.2.2.2.1 p.1.2.2.2.2.2.2.1 p.1.2.2.2.2.2.2.2.1 p.1.2.2.2.2.2.2.2.2.1 p.1.2.2.2.2.2.2.2.2.2.1 p.1.2.2.2.2.2.2.2.2.2.2.1 p.1.2.2.2.2.2.2.2.2.2.2.2.1 p.1.2.2.2.2.2.2.2.2.2.2.2.2.1 p.1.2.2.2.2.2.2.2.2.2.2.2.2.2.1 p.1.2.2.2.2.2.2.2.2.2.2.2.2.2.2.1 p.1.2.2.2.2.2.2.2.2.2.2.2.2.2.2.2.1 p.2.1, laws_szRecord_y p.1.1 p.1.2.1 p.1.2.2.1 p.1.2.2.2.1 p.1.2.2.2.2.1 p.1.2.2.2.2.2.1 p.1.2.2.2.2.2.2.1 p.1.2.2.2.2.2.2.2.1 p.1.2.2.2.2.2.2.2.2.1 p.1.2.2.2.2.2.2.2.2.2.1 p.1.2.2.2.2.2.2.2.2.2.2.1 p.1.2.2.2.2.2.2.2.2.2.2.2.1 p.1.2.2.2.2.2.2.2.2.2.2.2.2.1 p.1.2.2.2.2.2.2.2.2.2.2.2.2.2.1 p.1.2.2.2.2.2.2.2.2.2.2.2.2.2.2.1 p.1.2.2.2.2.2.2.2.2.2.2.2.2.2.2.2.1 p.2.1, laws_szRecord_l⟩
  cases hk

def G10 : Glob := G9.add 24 laws_szRecord_g

theorem G10_ok : GlobOk Try.prog G10 := G9_ok.add ⟨Try.f24, Try.func24, by kernel_rfl, by kernel_rfl⟩ laws_szRecord_c



def laws_toRange_loops : Nat → Option LoopSpec
  | _ => none

theorem laws_toRange_y (a0 : ByteArray) (a1 : ByteArray) : execFn G10 laws_toRange_loops Try.f15 [.agg [.str a0, .str a1]] [] = laws_toRange_k (a0, a1) (fun (y : (ByteArray × ByteArray)) => some ⟨.ret, [.agg [.str y.1, .str y.2]], []⟩) := by rw [laws_toRange_e]; kernel_rfl

theorem laws_toRange_l : LoopsOk G10 ⟨0, 11, laws_toRange_loops⟩ (Try.f15.body.getD .skip) :=
  loopsOk_of (ids := []) (by kernel_rfl) (by kernel_rfl) trivial

theorem laws_toRange_c : Contract Try.prog 15 laws_toRange_g := by
  refine told G10_ok follows Try.func15 (c := Try.f15.body.getD .skip) (by kernel_rfl) ?_
  intro args s k r hk
  unfold laws_toRange_g at hk
  rcases onPats_inv hk with ⟨p, q, rfl, rfl⟩ | hk
  · exact ⟨laws_toRange_loops, laws_toRange_q p.1.1 p.1.2.1, laws_toRange_y p.1.1 p.1.2.1, laws_toRange_l⟩
  cases hk

def G11 : Glob := G10.add 15 laws_toRange_g

theorem G11_ok : GlobOk Try.prog G11 := G10_ok.add ⟨Try.f15, Try.func15, by kernel_rfl, by kernel_rfl⟩ laws_toRange_c



def laws_toRangeS_loops : Nat → Option LoopSpec
  | 0 => some ⟨[0, 3, 4], [], fun vals st k => onPats [.lst tRange, .own 0, .int .i64] [.arr tRange] vals st (fun p q => loopK laws_toRangeS_b0 Fuel (p.1, p.2.2.1, q.1) (fun z => k (.exit 0) [.lst tRange z.1, .own 0, .int .i64 z.2.1] [.arr tRange z.2.2]))
      (none)⟩
  | _ => none

def laws_toRangeS_v0 : q5T → List AV := (fun x => [.lst tRange x.1, .own 0, .int .i64 x.2.1])
def laws_toRangeS_s0 : q5T → St := (fun x => [.arr tRange x.2.2])
def laws_toRangeS_e0 : q5T → Out × List AV × St := (fun z => ((.exit 0), [.lst tRange z.1, .own 0, .int .i64 z.2.1], [.arr tRange z.2.2]))

theorem laws_toRangeS_bx0 (x : q5T) : exec G11 ⟨0, 23, laws_toRangeS_loops⟩ (loopBody Try.f68 0) (bodyK ⟨0, 23, laws_toRangeS_loops⟩ [0, 3, 4] []) (setEs (deads 23) [0, 3, 4] (laws_toRangeS_v0 x)) (laws_toRangeS_s0 x) = laws_toRangeS_b0 x (Sum.elim (fun y => some ⟨.norm, laws_toRangeS_v0 y, laws_toRangeS_s0 y⟩) fun z => some ⟨(laws_toRangeS_e0 z).1, (laws_toRangeS_e0 z).2.1, (laws_toRangeS_e0 z).2.2⟩) := by
  kernel_rfl

theorem laws_toRangeS_lo0 : ∀ sp, (laws_toRangeS_loops 0) = some sp → LoopOk G11 ⟨0, 23, laws_toRangeS_loops⟩ sp (loopBody Try.f68 0) := by
  intro sp hsp vals st k r h
  cases hsp
  dsimp only at h
  rcases onPats_inv2 h with ⟨p, q, rfl, rfl, h⟩ | h
  · exact loop_runs2 laws_toRangeS_bp0 laws_toRangeS_v0 laws_toRangeS_s0 laws_toRangeS_e0 (fun z => by (intro h; cases h)) laws_toRangeS_bx0 Fuel (p.1, p.2.2.1, q.1) _ k r (fun z => rfl) h
  cases h

theorem laws_toRangeS_y (a0 : (List dRange)) : execFn G11 laws_toRangeS_loops Try.f68 [.lst tRange a0] [] = laws_toRangeS_k a0 (fun (y : (List dRange)) => some ⟨.ret, [.own 0], [.arr tRange y]⟩) := by rw [laws_toRangeS_e]; kernel_rfl

theorem laws_toRangeS_l : LoopsOk G11 ⟨0, 23, laws_toRangeS_loops⟩ (Try.f68.body.getD .skip) :=
  loopsOk_of (ids := [0]) (by kernel_rfl) (by kernel_rfl) ⟨laws_toRangeS_lo0, trivial⟩

theorem laws_toRangeS_c : Contract Try.prog 68 laws_toRangeS_g := by
  refine told G11_ok follows Try.func68 (c := Try.f68.body.getD .skip) (by kernel_rfl) ?_
  intro args s k r hk
  unfold laws_toRangeS_g at hk
  rcases onPats_inv hk with ⟨p, q, rfl, rfl⟩ | hk
  · exact ⟨laws_toRangeS_loops, laws_toRangeS_q p.1, laws_toRangeS_y p.1, laws_toRangeS_l⟩
  cases hk

def G12 : Glob := G11.add 68 laws_toRangeS_g

theorem G12_ok : GlobOk Try.prog G12 := G11_ok.add ⟨Try.f68, Try.func68, by kernel_rfl, by kernel_rfl⟩ laws_toRangeS_c



def laws_toWrite_loops : Nat → Option LoopSpec
  | _ => none

theorem laws_toWrite_y (a0 : ByteArray) (a1 : ByteArray) (a2 : Bool) : execFn G12 laws_toWrite_loops Try.f52 [.agg [.str a0, .str a1, .bool a2]] [] = laws_toWrite_k (a0, (a1, a2)) (fun (y : (ByteArray × ByteArray × Bool)) => some ⟨.ret, [.agg [.str y.1, .str y.2.1, .bool y.2.2]], []⟩) := by rw [laws_toWrite_e]; kernel_rfl

theorem laws_toWrite_l : LoopsOk G12 ⟨0, 14, laws_toWrite_loops⟩ (Try.f52.body.getD .skip) :=
  loopsOk_of (ids := []) (by kernel_rfl) (by kernel_rfl) trivial

theorem laws_toWrite_c : Contract Try.prog 52 laws_toWrite_g := by
  refine told G12_ok follows Try.func52 (c := Try.f52.body.getD .skip) (by kernel_rfl) ?_
  intro args s k r hk
  unfold laws_toWrite_g at hk
  rcases onPats_inv hk with ⟨p, q, rfl, rfl⟩ | hk
  · exact ⟨laws_toWrite_loops, laws_toWrite_q p.1.1 p.1.2.1 p.1.2.2.1, laws_toWrite_y p.1.1 p.1.2.1 p.1.2.2.1, laws_toWrite_l⟩
  cases hk

def G13 : Glob := G12.add 52 laws_toWrite_g

theorem G13_ok : GlobOk Try.prog G13 := G12_ok.add ⟨Try.f52, Try.func52, by kernel_rfl, by kernel_rfl⟩ laws_toWrite_c



def laws_toWriteS_loops : Nat → Option LoopSpec
  | 0 => some ⟨[0, 3, 4], [], fun vals st k => onPats [.lst tWrite, .own 0, .int .i64] [.arr tWrite] vals st (fun p q => loopK laws_toWriteS_b0 Fuel (p.1, p.2.2.1, q.1) (fun z => k (.exit 0) [.lst tWrite z.1, .own 0, .int .i64 z.2.1] [.arr tWrite z.2.2]))
      (none)⟩
  | _ => none

def laws_toWriteS_v0 : q22T → List AV := (fun x => [.lst tWrite x.1, .own 0, .int .i64 x.2.1])
def laws_toWriteS_s0 : q22T → St := (fun x => [.arr tWrite x.2.2])
def laws_toWriteS_e0 : q22T → Out × List AV × St := (fun z => ((.exit 0), [.lst tWrite z.1, .own 0, .int .i64 z.2.1], [.arr tWrite z.2.2]))

theorem laws_toWriteS_bx0 (x : q22T) : exec G13 ⟨0, 23, laws_toWriteS_loops⟩ (loopBody Try.f69 0) (bodyK ⟨0, 23, laws_toWriteS_loops⟩ [0, 3, 4] []) (setEs (deads 23) [0, 3, 4] (laws_toWriteS_v0 x)) (laws_toWriteS_s0 x) = laws_toWriteS_b0 x (Sum.elim (fun y => some ⟨.norm, laws_toWriteS_v0 y, laws_toWriteS_s0 y⟩) fun z => some ⟨(laws_toWriteS_e0 z).1, (laws_toWriteS_e0 z).2.1, (laws_toWriteS_e0 z).2.2⟩) := by
  kernel_rfl

theorem laws_toWriteS_lo0 : ∀ sp, (laws_toWriteS_loops 0) = some sp → LoopOk G13 ⟨0, 23, laws_toWriteS_loops⟩ sp (loopBody Try.f69 0) := by
  intro sp hsp vals st k r h
  cases hsp
  dsimp only at h
  rcases onPats_inv2 h with ⟨p, q, rfl, rfl, h⟩ | h
  · exact loop_runs2 laws_toWriteS_bp0 laws_toWriteS_v0 laws_toWriteS_s0 laws_toWriteS_e0 (fun z => by (intro h; cases h)) laws_toWriteS_bx0 Fuel (p.1, p.2.2.1, q.1) _ k r (fun z => rfl) h
  cases h

theorem laws_toWriteS_y (a0 : (List dWrite)) : execFn G13 laws_toWriteS_loops Try.f69 [.lst tWrite a0] [] = laws_toWriteS_k a0 (fun (y : (List dWrite)) => some ⟨.ret, [.own 0], [.arr tWrite y]⟩) := by rw [laws_toWriteS_e]; kernel_rfl

theorem laws_toWriteS_l : LoopsOk G13 ⟨0, 23, laws_toWriteS_loops⟩ (Try.f69.body.getD .skip) :=
  loopsOk_of (ids := [0]) (by kernel_rfl) (by kernel_rfl) ⟨laws_toWriteS_lo0, trivial⟩

theorem laws_toWriteS_c : Contract Try.prog 69 laws_toWriteS_g := by
  refine told G13_ok follows Try.func69 (c := Try.f69.body.getD .skip) (by kernel_rfl) ?_
  intro args s k r hk
  unfold laws_toWriteS_g at hk
  rcases onPats_inv hk with ⟨p, q, rfl, rfl⟩ | hk
  · exact ⟨laws_toWriteS_loops, laws_toWriteS_q p.1, laws_toWriteS_y p.1, laws_toWriteS_l⟩
  cases hk

def G14 : Glob := G13.add 69 laws_toWriteS_g

theorem G14_ok : GlobOk Try.prog G14 := G13_ok.add ⟨Try.f69, Try.func69, by kernel_rfl, by kernel_rfl⟩ laws_toWriteS_c



def laws_toTxn_loops : Nat → Option LoopSpec
  | _ => none

theorem laws_toTxn_y (a0 : Int) (a1 : Int) (a2 : Int) (a3 : Int) (a4 : (List dRange)) (a5 : (List dWrite)) (a6 : Bool) (a7 : ByteArray) : execFn G14 laws_toTxn_loops Try.f13 [.agg [.int .i64 a0, .int .i64 a1, .int .i64 a2, .int .i64 a3, .lst tRange a4, .lst tWrite a5, .bool a6, .str a7]] [] = laws_toTxn_k (a0, (a1, (a2, (a3, (a4, (a5, (a6, a7))))))) (fun (y : q45T) => some ⟨.ret, [.agg [.int .i64 y.1, .int .i64 y.2.1, .int .i64 y.2.2.1, .int .i64 y.2.2.2.1, .own 0, .own 1, .bool y.2.2.2.2.1, .str y.2.2.2.2.2.1]], [.arr tRange y.2.2.2.2.2.2.1, .arr tWrite y.2.2.2.2.2.2.2]⟩) := by rw [laws_toTxn_e]; kernel_rfl

theorem laws_toTxn_l : LoopsOk G14 ⟨0, 31, laws_toTxn_loops⟩ (Try.f13.body.getD .skip) :=
  loopsOk_of (ids := []) (by kernel_rfl) (by kernel_rfl) trivial

theorem laws_toTxn_c : Contract Try.prog 13 laws_toTxn_g := by
  refine told G14_ok follows Try.func13 (c := Try.f13.body.getD .skip) (by kernel_rfl) ?_
  intro args s k r hk
  unfold laws_toTxn_g at hk
  rcases onPats_inv hk with ⟨p, q, rfl, rfl⟩ | hk
  · exact ⟨laws_toTxn_loops, laws_toTxn_q p.1.1 p.1.2.1 p.1.2.2.1 p.1.2.2.2.1 p.1.2.2.2.2.1 p.1.2.2.2.2.2.1 p.1.2.2.2.2.2.2.1 p.1.2.2.2.2.2.2.2.1, laws_toTxn_y p.1.1 p.1.2.1 p.1.2.2.1 p.1.2.2.2.1 p.1.2.2.2.2.1 p.1.2.2.2.2.2.1 p.1.2.2.2.2.2.2.1 p.1.2.2.2.2.2.2.2.1, laws_toTxn_l⟩
  cases hk

def G15 : Glob := G14.add 13 laws_toTxn_g

theorem G15_ok : GlobOk Try.prog G15 := G14_ok.add ⟨Try.f13, Try.func13, by kernel_rfl, by kernel_rfl⟩ laws_toTxn_c



def laws_toVersion_loops : Nat → Option LoopSpec
  | _ => none

theorem laws_toVersion_y (a0 : ByteArray) (a1 : ByteArray) (a2 : Bool) (a3 : Int) : execFn G15 laws_toVersion_loops Try.f70 [.agg [.str a0, .str a1, .bool a2, .int .i64 a3]] [] = laws_toVersion_k (a0, (a1, (a2, a3))) (fun (y : q39T) => some ⟨.ret, [.agg [.str y.1, .str y.2.1, .bool y.2.2.1, .int .i64 y.2.2.2]], []⟩) := by rw [laws_toVersion_e]; kernel_rfl

theorem laws_toVersion_l : LoopsOk G15 ⟨0, 17, laws_toVersion_loops⟩ (Try.f70.body.getD .skip) :=
  loopsOk_of (ids := []) (by kernel_rfl) (by kernel_rfl) trivial

theorem laws_toVersion_c : Contract Try.prog 70 laws_toVersion_g := by
  refine told G15_ok follows Try.func70 (c := Try.f70.body.getD .skip) (by kernel_rfl) ?_
  intro args s k r hk
  unfold laws_toVersion_g at hk
  rcases onPats_inv hk with ⟨p, q, rfl, rfl⟩ | hk
  · exact ⟨laws_toVersion_loops, laws_toVersion_q p.1.1 p.1.2.1 p.1.2.2.1 p.1.2.2.2.1, laws_toVersion_y p.1.1 p.1.2.1 p.1.2.2.1 p.1.2.2.2.1, laws_toVersion_l⟩
  cases hk

def G16 : Glob := G15.add 70 laws_toVersion_g

theorem G16_ok : GlobOk Try.prog G16 := G15_ok.add ⟨Try.f70, Try.func70, by kernel_rfl, by kernel_rfl⟩ laws_toVersion_c



def laws_toVersionS_loops : Nat → Option LoopSpec
  | 0 => some ⟨[0, 3, 4], [], fun vals st k => onPats [.lst tVersion, .own 0, .int .i64] [.arr tVersion] vals st (fun p q => loopK laws_toVersionS_b0 Fuel (p.1, p.2.2.1, q.1) (fun z => k (.exit 0) [.lst tVersion z.1, .own 0, .int .i64 z.2.1] [.arr tVersion z.2.2]))
      (none)⟩
  | _ => none

def laws_toVersionS_v0 : q17T → List AV := (fun x => [.lst tVersion x.1, .own 0, .int .i64 x.2.1])
def laws_toVersionS_s0 : q17T → St := (fun x => [.arr tVersion x.2.2])
def laws_toVersionS_e0 : q17T → Out × List AV × St := (fun z => ((.exit 0), [.lst tVersion z.1, .own 0, .int .i64 z.2.1], [.arr tVersion z.2.2]))

theorem laws_toVersionS_bx0 (x : q17T) : exec G16 ⟨0, 23, laws_toVersionS_loops⟩ (loopBody Try.f14 0) (bodyK ⟨0, 23, laws_toVersionS_loops⟩ [0, 3, 4] []) (setEs (deads 23) [0, 3, 4] (laws_toVersionS_v0 x)) (laws_toVersionS_s0 x) = laws_toVersionS_b0 x (Sum.elim (fun y => some ⟨.norm, laws_toVersionS_v0 y, laws_toVersionS_s0 y⟩) fun z => some ⟨(laws_toVersionS_e0 z).1, (laws_toVersionS_e0 z).2.1, (laws_toVersionS_e0 z).2.2⟩) := by
  kernel_rfl

theorem laws_toVersionS_lo0 : ∀ sp, (laws_toVersionS_loops 0) = some sp → LoopOk G16 ⟨0, 23, laws_toVersionS_loops⟩ sp (loopBody Try.f14 0) := by
  intro sp hsp vals st k r h
  cases hsp
  dsimp only at h
  rcases onPats_inv2 h with ⟨p, q, rfl, rfl, h⟩ | h
  · exact loop_runs2 laws_toVersionS_bp0 laws_toVersionS_v0 laws_toVersionS_s0 laws_toVersionS_e0 (fun z => by (intro h; cases h)) laws_toVersionS_bx0 Fuel (p.1, p.2.2.1, q.1) _ k r (fun z => rfl) h
  cases h

theorem laws_toVersionS_y (a0 : (List dVersion)) : execFn G16 laws_toVersionS_loops Try.f14 [.lst tVersion a0] [] = laws_toVersionS_k a0 (fun (y : (List dVersion)) => some ⟨.ret, [.own 0], [.arr tVersion y]⟩) := by rw [laws_toVersionS_e]; kernel_rfl

theorem laws_toVersionS_l : LoopsOk G16 ⟨0, 23, laws_toVersionS_loops⟩ (Try.f14.body.getD .skip) :=
  loopsOk_of (ids := [0]) (by kernel_rfl) (by kernel_rfl) ⟨laws_toVersionS_lo0, trivial⟩

theorem laws_toVersionS_c : Contract Try.prog 14 laws_toVersionS_g := by
  refine told G16_ok follows Try.func14 (c := Try.f14.body.getD .skip) (by kernel_rfl) ?_
  intro args s k r hk
  unfold laws_toVersionS_g at hk
  rcases onPats_inv hk with ⟨p, q, rfl, rfl⟩ | hk
  · exact ⟨laws_toVersionS_loops, laws_toVersionS_q p.1, laws_toVersionS_y p.1, laws_toVersionS_l⟩
  cases hk

def G17 : Glob := G16.add 14 laws_toVersionS_g

theorem G17_ok : GlobOk Try.prog G17 := G16_ok.add ⟨Try.f14, Try.func14, by kernel_rfl, by kernel_rfl⟩ laws_toVersionS_c



def laws_toTxnS_loops : Nat → Option LoopSpec
  | 0 => some ⟨[0, 3, 4], [], fun vals st k => onPats [.lst tTxn, .own 0, .int .i64] [.arr tTxn] vals st (fun p q => loopK laws_toTxnS_b0 Fuel (p.1, p.2.2.1, q.1) (fun z => k (.exit 0) [.lst tTxn z.1, .own 0, .int .i64 z.2.1] [.arr tTxn z.2.2]))
      (none)⟩
  | _ => none

def laws_toTxnS_v0 : q10T → List AV := (fun x => [.lst tTxn x.1, .own 0, .int .i64 x.2.1])
def laws_toTxnS_s0 : q10T → St := (fun x => [.arr tTxn x.2.2])
def laws_toTxnS_e0 : q10T → Out × List AV × St := (fun z => ((.exit 0), [.lst tTxn z.1, .own 0, .int .i64 z.2.1], [.arr tTxn z.2.2]))

theorem laws_toTxnS_bx0 (x : q10T) : exec G17 ⟨0, 23, laws_toTxnS_loops⟩ (loopBody Try.f131 0) (bodyK ⟨0, 23, laws_toTxnS_loops⟩ [0, 3, 4] []) (setEs (deads 23) [0, 3, 4] (laws_toTxnS_v0 x)) (laws_toTxnS_s0 x) = laws_toTxnS_b0 x (Sum.elim (fun y => some ⟨.norm, laws_toTxnS_v0 y, laws_toTxnS_s0 y⟩) fun z => some ⟨(laws_toTxnS_e0 z).1, (laws_toTxnS_e0 z).2.1, (laws_toTxnS_e0 z).2.2⟩) := by
  kernel_rfl

theorem laws_toTxnS_lo0 : ∀ sp, (laws_toTxnS_loops 0) = some sp → LoopOk G17 ⟨0, 23, laws_toTxnS_loops⟩ sp (loopBody Try.f131 0) := by
  intro sp hsp vals st k r h
  cases hsp
  dsimp only at h
  rcases onPats_inv2 h with ⟨p, q, rfl, rfl, h⟩ | h
  · exact loop_runs2 laws_toTxnS_bp0 laws_toTxnS_v0 laws_toTxnS_s0 laws_toTxnS_e0 (fun z => by (intro h; cases h)) laws_toTxnS_bx0 Fuel (p.1, p.2.2.1, q.1) _ k r (fun z => rfl) h
  cases h

theorem laws_toTxnS_y (a0 : (List dTxn)) : execFn G17 laws_toTxnS_loops Try.f131 [.lst tTxn a0] [] = laws_toTxnS_k a0 (fun (y : (List dTxn)) => some ⟨.ret, [.own 0], [.arr tTxn y]⟩) := by rw [laws_toTxnS_e]; kernel_rfl

theorem laws_toTxnS_l : LoopsOk G17 ⟨0, 23, laws_toTxnS_loops⟩ (Try.f131.body.getD .skip) :=
  loopsOk_of (ids := [0]) (by kernel_rfl) (by kernel_rfl) ⟨laws_toTxnS_lo0, trivial⟩

theorem laws_toTxnS_c : Contract Try.prog 131 laws_toTxnS_g := by
  refine told G17_ok follows Try.func131 (c := Try.f131.body.getD .skip) (by kernel_rfl) ?_
  intro args s k r hk
  unfold laws_toTxnS_g at hk
  rcases onPats_inv hk with ⟨p, q, rfl, rfl⟩ | hk
  · exact ⟨laws_toTxnS_loops, laws_toTxnS_q p.1, laws_toTxnS_y p.1, laws_toTxnS_l⟩
  cases hk

def G18 : Glob := G17.add 131 laws_toTxnS_g

theorem G18_ok : GlobOk Try.prog G18 := G17_ok.add ⟨Try.f131, Try.func131, by kernel_rfl, by kernel_rfl⟩ laws_toTxnS_c



def laws_toBase_loops : Nat → Option LoopSpec
  | _ => none

theorem laws_toBase_y (a0 : (List dVersion)) (a1 : (List dTxn)) (a2 : (List dTxn)) (a3 : Int) (a4 : Int) : execFn G18 laws_toBase_loops Try.f61 [.agg [.lst tVersion a0, .lst tTxn a1, .lst tTxn a2, .int .i64 a3, .int .i64 a4]] [] = laws_toBase_k (a0, (a1, (a2, (a3, a4)))) (fun (y : q44T) => some ⟨.ret, [.agg [.own 0, .own 1, .own 2, .int .i64 y.1, .int .i64 y.2.1]], [.arr tVersion y.2.2.1, .arr tTxn y.2.2.2.1, .arr tTxn y.2.2.2.2]⟩) := by rw [laws_toBase_e]; kernel_rfl

theorem laws_toBase_l : LoopsOk G18 ⟨0, 23, laws_toBase_loops⟩ (Try.f61.body.getD .skip) :=
  loopsOk_of (ids := []) (by kernel_rfl) (by kernel_rfl) trivial

theorem laws_toBase_c : Contract Try.prog 61 laws_toBase_g := by
  refine told G18_ok follows Try.func61 (c := Try.f61.body.getD .skip) (by kernel_rfl) ?_
  intro args s k r hk
  unfold laws_toBase_g at hk
  rcases onPats_inv hk with ⟨p, q, rfl, rfl⟩ | hk
  · exact ⟨laws_toBase_loops, laws_toBase_q p.1.1 p.1.2.1 p.1.2.2.1 p.1.2.2.2.1 p.1.2.2.2.2.1, laws_toBase_y p.1.1 p.1.2.1 p.1.2.2.1 p.1.2.2.2.1 p.1.2.2.2.2.1, laws_toBase_l⟩
  cases hk

def G19 : Glob := G18.add 61 laws_toBase_g

theorem G19_ok : GlobOk Try.prog G19 := G18_ok.add ⟨Try.f61, Try.func61, by kernel_rfl, by kernel_rfl⟩ laws_toBase_c



def laws_toRecord_loops : Nat → Option LoopSpec
  | _ => none

theorem laws_toRecord_y (a0 : Int) (a1 : Int) (a2 : Int) (a3 : Int) (a4 : Int) (a5 : (List dRange)) (a6 : (List dWrite)) (a7 : Bool) (a8 : ByteArray) (a9 : ByteArray) (a10 : Bool) (a11 : (List dVersion)) (a12 : (List dTxn)) (a13 : (List dTxn)) (a14 : Int) (a15 : Int) : execFn G19 laws_toRecord_loops Try.f26 [.agg [.int .i64 a0, .int .i64 a1, .int .i64 a2, .int .i64 a3, .int .i64 a4, .lst tRange a5, .lst tWrite a6, .bool a7, .str a8, .str a9, .bool a10, .lst tVersion a11, .lst tTxn a12, .lst tTxn a13, .int .i64 a14, .int .i64 a15]] [] = laws_toRecord_k (a0, ((a1, (a2, (a3, (a4, (a5, (a6, (a7, a8))))))), (a9, (a10, (a11, (a12, (a13, (a14, a15)))))))) (fun (y : q47T) => some ⟨.ret, [.agg [.int .i64 y.1, .int .i64 y.2.1, .int .i64 y.2.2.1, .int .i64 y.2.2.2.1, .int .i64 y.2.2.2.2.1, .own 0, .own 1, .bool y.2.2.2.2.2.1, .str y.2.2.2.2.2.2.1, .str y.2.2.2.2.2.2.2.1, .bool y.2.2.2.2.2.2.2.2.1, .own 2, .own 3, .own 4, .int .i64 y.2.2.2.2.2.2.2.2.2.1, .int .i64 y.2.2.2.2.2.2.2.2.2.2.1]], [.arr tRange y.2.2.2.2.2.2.2.2.2.2.2.1, .arr tWrite y.2.2.2.2.2.2.2.2.2.2.2.2.1, .arr tVersion y.2.2.2.2.2.2.2.2.2.2.2.2.2.1, .arr tTxn y.2.2.2.2.2.2.2.2.2.2.2.2.2.2.1, .arr tTxn y.2.2.2.2.2.2.2.2.2.2.2.2.2.2.2]⟩) := by rw [laws_toRecord_e]; kernel_rfl

theorem laws_toRecord_l : LoopsOk G19 ⟨0, 22, laws_toRecord_loops⟩ (Try.f26.body.getD .skip) :=
  loopsOk_of (ids := []) (by kernel_rfl) (by kernel_rfl) trivial

theorem laws_toRecord_c : Contract Try.prog 26 laws_toRecord_g := by
  refine told G19_ok follows Try.func26 (c := Try.f26.body.getD .skip) (by kernel_rfl) ?_
  intro args s k r hk
  unfold laws_toRecord_g at hk
  rcases onPats_inv hk with ⟨p, q, rfl, rfl⟩ | hk
  · exact ⟨laws_toRecord_loops, laws_toRecord_q p.1.1 p.1.2.1 p.1.2.2.1 p.1.2.2.2.1 p.1.2.2.2.2.1 p.1.2.2.2.2.2.1 p.1.2.2.2.2.2.2.1 p.1.2.2.2.2.2.2.2.1 p.1.2.2.2.2.2.2.2.2.1 p.1.2.2.2.2.2.2.2.2.2.1 p.1.2.2.2.2.2.2.2.2.2.2.1 p.1.2.2.2.2.2.2.2.2.2.2.2.1 p.1.2.2.2.2.2.2.2.2.2.2.2.2.1 p.1.2.2.2.2.2.2.2.2.2.2.2.2.2.1 p.1.2.2.2.2.2.2.2.2.2.2.2.2.2.2.1 p.1.2.2.2.2.2.2.2.2.2.2.2.2.2.2.2.1, laws_toRecord_y p.1.1 p.1.2.1 p.1.2.2.1 p.1.2.2.2.1 p.1.2.2.2.2.1 p.1.2.2.2.2.2.1 p.1.2.2.2.2.2.2.1 p.1.2.2.2.2.2.2.2.1 p.1.2.2.2.2.2.2.2.2.1 p.1.2.2.2.2.2.2.2.2.2.1 p.1.2.2.2.2.2.2.2.2.2.2.1 p.1.2.2.2.2.2.2.2.2.2.2.2.1 p.1.2.2.2.2.2.2.2.2.2.2.2.2.1 p.1.2.2.2.2.2.2.2.2.2.2.2.2.2.1 p.1.2.2.2.2.2.2.2.2.2.2.2.2.2.2.1 p.1.2.2.2.2.2.2.2.2.2.2.2.2.2.2.2.1, laws_toRecord_l⟩
  cases hk

def G20 : Glob := G19.add 26 laws_toRecord_g

theorem G20_ok : GlobOk Try.prog G20 := G19_ok.add ⟨Try.f26, Try.func26, by kernel_rfl, by kernel_rfl⟩ laws_toRecord_c



def spec_l01In_loops : Nat → Option LoopSpec
  | _ => none

theorem spec_l01In_y (a0 : Int) (a1 : Int) (a2 : Int) : execFn G20 spec_l01In_loops Try.f122 [.int .i64 a0, .int .i64 a1, .int .i64 a2] [] = spec_l01In_k a0 a1 a2 (fun (y : Bool) => some ⟨.ret, [.bool y], []⟩) := by rw [spec_l01In_e]; kernel_rfl

theorem spec_l01In_l : LoopsOk G20 ⟨0, 15, spec_l01In_loops⟩ (Try.f122.body.getD .skip) :=
  loopsOk_of (ids := []) (by kernel_rfl) (by kernel_rfl) trivial

theorem spec_l01In_c : Contract Try.prog 122 spec_l01In_g := by
  refine told G20_ok follows Try.func122 (c := Try.f122.body.getD .skip) (by kernel_rfl) ?_
  intro args s k r hk
  unfold spec_l01In_g at hk
  rcases onPats_inv hk with ⟨p, q, rfl, rfl⟩ | hk
  · exact ⟨spec_l01In_loops, spec_l01In_q p.1 p.2.1 p.2.2.1, spec_l01In_y p.1 p.2.1 p.2.2.1, spec_l01In_l⟩
  cases hk

def G21 : Glob := G20.add 122 spec_l01In_g

theorem G21_ok : GlobOk Try.prog G21 := G20_ok.add ⟨Try.f122, Try.func122, by kernel_rfl, by kernel_rfl⟩ spec_l01In_c



def spec_KeyOk_loops : Nat → Option LoopSpec
  | 0 => some ⟨[0, 2, 3], [], fun vals st k => onPats [.str, .bool, .int .i64] [] vals st (fun p q => loopK spec_KeyOk_b0 Fuel (p.1, p.2.1, p.2.2.1) (Sum.elim (fun z => k .ret [.str z.1, .bool z.2.1, .int .i64 z.2.2] []) (fun z => k (.exit 0) [.str z.1, .bool z.2.1, .int .i64 z.2.2] [])))
      (none)⟩
  | _ => none

def spec_KeyOk_v0 : (ByteArray × Bool × Int) → List AV := (fun x => [.str x.1, .bool x.2.1, .int .i64 x.2.2])
def spec_KeyOk_s0 : (ByteArray × Bool × Int) → St := (fun x => [])
def spec_KeyOk_e0 : ((ByteArray × Bool × Int) ⊕ (ByteArray × Bool × Int)) → Out × List AV × St := (Sum.elim (fun z => (.ret, [.str z.1, .bool z.2.1, .int .i64 z.2.2], [])) (fun z => ((.exit 0), [.str z.1, .bool z.2.1, .int .i64 z.2.2], [])))

theorem spec_KeyOk_bx0 (x : (ByteArray × Bool × Int)) : exec G21 ⟨0, 23, spec_KeyOk_loops⟩ (loopBody Try.f123 0) (bodyK ⟨0, 23, spec_KeyOk_loops⟩ [0, 2, 3] []) (setEs (deads 23) [0, 2, 3] (spec_KeyOk_v0 x)) (spec_KeyOk_s0 x) = spec_KeyOk_b0 x (Sum.elim (fun y => some ⟨.norm, spec_KeyOk_v0 y, spec_KeyOk_s0 y⟩) fun z => some ⟨(spec_KeyOk_e0 z).1, (spec_KeyOk_e0 z).2.1, (spec_KeyOk_e0 z).2.2⟩) := by
  kernel_rfl

theorem spec_KeyOk_lo0 : ∀ sp, (spec_KeyOk_loops 0) = some sp → LoopOk G21 ⟨0, 23, spec_KeyOk_loops⟩ sp (loopBody Try.f123 0) := by
  intro sp hsp vals st k r h
  cases hsp
  dsimp only at h
  rcases onPats_inv2 h with ⟨p, q, rfl, rfl, h⟩ | h
  · exact loop_runs2 spec_KeyOk_bp0 spec_KeyOk_v0 spec_KeyOk_s0 spec_KeyOk_e0 (fun z => by rcases z with z | z <;> (intro h; cases h)) spec_KeyOk_bx0 Fuel (p.1, p.2.1, p.2.2.1) _ k r (fun z => by rcases z with z | z <;> rfl) h
  cases h

theorem spec_KeyOk_y (a0 : ByteArray) : execFn G21 spec_KeyOk_loops Try.f123 [.str a0] [] = spec_KeyOk_k a0 (fun (y : Bool) => some ⟨.ret, [.bool y], []⟩) := by rw [spec_KeyOk_e]; kernel_rfl

theorem spec_KeyOk_l : LoopsOk G21 ⟨0, 23, spec_KeyOk_loops⟩ (Try.f123.body.getD .skip) :=
  loopsOk_of (ids := [0]) (by kernel_rfl) (by kernel_rfl) ⟨spec_KeyOk_lo0, trivial⟩

theorem spec_KeyOk_c : Contract Try.prog 123 spec_KeyOk_g := by
  refine told G21_ok follows Try.func123 (c := Try.f123.body.getD .skip) (by kernel_rfl) ?_
  intro args s k r hk
  unfold spec_KeyOk_g at hk
  rcases onPats_inv hk with ⟨p, q, rfl, rfl⟩ | hk
  · exact ⟨spec_KeyOk_loops, spec_KeyOk_q p.1, spec_KeyOk_y p.1, spec_KeyOk_l⟩
  cases hk

def G22 : Glob := G21.add 123 spec_KeyOk_g

theorem G22_ok : GlobOk Try.prog G22 := G21_ok.add ⟨Try.f123, Try.func123, by kernel_rfl, by kernel_rfl⟩ spec_KeyOk_c



def spec_WriteOk_loops : Nat → Option LoopSpec
  | _ => none

theorem spec_WriteOk_y (a0 : ByteArray) (a1 : ByteArray) (a2 : Bool) : execFn G22 spec_WriteOk_loops Try.f114 [.agg [.str a0, .str a1, .bool a2]] [] = spec_WriteOk_k (a0, (a1, a2)) (fun (y : Bool) => some ⟨.ret, [.bool y], []⟩) := by rw [spec_WriteOk_e]; kernel_rfl

theorem spec_WriteOk_l : LoopsOk G22 ⟨0, 22, spec_WriteOk_loops⟩ (Try.f114.body.getD .skip) :=
  loopsOk_of (ids := []) (by kernel_rfl) (by kernel_rfl) trivial

theorem spec_WriteOk_c : Contract Try.prog 114 spec_WriteOk_g := by
  refine told G22_ok follows Try.func114 (c := Try.f114.body.getD .skip) (by kernel_rfl) ?_
  intro args s k r hk
  unfold spec_WriteOk_g at hk
  rcases onPats_inv hk with ⟨p, q, rfl, rfl⟩ | hk
  · exact ⟨spec_WriteOk_loops, spec_WriteOk_q p.1.1 p.1.2.1 p.1.2.2.1, spec_WriteOk_y p.1.1 p.1.2.1 p.1.2.2.1, spec_WriteOk_l⟩
  cases hk

def G23 : Glob := G22.add 114 spec_WriteOk_g

theorem G23_ok : GlobOk Try.prog G23 := G22_ok.add ⟨Try.f114, Try.func114, by kernel_rfl, by kernel_rfl⟩ spec_WriteOk_c



def spec_WritesOk_loops : Nat → Option LoopSpec
  | 0 => some ⟨[0, 2, 3], [], fun vals st k => onPats [.lst tWrite, .bool, .int .i64] [] vals st (fun p q => loopK spec_WritesOk_b0 Fuel (p.1, p.2.1, p.2.2.1) (Sum.elim (fun z => k .ret [.lst tWrite z.1, .bool z.2.1, .int .i64 z.2.2] []) (fun z => k (.exit 0) [.lst tWrite z.1, .bool z.2.1, .int .i64 z.2.2] [])))
      (none)⟩
  | 2000004 => some ⟨[0, 2, 4, 6, 9, 10, 12, 14, 16, 18, 20, 22, 24, 26, 28, 30, 32, 34, 36, 38, 40, 42, 44, 46], [], fun _ _ _ => none⟩
  | _ => none

def spec_WritesOk_v0 : ((List dWrite) × Bool × Int) → List AV := (fun x => [.lst tWrite x.1, .bool x.2.1, .int .i64 x.2.2])
def spec_WritesOk_s0 : ((List dWrite) × Bool × Int) → St := (fun x => [])
def spec_WritesOk_e0 : (((List dWrite) × Bool × Int) ⊕ ((List dWrite) × Bool × Int)) → Out × List AV × St := (Sum.elim (fun z => (.ret, [.lst tWrite z.1, .bool z.2.1, .int .i64 z.2.2], [])) (fun z => ((.exit 0), [.lst tWrite z.1, .bool z.2.1, .int .i64 z.2.2], [])))

theorem spec_WritesOk_bx0 (x : ((List dWrite) × Bool × Int)) : exec G23 ⟨0, 37, spec_WritesOk_loops⟩ (loopBody Try.f116 0) (bodyK ⟨0, 37, spec_WritesOk_loops⟩ [0, 2, 3] []) (setEs (deads 37) [0, 2, 3] (spec_WritesOk_v0 x)) (spec_WritesOk_s0 x) = spec_WritesOk_b0 x (Sum.elim (fun y => some ⟨.norm, spec_WritesOk_v0 y, spec_WritesOk_s0 y⟩) fun z => some ⟨(spec_WritesOk_e0 z).1, (spec_WritesOk_e0 z).2.1, (spec_WritesOk_e0 z).2.2⟩) := by
  kernel_rfl

theorem spec_WritesOk_lo0 : ∀ sp, (spec_WritesOk_loops 0) = some sp → LoopOk G23 ⟨0, 37, spec_WritesOk_loops⟩ sp (loopBody Try.f116 0) := by
  intro sp hsp vals st k r h
  cases hsp
  dsimp only at h
  rcases onPats_inv2 h with ⟨p, q, rfl, rfl, h⟩ | h
  · exact loop_runs2 spec_WritesOk_bp0 spec_WritesOk_v0 spec_WritesOk_s0 spec_WritesOk_e0 (fun z => by rcases z with z | z <;> (intro h; cases h)) spec_WritesOk_bx0 Fuel (p.1, p.2.1, p.2.2.1) _ k r (fun z => by rcases z with z | z <;> rfl) h
  cases h

theorem spec_WritesOk_y (a0 : (List dWrite)) : execFn G23 spec_WritesOk_loops Try.f116 [.lst tWrite a0] [] = spec_WritesOk_k a0 (fun (y : Bool) => some ⟨.ret, [.bool y], []⟩) := by rw [spec_WritesOk_e]; kernel_rfl

theorem spec_WritesOk_l : LoopsOk G23 ⟨0, 37, spec_WritesOk_loops⟩ (Try.f116.body.getD .skip) :=
  loopsOk_of (ids := [0]) (by kernel_rfl) (by kernel_rfl) ⟨spec_WritesOk_lo0, trivial⟩

theorem spec_WritesOk_c : Contract Try.prog 116 spec_WritesOk_g := by
  refine told G23_ok follows Try.func116 (c := Try.f116.body.getD .skip) (by kernel_rfl) ?_
  intro args s k r hk
  unfold spec_WritesOk_g at hk
  rcases onPats_inv hk with ⟨p, q, rfl, rfl⟩ | hk
  · exact ⟨spec_WritesOk_loops, spec_WritesOk_q p.1, spec_WritesOk_y p.1, spec_WritesOk_l⟩
  cases hk

def G24 : Glob := G23.add 116 spec_WritesOk_g

theorem G24_ok : GlobOk Try.prog G24 := G23_ok.add ⟨Try.f116, Try.func116, by kernel_rfl, by kernel_rfl⟩ spec_WritesOk_c



def spec_RangeOk_loops : Nat → Option LoopSpec
  | _ => none

theorem spec_RangeOk_y (a0 : ByteArray) (a1 : ByteArray) : execFn G24 spec_RangeOk_loops Try.f109 [.agg [.str a0, .str a1]] [] = spec_RangeOk_k (a0, a1) (fun (y : Bool) => some ⟨.ret, [.bool y], []⟩) := by rw [spec_RangeOk_e]; kernel_rfl

theorem spec_RangeOk_l : LoopsOk G24 ⟨0, 18, spec_RangeOk_loops⟩ (Try.f109.body.getD .skip) :=
  loopsOk_of (ids := []) (by kernel_rfl) (by kernel_rfl) trivial

theorem spec_RangeOk_c : Contract Try.prog 109 spec_RangeOk_g := by
  refine told G24_ok follows Try.func109 (c := Try.f109.body.getD .skip) (by kernel_rfl) ?_
  intro args s k r hk
  unfold spec_RangeOk_g at hk
  rcases onPats_inv hk with ⟨p, q, rfl, rfl⟩ | hk
  · exact ⟨spec_RangeOk_loops, spec_RangeOk_q p.1.1 p.1.2.1, spec_RangeOk_y p.1.1 p.1.2.1, spec_RangeOk_l⟩
  cases hk

def G25 : Glob := G24.add 109 spec_RangeOk_g

theorem G25_ok : GlobOk Try.prog G25 := G24_ok.add ⟨Try.f109, Try.func109, by kernel_rfl, by kernel_rfl⟩ spec_RangeOk_c



def spec_TxnOk_loops : Nat → Option LoopSpec
  | 5000012 => some ⟨[1, 2], [], fun vals st k => onPats [.bp 0 0, .bool] [.box [.int .i64, .int .i64, .int .i64, .int .i64, .lst tRange, .lst tWrite, .bool, .str]] vals st (fun p q => spec_TxnOk_j5000012 (p.2.1, q.1.1, q.1.2.1, q.1.2.2.1, q.1.2.2.2.1, q.1.2.2.2.2.1, q.1.2.2.2.2.2.1, q.1.2.2.2.2.2.2.1, q.1.2.2.2.2.2.2.2.1) (fun z => k .ret [.bp 0 0, .bool z.1] [.box [.int .i64 z.2.1, .int .i64 z.2.2.1, .int .i64 z.2.2.2.1, .int .i64 z.2.2.2.2.1, .lst tRange z.2.2.2.2.2.1, .lst tWrite z.2.2.2.2.2.2.1, .bool z.2.2.2.2.2.2.2.1, .str z.2.2.2.2.2.2.2.2]]))
      (none)⟩
  | 5000010 => some ⟨[1, 2], [], fun vals st k => onPats [.bp 0 0, .bool] [.box [.int .i64, .int .i64, .int .i64, .int .i64, .lst tRange, .lst tWrite, .bool, .str]] vals st (fun p q => spec_TxnOk_j5000010 (p.2.1, q.1.1, q.1.2.1, q.1.2.2.1, q.1.2.2.2.1, q.1.2.2.2.2.1, q.1.2.2.2.2.2.1, q.1.2.2.2.2.2.2.1, q.1.2.2.2.2.2.2.2.1) (fun z => k .ret [.bp 0 0, .bool z.1] [.box [.int .i64 z.2.1, .int .i64 z.2.2.1, .int .i64 z.2.2.2.1, .int .i64 z.2.2.2.2.1, .lst tRange z.2.2.2.2.2.1, .lst tWrite z.2.2.2.2.2.2.1, .bool z.2.2.2.2.2.2.2.1, .str z.2.2.2.2.2.2.2.2]]))
      (none)⟩
  | 0 => some ⟨[1, 2, 3], [], fun vals st k => onPats [.bp 0 0, .bool, .int .i64] [.box [.int .i64, .int .i64, .int .i64, .int .i64, .lst tRange, .lst tWrite, .bool, .str]] vals st (fun p q => loopK spec_TxnOk_b0 Fuel (p.2.1, p.2.2.1, q.1.1, q.1.2.1, q.1.2.2.1, q.1.2.2.2.1, q.1.2.2.2.2.1, q.1.2.2.2.2.2.1, q.1.2.2.2.2.2.2.1, q.1.2.2.2.2.2.2.2.1) (Sum.elim (fun z => k .ret [.bp 0 0, .bool z.1, .int .i64 z.2.1] [.box [.int .i64 z.2.2.1, .int .i64 z.2.2.2.1, .int .i64 z.2.2.2.2.1, .int .i64 z.2.2.2.2.2.1, .lst tRange z.2.2.2.2.2.2.1, .lst tWrite z.2.2.2.2.2.2.2.1, .bool z.2.2.2.2.2.2.2.2.1, .str z.2.2.2.2.2.2.2.2.2]]) (fun z => k (.exit 0) [.bp 0 0, .bool z.1, .int .i64 z.2.1] [.box [.int .i64 z.2.2.1, .int .i64 z.2.2.2.1, .int .i64 z.2.2.2.2.1, .int .i64 z.2.2.2.2.2.1, .lst tRange z.2.2.2.2.2.2.1, .lst tWrite z.2.2.2.2.2.2.2.1, .bool z.2.2.2.2.2.2.2.2.1, .str z.2.2.2.2.2.2.2.2.2]])))
      (none)⟩
  | 5000003 => some ⟨[1, 2], [], fun vals st k => onPats [.bp 0 0, .bool] [.box [.int .i64, .int .i64, .int .i64, .int .i64, .lst tRange, .lst tWrite, .bool, .str]] vals st (fun p q => spec_TxnOk_j5000003 (p.2.1, q.1.1, q.1.2.1, q.1.2.2.1, q.1.2.2.2.1, q.1.2.2.2.2.1, q.1.2.2.2.2.2.1, q.1.2.2.2.2.2.2.1, q.1.2.2.2.2.2.2.2.1) (fun z => k .ret [.bp 0 0, .bool z.1] [.box [.int .i64 z.2.1, .int .i64 z.2.2.1, .int .i64 z.2.2.2.1, .int .i64 z.2.2.2.2.1, .lst tRange z.2.2.2.2.2.1, .lst tWrite z.2.2.2.2.2.2.1, .bool z.2.2.2.2.2.2.2.1, .str z.2.2.2.2.2.2.2.2]]))
      (none)⟩
  | _ => none

def spec_TxnOk_jv5000012 : q34T → List AV := (fun x => [.bp 0 0, .bool x.1])
def spec_TxnOk_js5000012 : q34T → St := (fun x => [.box [.int .i64 x.2.1, .int .i64 x.2.2.1, .int .i64 x.2.2.2.1, .int .i64 x.2.2.2.2.1, .lst tRange x.2.2.2.2.2.1, .lst tWrite x.2.2.2.2.2.2.1, .bool x.2.2.2.2.2.2.2.1, .str x.2.2.2.2.2.2.2.2]])
def spec_TxnOk_je5000012 : q34T → Out × List AV × St := (fun z => (.ret, [.bp 0 0, .bool z.1], [.box [.int .i64 z.2.1, .int .i64 z.2.2.1, .int .i64 z.2.2.2.1, .int .i64 z.2.2.2.2.1, .lst tRange z.2.2.2.2.2.1, .lst tWrite z.2.2.2.2.2.2.1, .bool z.2.2.2.2.2.2.2.1, .str z.2.2.2.2.2.2.2.2]]))

theorem spec_TxnOk_jx5000012 (x : q34T) : exec G25 ⟨0, 95, spec_TxnOk_loops⟩ (loopBody Try.f44 5000012) (bodyK ⟨0, 95, spec_TxnOk_loops⟩ [1, 2] []) (setEs (deads 95) [1, 2] (spec_TxnOk_jv5000012 x)) (spec_TxnOk_js5000012 x) = spec_TxnOk_j5000012 x (fun z => some ⟨(spec_TxnOk_je5000012 z).1, (spec_TxnOk_je5000012 z).2.1, (spec_TxnOk_je5000012 z).2.2⟩) := by
  kernel_rfl

theorem spec_TxnOk_lo5000012 : ∀ sp, (spec_TxnOk_loops 5000012) = some sp → CutOk G25 ⟨0, 95, spec_TxnOk_loops⟩ sp (loopBody Try.f44 5000012) := by
  intro sp hsp vals st k r h
  cases hsp
  dsimp only at h
  rcases onPats_inv2 h with ⟨p, q, rfl, rfl, h⟩ | h
  · exact cut_runs spec_TxnOk_jp5000012 spec_TxnOk_jv5000012 spec_TxnOk_js5000012 spec_TxnOk_je5000012 spec_TxnOk_jx5000012 (p.2.1, q.1.1, q.1.2.1, q.1.2.2.1, q.1.2.2.2.1, q.1.2.2.2.2.1, q.1.2.2.2.2.2.1, q.1.2.2.2.2.2.2.1, q.1.2.2.2.2.2.2.2.1) _ k r (fun z => rfl) h
  cases h

def spec_TxnOk_jv5000010 : q34T → List AV := (fun x => [.bp 0 0, .bool x.1])
def spec_TxnOk_js5000010 : q34T → St := (fun x => [.box [.int .i64 x.2.1, .int .i64 x.2.2.1, .int .i64 x.2.2.2.1, .int .i64 x.2.2.2.2.1, .lst tRange x.2.2.2.2.2.1, .lst tWrite x.2.2.2.2.2.2.1, .bool x.2.2.2.2.2.2.2.1, .str x.2.2.2.2.2.2.2.2]])
def spec_TxnOk_je5000010 : q34T → Out × List AV × St := (fun z => (.ret, [.bp 0 0, .bool z.1], [.box [.int .i64 z.2.1, .int .i64 z.2.2.1, .int .i64 z.2.2.2.1, .int .i64 z.2.2.2.2.1, .lst tRange z.2.2.2.2.2.1, .lst tWrite z.2.2.2.2.2.2.1, .bool z.2.2.2.2.2.2.2.1, .str z.2.2.2.2.2.2.2.2]]))

theorem spec_TxnOk_jx5000010 (x : q34T) : exec G25 ⟨0, 95, spec_TxnOk_loops⟩ (loopBody Try.f44 5000010) (bodyK ⟨0, 95, spec_TxnOk_loops⟩ [1, 2] []) (setEs (deads 95) [1, 2] (spec_TxnOk_jv5000010 x)) (spec_TxnOk_js5000010 x) = spec_TxnOk_j5000010 x (fun z => some ⟨(spec_TxnOk_je5000010 z).1, (spec_TxnOk_je5000010 z).2.1, (spec_TxnOk_je5000010 z).2.2⟩) := by
  kernel_rfl

theorem spec_TxnOk_lo5000010 : ∀ sp, (spec_TxnOk_loops 5000010) = some sp → CutOk G25 ⟨0, 95, spec_TxnOk_loops⟩ sp (loopBody Try.f44 5000010) := by
  intro sp hsp vals st k r h
  cases hsp
  dsimp only at h
  rcases onPats_inv2 h with ⟨p, q, rfl, rfl, h⟩ | h
  · exact cut_runs spec_TxnOk_jp5000010 spec_TxnOk_jv5000010 spec_TxnOk_js5000010 spec_TxnOk_je5000010 spec_TxnOk_jx5000010 (p.2.1, q.1.1, q.1.2.1, q.1.2.2.1, q.1.2.2.2.1, q.1.2.2.2.2.1, q.1.2.2.2.2.2.1, q.1.2.2.2.2.2.2.1, q.1.2.2.2.2.2.2.2.1) _ k r (fun z => rfl) h
  cases h

def spec_TxnOk_v0 : q37T → List AV := (fun x => [.bp 0 0, .bool x.1, .int .i64 x.2.1])
def spec_TxnOk_s0 : q37T → St := (fun x => [.box [.int .i64 x.2.2.1, .int .i64 x.2.2.2.1, .int .i64 x.2.2.2.2.1, .int .i64 x.2.2.2.2.2.1, .lst tRange x.2.2.2.2.2.2.1, .lst tWrite x.2.2.2.2.2.2.2.1, .bool x.2.2.2.2.2.2.2.2.1, .str x.2.2.2.2.2.2.2.2.2]])
def spec_TxnOk_e0 : (q37T ⊕ q37T) → Out × List AV × St := (Sum.elim (fun z => (.ret, [.bp 0 0, .bool z.1, .int .i64 z.2.1], [.box [.int .i64 z.2.2.1, .int .i64 z.2.2.2.1, .int .i64 z.2.2.2.2.1, .int .i64 z.2.2.2.2.2.1, .lst tRange z.2.2.2.2.2.2.1, .lst tWrite z.2.2.2.2.2.2.2.1, .bool z.2.2.2.2.2.2.2.2.1, .str z.2.2.2.2.2.2.2.2.2]])) (fun z => ((.exit 0), [.bp 0 0, .bool z.1, .int .i64 z.2.1], [.box [.int .i64 z.2.2.1, .int .i64 z.2.2.2.1, .int .i64 z.2.2.2.2.1, .int .i64 z.2.2.2.2.2.1, .lst tRange z.2.2.2.2.2.2.1, .lst tWrite z.2.2.2.2.2.2.2.1, .bool z.2.2.2.2.2.2.2.2.1, .str z.2.2.2.2.2.2.2.2.2]])))

theorem spec_TxnOk_bx0 (x : q37T) : exec G25 ⟨0, 95, spec_TxnOk_loops⟩ (loopBody Try.f44 0) (bodyK ⟨0, 95, spec_TxnOk_loops⟩ [1, 2, 3] []) (setEs (deads 95) [1, 2, 3] (spec_TxnOk_v0 x)) (spec_TxnOk_s0 x) = spec_TxnOk_b0 x (Sum.elim (fun y => some ⟨.norm, spec_TxnOk_v0 y, spec_TxnOk_s0 y⟩) fun z => some ⟨(spec_TxnOk_e0 z).1, (spec_TxnOk_e0 z).2.1, (spec_TxnOk_e0 z).2.2⟩) := by
  kernel_rfl

theorem spec_TxnOk_lo0 : ∀ sp, (spec_TxnOk_loops 0) = some sp → LoopOk G25 ⟨0, 95, spec_TxnOk_loops⟩ sp (loopBody Try.f44 0) := by
  intro sp hsp vals st k r h
  cases hsp
  dsimp only at h
  rcases onPats_inv2 h with ⟨p, q, rfl, rfl, h⟩ | h
  · exact loop_runs2 spec_TxnOk_bp0 spec_TxnOk_v0 spec_TxnOk_s0 spec_TxnOk_e0 (fun z => by rcases z with z | z <;> (intro h; cases h)) spec_TxnOk_bx0 Fuel (p.2.1, p.2.2.1, q.1.1, q.1.2.1, q.1.2.2.1, q.1.2.2.2.1, q.1.2.2.2.2.1, q.1.2.2.2.2.2.1, q.1.2.2.2.2.2.2.1, q.1.2.2.2.2.2.2.2.1) _ k r (fun z => by rcases z with z | z <;> rfl) h
  cases h

def spec_TxnOk_jv5000003 : q34T → List AV := (fun x => [.bp 0 0, .bool x.1])
def spec_TxnOk_js5000003 : q34T → St := (fun x => [.box [.int .i64 x.2.1, .int .i64 x.2.2.1, .int .i64 x.2.2.2.1, .int .i64 x.2.2.2.2.1, .lst tRange x.2.2.2.2.2.1, .lst tWrite x.2.2.2.2.2.2.1, .bool x.2.2.2.2.2.2.2.1, .str x.2.2.2.2.2.2.2.2]])
def spec_TxnOk_je5000003 : q34T → Out × List AV × St := (fun z => (.ret, [.bp 0 0, .bool z.1], [.box [.int .i64 z.2.1, .int .i64 z.2.2.1, .int .i64 z.2.2.2.1, .int .i64 z.2.2.2.2.1, .lst tRange z.2.2.2.2.2.1, .lst tWrite z.2.2.2.2.2.2.1, .bool z.2.2.2.2.2.2.2.1, .str z.2.2.2.2.2.2.2.2]]))

theorem spec_TxnOk_jx5000003 (x : q34T) : exec G25 ⟨0, 95, spec_TxnOk_loops⟩ (loopBody Try.f44 5000003) (bodyK ⟨0, 95, spec_TxnOk_loops⟩ [1, 2] []) (setEs (deads 95) [1, 2] (spec_TxnOk_jv5000003 x)) (spec_TxnOk_js5000003 x) = spec_TxnOk_j5000003 x (fun z => some ⟨(spec_TxnOk_je5000003 z).1, (spec_TxnOk_je5000003 z).2.1, (spec_TxnOk_je5000003 z).2.2⟩) := by
  kernel_rfl

theorem spec_TxnOk_lo5000003 : ∀ sp, (spec_TxnOk_loops 5000003) = some sp → CutOk G25 ⟨0, 95, spec_TxnOk_loops⟩ sp (loopBody Try.f44 5000003) := by
  intro sp hsp vals st k r h
  cases hsp
  dsimp only at h
  rcases onPats_inv2 h with ⟨p, q, rfl, rfl, h⟩ | h
  · exact cut_runs spec_TxnOk_jp5000003 spec_TxnOk_jv5000003 spec_TxnOk_js5000003 spec_TxnOk_je5000003 spec_TxnOk_jx5000003 (p.2.1, q.1.1, q.1.2.1, q.1.2.2.1, q.1.2.2.2.1, q.1.2.2.2.2.1, q.1.2.2.2.2.2.1, q.1.2.2.2.2.2.2.1, q.1.2.2.2.2.2.2.2.1) _ k r (fun z => rfl) h
  cases h

theorem spec_TxnOk_y (a0 : Int) (a1 : Int) (a2 : Int) (a3 : Int) (a4 : (List dRange)) (a5 : (List dWrite)) (a6 : Bool) (a7 : ByteArray) : execFn G25 spec_TxnOk_loops Try.f44 [.agg [.int .i64 a0, .int .i64 a1, .int .i64 a2, .int .i64 a3, .lst tRange a4, .lst tWrite a5, .bool a6, .str a7]] [] = spec_TxnOk_k (a0, (a1, (a2, (a3, (a4, (a5, (a6, a7))))))) (fun (y : Bool) => some ⟨.ret, [.bool y], []⟩) := by rw [spec_TxnOk_e]; kernel_rfl

theorem spec_TxnOk_l : LoopsOk G25 ⟨0, 95, spec_TxnOk_loops⟩ (Try.f44.body.getD .skip) :=
  loopsOk_of (ids := [5000012, 5000010, 0, 5000003]) (by kernel_rfl) (by kernel_rfl) ⟨spec_TxnOk_lo5000012, ⟨spec_TxnOk_lo5000010, ⟨spec_TxnOk_lo0, ⟨spec_TxnOk_lo5000003, trivial⟩⟩⟩⟩

theorem spec_TxnOk_c : Contract Try.prog 44 spec_TxnOk_g := by
  refine told G25_ok follows Try.func44 (c := Try.f44.body.getD .skip) (by kernel_rfl) ?_
  intro args s k r hk
  unfold spec_TxnOk_g at hk
  rcases onPats_inv hk with ⟨p, q, rfl, rfl⟩ | hk
  · exact ⟨spec_TxnOk_loops, spec_TxnOk_q p.1.1 p.1.2.1 p.1.2.2.1 p.1.2.2.2.1 p.1.2.2.2.2.1 p.1.2.2.2.2.2.1 p.1.2.2.2.2.2.2.1 p.1.2.2.2.2.2.2.2.1, spec_TxnOk_y p.1.1 p.1.2.1 p.1.2.2.1 p.1.2.2.2.1 p.1.2.2.2.2.1 p.1.2.2.2.2.2.1 p.1.2.2.2.2.2.2.1 p.1.2.2.2.2.2.2.2.1, spec_TxnOk_l⟩
  cases hk

def G26 : Glob := G25.add 44 spec_TxnOk_g

theorem G26_ok : GlobOk Try.prog G26 := G25_ok.add ⟨Try.f44, Try.func44, by kernel_rfl, by kernel_rfl⟩ spec_TxnOk_c



def spec_l10NoTxn_loops : Nat → Option LoopSpec
  | _ => none

theorem spec_l10NoTxn_y (a0 : Int) (a1 : Int) (a2 : Int) (a3 : Int) (a4 : (List dRange)) (a5 : (List dWrite)) (a6 : Bool) (a7 : ByteArray) : execFn G26 spec_l10NoTxn_loops Try.f151 [.agg [.int .i64 a0, .int .i64 a1, .int .i64 a2, .int .i64 a3, .lst tRange a4, .lst tWrite a5, .bool a6, .str a7]] [] = spec_l10NoTxn_k (a0, (a1, (a2, (a3, (a4, (a5, (a6, a7))))))) (fun (y : Bool) => some ⟨.ret, [.bool y], []⟩) := by rw [spec_l10NoTxn_e]; kernel_rfl

theorem spec_l10NoTxn_l : LoopsOk G26 ⟨0, 43, spec_l10NoTxn_loops⟩ (Try.f151.body.getD .skip) :=
  loopsOk_of (ids := []) (by kernel_rfl) (by kernel_rfl) trivial

theorem spec_l10NoTxn_c : Contract Try.prog 151 spec_l10NoTxn_g := by
  refine told G26_ok follows Try.func151 (c := Try.f151.body.getD .skip) (by kernel_rfl) ?_
  intro args s k r hk
  unfold spec_l10NoTxn_g at hk
  rcases onPats_inv hk with ⟨p, q, rfl, rfl⟩ | hk
  · exact ⟨spec_l10NoTxn_loops, spec_l10NoTxn_q p.1.1 p.1.2.1 p.1.2.2.1 p.1.2.2.2.1 p.1.2.2.2.2.1 p.1.2.2.2.2.2.1 p.1.2.2.2.2.2.2.1 p.1.2.2.2.2.2.2.2.1, spec_l10NoTxn_y p.1.1 p.1.2.1 p.1.2.2.1 p.1.2.2.2.1 p.1.2.2.2.2.1 p.1.2.2.2.2.2.1 p.1.2.2.2.2.2.2.1 p.1.2.2.2.2.2.2.2.1, spec_l10NoTxn_l⟩
  cases hk

def G27 : Glob := G26.add 151 spec_l10NoTxn_g

theorem G27_ok : GlobOk Try.prog G27 := G26_ok.add ⟨Try.f151, Try.func151, by kernel_rfl, by kernel_rfl⟩ spec_l10NoTxn_c



def spec_VersionsOk_loops : Nat → Option LoopSpec
  | 5000007 => some ⟨[0, 2, 3, 4], [], fun vals st k => onPats [.lst tVersion, .bool, .int .i64, .bp 0 0] [.box [.str, .str, .bool, .int .i64]] vals st (fun p q => spec_VersionsOk_j5000007 (p.1, p.2.1, p.2.2.1, q.1.1, q.1.2.1, q.1.2.2.1, q.1.2.2.2.1) (Sum.elim (fun z => k .ret [.lst tVersion z.1, .bool z.2.1, .int .i64 z.2.2.1, .bp 0 0] [.box [.str z.2.2.2.1, .str z.2.2.2.2.1, .bool z.2.2.2.2.2.1, .int .i64 z.2.2.2.2.2.2]]) (fun z => k .norm [.lst tVersion z.1, .bool z.2.1, .int .i64 z.2.2.1, .bp 0 0] [.box [.str z.2.2.2.1, .str z.2.2.2.2.1, .bool z.2.2.2.2.2.1, .int .i64 z.2.2.2.2.2.2]])))
      (none)⟩
  | 0 => some ⟨[0, 2, 3], [], fun vals st k => onPats [.lst tVersion, .bool, .int .i64] [] vals st (fun p q => loopK spec_VersionsOk_b0 Fuel (p.1, p.2.1, p.2.2.1) (Sum.elim (fun z => k .ret [.lst tVersion z.1, .bool z.2.1, .int .i64 z.2.2] []) (fun z => k (.exit 0) [.lst tVersion z.1, .bool z.2.1, .int .i64 z.2.2] [])))
      (none)⟩
  | 2000007 => some ⟨[0, 2, 4, 6, 8, 10, 12, 14, 16, 18, 20, 22, 24, 26, 28, 30, 32, 34, 36, 38, 40, 42, 44, 46, 48, 50, 52, 54, 56, 58, 60, 62, 64, 66, 68], [], fun _ _ _ => none⟩
  | _ => none

def spec_VersionsOk_jv5000007 : q16T → List AV := (fun x => [.lst tVersion x.1, .bool x.2.1, .int .i64 x.2.2.1, .bp 0 0])
def spec_VersionsOk_js5000007 : q16T → St := (fun x => [.box [.str x.2.2.2.1, .str x.2.2.2.2.1, .bool x.2.2.2.2.2.1, .int .i64 x.2.2.2.2.2.2]])
def spec_VersionsOk_je5000007 : (q16T ⊕ q16T) → Out × List AV × St := (Sum.elim (fun z => (.ret, [.lst tVersion z.1, .bool z.2.1, .int .i64 z.2.2.1, .bp 0 0], [.box [.str z.2.2.2.1, .str z.2.2.2.2.1, .bool z.2.2.2.2.2.1, .int .i64 z.2.2.2.2.2.2]])) (fun z => (.norm, [.lst tVersion z.1, .bool z.2.1, .int .i64 z.2.2.1, .bp 0 0], [.box [.str z.2.2.2.1, .str z.2.2.2.2.1, .bool z.2.2.2.2.2.1, .int .i64 z.2.2.2.2.2.2]])))

theorem spec_VersionsOk_jx5000007 (x : q16T) : exec G27 ⟨0, 78, spec_VersionsOk_loops⟩ (loopBody Try.f217 5000007) (bodyK ⟨0, 78, spec_VersionsOk_loops⟩ [0, 2, 3, 4] []) (setEs (deads 78) [0, 2, 3, 4] (spec_VersionsOk_jv5000007 x)) (spec_VersionsOk_js5000007 x) = spec_VersionsOk_j5000007 x (fun z => some ⟨(spec_VersionsOk_je5000007 z).1, (spec_VersionsOk_je5000007 z).2.1, (spec_VersionsOk_je5000007 z).2.2⟩) := by
  kernel_rfl

theorem spec_VersionsOk_lo5000007 : ∀ sp, (spec_VersionsOk_loops 5000007) = some sp → CutOk G27 ⟨0, 78, spec_VersionsOk_loops⟩ sp (loopBody Try.f217 5000007) := by
  intro sp hsp vals st k r h
  cases hsp
  dsimp only at h
  rcases onPats_inv2 h with ⟨p, q, rfl, rfl, h⟩ | h
  · exact cut_runs spec_VersionsOk_jp5000007 spec_VersionsOk_jv5000007 spec_VersionsOk_js5000007 spec_VersionsOk_je5000007 spec_VersionsOk_jx5000007 (p.1, p.2.1, p.2.2.1, q.1.1, q.1.2.1, q.1.2.2.1, q.1.2.2.2.1) _ k r (fun z => by rcases z with z | z <;> rfl) h
  cases h

def spec_VersionsOk_v0 : ((List dVersion) × Bool × Int) → List AV := (fun x => [.lst tVersion x.1, .bool x.2.1, .int .i64 x.2.2])
def spec_VersionsOk_s0 : ((List dVersion) × Bool × Int) → St := (fun x => [])
def spec_VersionsOk_e0 : (((List dVersion) × Bool × Int) ⊕ ((List dVersion) × Bool × Int)) → Out × List AV × St := (Sum.elim (fun z => (.ret, [.lst tVersion z.1, .bool z.2.1, .int .i64 z.2.2], [])) (fun z => ((.exit 0), [.lst tVersion z.1, .bool z.2.1, .int .i64 z.2.2], [])))

theorem spec_VersionsOk_bx0 (x : ((List dVersion) × Bool × Int)) : exec G27 ⟨0, 78, spec_VersionsOk_loops⟩ (loopBody Try.f217 0) (bodyK ⟨0, 78, spec_VersionsOk_loops⟩ [0, 2, 3] []) (setEs (deads 78) [0, 2, 3] (spec_VersionsOk_v0 x)) (spec_VersionsOk_s0 x) = spec_VersionsOk_b0 x (Sum.elim (fun y => some ⟨.norm, spec_VersionsOk_v0 y, spec_VersionsOk_s0 y⟩) fun z => some ⟨(spec_VersionsOk_e0 z).1, (spec_VersionsOk_e0 z).2.1, (spec_VersionsOk_e0 z).2.2⟩) := by
  kernel_rfl

theorem spec_VersionsOk_lo0 : ∀ sp, (spec_VersionsOk_loops 0) = some sp → LoopOk G27 ⟨0, 78, spec_VersionsOk_loops⟩ sp (loopBody Try.f217 0) := by
  intro sp hsp vals st k r h
  cases hsp
  dsimp only at h
  rcases onPats_inv2 h with ⟨p, q, rfl, rfl, h⟩ | h
  · exact loop_runs2 spec_VersionsOk_bp0 spec_VersionsOk_v0 spec_VersionsOk_s0 spec_VersionsOk_e0 (fun z => by rcases z with z | z <;> (intro h; cases h)) spec_VersionsOk_bx0 Fuel (p.1, p.2.1, p.2.2.1) _ k r (fun z => by rcases z with z | z <;> rfl) h
  cases h

theorem spec_VersionsOk_y (a0 : (List dVersion)) : execFn G27 spec_VersionsOk_loops Try.f217 [.lst tVersion a0] [] = spec_VersionsOk_k a0 (fun (y : Bool) => some ⟨.ret, [.bool y], []⟩) := by rw [spec_VersionsOk_e]; kernel_rfl

theorem spec_VersionsOk_l : LoopsOk G27 ⟨0, 78, spec_VersionsOk_loops⟩ (Try.f217.body.getD .skip) :=
  loopsOk_of (ids := [5000007, 0]) (by kernel_rfl) (by kernel_rfl) ⟨spec_VersionsOk_lo5000007, ⟨spec_VersionsOk_lo0, trivial⟩⟩

theorem spec_VersionsOk_c : Contract Try.prog 217 spec_VersionsOk_g := by
  refine told G27_ok follows Try.func217 (c := Try.f217.body.getD .skip) (by kernel_rfl) ?_
  intro args s k r hk
  unfold spec_VersionsOk_g at hk
  rcases onPats_inv hk with ⟨p, q, rfl, rfl⟩ | hk
  · exact ⟨spec_VersionsOk_loops, spec_VersionsOk_q p.1, spec_VersionsOk_y p.1, spec_VersionsOk_l⟩
  cases hk

def G28 : Glob := G27.add 217 spec_VersionsOk_g

theorem G28_ok : GlobOk Try.prog G28 := G27_ok.add ⟨Try.f217, Try.func217, by kernel_rfl, by kernel_rfl⟩ spec_VersionsOk_c



def spec_BaseOk_loops : Nat → Option LoopSpec
  | 0 => some ⟨[1, 2, 3], [], fun vals st k => onPats [.bp 0 0, .bool, .int .i64] [.box [.lst tVersion, .lst tTxn, .lst tTxn, .int .i64, .int .i64]] vals st (fun p q => loopK spec_BaseOk_b0 Fuel (p.2.1, p.2.2.1, q.1.1, q.1.2.1, q.1.2.2.1, q.1.2.2.2.1, q.1.2.2.2.2.1) (Sum.elim (fun z => k .ret [.bp 0 0, .bool z.1, .int .i64 z.2.1] [.box [.lst tVersion z.2.2.1, .lst tTxn z.2.2.2.1, .lst tTxn z.2.2.2.2.1, .int .i64 z.2.2.2.2.2.1, .int .i64 z.2.2.2.2.2.2]]) (fun z => k (.exit 0) [.bp 0 0, .bool z.1, .int .i64 z.2.1] [.box [.lst tVersion z.2.2.1, .lst tTxn z.2.2.2.1, .lst tTxn z.2.2.2.2.1, .int .i64 z.2.2.2.2.2.1, .int .i64 z.2.2.2.2.2.2]])))
      (none)⟩
  | 2 => some ⟨[1, 2, 4, 5], [], fun vals st k => onPats [.bp 0 0, .bool, .own 1, .int .i64] [.box [.lst tVersion, .lst tTxn, .lst tTxn, .int .i64, .int .i64], .arr (.int .i64)] vals st (fun p q => loopK spec_BaseOk_b2 Fuel (p.2.1, p.2.2.2.1, q.1.1, q.1.2.1, q.1.2.2.1, q.1.2.2.2.1, q.1.2.2.2.2.1, q.2.1) (Sum.elim (fun z => k .ret [.bp 0 0, .bool z.1, .own 1, .int .i64 z.2.1] [.box [.lst tVersion z.2.2.1, .lst tTxn z.2.2.2.1, .lst tTxn z.2.2.2.2.1, .int .i64 z.2.2.2.2.2.1, .int .i64 z.2.2.2.2.2.2.1], .arr (.int .i64) z.2.2.2.2.2.2.2]) (fun z => k (.exit 2) [.bp 0 0, .bool z.1, .own 1, .int .i64 z.2.1] [.box [.lst tVersion z.2.2.1, .lst tTxn z.2.2.2.1, .lst tTxn z.2.2.2.2.1, .int .i64 z.2.2.2.2.2.1, .int .i64 z.2.2.2.2.2.2.1], .arr (.int .i64) z.2.2.2.2.2.2.2])))
      (none)⟩
  | 4 => some ⟨[1, 2, 4, 7], [], fun vals st k => onPats [.bp 0 0, .bool, .own 1, .int .i64] [.box [.lst tVersion, .lst tTxn, .lst tTxn, .int .i64, .int .i64], .arr (.int .i64)] vals st (fun p q => loopK spec_BaseOk_b4 Fuel (p.2.1, p.2.2.2.1, q.1.1, q.1.2.1, q.1.2.2.1, q.1.2.2.2.1, q.1.2.2.2.2.1, q.2.1) (Sum.elim (fun z => k .ret [.bp 0 0, .bool z.1, .own 1, .int .i64 z.2.1] [.box [.lst tVersion z.2.2.1, .lst tTxn z.2.2.2.1, .lst tTxn z.2.2.2.2.1, .int .i64 z.2.2.2.2.2.1, .int .i64 z.2.2.2.2.2.2.1], .arr (.int .i64) z.2.2.2.2.2.2.2]) (fun z => k (.exit 4) [.bp 0 0, .bool z.1, .own 1, .int .i64 z.2.1] [.box [.lst tVersion z.2.2.1, .lst tTxn z.2.2.2.1, .lst tTxn z.2.2.2.2.1, .int .i64 z.2.2.2.2.2.1, .int .i64 z.2.2.2.2.2.2.1], .arr (.int .i64) z.2.2.2.2.2.2.2])))
      (none)⟩
  | 8 => some ⟨[1, 2, 4, 9, 10], [], fun vals st k => onPats [.bp 0 0, .bool, .own 1, .int .i64, .int .i64] [.box [.lst tVersion, .lst tTxn, .lst tTxn, .int .i64, .int .i64], .arr (.int .i64)] vals st (fun p q => loopK spec_BaseOk_b8 Fuel (p.2.1, p.2.2.2.1, p.2.2.2.2.1, q.1.1, q.1.2.1, q.1.2.2.1, q.1.2.2.2.1, q.1.2.2.2.2.1, q.2.1) (Sum.elim (fun z => k .ret [.bp 0 0, .bool z.1, .own 1, .int .i64 z.2.1, .int .i64 z.2.2.1] [.box [.lst tVersion z.2.2.2.1, .lst tTxn z.2.2.2.2.1, .lst tTxn z.2.2.2.2.2.1, .int .i64 z.2.2.2.2.2.2.1, .int .i64 z.2.2.2.2.2.2.2.1], .arr (.int .i64) z.2.2.2.2.2.2.2.2]) (fun z => k (.exit 8) [.bp 0 0, .bool z.1, .own 1, .int .i64 z.2.1, .int .i64 z.2.2.1] [.box [.lst tVersion z.2.2.2.1, .lst tTxn z.2.2.2.2.1, .lst tTxn z.2.2.2.2.2.1, .int .i64 z.2.2.2.2.2.2.1, .int .i64 z.2.2.2.2.2.2.2.1], .arr (.int .i64) z.2.2.2.2.2.2.2.2])))
      (none)⟩
  | 6 => some ⟨[1, 2, 4, 9], [], fun vals st k => onPats [.bp 0 0, .bool, .own 1, .int .i64] [.box [.lst tVersion, .lst tTxn, .lst tTxn, .int .i64, .int .i64], .arr (.int .i64)] vals st (fun p q => loopK spec_BaseOk_b6 Fuel (p.2.1, p.2.2.2.1, q.1.1, q.1.2.1, q.1.2.2.1, q.1.2.2.2.1, q.1.2.2.2.2.1, q.2.1) (Sum.elim (fun z => k (.exit 6) [.bp 0 0, .bool z.1, .own 1, .int .i64 z.2.1] [.box [.lst tVersion z.2.2.1, .lst tTxn z.2.2.2.1, .lst tTxn z.2.2.2.2.1, .int .i64 z.2.2.2.2.2.1, .int .i64 z.2.2.2.2.2.2.1], .arr (.int .i64) z.2.2.2.2.2.2.2]) (fun z => k .ret [.bp 0 0, .bool z.1, .own 1, .int .i64 z.2.1] [.box [.lst tVersion z.2.2.1, .lst tTxn z.2.2.2.1, .lst tTxn z.2.2.2.2.1, .int .i64 z.2.2.2.2.2.1, .int .i64 z.2.2.2.2.2.2.1], .arr (.int .i64) z.2.2.2.2.2.2.2])))
      (none)⟩
  | 5000003 => some ⟨[1, 2], [], fun vals st k => onPats [.bp 0 0, .bool] [.box [.lst tVersion, .lst tTxn, .lst tTxn, .int .i64, .int .i64]] vals st (fun p q => spec_BaseOk_j5000003 (p.2.1, q.1.1, q.1.2.1, q.1.2.2.1, q.1.2.2.2.1, q.1.2.2.2.2.1) (fun z => k .ret [.bp 0 0, .bool z.1] [.box [.lst tVersion z.2.1, .lst tTxn z.2.2.1, .lst tTxn z.2.2.2.1, .int .i64 z.2.2.2.2.1, .int .i64 z.2.2.2.2.2]]))
      (none)⟩
  | 2000006 => some ⟨[0, 2, 4, 6, 8, 10, 12, 14, 16], [], fun _ _ _ => none⟩
  | 2000013 => some ⟨[0, 3, 4, 6, 8, 10, 12, 14, 16, 18, 20, 22, 24, 26, 28, 30, 32, 34, 36, 38, 40, 42, 44, 46, 48, 50, 52, 54, 56, 58, 60], [], fun _ _ _ => none⟩
  | 2000020 => some ⟨[0, 3, 4, 6, 8, 10, 12, 14, 16, 18, 20, 22, 24, 26, 28, 30, 32, 34, 36, 38, 40, 42, 44, 46, 48, 50, 52, 54, 56, 58, 60], [], fun _ _ _ => none⟩
  | 2000029 => some ⟨[0, 2, 4, 6, 8, 10, 12, 14, 16], [], fun _ _ _ => none⟩
  | _ => none

def spec_BaseOk_v0 : q32T → List AV := (fun x => [.bp 0 0, .bool x.1, .int .i64 x.2.1])
def spec_BaseOk_s0 : q32T → St := (fun x => [.box [.lst tVersion x.2.2.1, .lst tTxn x.2.2.2.1, .lst tTxn x.2.2.2.2.1, .int .i64 x.2.2.2.2.2.1, .int .i64 x.2.2.2.2.2.2]])
def spec_BaseOk_e0 : (q32T ⊕ q32T) → Out × List AV × St := (Sum.elim (fun z => (.ret, [.bp 0 0, .bool z.1, .int .i64 z.2.1], [.box [.lst tVersion z.2.2.1, .lst tTxn z.2.2.2.1, .lst tTxn z.2.2.2.2.1, .int .i64 z.2.2.2.2.2.1, .int .i64 z.2.2.2.2.2.2]])) (fun z => ((.exit 0), [.bp 0 0, .bool z.1, .int .i64 z.2.1], [.box [.lst tVersion z.2.2.1, .lst tTxn z.2.2.2.1, .lst tTxn z.2.2.2.2.1, .int .i64 z.2.2.2.2.2.1, .int .i64 z.2.2.2.2.2.2]])))

theorem spec_BaseOk_bx0 (x : q32T) : exec G28 ⟨0, 179, spec_BaseOk_loops⟩ (loopBody Try.f152 0) (bodyK ⟨0, 179, spec_BaseOk_loops⟩ [1, 2, 3] []) (setEs (deads 179) [1, 2, 3] (spec_BaseOk_v0 x)) (spec_BaseOk_s0 x) = spec_BaseOk_b0 x (Sum.elim (fun y => some ⟨.norm, spec_BaseOk_v0 y, spec_BaseOk_s0 y⟩) fun z => some ⟨(spec_BaseOk_e0 z).1, (spec_BaseOk_e0 z).2.1, (spec_BaseOk_e0 z).2.2⟩) := by
  kernel_rfl

theorem spec_BaseOk_lo0 : ∀ sp, (spec_BaseOk_loops 0) = some sp → LoopOk G28 ⟨0, 179, spec_BaseOk_loops⟩ sp (loopBody Try.f152 0) := by
  intro sp hsp vals st k r h
  cases hsp
  dsimp only at h
  rcases onPats_inv2 h with ⟨p, q, rfl, rfl, h⟩ | h
  · exact loop_runs2 spec_BaseOk_bp0 spec_BaseOk_v0 spec_BaseOk_s0 spec_BaseOk_e0 (fun z => by rcases z with z | z <;> (intro h; cases h)) spec_BaseOk_bx0 Fuel (p.2.1, p.2.2.1, q.1.1, q.1.2.1, q.1.2.2.1, q.1.2.2.2.1, q.1.2.2.2.2.1) _ k r (fun z => by rcases z with z | z <;> rfl) h
  cases h

def spec_BaseOk_v2 : q31T → List AV := (fun x => [.bp 0 0, .bool x.1, .own 1, .int .i64 x.2.1])
def spec_BaseOk_s2 : q31T → St := (fun x => [.box [.lst tVersion x.2.2.1, .lst tTxn x.2.2.2.1, .lst tTxn x.2.2.2.2.1, .int .i64 x.2.2.2.2.2.1, .int .i64 x.2.2.2.2.2.2.1], .arr (.int .i64) x.2.2.2.2.2.2.2])
def spec_BaseOk_e2 : (q31T ⊕ q31T) → Out × List AV × St := (Sum.elim (fun z => (.ret, [.bp 0 0, .bool z.1, .own 1, .int .i64 z.2.1], [.box [.lst tVersion z.2.2.1, .lst tTxn z.2.2.2.1, .lst tTxn z.2.2.2.2.1, .int .i64 z.2.2.2.2.2.1, .int .i64 z.2.2.2.2.2.2.1], .arr (.int .i64) z.2.2.2.2.2.2.2])) (fun z => ((.exit 2), [.bp 0 0, .bool z.1, .own 1, .int .i64 z.2.1], [.box [.lst tVersion z.2.2.1, .lst tTxn z.2.2.2.1, .lst tTxn z.2.2.2.2.1, .int .i64 z.2.2.2.2.2.1, .int .i64 z.2.2.2.2.2.2.1], .arr (.int .i64) z.2.2.2.2.2.2.2])))

theorem spec_BaseOk_bx2 (x : q31T) : exec G28 ⟨0, 179, spec_BaseOk_loops⟩ (loopBody Try.f152 2) (bodyK ⟨0, 179, spec_BaseOk_loops⟩ [1, 2, 4, 5] []) (setEs (deads 179) [1, 2, 4, 5] (spec_BaseOk_v2 x)) (spec_BaseOk_s2 x) = spec_BaseOk_b2 x (Sum.elim (fun y => some ⟨.norm, spec_BaseOk_v2 y, spec_BaseOk_s2 y⟩) fun z => some ⟨(spec_BaseOk_e2 z).1, (spec_BaseOk_e2 z).2.1, (spec_BaseOk_e2 z).2.2⟩) := by
  kernel_rfl

theorem spec_BaseOk_lo2 : ∀ sp, (spec_BaseOk_loops 2) = some sp → LoopOk G28 ⟨0, 179, spec_BaseOk_loops⟩ sp (loopBody Try.f152 2) := by
  intro sp hsp vals st k r h
  cases hsp
  dsimp only at h
  rcases onPats_inv2 h with ⟨p, q, rfl, rfl, h⟩ | h
  · exact loop_runs2 spec_BaseOk_bp2 spec_BaseOk_v2 spec_BaseOk_s2 spec_BaseOk_e2 (fun z => by rcases z with z | z <;> (intro h; cases h)) spec_BaseOk_bx2 Fuel (p.2.1, p.2.2.2.1, q.1.1, q.1.2.1, q.1.2.2.1, q.1.2.2.2.1, q.1.2.2.2.2.1, q.2.1) _ k r (fun z => by rcases z with z | z <;> rfl) h
  cases h

def spec_BaseOk_v4 : q31T → List AV := (fun x => [.bp 0 0, .bool x.1, .own 1, .int .i64 x.2.1])
def spec_BaseOk_s4 : q31T → St := (fun x => [.box [.lst tVersion x.2.2.1, .lst tTxn x.2.2.2.1, .lst tTxn x.2.2.2.2.1, .int .i64 x.2.2.2.2.2.1, .int .i64 x.2.2.2.2.2.2.1], .arr (.int .i64) x.2.2.2.2.2.2.2])
def spec_BaseOk_e4 : (q31T ⊕ q31T) → Out × List AV × St := (Sum.elim (fun z => (.ret, [.bp 0 0, .bool z.1, .own 1, .int .i64 z.2.1], [.box [.lst tVersion z.2.2.1, .lst tTxn z.2.2.2.1, .lst tTxn z.2.2.2.2.1, .int .i64 z.2.2.2.2.2.1, .int .i64 z.2.2.2.2.2.2.1], .arr (.int .i64) z.2.2.2.2.2.2.2])) (fun z => ((.exit 4), [.bp 0 0, .bool z.1, .own 1, .int .i64 z.2.1], [.box [.lst tVersion z.2.2.1, .lst tTxn z.2.2.2.1, .lst tTxn z.2.2.2.2.1, .int .i64 z.2.2.2.2.2.1, .int .i64 z.2.2.2.2.2.2.1], .arr (.int .i64) z.2.2.2.2.2.2.2])))

theorem spec_BaseOk_bx4 (x : q31T) : exec G28 ⟨0, 179, spec_BaseOk_loops⟩ (loopBody Try.f152 4) (bodyK ⟨0, 179, spec_BaseOk_loops⟩ [1, 2, 4, 7] []) (setEs (deads 179) [1, 2, 4, 7] (spec_BaseOk_v4 x)) (spec_BaseOk_s4 x) = spec_BaseOk_b4 x (Sum.elim (fun y => some ⟨.norm, spec_BaseOk_v4 y, spec_BaseOk_s4 y⟩) fun z => some ⟨(spec_BaseOk_e4 z).1, (spec_BaseOk_e4 z).2.1, (spec_BaseOk_e4 z).2.2⟩) := by
  kernel_rfl

theorem spec_BaseOk_lo4 : ∀ sp, (spec_BaseOk_loops 4) = some sp → LoopOk G28 ⟨0, 179, spec_BaseOk_loops⟩ sp (loopBody Try.f152 4) := by
  intro sp hsp vals st k r h
  cases hsp
  dsimp only at h
  rcases onPats_inv2 h with ⟨p, q, rfl, rfl, h⟩ | h
  · exact loop_runs2 spec_BaseOk_bp4 spec_BaseOk_v4 spec_BaseOk_s4 spec_BaseOk_e4 (fun z => by rcases z with z | z <;> (intro h; cases h)) spec_BaseOk_bx4 Fuel (p.2.1, p.2.2.2.1, q.1.1, q.1.2.1, q.1.2.2.1, q.1.2.2.2.1, q.1.2.2.2.2.1, q.2.1) _ k r (fun z => by rcases z with z | z <;> rfl) h
  cases h

def spec_BaseOk_v8 : q33T → List AV := (fun x => [.bp 0 0, .bool x.1, .own 1, .int .i64 x.2.1, .int .i64 x.2.2.1])
def spec_BaseOk_s8 : q33T → St := (fun x => [.box [.lst tVersion x.2.2.2.1, .lst tTxn x.2.2.2.2.1, .lst tTxn x.2.2.2.2.2.1, .int .i64 x.2.2.2.2.2.2.1, .int .i64 x.2.2.2.2.2.2.2.1], .arr (.int .i64) x.2.2.2.2.2.2.2.2])
def spec_BaseOk_e8 : (q33T ⊕ q33T) → Out × List AV × St := (Sum.elim (fun z => (.ret, [.bp 0 0, .bool z.1, .own 1, .int .i64 z.2.1, .int .i64 z.2.2.1], [.box [.lst tVersion z.2.2.2.1, .lst tTxn z.2.2.2.2.1, .lst tTxn z.2.2.2.2.2.1, .int .i64 z.2.2.2.2.2.2.1, .int .i64 z.2.2.2.2.2.2.2.1], .arr (.int .i64) z.2.2.2.2.2.2.2.2])) (fun z => ((.exit 8), [.bp 0 0, .bool z.1, .own 1, .int .i64 z.2.1, .int .i64 z.2.2.1], [.box [.lst tVersion z.2.2.2.1, .lst tTxn z.2.2.2.2.1, .lst tTxn z.2.2.2.2.2.1, .int .i64 z.2.2.2.2.2.2.1, .int .i64 z.2.2.2.2.2.2.2.1], .arr (.int .i64) z.2.2.2.2.2.2.2.2])))

theorem spec_BaseOk_bx8 (x : q33T) : exec G28 ⟨0, 179, spec_BaseOk_loops⟩ (loopBody Try.f152 8) (bodyK ⟨0, 179, spec_BaseOk_loops⟩ [1, 2, 4, 9, 10] []) (setEs (deads 179) [1, 2, 4, 9, 10] (spec_BaseOk_v8 x)) (spec_BaseOk_s8 x) = spec_BaseOk_b8 x (Sum.elim (fun y => some ⟨.norm, spec_BaseOk_v8 y, spec_BaseOk_s8 y⟩) fun z => some ⟨(spec_BaseOk_e8 z).1, (spec_BaseOk_e8 z).2.1, (spec_BaseOk_e8 z).2.2⟩) := by
  kernel_rfl

theorem spec_BaseOk_lo8 : ∀ sp, (spec_BaseOk_loops 8) = some sp → LoopOk G28 ⟨0, 179, spec_BaseOk_loops⟩ sp (loopBody Try.f152 8) := by
  intro sp hsp vals st k r h
  cases hsp
  dsimp only at h
  rcases onPats_inv2 h with ⟨p, q, rfl, rfl, h⟩ | h
  · exact loop_runs2 spec_BaseOk_bp8 spec_BaseOk_v8 spec_BaseOk_s8 spec_BaseOk_e8 (fun z => by rcases z with z | z <;> (intro h; cases h)) spec_BaseOk_bx8 Fuel (p.2.1, p.2.2.2.1, p.2.2.2.2.1, q.1.1, q.1.2.1, q.1.2.2.1, q.1.2.2.2.1, q.1.2.2.2.2.1, q.2.1) _ k r (fun z => by rcases z with z | z <;> rfl) h
  cases h

def spec_BaseOk_v6 : q31T → List AV := (fun x => [.bp 0 0, .bool x.1, .own 1, .int .i64 x.2.1])
def spec_BaseOk_s6 : q31T → St := (fun x => [.box [.lst tVersion x.2.2.1, .lst tTxn x.2.2.2.1, .lst tTxn x.2.2.2.2.1, .int .i64 x.2.2.2.2.2.1, .int .i64 x.2.2.2.2.2.2.1], .arr (.int .i64) x.2.2.2.2.2.2.2])
def spec_BaseOk_e6 : (q31T ⊕ q31T) → Out × List AV × St := (Sum.elim (fun z => ((.exit 6), [.bp 0 0, .bool z.1, .own 1, .int .i64 z.2.1], [.box [.lst tVersion z.2.2.1, .lst tTxn z.2.2.2.1, .lst tTxn z.2.2.2.2.1, .int .i64 z.2.2.2.2.2.1, .int .i64 z.2.2.2.2.2.2.1], .arr (.int .i64) z.2.2.2.2.2.2.2])) (fun z => (.ret, [.bp 0 0, .bool z.1, .own 1, .int .i64 z.2.1], [.box [.lst tVersion z.2.2.1, .lst tTxn z.2.2.2.1, .lst tTxn z.2.2.2.2.1, .int .i64 z.2.2.2.2.2.1, .int .i64 z.2.2.2.2.2.2.1], .arr (.int .i64) z.2.2.2.2.2.2.2])))

theorem spec_BaseOk_bx6 (x : q31T) : exec G28 ⟨0, 179, spec_BaseOk_loops⟩ (loopBody Try.f152 6) (bodyK ⟨0, 179, spec_BaseOk_loops⟩ [1, 2, 4, 9] []) (setEs (deads 179) [1, 2, 4, 9] (spec_BaseOk_v6 x)) (spec_BaseOk_s6 x) = spec_BaseOk_b6 x (Sum.elim (fun y => some ⟨.norm, spec_BaseOk_v6 y, spec_BaseOk_s6 y⟩) fun z => some ⟨(spec_BaseOk_e6 z).1, (spec_BaseOk_e6 z).2.1, (spec_BaseOk_e6 z).2.2⟩) := by
  kernel_rfl

theorem spec_BaseOk_lo6 : ∀ sp, (spec_BaseOk_loops 6) = some sp → LoopOk G28 ⟨0, 179, spec_BaseOk_loops⟩ sp (loopBody Try.f152 6) := by
  intro sp hsp vals st k r h
  cases hsp
  dsimp only at h
  rcases onPats_inv2 h with ⟨p, q, rfl, rfl, h⟩ | h
  · exact loop_runs2 spec_BaseOk_bp6 spec_BaseOk_v6 spec_BaseOk_s6 spec_BaseOk_e6 (fun z => by rcases z with z | z <;> (intro h; cases h)) spec_BaseOk_bx6 Fuel (p.2.1, p.2.2.2.1, q.1.1, q.1.2.1, q.1.2.2.1, q.1.2.2.2.1, q.1.2.2.2.2.1, q.2.1) _ k r (fun z => by rcases z with z | z <;> rfl) h
  cases h

def spec_BaseOk_jv5000003 : q27T → List AV := (fun x => [.bp 0 0, .bool x.1])
def spec_BaseOk_js5000003 : q27T → St := (fun x => [.box [.lst tVersion x.2.1, .lst tTxn x.2.2.1, .lst tTxn x.2.2.2.1, .int .i64 x.2.2.2.2.1, .int .i64 x.2.2.2.2.2]])
def spec_BaseOk_je5000003 : q27T → Out × List AV × St := (fun z => (.ret, [.bp 0 0, .bool z.1], [.box [.lst tVersion z.2.1, .lst tTxn z.2.2.1, .lst tTxn z.2.2.2.1, .int .i64 z.2.2.2.2.1, .int .i64 z.2.2.2.2.2]]))

theorem spec_BaseOk_jx5000003 (x : q27T) : exec G28 ⟨0, 179, spec_BaseOk_loops⟩ (loopBody Try.f152 5000003) (bodyK ⟨0, 179, spec_BaseOk_loops⟩ [1, 2] []) (setEs (deads 179) [1, 2] (spec_BaseOk_jv5000003 x)) (spec_BaseOk_js5000003 x) = spec_BaseOk_j5000003 x (fun z => some ⟨(spec_BaseOk_je5000003 z).1, (spec_BaseOk_je5000003 z).2.1, (spec_BaseOk_je5000003 z).2.2⟩) := by
  kernel_rfl

theorem spec_BaseOk_lo5000003 : ∀ sp, (spec_BaseOk_loops 5000003) = some sp → CutOk G28 ⟨0, 179, spec_BaseOk_loops⟩ sp (loopBody Try.f152 5000003) := by
  intro sp hsp vals st k r h
  cases hsp
  dsimp only at h
  rcases onPats_inv2 h with ⟨p, q, rfl, rfl, h⟩ | h
  · exact cut_runs spec_BaseOk_jp5000003 spec_BaseOk_jv5000003 spec_BaseOk_js5000003 spec_BaseOk_je5000003 spec_BaseOk_jx5000003 (p.2.1, q.1.1, q.1.2.1, q.1.2.2.1, q.1.2.2.2.1, q.1.2.2.2.2.1) _ k r (fun z => rfl) h
  cases h

theorem spec_BaseOk_y (a0 : (List dVersion)) (a1 : (List dTxn)) (a2 : (List dTxn)) (a3 : Int) (a4 : Int) : execFn G28 spec_BaseOk_loops Try.f152 [.agg [.lst tVersion a0, .lst tTxn a1, .lst tTxn a2, .int .i64 a3, .int .i64 a4]] [] = spec_BaseOk_k (a0, (a1, (a2, (a3, a4)))) (fun (y : Bool) => some ⟨.ret, [.bool y], []⟩) := by rw [spec_BaseOk_e]; kernel_rfl

theorem spec_BaseOk_l : LoopsOk G28 ⟨0, 179, spec_BaseOk_loops⟩ (Try.f152.body.getD .skip) :=
  loopsOk_of (ids := [0, 2, 4, 8, 6, 5000003]) (by kernel_rfl) (by kernel_rfl) ⟨spec_BaseOk_lo0, ⟨spec_BaseOk_lo2, ⟨spec_BaseOk_lo4, ⟨spec_BaseOk_lo8, ⟨spec_BaseOk_lo6, ⟨spec_BaseOk_lo5000003, trivial⟩⟩⟩⟩⟩⟩

theorem spec_BaseOk_c : Contract Try.prog 152 spec_BaseOk_g := by
  refine told G28_ok follows Try.func152 (c := Try.f152.body.getD .skip) (by kernel_rfl) ?_
  intro args s k r hk
  unfold spec_BaseOk_g at hk
  rcases onPats_inv hk with ⟨p, q, rfl, rfl⟩ | hk
  · exact ⟨spec_BaseOk_loops, spec_BaseOk_q p.1.1 p.1.2.1 p.1.2.2.1 p.1.2.2.2.1 p.1.2.2.2.2.1, spec_BaseOk_y p.1.1 p.1.2.1 p.1.2.2.1 p.1.2.2.2.1 p.1.2.2.2.2.1, spec_BaseOk_l⟩
  cases hk

def G29 : Glob := G28.add 152 spec_BaseOk_g

theorem G29_ok : GlobOk Try.prog G29 := G28_ok.add ⟨Try.f152, Try.func152, by kernel_rfl, by kernel_rfl⟩ spec_BaseOk_c



def spec_l10NoBase_loops : Nat → Option LoopSpec
  | _ => none

theorem spec_l10NoBase_y (a0 : (List dVersion)) (a1 : (List dTxn)) (a2 : (List dTxn)) (a3 : Int) (a4 : Int) : execFn G29 spec_l10NoBase_loops Try.f153 [.agg [.lst tVersion a0, .lst tTxn a1, .lst tTxn a2, .int .i64 a3, .int .i64 a4]] [] = spec_l10NoBase_k (a0, (a1, (a2, (a3, a4)))) (fun (y : Bool) => some ⟨.ret, [.bool y], []⟩) := by rw [spec_l10NoBase_e]; kernel_rfl

theorem spec_l10NoBase_l : LoopsOk G29 ⟨0, 29, spec_l10NoBase_loops⟩ (Try.f153.body.getD .skip) :=
  loopsOk_of (ids := []) (by kernel_rfl) (by kernel_rfl) trivial

theorem spec_l10NoBase_c : Contract Try.prog 153 spec_l10NoBase_g := by
  refine told G29_ok follows Try.func153 (c := Try.f153.body.getD .skip) (by kernel_rfl) ?_
  intro args s k r hk
  unfold spec_l10NoBase_g at hk
  rcases onPats_inv hk with ⟨p, q, rfl, rfl⟩ | hk
  · exact ⟨spec_l10NoBase_loops, spec_l10NoBase_q p.1.1 p.1.2.1 p.1.2.2.1 p.1.2.2.2.1 p.1.2.2.2.2.1, spec_l10NoBase_y p.1.1 p.1.2.1 p.1.2.2.1 p.1.2.2.2.1 p.1.2.2.2.2.1, spec_l10NoBase_l⟩
  cases hk

def G30 : Glob := G29.add 153 spec_l10NoBase_g

theorem G30_ok : GlobOk Try.prog G30 := G29_ok.add ⟨Try.f153, Try.func153, by kernel_rfl, by kernel_rfl⟩ spec_l10NoBase_c



def spec_RecordOk_loops : Nat → Option LoopSpec
  | 5000008 => some ⟨[1, 2], [], fun vals st k => onPats [.bp 0 0, .bool] [.box [.int .i64, .int .i64, .int .i64, .int .i64, .int .i64, .lst tRange, .lst tWrite, .bool, .str, .str, .bool, .lst tVersion, .lst tTxn, .lst tTxn, .int .i64, .int .i64]] vals st (fun p q => spec_RecordOk_j5000008 (p.2.1, q.1.1, q.1.2.1, q.1.2.2.1, q.1.2.2.2.1, q.1.2.2.2.2.1, q.1.2.2.2.2.2.1, q.1.2.2.2.2.2.2.1, q.1.2.2.2.2.2.2.2.1, q.1.2.2.2.2.2.2.2.2.1, q.1.2.2.2.2.2.2.2.2.2.1, q.1.2.2.2.2.2.2.2.2.2.2.1, q.1.2.2.2.2.2.2.2.2.2.2.2.1, q.1.2.2.2.2.2.2.2.2.2.2.2.2.1, q.1.2.2.2.2.2.2.2.2.2.2.2.2.2.1, q.1.2.2.2.2.2.2.2.2.2.2.2.2.2.2.1, q.1.2.2.2.2.2.2.2.2.2.2.2.2.2.2.2.1) (fun z => k .ret [.bp 0 0, .bool z.1] [.box [.int .i64 z.2.1, .int .i64 z.2.2.1, .int .i64 z.2.2.2.1, .int .i64 z.2.2.2.2.1, .int .i64 z.2.2.2.2.2.1, .lst tRange z.2.2.2.2.2.2.1, .lst tWrite z.2.2.2.2.2.2.2.1, .bool z.2.2.2.2.2.2.2.2.1, .str z.2.2.2.2.2.2.2.2.2.1, .str z.2.2.2.2.2.2.2.2.2.2.1, .bool z.2.2.2.2.2.2.2.2.2.2.2.1, .lst tVersion z.2.2.2.2.2.2.2.2.2.2.2.2.1, .lst tTxn z.2.2.2.2.2.2.2.2.2.2.2.2.2.1, .lst tTxn z.2.2.2.2.2.2.2.2.2.2.2.2.2.2.1, .int .i64 z.2.2.2.2.2.2.2.2.2.2.2.2.2.2.2.1, .int .i64 z.2.2.2.2.2.2.2.2.2.2.2.2.2.2.2.2]]))
      (none)⟩
  | 5000006 => some ⟨[1, 2], [], fun vals st k => onPats [.bp 0 0, .bool] [.box [.int .i64, .int .i64, .int .i64, .int .i64, .int .i64, .lst tRange, .lst tWrite, .bool, .str, .str, .bool, .lst tVersion, .lst tTxn, .lst tTxn, .int .i64, .int .i64]] vals st (fun p q => spec_RecordOk_j5000006 (p.2.1, q.1.1, q.1.2.1, q.1.2.2.1, q.1.2.2.2.1, q.1.2.2.2.2.1, q.1.2.2.2.2.2.1, q.1.2.2.2.2.2.2.1, q.1.2.2.2.2.2.2.2.1, q.1.2.2.2.2.2.2.2.2.1, q.1.2.2.2.2.2.2.2.2.2.1, q.1.2.2.2.2.2.2.2.2.2.2.1, q.1.2.2.2.2.2.2.2.2.2.2.2.1, q.1.2.2.2.2.2.2.2.2.2.2.2.2.1, q.1.2.2.2.2.2.2.2.2.2.2.2.2.2.1, q.1.2.2.2.2.2.2.2.2.2.2.2.2.2.2.1, q.1.2.2.2.2.2.2.2.2.2.2.2.2.2.2.2.1) (fun z => k .ret [.bp 0 0, .bool z.1] [.box [.int .i64 z.2.1, .int .i64 z.2.2.1, .int .i64 z.2.2.2.1, .int .i64 z.2.2.2.2.1, .int .i64 z.2.2.2.2.2.1, .lst tRange z.2.2.2.2.2.2.1, .lst tWrite z.2.2.2.2.2.2.2.1, .bool z.2.2.2.2.2.2.2.2.1, .str z.2.2.2.2.2.2.2.2.2.1, .str z.2.2.2.2.2.2.2.2.2.2.1, .bool z.2.2.2.2.2.2.2.2.2.2.2.1, .lst tVersion z.2.2.2.2.2.2.2.2.2.2.2.2.1, .lst tTxn z.2.2.2.2.2.2.2.2.2.2.2.2.2.1, .lst tTxn z.2.2.2.2.2.2.2.2.2.2.2.2.2.2.1, .int .i64 z.2.2.2.2.2.2.2.2.2.2.2.2.2.2.2.1, .int .i64 z.2.2.2.2.2.2.2.2.2.2.2.2.2.2.2.2]]))
      (none)⟩
  | 5000004 => some ⟨[1, 2, 3], [], fun vals st k => onPats [.bp 0 0, .bool, .bool] [.box [.int .i64, .int .i64, .int .i64, .int .i64, .int .i64, .lst tRange, .lst tWrite, .bool, .str, .str, .bool, .lst tVersion, .lst tTxn, .lst tTxn, .int .i64, .int .i64]] vals st (fun p q => spec_RecordOk_j5000004 (p.2.1, p.2.2.1, q.1.1, q.1.2.1, q.1.2.2.1, q.1.2.2.2.1, q.1.2.2.2.2.1, q.1.2.2.2.2.2.1, q.1.2.2.2.2.2.2.1, q.1.2.2.2.2.2.2.2.1, q.1.2.2.2.2.2.2.2.2.1, q.1.2.2.2.2.2.2.2.2.2.1, q.1.2.2.2.2.2.2.2.2.2.2.1, q.1.2.2.2.2.2.2.2.2.2.2.2.1, q.1.2.2.2.2.2.2.2.2.2.2.2.2.1, q.1.2.2.2.2.2.2.2.2.2.2.2.2.2.1, q.1.2.2.2.2.2.2.2.2.2.2.2.2.2.2.1, q.1.2.2.2.2.2.2.2.2.2.2.2.2.2.2.2.1) (Sum.elim (fun z => k .ret [.bp 0 0, .bool z.1, .bool z.2.1] [.box [.int .i64 z.2.2.1, .int .i64 z.2.2.2.1, .int .i64 z.2.2.2.2.1, .int .i64 z.2.2.2.2.2.1, .int .i64 z.2.2.2.2.2.2.1, .lst tRange z.2.2.2.2.2.2.2.1, .lst tWrite z.2.2.2.2.2.2.2.2.1, .bool z.2.2.2.2.2.2.2.2.2.1, .str z.2.2.2.2.2.2.2.2.2.2.1, .str z.2.2.2.2.2.2.2.2.2.2.2.1, .bool z.2.2.2.2.2.2.2.2.2.2.2.2.1, .lst tVersion z.2.2.2.2.2.2.2.2.2.2.2.2.2.1, .lst tTxn z.2.2.2.2.2.2.2.2.2.2.2.2.2.2.1, .lst tTxn z.2.2.2.2.2.2.2.2.2.2.2.2.2.2.2.1, .int .i64 z.2.2.2.2.2.2.2.2.2.2.2.2.2.2.2.2.1, .int .i64 z.2.2.2.2.2.2.2.2.2.2.2.2.2.2.2.2.2]]) (fun z => k .ret [.bp 0 0, .bool z.1, .dead] [.box [.int .i64 z.2.1, .int .i64 z.2.2.1, .int .i64 z.2.2.2.1, .int .i64 z.2.2.2.2.1, .int .i64 z.2.2.2.2.2.1, .lst tRange z.2.2.2.2.2.2.1, .lst tWrite z.2.2.2.2.2.2.2.1, .bool z.2.2.2.2.2.2.2.2.1, .str z.2.2.2.2.2.2.2.2.2.1, .str z.2.2.2.2.2.2.2.2.2.2.1, .bool z.2.2.2.2.2.2.2.2.2.2.2.1, .lst tVersion z.2.2.2.2.2.2.2.2.2.2.2.2.1, .lst tTxn z.2.2.2.2.2.2.2.2.2.2.2.2.2.1, .lst tTxn z.2.2.2.2.2.2.2.2.2.2.2.2.2.2.1, .int .i64 z.2.2.2.2.2.2.2.2.2.2.2.2.2.2.2.1, .int .i64 z.2.2.2.2.2.2.2.2.2.2.2.2.2.2.2.2]])))
      (none)⟩
  | _ => none

def spec_RecordOk_jv5000008 : q36T → List AV := (fun x => [.bp 0 0, .bool x.1])
def spec_RecordOk_js5000008 : q36T → St := (fun x => [.box [.int .i64 x.2.1, .int .i64 x.2.2.1, .int .i64 x.2.2.2.1, .int .i64 x.2.2.2.2.1, .int .i64 x.2.2.2.2.2.1, .lst tRange x.2.2.2.2.2.2.1, .lst tWrite x.2.2.2.2.2.2.2.1, .bool x.2.2.2.2.2.2.2.2.1, .str x.2.2.2.2.2.2.2.2.2.1, .str x.2.2.2.2.2.2.2.2.2.2.1, .bool x.2.2.2.2.2.2.2.2.2.2.2.1, .lst tVersion x.2.2.2.2.2.2.2.2.2.2.2.2.1, .lst tTxn x.2.2.2.2.2.2.2.2.2.2.2.2.2.1, .lst tTxn x.2.2.2.2.2.2.2.2.2.2.2.2.2.2.1, .int .i64 x.2.2.2.2.2.2.2.2.2.2.2.2.2.2.2.1, .int .i64 x.2.2.2.2.2.2.2.2.2.2.2.2.2.2.2.2]])
def spec_RecordOk_je5000008 : q36T → Out × List AV × St := (fun z => (.ret, [.bp 0 0, .bool z.1], [.box [.int .i64 z.2.1, .int .i64 z.2.2.1, .int .i64 z.2.2.2.1, .int .i64 z.2.2.2.2.1, .int .i64 z.2.2.2.2.2.1, .lst tRange z.2.2.2.2.2.2.1, .lst tWrite z.2.2.2.2.2.2.2.1, .bool z.2.2.2.2.2.2.2.2.1, .str z.2.2.2.2.2.2.2.2.2.1, .str z.2.2.2.2.2.2.2.2.2.2.1, .bool z.2.2.2.2.2.2.2.2.2.2.2.1, .lst tVersion z.2.2.2.2.2.2.2.2.2.2.2.2.1, .lst tTxn z.2.2.2.2.2.2.2.2.2.2.2.2.2.1, .lst tTxn z.2.2.2.2.2.2.2.2.2.2.2.2.2.2.1, .int .i64 z.2.2.2.2.2.2.2.2.2.2.2.2.2.2.2.1, .int .i64 z.2.2.2.2.2.2.2.2.2.2.2.2.2.2.2.2]]))

theorem spec_RecordOk_jx5000008 (x : q36T) : exec G30 ⟨0, 87, spec_RecordOk_loops⟩ (loopBody Try.f82 5000008) (bodyK ⟨0, 87, spec_RecordOk_loops⟩ [1, 2] []) (setEs (deads 87) [1, 2] (spec_RecordOk_jv5000008 x)) (spec_RecordOk_js5000008 x) = spec_RecordOk_j5000008 x (fun z => some ⟨(spec_RecordOk_je5000008 z).1, (spec_RecordOk_je5000008 z).2.1, (spec_RecordOk_je5000008 z).2.2⟩) := by
  kernel_rfl

theorem spec_RecordOk_lo5000008 : ∀ sp, (spec_RecordOk_loops 5000008) = some sp → CutOk G30 ⟨0, 87, spec_RecordOk_loops⟩ sp (loopBody Try.f82 5000008) := by
  intro sp hsp vals st k r h
  cases hsp
  dsimp only at h
  rcases onPats_inv2 h with ⟨p, q, rfl, rfl, h⟩ | h
  · exact cut_runs spec_RecordOk_jp5000008 spec_RecordOk_jv5000008 spec_RecordOk_js5000008 spec_RecordOk_je5000008 spec_RecordOk_jx5000008 (p.2.1, q.1.1, q.1.2.1, q.1.2.2.1, q.1.2.2.2.1, q.1.2.2.2.2.1, q.1.2.2.2.2.2.1, q.1.2.2.2.2.2.2.1, q.1.2.2.2.2.2.2.2.1, q.1.2.2.2.2.2.2.2.2.1, q.1.2.2.2.2.2.2.2.2.2.1, q.1.2.2.2.2.2.2.2.2.2.2.1, q.1.2.2.2.2.2.2.2.2.2.2.2.1, q.1.2.2.2.2.2.2.2.2.2.2.2.2.1, q.1.2.2.2.2.2.2.2.2.2.2.2.2.2.1, q.1.2.2.2.2.2.2.2.2.2.2.2.2.2.2.1, q.1.2.2.2.2.2.2.2.2.2.2.2.2.2.2.2.1) _ k r (fun z => rfl) h
  cases h

def spec_RecordOk_jv5000006 : q36T → List AV := (fun x => [.bp 0 0, .bool x.1])
def spec_RecordOk_js5000006 : q36T → St := (fun x => [.box [.int .i64 x.2.1, .int .i64 x.2.2.1, .int .i64 x.2.2.2.1, .int .i64 x.2.2.2.2.1, .int .i64 x.2.2.2.2.2.1, .lst tRange x.2.2.2.2.2.2.1, .lst tWrite x.2.2.2.2.2.2.2.1, .bool x.2.2.2.2.2.2.2.2.1, .str x.2.2.2.2.2.2.2.2.2.1, .str x.2.2.2.2.2.2.2.2.2.2.1, .bool x.2.2.2.2.2.2.2.2.2.2.2.1, .lst tVersion x.2.2.2.2.2.2.2.2.2.2.2.2.1, .lst tTxn x.2.2.2.2.2.2.2.2.2.2.2.2.2.1, .lst tTxn x.2.2.2.2.2.2.2.2.2.2.2.2.2.2.1, .int .i64 x.2.2.2.2.2.2.2.2.2.2.2.2.2.2.2.1, .int .i64 x.2.2.2.2.2.2.2.2.2.2.2.2.2.2.2.2]])
def spec_RecordOk_je5000006 : q36T → Out × List AV × St := (fun z => (.ret, [.bp 0 0, .bool z.1], [.box [.int .i64 z.2.1, .int .i64 z.2.2.1, .int .i64 z.2.2.2.1, .int .i64 z.2.2.2.2.1, .int .i64 z.2.2.2.2.2.1, .lst tRange z.2.2.2.2.2.2.1, .lst tWrite z.2.2.2.2.2.2.2.1, .bool z.2.2.2.2.2.2.2.2.1, .str z.2.2.2.2.2.2.2.2.2.1, .str z.2.2.2.2.2.2.2.2.2.2.1, .bool z.2.2.2.2.2.2.2.2.2.2.2.1, .lst tVersion z.2.2.2.2.2.2.2.2.2.2.2.2.1, .lst tTxn z.2.2.2.2.2.2.2.2.2.2.2.2.2.1, .lst tTxn z.2.2.2.2.2.2.2.2.2.2.2.2.2.2.1, .int .i64 z.2.2.2.2.2.2.2.2.2.2.2.2.2.2.2.1, .int .i64 z.2.2.2.2.2.2.2.2.2.2.2.2.2.2.2.2]]))

theorem spec_RecordOk_jx5000006 (x : q36T) : exec G30 ⟨0, 87, spec_RecordOk_loops⟩ (loopBody Try.f82 5000006) (bodyK ⟨0, 87, spec_RecordOk_loops⟩ [1, 2] []) (setEs (deads 87) [1, 2] (spec_RecordOk_jv5000006 x)) (spec_RecordOk_js5000006 x) = spec_RecordOk_j5000006 x (fun z => some ⟨(spec_RecordOk_je5000006 z).1, (spec_RecordOk_je5000006 z).2.1, (spec_RecordOk_je5000006 z).2.2⟩) := by
  kernel_rfl

theorem spec_RecordOk_lo5000006 : ∀ sp, (spec_RecordOk_loops 5000006) = some sp → CutOk G30 ⟨0, 87, spec_RecordOk_loops⟩ sp (loopBody Try.f82 5000006) := by
  intro sp hsp vals st k r h
  cases hsp
  dsimp only at h
  rcases onPats_inv2 h with ⟨p, q, rfl, rfl, h⟩ | h
  · exact cut_runs spec_RecordOk_jp5000006 spec_RecordOk_jv5000006 spec_RecordOk_js5000006 spec_RecordOk_je5000006 spec_RecordOk_jx5000006 (p.2.1, q.1.1, q.1.2.1, q.1.2.2.1, q.1.2.2.2.1, q.1.2.2.2.2.1, q.1.2.2.2.2.2.1, q.1.2.2.2.2.2.2.1, q.1.2.2.2.2.2.2.2.1, q.1.2.2.2.2.2.2.2.2.1, q.1.2.2.2.2.2.2.2.2.2.1, q.1.2.2.2.2.2.2.2.2.2.2.1, q.1.2.2.2.2.2.2.2.2.2.2.2.1, q.1.2.2.2.2.2.2.2.2.2.2.2.2.1, q.1.2.2.2.2.2.2.2.2.2.2.2.2.2.1, q.1.2.2.2.2.2.2.2.2.2.2.2.2.2.2.1, q.1.2.2.2.2.2.2.2.2.2.2.2.2.2.2.2.1) _ k r (fun z => rfl) h
  cases h

def spec_RecordOk_jv5000004 : q30T → List AV := (fun x => [.bp 0 0, .bool x.1, .bool x.2.1])
def spec_RecordOk_js5000004 : q30T → St := (fun x => [.box [.int .i64 x.2.2.1, .int .i64 x.2.2.2.1, .int .i64 x.2.2.2.2.1, .int .i64 x.2.2.2.2.2.1, .int .i64 x.2.2.2.2.2.2.1, .lst tRange x.2.2.2.2.2.2.2.1, .lst tWrite x.2.2.2.2.2.2.2.2.1, .bool x.2.2.2.2.2.2.2.2.2.1, .str x.2.2.2.2.2.2.2.2.2.2.1, .str x.2.2.2.2.2.2.2.2.2.2.2.1, .bool x.2.2.2.2.2.2.2.2.2.2.2.2.1, .lst tVersion x.2.2.2.2.2.2.2.2.2.2.2.2.2.1, .lst tTxn x.2.2.2.2.2.2.2.2.2.2.2.2.2.2.1, .lst tTxn x.2.2.2.2.2.2.2.2.2.2.2.2.2.2.2.1, .int .i64 x.2.2.2.2.2.2.2.2.2.2.2.2.2.2.2.2.1, .int .i64 x.2.2.2.2.2.2.2.2.2.2.2.2.2.2.2.2.2]])
def spec_RecordOk_je5000004 : (q30T ⊕ q36T) → Out × List AV × St := (Sum.elim (fun z => (.ret, [.bp 0 0, .bool z.1, .bool z.2.1], [.box [.int .i64 z.2.2.1, .int .i64 z.2.2.2.1, .int .i64 z.2.2.2.2.1, .int .i64 z.2.2.2.2.2.1, .int .i64 z.2.2.2.2.2.2.1, .lst tRange z.2.2.2.2.2.2.2.1, .lst tWrite z.2.2.2.2.2.2.2.2.1, .bool z.2.2.2.2.2.2.2.2.2.1, .str z.2.2.2.2.2.2.2.2.2.2.1, .str z.2.2.2.2.2.2.2.2.2.2.2.1, .bool z.2.2.2.2.2.2.2.2.2.2.2.2.1, .lst tVersion z.2.2.2.2.2.2.2.2.2.2.2.2.2.1, .lst tTxn z.2.2.2.2.2.2.2.2.2.2.2.2.2.2.1, .lst tTxn z.2.2.2.2.2.2.2.2.2.2.2.2.2.2.2.1, .int .i64 z.2.2.2.2.2.2.2.2.2.2.2.2.2.2.2.2.1, .int .i64 z.2.2.2.2.2.2.2.2.2.2.2.2.2.2.2.2.2]])) (fun z => (.ret, [.bp 0 0, .bool z.1, .dead], [.box [.int .i64 z.2.1, .int .i64 z.2.2.1, .int .i64 z.2.2.2.1, .int .i64 z.2.2.2.2.1, .int .i64 z.2.2.2.2.2.1, .lst tRange z.2.2.2.2.2.2.1, .lst tWrite z.2.2.2.2.2.2.2.1, .bool z.2.2.2.2.2.2.2.2.1, .str z.2.2.2.2.2.2.2.2.2.1, .str z.2.2.2.2.2.2.2.2.2.2.1, .bool z.2.2.2.2.2.2.2.2.2.2.2.1, .lst tVersion z.2.2.2.2.2.2.2.2.2.2.2.2.1, .lst tTxn z.2.2.2.2.2.2.2.2.2.2.2.2.2.1, .lst tTxn z.2.2.2.2.2.2.2.2.2.2.2.2.2.2.1, .int .i64 z.2.2.2.2.2.2.2.2.2.2.2.2.2.2.2.1, .int .i64 z.2.2.2.2.2.2.2.2.2.2.2.2.2.2.2.2]])))

theorem spec_RecordOk_jx5000004 (x : q30T) : exec G30 ⟨0, 87, spec_RecordOk_loops⟩ (loopBody Try.f82 5000004) (bodyK ⟨0, 87, spec_RecordOk_loops⟩ [1, 2, 3] []) (setEs (deads 87) [1, 2, 3] (spec_RecordOk_jv5000004 x)) (spec_RecordOk_js5000004 x) = spec_RecordOk_j5000004 x (fun z => some ⟨(spec_RecordOk_je5000004 z).1, (spec_RecordOk_je5000004 z).2.1, (spec_RecordOk_je5000004 z).2.2⟩) := by
  kernel_rfl

theorem spec_RecordOk_lo5000004 : ∀ sp, (spec_RecordOk_loops 5000004) = some sp → CutOk G30 ⟨0, 87, spec_RecordOk_loops⟩ sp (loopBody Try.f82 5000004) := by
  intro sp hsp vals st k r h
  cases hsp
  dsimp only at h
  rcases onPats_inv2 h with ⟨p, q, rfl, rfl, h⟩ | h
  · exact cut_runs spec_RecordOk_jp5000004 spec_RecordOk_jv5000004 spec_RecordOk_js5000004 spec_RecordOk_je5000004 spec_RecordOk_jx5000004 (p.2.1, p.2.2.1, q.1.1, q.1.2.1, q.1.2.2.1, q.1.2.2.2.1, q.1.2.2.2.2.1, q.1.2.2.2.2.2.1, q.1.2.2.2.2.2.2.1, q.1.2.2.2.2.2.2.2.1, q.1.2.2.2.2.2.2.2.2.1, q.1.2.2.2.2.2.2.2.2.2.1, q.1.2.2.2.2.2.2.2.2.2.2.1, q.1.2.2.2.2.2.2.2.2.2.2.2.1, q.1.2.2.2.2.2.2.2.2.2.2.2.2.1, q.1.2.2.2.2.2.2.2.2.2.2.2.2.2.1, q.1.2.2.2.2.2.2.2.2.2.2.2.2.2.2.1, q.1.2.2.2.2.2.2.2.2.2.2.2.2.2.2.2.1) _ k r (fun z => by rcases z with z | z <;> rfl) h
  cases h

theorem spec_RecordOk_y (a0 : Int) (a1 : Int) (a2 : Int) (a3 : Int) (a4 : Int) (a5 : (List dRange)) (a6 : (List dWrite)) (a7 : Bool) (a8 : ByteArray) (a9 : ByteArray) (a10 : Bool) (a11 : (List dVersion)) (a12 : (List dTxn)) (a13 : (List dTxn)) (a14 : Int) (a15 : Int) : execFn G30 spec_RecordOk_loops Try.f82 [.agg [.int .i64 a0, .int .i64 a1, .int .i64 a2, .int .i64 a3, .int .i64 a4, .lst tRange a5, .lst tWrite a6, .bool a7, .str a8, .str a9, .bool a10, .lst tVersion a11, .lst tTxn a12, .lst tTxn a13, .int .i64 a14, .int .i64 a15]] [] = spec_RecordOk_k (a0, ((a1, (a2, (a3, (a4, (a5, (a6, (a7, a8))))))), (a9, (a10, (a11, (a12, (a13, (a14, a15)))))))) (fun (y : Bool) => some ⟨.ret, [.bool y], []⟩) := by rw [spec_RecordOk_e]; kernel_rfl

theorem spec_RecordOk_l : LoopsOk G30 ⟨0, 87, spec_RecordOk_loops⟩ (Try.f82.body.getD .skip) :=
  loopsOk_of (ids := [5000008, 5000006, 5000004]) (by kernel_rfl) (by kernel_rfl) ⟨spec_RecordOk_lo5000008, ⟨spec_RecordOk_lo5000006, ⟨spec_RecordOk_lo5000004, trivial⟩⟩⟩

theorem spec_RecordOk_c : Contract Try.prog 82 spec_RecordOk_g := by
  refine told G30_ok follows Try.func82 (c := Try.f82.body.getD .skip) (by kernel_rfl) ?_
  intro args s k r hk
  unfold spec_RecordOk_g at hk
  rcases onPats_inv hk with ⟨p, q, rfl, rfl⟩ | hk
  · exact ⟨spec_RecordOk_loops, spec_RecordOk_q p.1.1 p.1.2.1 p.1.2.2.1 p.1.2.2.2.1 p.1.2.2.2.2.1 p.1.2.2.2.2.2.1 p.1.2.2.2.2.2.2.1 p.1.2.2.2.2.2.2.2.1 p.1.2.2.2.2.2.2.2.2.1 p.1.2.2.2.2.2.2.2.2.2.1 p.1.2.2.2.2.2.2.2.2.2.2.1 p.1.2.2.2.2.2.2.2.2.2.2.2.1 p.1.2.2.2.2.2.2.2.2.2.2.2.2.1 p.1.2.2.2.2.2.2.2.2.2.2.2.2.2.1 p.1.2.2.2.2.2.2.2.2.2.2.2.2.2.2.1 p.1.2.2.2.2.2.2.2.2.2.2.2.2.2.2.2.1, spec_RecordOk_y p.1.1 p.1.2.1 p.1.2.2.1 p.1.2.2.2.1 p.1.2.2.2.2.1 p.1.2.2.2.2.2.1 p.1.2.2.2.2.2.2.1 p.1.2.2.2.2.2.2.2.1 p.1.2.2.2.2.2.2.2.2.1 p.1.2.2.2.2.2.2.2.2.2.1 p.1.2.2.2.2.2.2.2.2.2.2.1 p.1.2.2.2.2.2.2.2.2.2.2.2.1 p.1.2.2.2.2.2.2.2.2.2.2.2.2.1 p.1.2.2.2.2.2.2.2.2.2.2.2.2.2.1 p.1.2.2.2.2.2.2.2.2.2.2.2.2.2.2.1 p.1.2.2.2.2.2.2.2.2.2.2.2.2.2.2.2.1, spec_RecordOk_l⟩
  cases hk

def G31 : Glob := G30.add 82 spec_RecordOk_g

theorem G31_ok : GlobOk Try.prog G31 := G30_ok.add ⟨Try.f82, Try.func82, by kernel_rfl, by kernel_rfl⟩ spec_RecordOk_c



def spec_l01Var_loops : Nat → Option LoopSpec
  | 0 => some ⟨[0, 3], [], fun vals st k => onPats [.int .i64, .own 0] [.arr (.int .u8)] vals st (fun p q => loopK spec_l01Var_b0 Fuel (p.1, q.1) (fun z => k (.exit 0) [.int .i64 z.1, .own 0] [.arr (.int .u8) z.2]))
      (none)⟩
  | _ => none

def spec_l01Var_v0 : (Int × (List Int)) → List AV := (fun x => [.int .i64 x.1, .own 0])
def spec_l01Var_s0 : (Int × (List Int)) → St := (fun x => [.arr (.int .u8) x.2])
def spec_l01Var_e0 : (Int × (List Int)) → Out × List AV × St := (fun z => ((.exit 0), [.int .i64 z.1, .own 0], [.arr (.int .u8) z.2]))

theorem spec_l01Var_bx0 (x : (Int × (List Int))) : exec G31 ⟨0, 22, spec_l01Var_loops⟩ (loopBody Try.f156 0) (bodyK ⟨0, 22, spec_l01Var_loops⟩ [0, 3] []) (setEs (deads 22) [0, 3] (spec_l01Var_v0 x)) (spec_l01Var_s0 x) = spec_l01Var_b0 x (Sum.elim (fun y => some ⟨.norm, spec_l01Var_v0 y, spec_l01Var_s0 y⟩) fun z => some ⟨(spec_l01Var_e0 z).1, (spec_l01Var_e0 z).2.1, (spec_l01Var_e0 z).2.2⟩) := by
  kernel_rfl

theorem spec_l01Var_lo0 : ∀ sp, (spec_l01Var_loops 0) = some sp → LoopOk G31 ⟨0, 22, spec_l01Var_loops⟩ sp (loopBody Try.f156 0) := by
  intro sp hsp vals st k r h
  cases hsp
  dsimp only at h
  rcases onPats_inv2 h with ⟨p, q, rfl, rfl, h⟩ | h
  · exact loop_runs2 spec_l01Var_bp0 spec_l01Var_v0 spec_l01Var_s0 spec_l01Var_e0 (fun z => by (intro h; cases h)) spec_l01Var_bx0 Fuel (p.1, q.1) _ k r (fun z => rfl) h
  cases h

theorem spec_l01Var_y (a0 : Int) : execFn G31 spec_l01Var_loops Try.f156 [.int .i64 a0] [] = spec_l01Var_k a0 (fun (y : ByteArray) => some ⟨.ret, [.str y], []⟩) := by rw [spec_l01Var_e]; kernel_rfl

theorem spec_l01Var_l : LoopsOk G31 ⟨0, 22, spec_l01Var_loops⟩ (Try.f156.body.getD .skip) :=
  loopsOk_of (ids := [0]) (by kernel_rfl) (by kernel_rfl) ⟨spec_l01Var_lo0, trivial⟩

theorem spec_l01Var_c : Contract Try.prog 156 spec_l01Var_g := by
  refine told G31_ok follows Try.func156 (c := Try.f156.body.getD .skip) (by kernel_rfl) ?_
  intro args s k r hk
  unfold spec_l01Var_g at hk
  rcases onPats_inv hk with ⟨p, q, rfl, rfl⟩ | hk
  · exact ⟨spec_l01Var_loops, spec_l01Var_q p.1, spec_l01Var_y p.1, spec_l01Var_l⟩
  cases hk

def G32 : Glob := G31.add 156 spec_l01Var_g

theorem G32_ok : GlobOk Try.prog G32 := G31_ok.add ⟨Try.f156, Try.func156, by kernel_rfl, by kernel_rfl⟩ spec_l01Var_c



def spec_l07Short_loops : Nat → Option LoopSpec
  | _ => none

theorem spec_l07Short_y (a0 : ByteArray) : execFn G32 spec_l07Short_loops Try.f84 [.str a0] [] = spec_l07Short_k a0 (fun (y : ByteArray) => some ⟨.ret, [.str y], []⟩) := by rw [spec_l07Short_e]; kernel_rfl

theorem spec_l07Short_l : LoopsOk G32 ⟨0, 8, spec_l07Short_loops⟩ (Try.f84.body.getD .skip) :=
  loopsOk_of (ids := []) (by kernel_rfl) (by kernel_rfl) trivial

theorem spec_l07Short_c : Contract Try.prog 84 spec_l07Short_g := by
  refine told G32_ok follows Try.func84 (c := Try.f84.body.getD .skip) (by kernel_rfl) ?_
  intro args s k r hk
  unfold spec_l07Short_g at hk
  rcases onPats_inv hk with ⟨p, q, rfl, rfl⟩ | hk
  · exact ⟨spec_l07Short_loops, spec_l07Short_q p.1, spec_l07Short_y p.1, spec_l07Short_l⟩
  cases hk

def G33 : Glob := G32.add 84 spec_l07Short_g

theorem G33_ok : GlobOk Try.prog G33 := G32_ok.add ⟨Try.f84, Try.func84, by kernel_rfl, by kernel_rfl⟩ spec_l07Short_c



def spec_l07Bit_loops : Nat → Option LoopSpec
  | _ => none

theorem spec_l07Bit_y (a0 : Bool) : execFn G33 spec_l07Bit_loops Try.f85 [.bool a0] [] = spec_l07Bit_k a0 (fun (y : ByteArray) => some ⟨.ret, [.str y], []⟩) := by rw [spec_l07Bit_e]; kernel_rfl

theorem spec_l07Bit_l : LoopsOk G33 ⟨0, 4, spec_l07Bit_loops⟩ (Try.f85.body.getD .skip) :=
  loopsOk_of (ids := []) (by kernel_rfl) (by kernel_rfl) trivial

theorem spec_l07Bit_c : Contract Try.prog 85 spec_l07Bit_g := by
  refine told G33_ok follows Try.func85 (c := Try.f85.body.getD .skip) (by kernel_rfl) ?_
  intro args s k r hk
  unfold spec_l07Bit_g at hk
  rcases onPats_inv hk with ⟨p, q, rfl, rfl⟩ | hk
  · exact ⟨spec_l07Bit_loops, spec_l07Bit_q p.1, spec_l07Bit_y p.1, spec_l07Bit_l⟩
  cases hk

def G34 : Glob := G33.add 85 spec_l07Bit_g

theorem G34_ok : GlobOk Try.prog G34 := G33_ok.add ⟨Try.f85, Try.func85, by kernel_rfl, by kernel_rfl⟩ spec_l07Bit_c



def spec_SumMore_loops : Nat → Option LoopSpec
  | 2 => some ⟨[0, 1, 5, 6], [], fun vals st k => onPats [.int .u32, .str, .int .i64, .int .i64] [] vals st (fun p q => loopK spec_SumMore_b2 Fuel (p.1, p.2.1, p.2.2.1, p.2.2.2.1) (fun z => k (.exit 2) [.int .u32 z.1, .str z.2.1, .int .i64 z.2.2.1, .int .i64 z.2.2.2] []))
      (none)⟩
  | 0 => some ⟨[0, 1, 5], [], fun vals st k => onPats [.int .u32, .str, .int .i64] [] vals st (fun p q => loopK spec_SumMore_b0 Fuel (p.1, p.2.1, p.2.2.1) (fun z => k (.exit 0) [.int .u32 z.1, .str z.2.1, .int .i64 z.2.2] []))
      (none)⟩
  | _ => none

def spec_SumMore_v2 : (Int × ByteArray × Int × Int) → List AV := (fun x => [.int .u32 x.1, .str x.2.1, .int .i64 x.2.2.1, .int .i64 x.2.2.2])
def spec_SumMore_s2 : (Int × ByteArray × Int × Int) → St := (fun x => [])
def spec_SumMore_e2 : (Int × ByteArray × Int × Int) → Out × List AV × St := (fun z => ((.exit 2), [.int .u32 z.1, .str z.2.1, .int .i64 z.2.2.1, .int .i64 z.2.2.2], []))

theorem spec_SumMore_bx2 (x : (Int × ByteArray × Int × Int)) : exec G34 ⟨0, 33, spec_SumMore_loops⟩ (loopBody Try.f218 2) (bodyK ⟨0, 33, spec_SumMore_loops⟩ [0, 1, 5, 6] []) (setEs (deads 33) [0, 1, 5, 6] (spec_SumMore_v2 x)) (spec_SumMore_s2 x) = spec_SumMore_b2 x (Sum.elim (fun y => some ⟨.norm, spec_SumMore_v2 y, spec_SumMore_s2 y⟩) fun z => some ⟨(spec_SumMore_e2 z).1, (spec_SumMore_e2 z).2.1, (spec_SumMore_e2 z).2.2⟩) := by
  kernel_rfl

theorem spec_SumMore_lo2 : ∀ sp, (spec_SumMore_loops 2) = some sp → LoopOk G34 ⟨0, 33, spec_SumMore_loops⟩ sp (loopBody Try.f218 2) := by
  intro sp hsp vals st k r h
  cases hsp
  dsimp only at h
  rcases onPats_inv2 h with ⟨p, q, rfl, rfl, h⟩ | h
  · exact loop_runs2 spec_SumMore_bp2 spec_SumMore_v2 spec_SumMore_s2 spec_SumMore_e2 (fun z => by (intro h; cases h)) spec_SumMore_bx2 Fuel (p.1, p.2.1, p.2.2.1, p.2.2.2.1) _ k r (fun z => rfl) h
  cases h

def spec_SumMore_v0 : (Int × ByteArray × Int) → List AV := (fun x => [.int .u32 x.1, .str x.2.1, .int .i64 x.2.2])
def spec_SumMore_s0 : (Int × ByteArray × Int) → St := (fun x => [])
def spec_SumMore_e0 : (Int × ByteArray × Int) → Out × List AV × St := (fun z => ((.exit 0), [.int .u32 z.1, .str z.2.1, .int .i64 z.2.2], []))

theorem spec_SumMore_bx0 (x : (Int × ByteArray × Int)) : exec G34 ⟨0, 33, spec_SumMore_loops⟩ (loopBody Try.f218 0) (bodyK ⟨0, 33, spec_SumMore_loops⟩ [0, 1, 5] []) (setEs (deads 33) [0, 1, 5] (spec_SumMore_v0 x)) (spec_SumMore_s0 x) = spec_SumMore_b0 x (Sum.elim (fun y => some ⟨.norm, spec_SumMore_v0 y, spec_SumMore_s0 y⟩) fun z => some ⟨(spec_SumMore_e0 z).1, (spec_SumMore_e0 z).2.1, (spec_SumMore_e0 z).2.2⟩) := by
  kernel_rfl

theorem spec_SumMore_lo0 : ∀ sp, (spec_SumMore_loops 0) = some sp → LoopOk G34 ⟨0, 33, spec_SumMore_loops⟩ sp (loopBody Try.f218 0) := by
  intro sp hsp vals st k r h
  cases hsp
  dsimp only at h
  rcases onPats_inv2 h with ⟨p, q, rfl, rfl, h⟩ | h
  · exact loop_runs2 spec_SumMore_bp0 spec_SumMore_v0 spec_SumMore_s0 spec_SumMore_e0 (fun z => by (intro h; cases h)) spec_SumMore_bx0 Fuel (p.1, p.2.1, p.2.2.1) _ k r (fun z => rfl) h
  cases h

theorem spec_SumMore_y (a0 : Int) (a1 : ByteArray) : execFn G34 spec_SumMore_loops Try.f218 [.int .u32 a0, .str a1] [] = spec_SumMore_k a0 a1 (fun (y : Int) => some ⟨.ret, [.int .u32 y], []⟩) := by rw [spec_SumMore_e]; kernel_rfl

theorem spec_SumMore_l : LoopsOk G34 ⟨0, 33, spec_SumMore_loops⟩ (Try.f218.body.getD .skip) :=
  loopsOk_of (ids := [2, 0]) (by kernel_rfl) (by kernel_rfl) ⟨spec_SumMore_lo2, ⟨spec_SumMore_lo0, trivial⟩⟩

theorem spec_SumMore_c : Contract Try.prog 218 spec_SumMore_g := by
  refine told G34_ok follows Try.func218 (c := Try.f218.body.getD .skip) (by kernel_rfl) ?_
  intro args s k r hk
  unfold spec_SumMore_g at hk
  rcases onPats_inv hk with ⟨p, q, rfl, rfl⟩ | hk
  · exact ⟨spec_SumMore_loops, spec_SumMore_q p.1 p.2.1, spec_SumMore_y p.1 p.2.1, spec_SumMore_l⟩
  cases hk

def G35 : Glob := G34.add 218 spec_SumMore_g

theorem G35_ok : GlobOk Try.prog G35 := G34_ok.add ⟨Try.f218, Try.func218, by kernel_rfl, by kernel_rfl⟩ spec_SumMore_c



def spec_SumOf_loops : Nat → Option LoopSpec
  | _ => none

theorem spec_SumOf_y (a0 : ByteArray) : execFn G35 spec_SumOf_loops Try.f155 [.str a0] [] = spec_SumOf_k a0 (fun (y : Int) => some ⟨.ret, [.int .u32 y], []⟩) := by rw [spec_SumOf_e]; kernel_rfl

theorem spec_SumOf_l : LoopsOk G35 ⟨0, 5, spec_SumOf_loops⟩ (Try.f155.body.getD .skip) :=
  loopsOk_of (ids := []) (by kernel_rfl) (by kernel_rfl) trivial

theorem spec_SumOf_c : Contract Try.prog 155 spec_SumOf_g := by
  refine told G35_ok follows Try.func155 (c := Try.f155.body.getD .skip) (by kernel_rfl) ?_
  intro args s k r hk
  unfold spec_SumOf_g at hk
  rcases onPats_inv hk with ⟨p, q, rfl, rfl⟩ | hk
  · exact ⟨spec_SumOf_loops, spec_SumOf_q p.1, spec_SumOf_y p.1, spec_SumOf_l⟩
  cases hk

def G36 : Glob := G35.add 155 spec_SumOf_g

theorem G36_ok : GlobOk Try.prog G36 := G35_ok.add ⟨Try.f155, Try.func155, by kernel_rfl, by kernel_rfl⟩ spec_SumOf_c



def spec_l02Four_loops : Nat → Option LoopSpec
  | _ => none

theorem spec_l02Four_y (a0 : Int) : execFn G36 spec_l02Four_loops Try.f154 [.int .u32 a0] [] = spec_l02Four_k a0 (fun (y : ByteArray) => some ⟨.ret, [.str y], []⟩) := by rw [spec_l02Four_e]; kernel_rfl

theorem spec_l02Four_l : LoopsOk G36 ⟨0, 16, spec_l02Four_loops⟩ (Try.f154.body.getD .skip) :=
  loopsOk_of (ids := []) (by kernel_rfl) (by kernel_rfl) trivial

theorem spec_l02Four_c : Contract Try.prog 154 spec_l02Four_g := by
  refine told G36_ok follows Try.func154 (c := Try.f154.body.getD .skip) (by kernel_rfl) ?_
  intro args s k r hk
  unfold spec_l02Four_g at hk
  rcases onPats_inv hk with ⟨p, q, rfl, rfl⟩ | hk
  · exact ⟨spec_l02Four_loops, spec_l02Four_q p.1, spec_l02Four_y p.1, spec_l02Four_l⟩
  cases hk

def G37 : Glob := G36.add 154 spec_l02Four_g

theorem G37_ok : GlobOk Try.prog G37 := G36_ok.add ⟨Try.f154, Try.func154, by kernel_rfl, by kernel_rfl⟩ spec_l02Four_c



def spec_Sealed_loops : Nat → Option LoopSpec
  | _ => none

theorem spec_Sealed_y (a0 : ByteArray) : execFn G37 spec_Sealed_loops Try.f83 [.str a0] [] = spec_Sealed_k a0 (fun (y : (ByteArray × Bool)) => some ⟨.ret, [.tup [.str y.1, .bool y.2]], []⟩) := by rw [spec_Sealed_e]; kernel_rfl

theorem spec_Sealed_l : LoopsOk G37 ⟨0, 12, spec_Sealed_loops⟩ (Try.f83.body.getD .skip) :=
  loopsOk_of (ids := []) (by kernel_rfl) (by kernel_rfl) trivial

theorem spec_Sealed_c : Contract Try.prog 83 spec_Sealed_g := by
  refine told G37_ok follows Try.func83 (c := Try.f83.body.getD .skip) (by kernel_rfl) ?_
  intro args s k r hk
  unfold spec_Sealed_g at hk
  rcases onPats_inv hk with ⟨p, q, rfl, rfl⟩ | hk
  · exact ⟨spec_Sealed_loops, spec_Sealed_q p.1, spec_Sealed_y p.1, spec_Sealed_l⟩
  cases hk

def G38 : Glob := G37.add 83 spec_Sealed_g

theorem G38_ok : GlobOk Try.prog G38 := G37_ok.add ⟨Try.f83, Try.func83, by kernel_rfl, by kernel_rfl⟩ spec_Sealed_c



def spec_TxnText_loops : Nat → Option LoopSpec
  | 0 => some ⟨[1, 4, 5], [], fun vals st k => onPats [.bp 0 0, .str, .int .i64] [.box [.int .i64, .int .i64, .int .i64, .int .i64, .lst tRange, .lst tWrite, .bool, .str]] vals st (fun p q => loopK spec_TxnText_b0 Fuel (p.2.1, p.2.2.1, q.1.1, q.1.2.1, q.1.2.2.1, q.1.2.2.2.1, q.1.2.2.2.2.1, q.1.2.2.2.2.2.1, q.1.2.2.2.2.2.2.1, q.1.2.2.2.2.2.2.2.1) (fun z => k (.exit 0) [.bp 0 0, .str z.1, .int .i64 z.2.1] [.box [.int .i64 z.2.2.1, .int .i64 z.2.2.2.1, .int .i64 z.2.2.2.2.1, .int .i64 z.2.2.2.2.2.1, .lst tRange z.2.2.2.2.2.2.1, .lst tWrite z.2.2.2.2.2.2.2.1, .bool z.2.2.2.2.2.2.2.2.1, .str z.2.2.2.2.2.2.2.2.2]]))
      (none)⟩
  | 2 => some ⟨[1, 4, 6], [], fun vals st k => onPats [.bp 0 0, .str, .int .i64] [.box [.int .i64, .int .i64, .int .i64, .int .i64, .lst tRange, .lst tWrite, .bool, .str]] vals st (fun p q => loopK spec_TxnText_b2 Fuel (p.2.1, p.2.2.1, q.1.1, q.1.2.1, q.1.2.2.1, q.1.2.2.2.1, q.1.2.2.2.2.1, q.1.2.2.2.2.2.1, q.1.2.2.2.2.2.2.1, q.1.2.2.2.2.2.2.2.1) (fun z => k (.exit 2) [.bp 0 0, .str z.1, .int .i64 z.2.1] [.box [.int .i64 z.2.2.1, .int .i64 z.2.2.2.1, .int .i64 z.2.2.2.2.1, .int .i64 z.2.2.2.2.2.1, .lst tRange z.2.2.2.2.2.2.1, .lst tWrite z.2.2.2.2.2.2.2.1, .bool z.2.2.2.2.2.2.2.2.1, .str z.2.2.2.2.2.2.2.2.2]]))
      (none)⟩
  | 2000003 => some ⟨[0, 2, 6, 8, 14, 16, 22, 24, 30, 32, 34, 5, 11, 12, 19, 20, 27, 28, 37, 38, 40], [], fun _ _ _ => none⟩
  | 2000007 => some ⟨[0, 2, 4, 6, 8, 10, 12, 18, 20, 22, 24, 26, 28, 15, 16, 31, 32, 34], [], fun _ _ _ => none⟩
  | 2000012 => some ⟨[0, 2, 4, 6, 8, 10, 12, 18, 20, 22, 24, 26, 28, 34, 36, 38, 40, 42, 44, 15, 16, 31, 32, 47, 48, 50], [], fun _ _ _ => none⟩
  | 2000013 => some ⟨[0, 2, 4, 10, 12, 7, 8, 15, 16, 18, 20], [], fun _ _ _ => none⟩
  | _ => none

def spec_TxnText_v0 : q41T → List AV := (fun x => [.bp 0 0, .str x.1, .int .i64 x.2.1])
def spec_TxnText_s0 : q41T → St := (fun x => [.box [.int .i64 x.2.2.1, .int .i64 x.2.2.2.1, .int .i64 x.2.2.2.2.1, .int .i64 x.2.2.2.2.2.1, .lst tRange x.2.2.2.2.2.2.1, .lst tWrite x.2.2.2.2.2.2.2.1, .bool x.2.2.2.2.2.2.2.2.1, .str x.2.2.2.2.2.2.2.2.2]])
def spec_TxnText_e0 : q41T → Out × List AV × St := (fun z => ((.exit 0), [.bp 0 0, .str z.1, .int .i64 z.2.1], [.box [.int .i64 z.2.2.1, .int .i64 z.2.2.2.1, .int .i64 z.2.2.2.2.1, .int .i64 z.2.2.2.2.2.1, .lst tRange z.2.2.2.2.2.2.1, .lst tWrite z.2.2.2.2.2.2.2.1, .bool z.2.2.2.2.2.2.2.2.1, .str z.2.2.2.2.2.2.2.2.2]]))

theorem spec_TxnText_bx0 (x : q41T) : exec G38 ⟨0, 101, spec_TxnText_loops⟩ (loopBody Try.f87 0) (bodyK ⟨0, 101, spec_TxnText_loops⟩ [1, 4, 5] []) (setEs (deads 101) [1, 4, 5] (spec_TxnText_v0 x)) (spec_TxnText_s0 x) = spec_TxnText_b0 x (Sum.elim (fun y => some ⟨.norm, spec_TxnText_v0 y, spec_TxnText_s0 y⟩) fun z => some ⟨(spec_TxnText_e0 z).1, (spec_TxnText_e0 z).2.1, (spec_TxnText_e0 z).2.2⟩) := by
  kernel_rfl

theorem spec_TxnText_lo0 : ∀ sp, (spec_TxnText_loops 0) = some sp → LoopOk G38 ⟨0, 101, spec_TxnText_loops⟩ sp (loopBody Try.f87 0) := by
  intro sp hsp vals st k r h
  cases hsp
  dsimp only at h
  rcases onPats_inv2 h with ⟨p, q, rfl, rfl, h⟩ | h
  · exact loop_runs2 spec_TxnText_bp0 spec_TxnText_v0 spec_TxnText_s0 spec_TxnText_e0 (fun z => by (intro h; cases h)) spec_TxnText_bx0 Fuel (p.2.1, p.2.2.1, q.1.1, q.1.2.1, q.1.2.2.1, q.1.2.2.2.1, q.1.2.2.2.2.1, q.1.2.2.2.2.2.1, q.1.2.2.2.2.2.2.1, q.1.2.2.2.2.2.2.2.1) _ k r (fun z => rfl) h
  cases h

def spec_TxnText_v2 : q41T → List AV := (fun x => [.bp 0 0, .str x.1, .int .i64 x.2.1])
def spec_TxnText_s2 : q41T → St := (fun x => [.box [.int .i64 x.2.2.1, .int .i64 x.2.2.2.1, .int .i64 x.2.2.2.2.1, .int .i64 x.2.2.2.2.2.1, .lst tRange x.2.2.2.2.2.2.1, .lst tWrite x.2.2.2.2.2.2.2.1, .bool x.2.2.2.2.2.2.2.2.1, .str x.2.2.2.2.2.2.2.2.2]])
def spec_TxnText_e2 : q41T → Out × List AV × St := (fun z => ((.exit 2), [.bp 0 0, .str z.1, .int .i64 z.2.1], [.box [.int .i64 z.2.2.1, .int .i64 z.2.2.2.1, .int .i64 z.2.2.2.2.1, .int .i64 z.2.2.2.2.2.1, .lst tRange z.2.2.2.2.2.2.1, .lst tWrite z.2.2.2.2.2.2.2.1, .bool z.2.2.2.2.2.2.2.2.1, .str z.2.2.2.2.2.2.2.2.2]]))

theorem spec_TxnText_bx2 (x : q41T) : exec G38 ⟨0, 101, spec_TxnText_loops⟩ (loopBody Try.f87 2) (bodyK ⟨0, 101, spec_TxnText_loops⟩ [1, 4, 6] []) (setEs (deads 101) [1, 4, 6] (spec_TxnText_v2 x)) (spec_TxnText_s2 x) = spec_TxnText_b2 x (Sum.elim (fun y => some ⟨.norm, spec_TxnText_v2 y, spec_TxnText_s2 y⟩) fun z => some ⟨(spec_TxnText_e2 z).1, (spec_TxnText_e2 z).2.1, (spec_TxnText_e2 z).2.2⟩) := by
  kernel_rfl

theorem spec_TxnText_lo2 : ∀ sp, (spec_TxnText_loops 2) = some sp → LoopOk G38 ⟨0, 101, spec_TxnText_loops⟩ sp (loopBody Try.f87 2) := by
  intro sp hsp vals st k r h
  cases hsp
  dsimp only at h
  rcases onPats_inv2 h with ⟨p, q, rfl, rfl, h⟩ | h
  · exact loop_runs2 spec_TxnText_bp2 spec_TxnText_v2 spec_TxnText_s2 spec_TxnText_e2 (fun z => by (intro h; cases h)) spec_TxnText_bx2 Fuel (p.2.1, p.2.2.1, q.1.1, q.1.2.1, q.1.2.2.1, q.1.2.2.2.1, q.1.2.2.2.2.1, q.1.2.2.2.2.2.1, q.1.2.2.2.2.2.2.1, q.1.2.2.2.2.2.2.2.1) _ k r (fun z => rfl) h
  cases h

theorem spec_TxnText_y (a0 : Int) (a1 : Int) (a2 : Int) (a3 : Int) (a4 : (List dRange)) (a5 : (List dWrite)) (a6 : Bool) (a7 : ByteArray) : execFn G38 spec_TxnText_loops Try.f87 [.agg [.int .i64 a0, .int .i64 a1, .int .i64 a2, .int .i64 a3, .lst tRange a4, .lst tWrite a5, .bool a6, .str a7]] [] = spec_TxnText_k (a0, (a1, (a2, (a3, (a4, (a5, (a6, a7))))))) (fun (y : (ByteArray × Bool)) => some ⟨.ret, [.tup [.str y.1, .bool y.2]], []⟩) := by rw [spec_TxnText_e]; kernel_rfl

theorem spec_TxnText_l : LoopsOk G38 ⟨0, 101, spec_TxnText_loops⟩ (Try.f87.body.getD .skip) :=
  loopsOk_of (ids := [0, 2]) (by kernel_rfl) (by kernel_rfl) ⟨spec_TxnText_lo0, ⟨spec_TxnText_lo2, trivial⟩⟩

theorem spec_TxnText_c : Contract Try.prog 87 spec_TxnText_g := by
  refine told G38_ok follows Try.func87 (c := Try.f87.body.getD .skip) (by kernel_rfl) ?_
  intro args s k r hk
  unfold spec_TxnText_g at hk
  rcases onPats_inv hk with ⟨p, q, rfl, rfl⟩ | hk
  · exact ⟨spec_TxnText_loops, spec_TxnText_q p.1.1 p.1.2.1 p.1.2.2.1 p.1.2.2.2.1 p.1.2.2.2.2.1 p.1.2.2.2.2.2.1 p.1.2.2.2.2.2.2.1 p.1.2.2.2.2.2.2.2.1, spec_TxnText_y p.1.1 p.1.2.1 p.1.2.2.1 p.1.2.2.2.1 p.1.2.2.2.2.1 p.1.2.2.2.2.2.1 p.1.2.2.2.2.2.2.1 p.1.2.2.2.2.2.2.2.1, spec_TxnText_l⟩
  cases hk

def G39 : Glob := G38.add 87 spec_TxnText_g

theorem G39_ok : GlobOk Try.prog G39 := G38_ok.add ⟨Try.f87, Try.func87, by kernel_rfl, by kernel_rfl⟩ spec_TxnText_c



def spec_l10Txns_loops : Nat → Option LoopSpec
  | 0 => some ⟨[0, 3, 4], [], fun vals st k => onPats [.lst tTxn, .str, .int .i64] [] vals st (fun p q => loopK spec_l10Txns_b0 Fuel (p.1, p.2.1, p.2.2.1) (fun z => k (.exit 0) [.lst tTxn z.1, .str z.2.1, .int .i64 z.2.2] []))
      (none)⟩
  | _ => none

def spec_l10Txns_v0 : q9T → List AV := (fun x => [.lst tTxn x.1, .str x.2.1, .int .i64 x.2.2])
def spec_l10Txns_s0 : q9T → St := (fun x => [])
def spec_l10Txns_e0 : q9T → Out × List AV × St := (fun z => ((.exit 0), [.lst tTxn z.1, .str z.2.1, .int .i64 z.2.2], []))

theorem spec_l10Txns_bx0 (x : q9T) : exec G39 ⟨0, 28, spec_l10Txns_loops⟩ (loopBody Try.f157 0) (bodyK ⟨0, 28, spec_l10Txns_loops⟩ [0, 3, 4] []) (setEs (deads 28) [0, 3, 4] (spec_l10Txns_v0 x)) (spec_l10Txns_s0 x) = spec_l10Txns_b0 x (Sum.elim (fun y => some ⟨.norm, spec_l10Txns_v0 y, spec_l10Txns_s0 y⟩) fun z => some ⟨(spec_l10Txns_e0 z).1, (spec_l10Txns_e0 z).2.1, (spec_l10Txns_e0 z).2.2⟩) := by
  kernel_rfl

theorem spec_l10Txns_lo0 : ∀ sp, (spec_l10Txns_loops 0) = some sp → LoopOk G39 ⟨0, 28, spec_l10Txns_loops⟩ sp (loopBody Try.f157 0) := by
  intro sp hsp vals st k r h
  cases hsp
  dsimp only at h
  rcases onPats_inv2 h with ⟨p, q, rfl, rfl, h⟩ | h
  · exact loop_runs2 spec_l10Txns_bp0 spec_l10Txns_v0 spec_l10Txns_s0 spec_l10Txns_e0 (fun z => by (intro h; cases h)) spec_l10Txns_bx0 Fuel (p.1, p.2.1, p.2.2.1) _ k r (fun z => rfl) h
  cases h

theorem spec_l10Txns_y (a0 : (List dTxn)) : execFn G39 spec_l10Txns_loops Try.f157 [.lst tTxn a0] [] = spec_l10Txns_k a0 (fun (y : ByteArray) => some ⟨.ret, [.str y], []⟩) := by rw [spec_l10Txns_e]; kernel_rfl

theorem spec_l10Txns_l : LoopsOk G39 ⟨0, 28, spec_l10Txns_loops⟩ (Try.f157.body.getD .skip) :=
  loopsOk_of (ids := [0]) (by kernel_rfl) (by kernel_rfl) ⟨spec_l10Txns_lo0, trivial⟩

theorem spec_l10Txns_c : Contract Try.prog 157 spec_l10Txns_g := by
  refine told G39_ok follows Try.func157 (c := Try.f157.body.getD .skip) (by kernel_rfl) ?_
  intro args s k r hk
  unfold spec_l10Txns_g at hk
  rcases onPats_inv hk with ⟨p, q, rfl, rfl⟩ | hk
  · exact ⟨spec_l10Txns_loops, spec_l10Txns_q p.1, spec_l10Txns_y p.1, spec_l10Txns_l⟩
  cases hk

def G40 : Glob := G39.add 157 spec_l10Txns_g

theorem G40_ok : GlobOk Try.prog G40 := G39_ok.add ⟨Try.f157, Try.func157, by kernel_rfl, by kernel_rfl⟩ spec_l10Txns_c



def spec_BaseText_loops : Nat → Option LoopSpec
  | 0 => some ⟨[1, 4, 5], [], fun vals st k => onPats [.bp 0 0, .str, .int .i64] [.box [.lst tVersion, .lst tTxn, .lst tTxn, .int .i64, .int .i64]] vals st (fun p q => loopK spec_BaseText_b0 Fuel (p.2.1, p.2.2.1, q.1.1, q.1.2.1, q.1.2.2.1, q.1.2.2.2.1, q.1.2.2.2.2.1) (fun z => k (.exit 0) [.bp 0 0, .str z.1, .int .i64 z.2.1] [.box [.lst tVersion z.2.2.1, .lst tTxn z.2.2.2.1, .lst tTxn z.2.2.2.2.1, .int .i64 z.2.2.2.2.2.1, .int .i64 z.2.2.2.2.2.2]]))
      (none)⟩
  | 2000003 => some ⟨[0, 2, 6, 8, 14, 16, 18, 5, 11, 12, 21, 22, 24], [], fun _ _ _ => none⟩
  | 2000008 => some ⟨[0, 2, 4, 10, 12, 18, 20, 26, 28, 7, 8, 15, 16, 23, 24, 31, 32, 34], [], fun _ _ _ => none⟩
  | 2000009 => some ⟨[0, 2, 4, 10, 12, 7, 8, 15, 16, 18, 20], [], fun _ _ _ => none⟩
  | _ => none

def spec_BaseText_v0 : q40T → List AV := (fun x => [.bp 0 0, .str x.1, .int .i64 x.2.1])
def spec_BaseText_s0 : q40T → St := (fun x => [.box [.lst tVersion x.2.2.1, .lst tTxn x.2.2.2.1, .lst tTxn x.2.2.2.2.1, .int .i64 x.2.2.2.2.2.1, .int .i64 x.2.2.2.2.2.2]])
def spec_BaseText_e0 : q40T → Out × List AV × St := (fun z => ((.exit 0), [.bp 0 0, .str z.1, .int .i64 z.2.1], [.box [.lst tVersion z.2.2.1, .lst tTxn z.2.2.2.1, .lst tTxn z.2.2.2.2.1, .int .i64 z.2.2.2.2.2.1, .int .i64 z.2.2.2.2.2.2]]))

theorem spec_BaseText_bx0 (x : q40T) : exec G40 ⟨0, 60, spec_BaseText_loops⟩ (loopBody Try.f86 0) (bodyK ⟨0, 60, spec_BaseText_loops⟩ [1, 4, 5] []) (setEs (deads 60) [1, 4, 5] (spec_BaseText_v0 x)) (spec_BaseText_s0 x) = spec_BaseText_b0 x (Sum.elim (fun y => some ⟨.norm, spec_BaseText_v0 y, spec_BaseText_s0 y⟩) fun z => some ⟨(spec_BaseText_e0 z).1, (spec_BaseText_e0 z).2.1, (spec_BaseText_e0 z).2.2⟩) := by
  kernel_rfl

theorem spec_BaseText_lo0 : ∀ sp, (spec_BaseText_loops 0) = some sp → LoopOk G40 ⟨0, 60, spec_BaseText_loops⟩ sp (loopBody Try.f86 0) := by
  intro sp hsp vals st k r h
  cases hsp
  dsimp only at h
  rcases onPats_inv2 h with ⟨p, q, rfl, rfl, h⟩ | h
  · exact loop_runs2 spec_BaseText_bp0 spec_BaseText_v0 spec_BaseText_s0 spec_BaseText_e0 (fun z => by (intro h; cases h)) spec_BaseText_bx0 Fuel (p.2.1, p.2.2.1, q.1.1, q.1.2.1, q.1.2.2.1, q.1.2.2.2.1, q.1.2.2.2.2.1) _ k r (fun z => rfl) h
  cases h

theorem spec_BaseText_y (a0 : (List dVersion)) (a1 : (List dTxn)) (a2 : (List dTxn)) (a3 : Int) (a4 : Int) : execFn G40 spec_BaseText_loops Try.f86 [.agg [.lst tVersion a0, .lst tTxn a1, .lst tTxn a2, .int .i64 a3, .int .i64 a4]] [] = spec_BaseText_k (a0, (a1, (a2, (a3, a4)))) (fun (y : (ByteArray × Bool)) => some ⟨.ret, [.tup [.str y.1, .bool y.2]], []⟩) := by rw [spec_BaseText_e]; kernel_rfl

theorem spec_BaseText_l : LoopsOk G40 ⟨0, 60, spec_BaseText_loops⟩ (Try.f86.body.getD .skip) :=
  loopsOk_of (ids := [0]) (by kernel_rfl) (by kernel_rfl) ⟨spec_BaseText_lo0, trivial⟩

theorem spec_BaseText_c : Contract Try.prog 86 spec_BaseText_g := by
  refine told G40_ok follows Try.func86 (c := Try.f86.body.getD .skip) (by kernel_rfl) ?_
  intro args s k r hk
  unfold spec_BaseText_g at hk
  rcases onPats_inv hk with ⟨p, q, rfl, rfl⟩ | hk
  · exact ⟨spec_BaseText_loops, spec_BaseText_q p.1.1 p.1.2.1 p.1.2.2.1 p.1.2.2.2.1 p.1.2.2.2.2.1, spec_BaseText_y p.1.1 p.1.2.1 p.1.2.2.1 p.1.2.2.2.1 p.1.2.2.2.2.1, spec_BaseText_l⟩
  cases hk

def G41 : Glob := G40.add 86 spec_BaseText_g

theorem G41_ok : GlobOk Try.prog G41 := G40_ok.add ⟨Try.f86, Try.func86, by kernel_rfl, by kernel_rfl⟩ spec_BaseText_c



def spec_RecordText_loops : Nat → Option LoopSpec
  | 2000006 => some ⟨[0, 2, 4, 10, 12, 7, 8, 15, 16, 19, 20, 22, 24, 26], [], fun _ _ _ => none⟩
  | _ => none

theorem spec_RecordText_y (a0 : Int) (a1 : Int) (a2 : Int) (a3 : Int) (a4 : Int) (a5 : (List dRange)) (a6 : (List dWrite)) (a7 : Bool) (a8 : ByteArray) (a9 : ByteArray) (a10 : Bool) (a11 : (List dVersion)) (a12 : (List dTxn)) (a13 : (List dTxn)) (a14 : Int) (a15 : Int) : execFn G41 spec_RecordText_loops Try.f25 [.agg [.int .i64 a0, .int .i64 a1, .int .i64 a2, .int .i64 a3, .int .i64 a4, .lst tRange a5, .lst tWrite a6, .bool a7, .str a8, .str a9, .bool a10, .lst tVersion a11, .lst tTxn a12, .lst tTxn a13, .int .i64 a14, .int .i64 a15]] [] = spec_RecordText_k (a0, ((a1, (a2, (a3, (a4, (a5, (a6, (a7, a8))))))), (a9, (a10, (a11, (a12, (a13, (a14, a15)))))))) (fun (y : (ByteArray × Bool)) => some ⟨.ret, [.tup [.str y.1, .bool y.2]], []⟩) := by rw [spec_RecordText_e]; kernel_rfl

theorem spec_RecordText_l : LoopsOk G41 ⟨0, 59, spec_RecordText_loops⟩ (Try.f25.body.getD .skip) :=
  loopsOk_of (ids := []) (by kernel_rfl) (by kernel_rfl) trivial

theorem spec_RecordText_c : Contract Try.prog 25 spec_RecordText_g := by
  refine told G41_ok follows Try.func25 (c := Try.f25.body.getD .skip) (by kernel_rfl) ?_
  intro args s k r hk
  unfold spec_RecordText_g at hk
  rcases onPats_inv hk with ⟨p, q, rfl, rfl⟩ | hk
  · exact ⟨spec_RecordText_loops, spec_RecordText_q p.1.1 p.1.2.1 p.1.2.2.1 p.1.2.2.2.1 p.1.2.2.2.2.1 p.1.2.2.2.2.2.1 p.1.2.2.2.2.2.2.1 p.1.2.2.2.2.2.2.2.1 p.1.2.2.2.2.2.2.2.2.1 p.1.2.2.2.2.2.2.2.2.2.1 p.1.2.2.2.2.2.2.2.2.2.2.1 p.1.2.2.2.2.2.2.2.2.2.2.2.1 p.1.2.2.2.2.2.2.2.2.2.2.2.2.1 p.1.2.2.2.2.2.2.2.2.2.2.2.2.2.1 p.1.2.2.2.2.2.2.2.2.2.2.2.2.2.2.1 p.1.2.2.2.2.2.2.2.2.2.2.2.2.2.2.2.1, spec_RecordText_y p.1.1 p.1.2.1 p.1.2.2.1 p.1.2.2.2.1 p.1.2.2.2.2.1 p.1.2.2.2.2.2.1 p.1.2.2.2.2.2.2.1 p.1.2.2.2.2.2.2.2.1 p.1.2.2.2.2.2.2.2.2.1 p.1.2.2.2.2.2.2.2.2.2.1 p.1.2.2.2.2.2.2.2.2.2.2.1 p.1.2.2.2.2.2.2.2.2.2.2.2.1 p.1.2.2.2.2.2.2.2.2.2.2.2.2.1 p.1.2.2.2.2.2.2.2.2.2.2.2.2.2.1 p.1.2.2.2.2.2.2.2.2.2.2.2.2.2.2.1 p.1.2.2.2.2.2.2.2.2.2.2.2.2.2.2.2.1, spec_RecordText_l⟩
  cases hk

def G42 : Glob := G41.add 25 spec_RecordText_g

theorem G42_ok : GlobOk Try.prog G42 := G41_ok.add ⟨Try.f25, Try.func25, by kernel_rfl, by kernel_rfl⟩ spec_RecordText_c



def impl_emptyTxn_loops : Nat → Option LoopSpec
  | _ => none

theorem impl_emptyTxn_y (a0 : Int) (a1 : Int) (a2 : Int) (a3 : Int) (a4 : (List dRange)) (a5 : (List dWrite)) (a6 : Bool) (a7 : ByteArray) : execFn G42 impl_emptyTxn_loops Try.f158 [.agg [.int .i64 a0, .int .i64 a1, .int .i64 a2, .int .i64 a3, .lst tRange a4, .lst tWrite a5, .bool a6, .str a7]] [] = impl_emptyTxn_k (a0, (a1, (a2, (a3, (a4, (a5, (a6, a7))))))) (fun (y : Bool) => some ⟨.ret, [.bool y], []⟩) := by rw [impl_emptyTxn_e]; kernel_rfl

theorem impl_emptyTxn_l : LoopsOk G42 ⟨0, 43, impl_emptyTxn_loops⟩ (Try.f158.body.getD .skip) :=
  loopsOk_of (ids := []) (by kernel_rfl) (by kernel_rfl) trivial

theorem impl_emptyTxn_c : Contract Try.prog 158 impl_emptyTxn_g := by
  refine told G42_ok follows Try.func158 (c := Try.f158.body.getD .skip) (by kernel_rfl) ?_
  intro args s k r hk
  unfold impl_emptyTxn_g at hk
  rcases onPats_inv hk with ⟨p, q, rfl, rfl⟩ | hk
  · exact ⟨impl_emptyTxn_loops, impl_emptyTxn_q p.1.1 p.1.2.1 p.1.2.2.1 p.1.2.2.2.1 p.1.2.2.2.2.1 p.1.2.2.2.2.2.1 p.1.2.2.2.2.2.2.1 p.1.2.2.2.2.2.2.2.1, impl_emptyTxn_y p.1.1 p.1.2.1 p.1.2.2.1 p.1.2.2.2.1 p.1.2.2.2.2.1 p.1.2.2.2.2.2.1 p.1.2.2.2.2.2.2.1 p.1.2.2.2.2.2.2.2.1, impl_emptyTxn_l⟩
  cases hk

def G43 : Glob := G42.add 158 impl_emptyTxn_g

theorem G43_ok : GlobOk Try.prog G43 := G42_ok.add ⟨Try.f158, Try.func158, by kernel_rfl, by kernel_rfl⟩ impl_emptyTxn_c



def impl_emptyBase_loops : Nat → Option LoopSpec
  | _ => none

theorem impl_emptyBase_y (a0 : (List dVersion)) (a1 : (List dTxn)) (a2 : (List dTxn)) (a3 : Int) (a4 : Int) : execFn G43 impl_emptyBase_loops Try.f159 [.agg [.lst tVersion a0, .lst tTxn a1, .lst tTxn a2, .int .i64 a3, .int .i64 a4]] [] = impl_emptyBase_k (a0, (a1, (a2, (a3, a4)))) (fun (y : Bool) => some ⟨.ret, [.bool y], []⟩) := by rw [impl_emptyBase_e]; kernel_rfl

theorem impl_emptyBase_l : LoopsOk G43 ⟨0, 29, impl_emptyBase_loops⟩ (Try.f159.body.getD .skip) :=
  loopsOk_of (ids := []) (by kernel_rfl) (by kernel_rfl) trivial

theorem impl_emptyBase_c : Contract Try.prog 159 impl_emptyBase_g := by
  refine told G43_ok follows Try.func159 (c := Try.f159.body.getD .skip) (by kernel_rfl) ?_
  intro args s k r hk
  unfold impl_emptyBase_g at hk
  rcases onPats_inv hk with ⟨p, q, rfl, rfl⟩ | hk
  · exact ⟨impl_emptyBase_loops, impl_emptyBase_q p.1.1 p.1.2.1 p.1.2.2.1 p.1.2.2.2.1 p.1.2.2.2.2.1, impl_emptyBase_y p.1.1 p.1.2.1 p.1.2.2.1 p.1.2.2.2.1 p.1.2.2.2.2.1, impl_emptyBase_l⟩
  cases hk

def G44 : Glob := G43.add 159 impl_emptyBase_g

theorem G44_ok : GlobOk Try.prog G44 := G43_ok.add ⟨Try.f159, Try.func159, by kernel_rfl, by kernel_rfl⟩ impl_emptyBase_c



def impl_within_loops : Nat → Option LoopSpec
  | _ => none

theorem impl_within_y (a0 : Int) (a1 : Int) (a2 : Int) : execFn G44 impl_within_loops Try.f124 [.int .i64 a0, .int .i64 a1, .int .i64 a2] [] = impl_within_k a0 a1 a2 (fun (y : Bool) => some ⟨.ret, [.bool y], []⟩) := by rw [impl_within_e]; kernel_rfl

theorem impl_within_l : LoopsOk G44 ⟨0, 15, impl_within_loops⟩ (Try.f124.body.getD .skip) :=
  loopsOk_of (ids := []) (by kernel_rfl) (by kernel_rfl) trivial

theorem impl_within_c : Contract Try.prog 124 impl_within_g := by
  refine told G44_ok follows Try.func124 (c := Try.f124.body.getD .skip) (by kernel_rfl) ?_
  intro args s k r hk
  unfold impl_within_g at hk
  rcases onPats_inv hk with ⟨p, q, rfl, rfl⟩ | hk
  · exact ⟨impl_within_loops, impl_within_q p.1 p.2.1 p.2.2.1, impl_within_y p.1 p.2.1 p.2.2.1, impl_within_l⟩
  cases hk

def G45 : Glob := G44.add 124 impl_within_g

theorem G45_ok : GlobOk Try.prog G45 := G44_ok.add ⟨Try.f124, Try.func124, by kernel_rfl, by kernel_rfl⟩ impl_within_c



def impl_KeyOk_loops : Nat → Option LoopSpec
  | 0 => some ⟨[0, 2, 3], [], fun vals st k => onPats [.str, .bool, .int .i64] [] vals st (fun p q => loopK impl_KeyOk_b0 Fuel (p.1, p.2.1, p.2.2.1) (Sum.elim (fun z => k .ret [.str z.1, .bool z.2.1, .int .i64 z.2.2] []) (fun z => k (.exit 0) [.str z.1, .bool z.2.1, .int .i64 z.2.2] [])))
      (none)⟩
  | _ => none

def impl_KeyOk_v0 : (ByteArray × Bool × Int) → List AV := (fun x => [.str x.1, .bool x.2.1, .int .i64 x.2.2])
def impl_KeyOk_s0 : (ByteArray × Bool × Int) → St := (fun x => [])
def impl_KeyOk_e0 : ((ByteArray × Bool × Int) ⊕ (ByteArray × Bool × Int)) → Out × List AV × St := (Sum.elim (fun z => (.ret, [.str z.1, .bool z.2.1, .int .i64 z.2.2], [])) (fun z => ((.exit 0), [.str z.1, .bool z.2.1, .int .i64 z.2.2], [])))

theorem impl_KeyOk_bx0 (x : (ByteArray × Bool × Int)) : exec G45 ⟨0, 23, impl_KeyOk_loops⟩ (loopBody Try.f126 0) (bodyK ⟨0, 23, impl_KeyOk_loops⟩ [0, 2, 3] []) (setEs (deads 23) [0, 2, 3] (impl_KeyOk_v0 x)) (impl_KeyOk_s0 x) = impl_KeyOk_b0 x (Sum.elim (fun y => some ⟨.norm, impl_KeyOk_v0 y, impl_KeyOk_s0 y⟩) fun z => some ⟨(impl_KeyOk_e0 z).1, (impl_KeyOk_e0 z).2.1, (impl_KeyOk_e0 z).2.2⟩) := by
  kernel_rfl

theorem impl_KeyOk_lo0 : ∀ sp, (impl_KeyOk_loops 0) = some sp → LoopOk G45 ⟨0, 23, impl_KeyOk_loops⟩ sp (loopBody Try.f126 0) := by
  intro sp hsp vals st k r h
  cases hsp
  dsimp only at h
  rcases onPats_inv2 h with ⟨p, q, rfl, rfl, h⟩ | h
  · exact loop_runs2 impl_KeyOk_bp0 impl_KeyOk_v0 impl_KeyOk_s0 impl_KeyOk_e0 (fun z => by rcases z with z | z <;> (intro h; cases h)) impl_KeyOk_bx0 Fuel (p.1, p.2.1, p.2.2.1) _ k r (fun z => by rcases z with z | z <;> rfl) h
  cases h

theorem impl_KeyOk_y (a0 : ByteArray) : execFn G45 impl_KeyOk_loops Try.f126 [.str a0] [] = impl_KeyOk_k a0 (fun (y : Bool) => some ⟨.ret, [.bool y], []⟩) := by rw [impl_KeyOk_e]; kernel_rfl

theorem impl_KeyOk_l : LoopsOk G45 ⟨0, 23, impl_KeyOk_loops⟩ (Try.f126.body.getD .skip) :=
  loopsOk_of (ids := [0]) (by kernel_rfl) (by kernel_rfl) ⟨impl_KeyOk_lo0, trivial⟩

theorem impl_KeyOk_c : Contract Try.prog 126 impl_KeyOk_g := by
  refine told G45_ok follows Try.func126 (c := Try.f126.body.getD .skip) (by kernel_rfl) ?_
  intro args s k r hk
  unfold impl_KeyOk_g at hk
  rcases onPats_inv hk with ⟨p, q, rfl, rfl⟩ | hk
  · exact ⟨impl_KeyOk_loops, impl_KeyOk_q p.1, impl_KeyOk_y p.1, impl_KeyOk_l⟩
  cases hk

def G46 : Glob := G45.add 126 impl_KeyOk_g

theorem G46_ok : GlobOk Try.prog G46 := G45_ok.add ⟨Try.f126, Try.func126, by kernel_rfl, by kernel_rfl⟩ impl_KeyOk_c



def impl_RangeOk_loops : Nat → Option LoopSpec
  | _ => none

theorem impl_RangeOk_y (a0 : ByteArray) (a1 : ByteArray) : execFn G46 impl_RangeOk_loops Try.f106 [.agg [.str a0, .str a1]] [] = impl_RangeOk_k (a0, a1) (fun (y : Bool) => some ⟨.ret, [.bool y], []⟩) := by rw [impl_RangeOk_e]; kernel_rfl

theorem impl_RangeOk_l : LoopsOk G46 ⟨0, 18, impl_RangeOk_loops⟩ (Try.f106.body.getD .skip) :=
  loopsOk_of (ids := []) (by kernel_rfl) (by kernel_rfl) trivial

theorem impl_RangeOk_c : Contract Try.prog 106 impl_RangeOk_g := by
  refine told G46_ok follows Try.func106 (c := Try.f106.body.getD .skip) (by kernel_rfl) ?_
  intro args s k r hk
  unfold impl_RangeOk_g at hk
  rcases onPats_inv hk with ⟨p, q, rfl, rfl⟩ | hk
  · exact ⟨impl_RangeOk_loops, impl_RangeOk_q p.1.1 p.1.2.1, impl_RangeOk_y p.1.1 p.1.2.1, impl_RangeOk_l⟩
  cases hk

def G47 : Glob := G46.add 106 impl_RangeOk_g

theorem G47_ok : GlobOk Try.prog G47 := G46_ok.add ⟨Try.f106, Try.func106, by kernel_rfl, by kernel_rfl⟩ impl_RangeOk_c



def impl_WriteOk_loops : Nat → Option LoopSpec
  | _ => none

theorem impl_WriteOk_y (a0 : ByteArray) (a1 : ByteArray) (a2 : Bool) : execFn G47 impl_WriteOk_loops Try.f112 [.agg [.str a0, .str a1, .bool a2]] [] = impl_WriteOk_k (a0, (a1, a2)) (fun (y : Bool) => some ⟨.ret, [.bool y], []⟩) := by rw [impl_WriteOk_e]; kernel_rfl

theorem impl_WriteOk_l : LoopsOk G47 ⟨0, 22, impl_WriteOk_loops⟩ (Try.f112.body.getD .skip) :=
  loopsOk_of (ids := []) (by kernel_rfl) (by kernel_rfl) trivial

theorem impl_WriteOk_c : Contract Try.prog 112 impl_WriteOk_g := by
  refine told G47_ok follows Try.func112 (c := Try.f112.body.getD .skip) (by kernel_rfl) ?_
  intro args s k r hk
  unfold impl_WriteOk_g at hk
  rcases onPats_inv hk with ⟨p, q, rfl, rfl⟩ | hk
  · exact ⟨impl_WriteOk_loops, impl_WriteOk_q p.1.1 p.1.2.1 p.1.2.2.1, impl_WriteOk_y p.1.1 p.1.2.1 p.1.2.2.1, impl_WriteOk_l⟩
  cases hk

def G48 : Glob := G47.add 112 impl_WriteOk_g

theorem G48_ok : GlobOk Try.prog G48 := G47_ok.add ⟨Try.f112, Try.func112, by kernel_rfl, by kernel_rfl⟩ impl_WriteOk_c



def impl_WritesOk_loops : Nat → Option LoopSpec
  | 0 => some ⟨[0, 2, 5, 6, 7], [], fun vals st k => onPats [.lst tWrite, .bool, .lst tWrite, .int .i64, .int .i64] [] vals st (fun p q => loopK impl_WritesOk_b0 Fuel (p.1, p.2.1, p.2.2.1, p.2.2.2.1, p.2.2.2.2.1) (Sum.elim (fun z => k .ret [.lst tWrite z.1, .bool z.2.1, .lst tWrite z.2.2.1, .int .i64 z.2.2.2.1, .int .i64 z.2.2.2.2] []) (fun z => k (.exit 0) [.lst tWrite z.1, .bool z.2.1, .lst tWrite z.2.2.1, .int .i64 z.2.2.2.1, .int .i64 z.2.2.2.2] [])))
      (none)⟩
  | 2000004 => some ⟨[0, 3, 4, 6, 8, 10, 12, 14, 16, 18, 20, 22, 24, 26, 28, 30, 32, 34], [], fun _ _ _ => none⟩
  | _ => none

def impl_WritesOk_v0 : q21T → List AV := (fun x => [.lst tWrite x.1, .bool x.2.1, .lst tWrite x.2.2.1, .int .i64 x.2.2.2.1, .int .i64 x.2.2.2.2])
def impl_WritesOk_s0 : q21T → St := (fun x => [])
def impl_WritesOk_e0 : (q21T ⊕ q21T) → Out × List AV × St := (Sum.elim (fun z => (.ret, [.lst tWrite z.1, .bool z.2.1, .lst tWrite z.2.2.1, .int .i64 z.2.2.2.1, .int .i64 z.2.2.2.2], [])) (fun z => ((.exit 0), [.lst tWrite z.1, .bool z.2.1, .lst tWrite z.2.2.1, .int .i64 z.2.2.2.1, .int .i64 z.2.2.2.2], [])))

theorem impl_WritesOk_bx0 (x : q21T) : exec G48 ⟨0, 34, impl_WritesOk_loops⟩ (loopBody Try.f125 0) (bodyK ⟨0, 34, impl_WritesOk_loops⟩ [0, 2, 5, 6, 7] []) (setEs (deads 34) [0, 2, 5, 6, 7] (impl_WritesOk_v0 x)) (impl_WritesOk_s0 x) = impl_WritesOk_b0 x (Sum.elim (fun y => some ⟨.norm, impl_WritesOk_v0 y, impl_WritesOk_s0 y⟩) fun z => some ⟨(impl_WritesOk_e0 z).1, (impl_WritesOk_e0 z).2.1, (impl_WritesOk_e0 z).2.2⟩) := by
  kernel_rfl

theorem impl_WritesOk_lo0 : ∀ sp, (impl_WritesOk_loops 0) = some sp → LoopOk G48 ⟨0, 34, impl_WritesOk_loops⟩ sp (loopBody Try.f125 0) := by
  intro sp hsp vals st k r h
  cases hsp
  dsimp only at h
  rcases onPats_inv2 h with ⟨p, q, rfl, rfl, h⟩ | h
  · exact loop_runs2 impl_WritesOk_bp0 impl_WritesOk_v0 impl_WritesOk_s0 impl_WritesOk_e0 (fun z => by rcases z with z | z <;> (intro h; cases h)) impl_WritesOk_bx0 Fuel (p.1, p.2.1, p.2.2.1, p.2.2.2.1, p.2.2.2.2.1) _ k r (fun z => by rcases z with z | z <;> rfl) h
  cases h

theorem impl_WritesOk_y (a0 : (List dWrite)) : execFn G48 impl_WritesOk_loops Try.f125 [.lst tWrite a0] [] = impl_WritesOk_k a0 (fun (y : Bool) => some ⟨.ret, [.bool y], []⟩) := by rw [impl_WritesOk_e]; kernel_rfl

theorem impl_WritesOk_l : LoopsOk G48 ⟨0, 34, impl_WritesOk_loops⟩ (Try.f125.body.getD .skip) :=
  loopsOk_of (ids := [0]) (by kernel_rfl) (by kernel_rfl) ⟨impl_WritesOk_lo0, trivial⟩

theorem impl_WritesOk_c : Contract Try.prog 125 impl_WritesOk_g := by
  refine told G48_ok follows Try.func125 (c := Try.f125.body.getD .skip) (by kernel_rfl) ?_
  intro args s k r hk
  unfold impl_WritesOk_g at hk
  rcases onPats_inv hk with ⟨p, q, rfl, rfl⟩ | hk
  · exact ⟨impl_WritesOk_loops, impl_WritesOk_q p.1, impl_WritesOk_y p.1, impl_WritesOk_l⟩
  cases hk

def G49 : Glob := G48.add 125 impl_WritesOk_g

theorem G49_ok : GlobOk Try.prog G49 := G48_ok.add ⟨Try.f125, Try.func125, by kernel_rfl, by kernel_rfl⟩ impl_WritesOk_c



def impl_TxnOk_loops : Nat → Option LoopSpec
  | 5000011 => some ⟨[1, 2], [], fun vals st k => onPats [.bp 0 0, .bool] [.box [.int .i64, .int .i64, .int .i64, .int .i64, .lst tRange, .lst tWrite, .bool, .str]] vals st (fun p q => impl_TxnOk_j5000011 (p.2.1, q.1.1, q.1.2.1, q.1.2.2.1, q.1.2.2.2.1, q.1.2.2.2.2.1, q.1.2.2.2.2.2.1, q.1.2.2.2.2.2.2.1, q.1.2.2.2.2.2.2.2.1) (fun z => k .ret [.bp 0 0, .bool z.1] [.box [.int .i64 z.2.1, .int .i64 z.2.2.1, .int .i64 z.2.2.2.1, .int .i64 z.2.2.2.2.1, .lst tRange z.2.2.2.2.2.1, .lst tWrite z.2.2.2.2.2.2.1, .bool z.2.2.2.2.2.2.2.1, .str z.2.2.2.2.2.2.2.2]]))
      (none)⟩
  | 5000009 => some ⟨[1, 2], [], fun vals st k => onPats [.bp 0 0, .bool] [.box [.int .i64, .int .i64, .int .i64, .int .i64, .lst tRange, .lst tWrite, .bool, .str]] vals st (fun p q => impl_TxnOk_j5000009 (p.2.1, q.1.1, q.1.2.1, q.1.2.2.1, q.1.2.2.2.1, q.1.2.2.2.2.1, q.1.2.2.2.2.2.1, q.1.2.2.2.2.2.2.1, q.1.2.2.2.2.2.2.2.1) (fun z => k .ret [.bp 0 0, .bool z.1] [.box [.int .i64 z.2.1, .int .i64 z.2.2.1, .int .i64 z.2.2.2.1, .int .i64 z.2.2.2.2.1, .lst tRange z.2.2.2.2.2.1, .lst tWrite z.2.2.2.2.2.2.1, .bool z.2.2.2.2.2.2.2.1, .str z.2.2.2.2.2.2.2.2]]))
      (none)⟩
  | 0 => some ⟨[1, 2, 6, 7, 8], [], fun vals st k => onPats [.bp 0 0, .bool, .lst tRange, .int .i64, .int .i64] [.box [.int .i64, .int .i64, .int .i64, .int .i64, .lst tRange, .lst tWrite, .bool, .str]] vals st (fun p q => loopK impl_TxnOk_b0 Fuel (p.2.1, p.2.2.1, p.2.2.2.1, p.2.2.2.2.1, q.1.1, q.1.2.1, q.1.2.2.1, q.1.2.2.2.1, q.1.2.2.2.2.1, q.1.2.2.2.2.2.1, q.1.2.2.2.2.2.2.1, q.1.2.2.2.2.2.2.2.1) (Sum.elim (fun z => k .ret [.bp 0 0, .bool z.1, .lst tRange z.2.1, .int .i64 z.2.2.1, .int .i64 z.2.2.2.1] [.box [.int .i64 z.2.2.2.2.1, .int .i64 z.2.2.2.2.2.1, .int .i64 z.2.2.2.2.2.2.1, .int .i64 z.2.2.2.2.2.2.2.1, .lst tRange z.2.2.2.2.2.2.2.2.1, .lst tWrite z.2.2.2.2.2.2.2.2.2.1, .bool z.2.2.2.2.2.2.2.2.2.2.1, .str z.2.2.2.2.2.2.2.2.2.2.2]]) (fun z => k (.exit 0) [.bp 0 0, .bool z.1, .lst tRange z.2.1, .int .i64 z.2.2.1, .int .i64 z.2.2.2.1] [.box [.int .i64 z.2.2.2.2.1, .int .i64 z.2.2.2.2.2.1, .int .i64 z.2.2.2.2.2.2.1, .int .i64 z.2.2.2.2.2.2.2.1, .lst tRange z.2.2.2.2.2.2.2.2.1, .lst tWrite z.2.2.2.2.2.2.2.2.2.1, .bool z.2.2.2.2.2.2.2.2.2.2.1, .str z.2.2.2.2.2.2.2.2.2.2.2]])))
      (none)⟩
  | _ => none

def impl_TxnOk_jv5000011 : q34T → List AV := (fun x => [.bp 0 0, .bool x.1])
def impl_TxnOk_js5000011 : q34T → St := (fun x => [.box [.int .i64 x.2.1, .int .i64 x.2.2.1, .int .i64 x.2.2.2.1, .int .i64 x.2.2.2.2.1, .lst tRange x.2.2.2.2.2.1, .lst tWrite x.2.2.2.2.2.2.1, .bool x.2.2.2.2.2.2.2.1, .str x.2.2.2.2.2.2.2.2]])
def impl_TxnOk_je5000011 : q34T → Out × List AV × St := (fun z => (.ret, [.bp 0 0, .bool z.1], [.box [.int .i64 z.2.1, .int .i64 z.2.2.1, .int .i64 z.2.2.2.1, .int .i64 z.2.2.2.2.1, .lst tRange z.2.2.2.2.2.1, .lst tWrite z.2.2.2.2.2.2.1, .bool z.2.2.2.2.2.2.2.1, .str z.2.2.2.2.2.2.2.2]]))

theorem impl_TxnOk_jx5000011 (x : q34T) : exec G49 ⟨0, 93, impl_TxnOk_loops⟩ (loopBody Try.f45 5000011) (bodyK ⟨0, 93, impl_TxnOk_loops⟩ [1, 2] []) (setEs (deads 93) [1, 2] (impl_TxnOk_jv5000011 x)) (impl_TxnOk_js5000011 x) = impl_TxnOk_j5000011 x (fun z => some ⟨(impl_TxnOk_je5000011 z).1, (impl_TxnOk_je5000011 z).2.1, (impl_TxnOk_je5000011 z).2.2⟩) := by
  kernel_rfl

theorem impl_TxnOk_lo5000011 : ∀ sp, (impl_TxnOk_loops 5000011) = some sp → CutOk G49 ⟨0, 93, impl_TxnOk_loops⟩ sp (loopBody Try.f45 5000011) := by
  intro sp hsp vals st k r h
  cases hsp
  dsimp only at h
  rcases onPats_inv2 h with ⟨p, q, rfl, rfl, h⟩ | h
  · exact cut_runs impl_TxnOk_jp5000011 impl_TxnOk_jv5000011 impl_TxnOk_js5000011 impl_TxnOk_je5000011 impl_TxnOk_jx5000011 (p.2.1, q.1.1, q.1.2.1, q.1.2.2.1, q.1.2.2.2.1, q.1.2.2.2.2.1, q.1.2.2.2.2.2.1, q.1.2.2.2.2.2.2.1, q.1.2.2.2.2.2.2.2.1) _ k r (fun z => rfl) h
  cases h

def impl_TxnOk_jv5000009 : q34T → List AV := (fun x => [.bp 0 0, .bool x.1])
def impl_TxnOk_js5000009 : q34T → St := (fun x => [.box [.int .i64 x.2.1, .int .i64 x.2.2.1, .int .i64 x.2.2.2.1, .int .i64 x.2.2.2.2.1, .lst tRange x.2.2.2.2.2.1, .lst tWrite x.2.2.2.2.2.2.1, .bool x.2.2.2.2.2.2.2.1, .str x.2.2.2.2.2.2.2.2]])
def impl_TxnOk_je5000009 : q34T → Out × List AV × St := (fun z => (.ret, [.bp 0 0, .bool z.1], [.box [.int .i64 z.2.1, .int .i64 z.2.2.1, .int .i64 z.2.2.2.1, .int .i64 z.2.2.2.2.1, .lst tRange z.2.2.2.2.2.1, .lst tWrite z.2.2.2.2.2.2.1, .bool z.2.2.2.2.2.2.2.1, .str z.2.2.2.2.2.2.2.2]]))

theorem impl_TxnOk_jx5000009 (x : q34T) : exec G49 ⟨0, 93, impl_TxnOk_loops⟩ (loopBody Try.f45 5000009) (bodyK ⟨0, 93, impl_TxnOk_loops⟩ [1, 2] []) (setEs (deads 93) [1, 2] (impl_TxnOk_jv5000009 x)) (impl_TxnOk_js5000009 x) = impl_TxnOk_j5000009 x (fun z => some ⟨(impl_TxnOk_je5000009 z).1, (impl_TxnOk_je5000009 z).2.1, (impl_TxnOk_je5000009 z).2.2⟩) := by
  kernel_rfl

theorem impl_TxnOk_lo5000009 : ∀ sp, (impl_TxnOk_loops 5000009) = some sp → CutOk G49 ⟨0, 93, impl_TxnOk_loops⟩ sp (loopBody Try.f45 5000009) := by
  intro sp hsp vals st k r h
  cases hsp
  dsimp only at h
  rcases onPats_inv2 h with ⟨p, q, rfl, rfl, h⟩ | h
  · exact cut_runs impl_TxnOk_jp5000009 impl_TxnOk_jv5000009 impl_TxnOk_js5000009 impl_TxnOk_je5000009 impl_TxnOk_jx5000009 (p.2.1, q.1.1, q.1.2.1, q.1.2.2.1, q.1.2.2.2.1, q.1.2.2.2.2.1, q.1.2.2.2.2.2.1, q.1.2.2.2.2.2.2.1, q.1.2.2.2.2.2.2.2.1) _ k r (fun z => rfl) h
  cases h

def impl_TxnOk_v0 : q25T → List AV := (fun x => [.bp 0 0, .bool x.1, .lst tRange x.2.1, .int .i64 x.2.2.1, .int .i64 x.2.2.2.1])
def impl_TxnOk_s0 : q25T → St := (fun x => [.box [.int .i64 x.2.2.2.2.1, .int .i64 x.2.2.2.2.2.1, .int .i64 x.2.2.2.2.2.2.1, .int .i64 x.2.2.2.2.2.2.2.1, .lst tRange x.2.2.2.2.2.2.2.2.1, .lst tWrite x.2.2.2.2.2.2.2.2.2.1, .bool x.2.2.2.2.2.2.2.2.2.2.1, .str x.2.2.2.2.2.2.2.2.2.2.2]])
def impl_TxnOk_e0 : (q25T ⊕ q25T) → Out × List AV × St := (Sum.elim (fun z => (.ret, [.bp 0 0, .bool z.1, .lst tRange z.2.1, .int .i64 z.2.2.1, .int .i64 z.2.2.2.1], [.box [.int .i64 z.2.2.2.2.1, .int .i64 z.2.2.2.2.2.1, .int .i64 z.2.2.2.2.2.2.1, .int .i64 z.2.2.2.2.2.2.2.1, .lst tRange z.2.2.2.2.2.2.2.2.1, .lst tWrite z.2.2.2.2.2.2.2.2.2.1, .bool z.2.2.2.2.2.2.2.2.2.2.1, .str z.2.2.2.2.2.2.2.2.2.2.2]])) (fun z => ((.exit 0), [.bp 0 0, .bool z.1, .lst tRange z.2.1, .int .i64 z.2.2.1, .int .i64 z.2.2.2.1], [.box [.int .i64 z.2.2.2.2.1, .int .i64 z.2.2.2.2.2.1, .int .i64 z.2.2.2.2.2.2.1, .int .i64 z.2.2.2.2.2.2.2.1, .lst tRange z.2.2.2.2.2.2.2.2.1, .lst tWrite z.2.2.2.2.2.2.2.2.2.1, .bool z.2.2.2.2.2.2.2.2.2.2.1, .str z.2.2.2.2.2.2.2.2.2.2.2]])))

theorem impl_TxnOk_bx0 (x : q25T) : exec G49 ⟨0, 93, impl_TxnOk_loops⟩ (loopBody Try.f45 0) (bodyK ⟨0, 93, impl_TxnOk_loops⟩ [1, 2, 6, 7, 8] []) (setEs (deads 93) [1, 2, 6, 7, 8] (impl_TxnOk_v0 x)) (impl_TxnOk_s0 x) = impl_TxnOk_b0 x (Sum.elim (fun y => some ⟨.norm, impl_TxnOk_v0 y, impl_TxnOk_s0 y⟩) fun z => some ⟨(impl_TxnOk_e0 z).1, (impl_TxnOk_e0 z).2.1, (impl_TxnOk_e0 z).2.2⟩) := by
  kernel_rfl

theorem impl_TxnOk_lo0 : ∀ sp, (impl_TxnOk_loops 0) = some sp → LoopOk G49 ⟨0, 93, impl_TxnOk_loops⟩ sp (loopBody Try.f45 0) := by
  intro sp hsp vals st k r h
  cases hsp
  dsimp only at h
  rcases onPats_inv2 h with ⟨p, q, rfl, rfl, h⟩ | h
  · exact loop_runs2 impl_TxnOk_bp0 impl_TxnOk_v0 impl_TxnOk_s0 impl_TxnOk_e0 (fun z => by rcases z with z | z <;> (intro h; cases h)) impl_TxnOk_bx0 Fuel (p.2.1, p.2.2.1, p.2.2.2.1, p.2.2.2.2.1, q.1.1, q.1.2.1, q.1.2.2.1, q.1.2.2.2.1, q.1.2.2.2.2.1, q.1.2.2.2.2.2.1, q.1.2.2.2.2.2.2.1, q.1.2.2.2.2.2.2.2.1) _ k r (fun z => by rcases z with z | z <;> rfl) h
  cases h

theorem impl_TxnOk_y (a0 : Int) (a1 : Int) (a2 : Int) (a3 : Int) (a4 : (List dRange)) (a5 : (List dWrite)) (a6 : Bool) (a7 : ByteArray) : execFn G49 impl_TxnOk_loops Try.f45 [.agg [.int .i64 a0, .int .i64 a1, .int .i64 a2, .int .i64 a3, .lst tRange a4, .lst tWrite a5, .bool a6, .str a7]] [] = impl_TxnOk_k (a0, (a1, (a2, (a3, (a4, (a5, (a6, a7))))))) (fun (y : Bool) => some ⟨.ret, [.bool y], []⟩) := by rw [impl_TxnOk_e]; kernel_rfl

theorem impl_TxnOk_l : LoopsOk G49 ⟨0, 93, impl_TxnOk_loops⟩ (Try.f45.body.getD .skip) :=
  loopsOk_of (ids := [5000011, 5000009, 0]) (by kernel_rfl) (by kernel_rfl) ⟨impl_TxnOk_lo5000011, ⟨impl_TxnOk_lo5000009, ⟨impl_TxnOk_lo0, trivial⟩⟩⟩

theorem impl_TxnOk_c : Contract Try.prog 45 impl_TxnOk_g := by
  refine told G49_ok follows Try.func45 (c := Try.f45.body.getD .skip) (by kernel_rfl) ?_
  intro args s k r hk
  unfold impl_TxnOk_g at hk
  rcases onPats_inv hk with ⟨p, q, rfl, rfl⟩ | hk
  · exact ⟨impl_TxnOk_loops, impl_TxnOk_q p.1.1 p.1.2.1 p.1.2.2.1 p.1.2.2.2.1 p.1.2.2.2.2.1 p.1.2.2.2.2.2.1 p.1.2.2.2.2.2.2.1 p.1.2.2.2.2.2.2.2.1, impl_TxnOk_y p.1.1 p.1.2.1 p.1.2.2.1 p.1.2.2.2.1 p.1.2.2.2.2.1 p.1.2.2.2.2.2.1 p.1.2.2.2.2.2.2.1 p.1.2.2.2.2.2.2.2.1, impl_TxnOk_l⟩
  cases hk

def G50 : Glob := G49.add 45 impl_TxnOk_g

theorem G50_ok : GlobOk Try.prog G50 := G49_ok.add ⟨Try.f45, Try.func45, by kernel_rfl, by kernel_rfl⟩ impl_TxnOk_c



def impl_isDone_loops : Nat → Option LoopSpec
  | _ => none

theorem impl_isDone_y (a0 : Int) (a1 : Int) (a2 : Int) (a3 : Int) (a4 : (List dRange)) (a5 : (List dWrite)) (a6 : Bool) (a7 : ByteArray) : execFn G50 impl_isDone_loops Try.f160 [.agg [.int .i64 a0, .int .i64 a1, .int .i64 a2, .int .i64 a3, .lst tRange a4, .lst tWrite a5, .bool a6, .str a7]] [] = impl_isDone_k (a0, (a1, (a2, (a3, (a4, (a5, (a6, a7))))))) (fun (y : Bool) => some ⟨.ret, [.bool y], []⟩) := by rw [impl_isDone_e]; kernel_rfl

theorem impl_isDone_l : LoopsOk G50 ⟨0, 6, impl_isDone_loops⟩ (Try.f160.body.getD .skip) :=
  loopsOk_of (ids := []) (by kernel_rfl) (by kernel_rfl) trivial

theorem impl_isDone_c : Contract Try.prog 160 impl_isDone_g := by
  refine told G50_ok follows Try.func160 (c := Try.f160.body.getD .skip) (by kernel_rfl) ?_
  intro args s k r hk
  unfold impl_isDone_g at hk
  rcases onPats_inv hk with ⟨p, q, rfl, rfl⟩ | hk
  · exact ⟨impl_isDone_loops, impl_isDone_q p.1.1 p.1.2.1 p.1.2.2.1 p.1.2.2.2.1 p.1.2.2.2.2.1 p.1.2.2.2.2.2.1 p.1.2.2.2.2.2.2.1 p.1.2.2.2.2.2.2.2.1, impl_isDone_y p.1.1 p.1.2.1 p.1.2.2.1 p.1.2.2.2.1 p.1.2.2.2.2.1 p.1.2.2.2.2.2.1 p.1.2.2.2.2.2.2.1 p.1.2.2.2.2.2.2.2.1, impl_isDone_l⟩
  cases hk

def G51 : Glob := G50.add 160 impl_isDone_g

theorem G51_ok : GlobOk Try.prog G51 := G50_ok.add ⟨Try.f160, Try.func160, by kernel_rfl, by kernel_rfl⟩ impl_isDone_c



def impl_isReady_loops : Nat → Option LoopSpec
  | _ => none

theorem impl_isReady_y (a0 : Int) (a1 : Int) (a2 : Int) (a3 : Int) (a4 : (List dRange)) (a5 : (List dWrite)) (a6 : Bool) (a7 : ByteArray) : execFn G51 impl_isReady_loops Try.f161 [.agg [.int .i64 a0, .int .i64 a1, .int .i64 a2, .int .i64 a3, .lst tRange a4, .lst tWrite a5, .bool a6, .str a7]] [] = impl_isReady_k (a0, (a1, (a2, (a3, (a4, (a5, (a6, a7))))))) (fun (y : Bool) => some ⟨.ret, [.bool y], []⟩) := by rw [impl_isReady_e]; kernel_rfl

theorem impl_isReady_l : LoopsOk G51 ⟨0, 6, impl_isReady_loops⟩ (Try.f161.body.getD .skip) :=
  loopsOk_of (ids := []) (by kernel_rfl) (by kernel_rfl) trivial

theorem impl_isReady_c : Contract Try.prog 161 impl_isReady_g := by
  refine told G51_ok follows Try.func161 (c := Try.f161.body.getD .skip) (by kernel_rfl) ?_
  intro args s k r hk
  unfold impl_isReady_g at hk
  rcases onPats_inv hk with ⟨p, q, rfl, rfl⟩ | hk
  · exact ⟨impl_isReady_loops, impl_isReady_q p.1.1 p.1.2.1 p.1.2.2.1 p.1.2.2.2.1 p.1.2.2.2.2.1 p.1.2.2.2.2.2.1 p.1.2.2.2.2.2.2.1 p.1.2.2.2.2.2.2.2.1, impl_isReady_y p.1.1 p.1.2.1 p.1.2.2.1 p.1.2.2.2.1 p.1.2.2.2.2.1 p.1.2.2.2.2.2.1 p.1.2.2.2.2.2.2.1 p.1.2.2.2.2.2.2.2.1, impl_isReady_l⟩
  cases hk

def G52 : Glob := G51.add 161 impl_isReady_g

theorem G52_ok : GlobOk Try.prog G52 := G51_ok.add ⟨Try.f161, Try.func161, by kernel_rfl, by kernel_rfl⟩ impl_isReady_c



def cmp_isNaN_string_loops : Nat → Option LoopSpec
  | _ => none

theorem cmp_isNaN_string_y (a0 : ByteArray) : execFn G52 cmp_isNaN_string_loops Try.f235 [.str a0] [] = cmp_isNaN_string_k a0 (fun (y : Bool) => some ⟨.ret, [.bool y], []⟩) := by rw [cmp_isNaN_string_e]; kernel_rfl

theorem cmp_isNaN_string_l : LoopsOk G52 ⟨0, 6, cmp_isNaN_string_loops⟩ (Try.f235.body.getD .skip) :=
  loopsOk_of (ids := []) (by kernel_rfl) (by kernel_rfl) trivial

theorem cmp_isNaN_string_c : Contract Try.prog 235 cmp_isNaN_string_g := by
  refine told G52_ok follows Try.func235 (c := Try.f235.body.getD .skip) (by kernel_rfl) ?_
  intro args s k r hk
  unfold cmp_isNaN_string_g at hk
  rcases onPats_inv hk with ⟨p, q, rfl, rfl⟩ | hk
  · exact ⟨cmp_isNaN_string_loops, cmp_isNaN_string_q p.1, cmp_isNaN_string_y p.1, cmp_isNaN_string_l⟩
  cases hk

def G53 : Glob := G52.add 235 cmp_isNaN_string_g

theorem G53_ok : GlobOk Try.prog G53 := G52_ok.add ⟨Try.f235, Try.func235, by kernel_rfl, by kernel_rfl⟩ cmp_isNaN_string_c



def cmp_Compare_string_loops : Nat → Option LoopSpec
  | _ => none

theorem cmp_Compare_string_y (a0 : ByteArray) (a1 : ByteArray) : execFn G53 cmp_Compare_string_loops Try.f240 [.str a0, .str a1] [] = cmp_Compare_string_k a0 a1 (fun (y : Int) => some ⟨.ret, [.int .i64 y], []⟩) := by rw [cmp_Compare_string_e]; kernel_rfl

theorem cmp_Compare_string_l : LoopsOk G53 ⟨0, 20, cmp_Compare_string_loops⟩ (Try.f240.body.getD .skip) :=
  loopsOk_of (ids := []) (by kernel_rfl) (by kernel_rfl) trivial

theorem cmp_Compare_string_c : Contract Try.prog 240 cmp_Compare_string_g := by
  refine told G53_ok follows Try.func240 (c := Try.f240.body.getD .skip) (by kernel_rfl) ?_
  intro args s k r hk
  unfold cmp_Compare_string_g at hk
  rcases onPats_inv hk with ⟨p, q, rfl, rfl⟩ | hk
  · exact ⟨cmp_Compare_string_loops, cmp_Compare_string_q p.1 p.2.1, cmp_Compare_string_y p.1 p.2.1, cmp_Compare_string_l⟩
  cases hk

def G54 : Glob := G53.add 240 cmp_Compare_string_g

theorem G54_ok : GlobOk Try.prog G54 := G53_ok.add ⟨Try.f240, Try.func240, by kernel_rfl, by kernel_rfl⟩ cmp_Compare_string_c



def cmp_isNaN_int_loops : Nat → Option LoopSpec
  | _ => none

theorem cmp_isNaN_int_y (a0 : Int) : execFn G54 cmp_isNaN_int_loops Try.f243 [.int .i64 a0] [] = cmp_isNaN_int_k a0 (fun (y : Bool) => some ⟨.ret, [.bool y], []⟩) := by rw [cmp_isNaN_int_e]; kernel_rfl

theorem cmp_isNaN_int_l : LoopsOk G54 ⟨0, 6, cmp_isNaN_int_loops⟩ (Try.f243.body.getD .skip) :=
  loopsOk_of (ids := []) (by kernel_rfl) (by kernel_rfl) trivial

theorem cmp_isNaN_int_c : Contract Try.prog 243 cmp_isNaN_int_g := by
  refine told G54_ok follows Try.func243 (c := Try.f243.body.getD .skip) (by kernel_rfl) ?_
  intro args s k r hk
  unfold cmp_isNaN_int_g at hk
  rcases onPats_inv hk with ⟨p, q, rfl, rfl⟩ | hk
  · exact ⟨cmp_isNaN_int_loops, cmp_isNaN_int_q p.1, cmp_isNaN_int_y p.1, cmp_isNaN_int_l⟩
  cases hk

def G55 : Glob := G54.add 243 cmp_isNaN_int_g

theorem G55_ok : GlobOk Try.prog G55 := G54_ok.add ⟨Try.f243, Try.func243, by kernel_rfl, by kernel_rfl⟩ cmp_isNaN_int_c



def cmp_Compare_int_loops : Nat → Option LoopSpec
  | _ => none

theorem cmp_Compare_int_y (a0 : Int) (a1 : Int) : execFn G55 cmp_Compare_int_loops Try.f241 [.int .i64 a0, .int .i64 a1] [] = cmp_Compare_int_k a0 a1 (fun (y : Int) => some ⟨.ret, [.int .i64 y], []⟩) := by rw [cmp_Compare_int_e]; kernel_rfl

theorem cmp_Compare_int_l : LoopsOk G55 ⟨0, 20, cmp_Compare_int_loops⟩ (Try.f241.body.getD .skip) :=
  loopsOk_of (ids := []) (by kernel_rfl) (by kernel_rfl) trivial

theorem cmp_Compare_int_c : Contract Try.prog 241 cmp_Compare_int_g := by
  refine told G55_ok follows Try.func241 (c := Try.f241.body.getD .skip) (by kernel_rfl) ?_
  intro args s k r hk
  unfold cmp_Compare_int_g at hk
  rcases onPats_inv hk with ⟨p, q, rfl, rfl⟩ | hk
  · exact ⟨cmp_Compare_int_loops, cmp_Compare_int_q p.1 p.2.1, cmp_Compare_int_y p.1 p.2.1, cmp_Compare_int_l⟩
  cases hk

def G56 : Glob := G55.add 241 cmp_Compare_int_g

theorem G56_ok : GlobOk Try.prog G56 := G55_ok.add ⟨Try.f241, Try.func241, by kernel_rfl, by kernel_rfl⟩ cmp_Compare_int_c



def impl_compareVersion_loops : Nat → Option LoopSpec
  | _ => none

theorem impl_compareVersion_y (a0 : ByteArray) (a1 : ByteArray) (a2 : Bool) (a3 : Int) (a4 : ByteArray) (a5 : ByteArray) (a6 : Bool) (a7 : Int) : execFn G56 impl_compareVersion_loops Try.f236 [.agg [.str a0, .str a1, .bool a2, .int .i64 a3], .agg [.str a4, .str a5, .bool a6, .int .i64 a7]] [] = impl_compareVersion_k (a0, (a1, (a2, a3))) (a4, (a5, (a6, a7))) (fun (y : Int) => some ⟨.ret, [.int .i64 y], []⟩) := by rw [impl_compareVersion_e]; kernel_rfl

theorem impl_compareVersion_l : LoopsOk G56 ⟨0, 19, impl_compareVersion_loops⟩ (Try.f236.body.getD .skip) :=
  loopsOk_of (ids := []) (by kernel_rfl) (by kernel_rfl) trivial

theorem impl_compareVersion_c : Contract Try.prog 236 impl_compareVersion_g := by
  refine told G56_ok follows Try.func236 (c := Try.f236.body.getD .skip) (by kernel_rfl) ?_
  intro args s k r hk
  unfold impl_compareVersion_g at hk
  rcases onPats_inv hk with ⟨p, q, rfl, rfl⟩ | hk
  · exact ⟨impl_compareVersion_loops, impl_compareVersion_q p.1.1 p.1.2.1 p.1.2.2.1 p.1.2.2.2.1 p.2.1.1 p.2.1.2.1 p.2.1.2.2.1 p.2.1.2.2.2.1, impl_compareVersion_y p.1.1 p.1.2.1 p.1.2.2.1 p.1.2.2.2.1 p.2.1.1 p.2.1.2.1 p.2.1.2.2.1 p.2.1.2.2.2.1, impl_compareVersion_l⟩
  cases hk

def G57 : Glob := G56.add 236 impl_compareVersion_g

theorem G57_ok : GlobOk Try.prog G57 := G56_ok.add ⟨Try.f236, Try.func236, by kernel_rfl, by kernel_rfl⟩ impl_compareVersion_c



def impl_VersionsOk_loops : Nat → Option LoopSpec
  | 0 => some ⟨[0, 2, 5, 6, 7], [], fun vals st k => onPats [.lst tVersion, .bool, .lst tVersion, .int .i64, .int .i64] [] vals st (fun p q => loopK impl_VersionsOk_b0 Fuel (p.1, p.2.1, p.2.2.1, p.2.2.2.1, p.2.2.2.2.1) (Sum.elim (fun z => k .ret [.lst tVersion z.1, .bool z.2.1, .lst tVersion z.2.2.1, .int .i64 z.2.2.2.1, .int .i64 z.2.2.2.2] []) (fun z => k (.exit 0) [.lst tVersion z.1, .bool z.2.1, .lst tVersion z.2.2.1, .int .i64 z.2.2.2.1, .int .i64 z.2.2.2.2] [])))
      (none)⟩
  | 2000004 => some ⟨[0, 2, 5, 6, 8, 10, 12, 14, 16, 18, 20, 22, 24, 26, 28, 30, 32, 34, 36, 38, 40, 42, 45, 46, 48, 50, 52, 54, 56, 58, 60, 62, 64, 66, 68, 71, 72, 74, 76], [], fun _ _ _ => none⟩
  | _ => none

def impl_VersionsOk_v0 : q15T → List AV := (fun x => [.lst tVersion x.1, .bool x.2.1, .lst tVersion x.2.2.1, .int .i64 x.2.2.2.1, .int .i64 x.2.2.2.2])
def impl_VersionsOk_s0 : q15T → St := (fun x => [])
def impl_VersionsOk_e0 : (q15T ⊕ q15T) → Out × List AV × St := (Sum.elim (fun z => (.ret, [.lst tVersion z.1, .bool z.2.1, .lst tVersion z.2.2.1, .int .i64 z.2.2.2.1, .int .i64 z.2.2.2.2], [])) (fun z => ((.exit 0), [.lst tVersion z.1, .bool z.2.1, .lst tVersion z.2.2.1, .int .i64 z.2.2.2.1, .int .i64 z.2.2.2.2], [])))

theorem impl_VersionsOk_bx0 (x : q15T) : exec G57 ⟨0, 55, impl_VersionsOk_loops⟩ (loopBody Try.f219 0) (bodyK ⟨0, 55, impl_VersionsOk_loops⟩ [0, 2, 5, 6, 7] []) (setEs (deads 55) [0, 2, 5, 6, 7] (impl_VersionsOk_v0 x)) (impl_VersionsOk_s0 x) = impl_VersionsOk_b0 x (Sum.elim (fun y => some ⟨.norm, impl_VersionsOk_v0 y, impl_VersionsOk_s0 y⟩) fun z => some ⟨(impl_VersionsOk_e0 z).1, (impl_VersionsOk_e0 z).2.1, (impl_VersionsOk_e0 z).2.2⟩) := by
  kernel_rfl

theorem impl_VersionsOk_lo0 : ∀ sp, (impl_VersionsOk_loops 0) = some sp → LoopOk G57 ⟨0, 55, impl_VersionsOk_loops⟩ sp (loopBody Try.f219 0) := by
  intro sp hsp vals st k r h
  cases hsp
  dsimp only at h
  rcases onPats_inv2 h with ⟨p, q, rfl, rfl, h⟩ | h
  · exact loop_runs2 impl_VersionsOk_bp0 impl_VersionsOk_v0 impl_VersionsOk_s0 impl_VersionsOk_e0 (fun z => by rcases z with z | z <;> (intro h; cases h)) impl_VersionsOk_bx0 Fuel (p.1, p.2.1, p.2.2.1, p.2.2.2.1, p.2.2.2.2.1) _ k r (fun z => by rcases z with z | z <;> rfl) h
  cases h

theorem impl_VersionsOk_y (a0 : (List dVersion)) : execFn G57 impl_VersionsOk_loops Try.f219 [.lst tVersion a0] [] = impl_VersionsOk_k a0 (fun (y : Bool) => some ⟨.ret, [.bool y], []⟩) := by rw [impl_VersionsOk_e]; kernel_rfl

theorem impl_VersionsOk_l : LoopsOk G57 ⟨0, 55, impl_VersionsOk_loops⟩ (Try.f219.body.getD .skip) :=
  loopsOk_of (ids := [0]) (by kernel_rfl) (by kernel_rfl) ⟨impl_VersionsOk_lo0, trivial⟩

theorem impl_VersionsOk_c : Contract Try.prog 219 impl_VersionsOk_g := by
  refine told G57_ok follows Try.func219 (c := Try.f219.body.getD .skip) (by kernel_rfl) ?_
  intro args s k r hk
  unfold impl_VersionsOk_g at hk
  rcases onPats_inv hk with ⟨p, q, rfl, rfl⟩ | hk
  · exact ⟨impl_VersionsOk_loops, impl_VersionsOk_q p.1, impl_VersionsOk_y p.1, impl_VersionsOk_l⟩
  cases hk

def G58 : Glob := G57.add 219 impl_VersionsOk_g

theorem G58_ok : GlobOk Try.prog G58 := G57_ok.add ⟨Try.f219, Try.func219, by kernel_rfl, by kernel_rfl⟩ impl_VersionsOk_c



def slices_Grow_Txn_vn_loops : Nat → Option LoopSpec
  | 3000000 => some ⟨[], [some tTxn], fun _ _ _ => none⟩
  | _ => none

theorem slices_Grow_Txn_vn_y (a0 : Int) : execFn G58 slices_Grow_Txn_vn_loops Try.f228 [.nilS, .int .i64 a0] [] = slices_Grow_Txn_vn_k a0 (fun (y : (List dTxn)) => some ⟨.ret, [.own 0], [.arr tTxn y]⟩) := by rw [slices_Grow_Txn_vn_e]; kernel_rfl

theorem slices_Grow_Txn_vn_l : LoopsOk G58 ⟨0, 27, slices_Grow_Txn_vn_loops⟩ (Try.f228.body.getD .skip) :=
  loopsOk_of (ids := []) (by kernel_rfl) (by kernel_rfl) trivial

theorem slices_Grow_Txn_c : Contract Try.prog 228 slices_Grow_Txn_g := by
  refine told G58_ok follows Try.func228 (c := Try.f228.body.getD .skip) (by kernel_rfl) ?_
  intro args s k r hk
  unfold slices_Grow_Txn_g at hk
  rcases onPats_inv hk with ⟨p, q, rfl, rfl⟩ | hk
  · exact ⟨slices_Grow_Txn_vn_loops, slices_Grow_Txn_vn_q p.2.1, slices_Grow_Txn_vn_y p.2.1, slices_Grow_Txn_vn_l⟩
  cases hk

def G59 : Glob := G58.add 228 slices_Grow_Txn_g

theorem G59_ok : GlobOk Try.prog G59 := G58_ok.add ⟨Try.f228, Try.func228, by kernel_rfl, by kernel_rfl⟩ slices_Grow_Txn_c



def slices_Concat_Txn_loops : Nat → Option LoopSpec
  | 0 => some ⟨[0, 3, 9, 10, 11], [], fun vals st k => onPats [.lst (.slice tTxn), .int .i64, .lst (.slice tTxn), .int .i64, .int .i64] [] vals st (fun p q => loopK slices_Concat_Txn_b0 Fuel (p.1, p.2.1, p.2.2.1, p.2.2.2.1, p.2.2.2.2.1) (fun z => k (.exit 0) [.lst (.slice tTxn) z.1, .int .i64 z.2.1, .lst (.slice tTxn) z.2.2.1, .int .i64 z.2.2.2.1, .int .i64 z.2.2.2.2] []))
      (none)⟩
  | 2 => some ⟨[6, 25, 26, 27], [], fun vals st k => onPats [.own 0, .lst (.slice tTxn), .int .i64, .int .i64] [.arr tTxn] vals st (fun p q => loopK slices_Concat_Txn_b2 Fuel (p.2.1, p.2.2.1, p.2.2.2.1, q.1) (fun z => k (.exit 2) [.own 0, .lst (.slice tTxn) z.1, .int .i64 z.2.1, .int .i64 z.2.2.1] [.arr tTxn z.2.2.2]))
      (none)⟩
  | _ => none

def slices_Concat_Txn_v0 : q0T → List AV := (fun x => [.lst (.slice tTxn) x.1, .int .i64 x.2.1, .lst (.slice tTxn) x.2.2.1, .int .i64 x.2.2.2.1, .int .i64 x.2.2.2.2])
def slices_Concat_Txn_s0 : q0T → St := (fun x => [])
def slices_Concat_Txn_e0 : q0T → Out × List AV × St := (fun z => ((.exit 0), [.lst (.slice tTxn) z.1, .int .i64 z.2.1, .lst (.slice tTxn) z.2.2.1, .int .i64 z.2.2.2.1, .int .i64 z.2.2.2.2], []))

theorem slices_Concat_Txn_bx0 (x : q0T) : exec G59 ⟨0, 36, slices_Concat_Txn_loops⟩ (loopBody Try.f197 0) (bodyK ⟨0, 36, slices_Concat_Txn_loops⟩ [0, 3, 9, 10, 11] []) (setEs (deads 36) [0, 3, 9, 10, 11] (slices_Concat_Txn_v0 x)) (slices_Concat_Txn_s0 x) = slices_Concat_Txn_b0 x (Sum.elim (fun y => some ⟨.norm, slices_Concat_Txn_v0 y, slices_Concat_Txn_s0 y⟩) fun z => some ⟨(slices_Concat_Txn_e0 z).1, (slices_Concat_Txn_e0 z).2.1, (slices_Concat_Txn_e0 z).2.2⟩) := by
  kernel_rfl

theorem slices_Concat_Txn_lo0 : ∀ sp, (slices_Concat_Txn_loops 0) = some sp → LoopOk G59 ⟨0, 36, slices_Concat_Txn_loops⟩ sp (loopBody Try.f197 0) := by
  intro sp hsp vals st k r h
  cases hsp
  dsimp only at h
  rcases onPats_inv2 h with ⟨p, q, rfl, rfl, h⟩ | h
  · exact loop_runs2 slices_Concat_Txn_bp0 slices_Concat_Txn_v0 slices_Concat_Txn_s0 slices_Concat_Txn_e0 (fun z => by (intro h; cases h)) slices_Concat_Txn_bx0 Fuel (p.1, p.2.1, p.2.2.1, p.2.2.2.1, p.2.2.2.2.1) _ k r (fun z => rfl) h
  cases h

def slices_Concat_Txn_v2 : q1T → List AV := (fun x => [.own 0, .lst (.slice tTxn) x.1, .int .i64 x.2.1, .int .i64 x.2.2.1])
def slices_Concat_Txn_s2 : q1T → St := (fun x => [.arr tTxn x.2.2.2])
def slices_Concat_Txn_e2 : q1T → Out × List AV × St := (fun z => ((.exit 2), [.own 0, .lst (.slice tTxn) z.1, .int .i64 z.2.1, .int .i64 z.2.2.1], [.arr tTxn z.2.2.2]))

theorem slices_Concat_Txn_bx2 (x : q1T) : exec G59 ⟨0, 36, slices_Concat_Txn_loops⟩ (loopBody Try.f197 2) (bodyK ⟨0, 36, slices_Concat_Txn_loops⟩ [6, 25, 26, 27] []) (setEs (deads 36) [6, 25, 26, 27] (slices_Concat_Txn_v2 x)) (slices_Concat_Txn_s2 x) = slices_Concat_Txn_b2 x (Sum.elim (fun y => some ⟨.norm, slices_Concat_Txn_v2 y, slices_Concat_Txn_s2 y⟩) fun z => some ⟨(slices_Concat_Txn_e2 z).1, (slices_Concat_Txn_e2 z).2.1, (slices_Concat_Txn_e2 z).2.2⟩) := by
  kernel_rfl

theorem slices_Concat_Txn_lo2 : ∀ sp, (slices_Concat_Txn_loops 2) = some sp → LoopOk G59 ⟨0, 36, slices_Concat_Txn_loops⟩ sp (loopBody Try.f197 2) := by
  intro sp hsp vals st k r h
  cases hsp
  dsimp only at h
  rcases onPats_inv2 h with ⟨p, q, rfl, rfl, h⟩ | h
  · exact loop_runs2 slices_Concat_Txn_bp2 slices_Concat_Txn_v2 slices_Concat_Txn_s2 slices_Concat_Txn_e2 (fun z => by (intro h; cases h)) slices_Concat_Txn_bx2 Fuel (p.2.1, p.2.2.1, p.2.2.2.1, q.1) _ k r (fun z => rfl) h
  cases h

theorem slices_Concat_Txn_y (a0 : (List (List dTxn))) : execFn G59 slices_Concat_Txn_loops Try.f197 [.lst (.slice tTxn) a0] [] = slices_Concat_Txn_k a0 (fun (y : (List dTxn)) => some ⟨.ret, [.own 0], [.arr tTxn y]⟩) := by rw [slices_Concat_Txn_e]; kernel_rfl

theorem slices_Concat_Txn_l : LoopsOk G59 ⟨0, 36, slices_Concat_Txn_loops⟩ (Try.f197.body.getD .skip) :=
  loopsOk_of (ids := [0, 2]) (by kernel_rfl) (by kernel_rfl) ⟨slices_Concat_Txn_lo0, ⟨slices_Concat_Txn_lo2, trivial⟩⟩

theorem slices_Concat_Txn_c : Contract Try.prog 197 slices_Concat_Txn_g := by
  refine told G59_ok follows Try.func197 (c := Try.f197.body.getD .skip) (by kernel_rfl) ?_
  intro args s k r hk
  unfold slices_Concat_Txn_g at hk
  rcases onPats_inv hk with ⟨p, q, rfl, rfl⟩ | hk
  · exact ⟨slices_Concat_Txn_loops, slices_Concat_Txn_q p.1, slices_Concat_Txn_y p.1, slices_Concat_Txn_l⟩
  cases hk

def G60 : Glob := G59.add 197 slices_Concat_Txn_g

theorem G60_ok : GlobOk Try.prog G60 := G59_ok.add ⟨Try.f197, Try.func197, by kernel_rfl, by kernel_rfl⟩ slices_Concat_Txn_c



def impl_idsUnlike_1_loops : Nat → Option LoopSpec
  | _ => none

theorem impl_idsUnlike_1_y (a0 : Int) (a1 : Int) (a2 : Int) (a3 : Int) (a4 : (List dRange)) (a5 : (List dWrite)) (a6 : Bool) (a7 : ByteArray) (a8 : Int) (a9 : Int) (a10 : Int) (a11 : Int) (a12 : (List dRange)) (a13 : (List dWrite)) (a14 : Bool) (a15 : ByteArray) : execFn G60 impl_idsUnlike_1_loops Try.f227 [.agg [.int .i64 a0, .int .i64 a1, .int .i64 a2, .int .i64 a3, .lst tRange a4, .lst tWrite a5, .bool a6, .str a7], .bp 0 0] [.box [.int .i64 a8, .int .i64 a9, .int .i64 a10, .int .i64 a11, .lst tRange a12, .lst tWrite a13, .bool a14, .str a15]] = impl_idsUnlike_1_k (a0, (a1, (a2, (a3, (a4, (a5, (a6, a7))))))) a8 a9 a10 a11 a12 a13 a14 a15 (fun (y : q34T) => some ⟨.ret, [.bool y.1], [.box [.int .i64 y.2.1, .int .i64 y.2.2.1, .int .i64 y.2.2.2.1, .int .i64 y.2.2.2.2.1, .lst tRange y.2.2.2.2.2.1, .lst tWrite y.2.2.2.2.2.2.1, .bool y.2.2.2.2.2.2.2.1, .str y.2.2.2.2.2.2.2.2]]⟩) := by rw [impl_idsUnlike_1_e]; kernel_rfl

theorem impl_idsUnlike_1_l : LoopsOk G60 ⟨1, 9, impl_idsUnlike_1_loops⟩ (Try.f227.body.getD .skip) :=
  loopsOk_of (ids := []) (by kernel_rfl) (by kernel_rfl) trivial

theorem impl_idsUnlike_1_c : Contract Try.prog 227 impl_idsUnlike_1_g := by
  refine told G60_ok follows Try.func227 (c := Try.f227.body.getD .skip) (by kernel_rfl) ?_
  intro args s k r hk
  unfold impl_idsUnlike_1_g at hk
  rcases onPats_inv hk with ⟨p, q, rfl, rfl⟩ | hk
  · exact ⟨impl_idsUnlike_1_loops, impl_idsUnlike_1_q p.1.1 p.1.2.1 p.1.2.2.1 p.1.2.2.2.1 p.1.2.2.2.2.1 p.1.2.2.2.2.2.1 p.1.2.2.2.2.2.2.1 p.1.2.2.2.2.2.2.2.1 q.1.1 q.1.2.1 q.1.2.2.1 q.1.2.2.2.1 q.1.2.2.2.2.1 q.1.2.2.2.2.2.1 q.1.2.2.2.2.2.2.1 q.1.2.2.2.2.2.2.2.1, impl_idsUnlike_1_y p.1.1 p.1.2.1 p.1.2.2.1 p.1.2.2.2.1 p.1.2.2.2.2.1 p.1.2.2.2.2.2.1 p.1.2.2.2.2.2.2.1 p.1.2.2.2.2.2.2.2.1 q.1.1 q.1.2.1 q.1.2.2.1 q.1.2.2.2.1 q.1.2.2.2.2.1 q.1.2.2.2.2.2.1 q.1.2.2.2.2.2.2.1 q.1.2.2.2.2.2.2.2.1, impl_idsUnlike_1_l⟩
  cases hk

def G61 : Glob := G60.add 227 impl_idsUnlike_1_g

theorem G61_ok : GlobOk Try.prog G61 := G60_ok.add ⟨Try.f227, Try.func227, by kernel_rfl, by kernel_rfl⟩ impl_idsUnlike_1_c



def slices_IndexFunc_Txn_idsUnlike_1_loops : Nat → Option LoopSpec
  | 0 => some ⟨[0, 1, 4, 7, 8], [], fun vals st k => onPats [.lst tTxn, .fn 227 [.bp 0 0], .int .i64, .int .i64, .int .i64] [.box [.int .i64, .int .i64, .int .i64, .int .i64, .lst tRange, .lst tWrite, .bool, .str]] vals st (fun p q => loopK slices_IndexFunc_Txn_idsUnlike_1_b0 Fuel (p.1, p.2.2.1, p.2.2.2.1, p.2.2.2.2.1, q.1.1, q.1.2.1, q.1.2.2.1, q.1.2.2.2.1, q.1.2.2.2.2.1, q.1.2.2.2.2.2.1, q.1.2.2.2.2.2.2.1, q.1.2.2.2.2.2.2.2.1) (Sum.elim (fun z => k .ret [.lst tTxn z.1, .fn 227 [.bp 0 0], .int .i64 z.2.1, .int .i64 z.2.2.1, .int .i64 z.2.2.2.1] [.box [.int .i64 z.2.2.2.2.1, .int .i64 z.2.2.2.2.2.1, .int .i64 z.2.2.2.2.2.2.1, .int .i64 z.2.2.2.2.2.2.2.1, .lst tRange z.2.2.2.2.2.2.2.2.1, .lst tWrite z.2.2.2.2.2.2.2.2.2.1, .bool z.2.2.2.2.2.2.2.2.2.2.1, .str z.2.2.2.2.2.2.2.2.2.2.2]]) (fun z => k (.exit 0) [.lst tTxn z.1, .fn 227 [.bp 0 0], .int .i64 z.2.1, .int .i64 z.2.2.1, .int .i64 z.2.2.2.1] [.box [.int .i64 z.2.2.2.2.1, .int .i64 z.2.2.2.2.2.1, .int .i64 z.2.2.2.2.2.2.1, .int .i64 z.2.2.2.2.2.2.2.1, .lst tRange z.2.2.2.2.2.2.2.2.1, .lst tWrite z.2.2.2.2.2.2.2.2.2.1, .bool z.2.2.2.2.2.2.2.2.2.2.1, .str z.2.2.2.2.2.2.2.2.2.2.2]])))
      (none)⟩
  | _ => none

def slices_IndexFunc_Txn_idsUnlike_1_v0 : q12T → List AV := (fun x => [.lst tTxn x.1, .fn 227 [.bp 0 0], .int .i64 x.2.1, .int .i64 x.2.2.1, .int .i64 x.2.2.2.1])
def slices_IndexFunc_Txn_idsUnlike_1_s0 : q12T → St := (fun x => [.box [.int .i64 x.2.2.2.2.1, .int .i64 x.2.2.2.2.2.1, .int .i64 x.2.2.2.2.2.2.1, .int .i64 x.2.2.2.2.2.2.2.1, .lst tRange x.2.2.2.2.2.2.2.2.1, .lst tWrite x.2.2.2.2.2.2.2.2.2.1, .bool x.2.2.2.2.2.2.2.2.2.2.1, .str x.2.2.2.2.2.2.2.2.2.2.2]])
def slices_IndexFunc_Txn_idsUnlike_1_e0 : (q12T ⊕ q12T) → Out × List AV × St := (Sum.elim (fun z => (.ret, [.lst tTxn z.1, .fn 227 [.bp 0 0], .int .i64 z.2.1, .int .i64 z.2.2.1, .int .i64 z.2.2.2.1], [.box [.int .i64 z.2.2.2.2.1, .int .i64 z.2.2.2.2.2.1, .int .i64 z.2.2.2.2.2.2.1, .int .i64 z.2.2.2.2.2.2.2.1, .lst tRange z.2.2.2.2.2.2.2.2.1, .lst tWrite z.2.2.2.2.2.2.2.2.2.1, .bool z.2.2.2.2.2.2.2.2.2.2.1, .str z.2.2.2.2.2.2.2.2.2.2.2]])) (fun z => ((.exit 0), [.lst tTxn z.1, .fn 227 [.bp 0 0], .int .i64 z.2.1, .int .i64 z.2.2.1, .int .i64 z.2.2.2.1], [.box [.int .i64 z.2.2.2.2.1, .int .i64 z.2.2.2.2.2.1, .int .i64 z.2.2.2.2.2.2.1, .int .i64 z.2.2.2.2.2.2.2.1, .lst tRange z.2.2.2.2.2.2.2.2.1, .lst tWrite z.2.2.2.2.2.2.2.2.2.1, .bool z.2.2.2.2.2.2.2.2.2.2.1, .str z.2.2.2.2.2.2.2.2.2.2.2]])))

theorem slices_IndexFunc_Txn_idsUnlike_1_bx0 (x : q12T) : exec G61 ⟨1, 19, slices_IndexFunc_Txn_idsUnlike_1_loops⟩ (loopBody Try.f191 0) (bodyK ⟨1, 19, slices_IndexFunc_Txn_idsUnlike_1_loops⟩ [0, 1, 4, 7, 8] []) (setEs (deads 19) [0, 1, 4, 7, 8] (slices_IndexFunc_Txn_idsUnlike_1_v0 x)) (slices_IndexFunc_Txn_idsUnlike_1_s0 x) = slices_IndexFunc_Txn_idsUnlike_1_b0 x (Sum.elim (fun y => some ⟨.norm, slices_IndexFunc_Txn_idsUnlike_1_v0 y, slices_IndexFunc_Txn_idsUnlike_1_s0 y⟩) fun z => some ⟨(slices_IndexFunc_Txn_idsUnlike_1_e0 z).1, (slices_IndexFunc_Txn_idsUnlike_1_e0 z).2.1, (slices_IndexFunc_Txn_idsUnlike_1_e0 z).2.2⟩) := by
  kernel_rfl

theorem slices_IndexFunc_Txn_idsUnlike_1_lo0 : ∀ sp, (slices_IndexFunc_Txn_idsUnlike_1_loops 0) = some sp → LoopOk G61 ⟨1, 19, slices_IndexFunc_Txn_idsUnlike_1_loops⟩ sp (loopBody Try.f191 0) := by
  intro sp hsp vals st k r h
  cases hsp
  dsimp only at h
  rcases onPats_inv2 h with ⟨p, q, rfl, rfl, h⟩ | h
  · exact loop_runs2 slices_IndexFunc_Txn_idsUnlike_1_bp0 slices_IndexFunc_Txn_idsUnlike_1_v0 slices_IndexFunc_Txn_idsUnlike_1_s0 slices_IndexFunc_Txn_idsUnlike_1_e0 (fun z => by rcases z with z | z <;> (intro h; cases h)) slices_IndexFunc_Txn_idsUnlike_1_bx0 Fuel (p.1, p.2.2.1, p.2.2.2.1, p.2.2.2.2.1, q.1.1, q.1.2.1, q.1.2.2.1, q.1.2.2.2.1, q.1.2.2.2.2.1, q.1.2.2.2.2.2.1, q.1.2.2.2.2.2.2.1, q.1.2.2.2.2.2.2.2.1) _ k r (fun z => by rcases z with z | z <;> rfl) h
  cases h

theorem slices_IndexFunc_Txn_idsUnlike_1_y (a0 : (List dTxn)) (a1 : Int) (a2 : Int) (a3 : Int) (a4 : Int) (a5 : (List dRange)) (a6 : (List dWrite)) (a7 : Bool) (a8 : ByteArray) : execFn G61 slices_IndexFunc_Txn_idsUnlike_1_loops Try.f191 [.lst tTxn a0, .fn 227 [.bp 0 0]] [.box [.int .i64 a1, .int .i64 a2, .int .i64 a3, .int .i64 a4, .lst tRange a5, .lst tWrite a6, .bool a7, .str a8]] = slices_IndexFunc_Txn_idsUnlike_1_k a0 a1 a2 a3 a4 a5 a6 a7 a8 (fun (y : q46T) => some ⟨.ret, [.int .i64 y.1], [.box [.int .i64 y.2.1, .int .i64 y.2.2.1, .int .i64 y.2.2.2.1, .int .i64 y.2.2.2.2.1, .lst tRange y.2.2.2.2.2.1, .lst tWrite y.2.2.2.2.2.2.1, .bool y.2.2.2.2.2.2.2.1, .str y.2.2.2.2.2.2.2.2]]⟩) := by rw [slices_IndexFunc_Txn_idsUnlike_1_e]; kernel_rfl

theorem slices_IndexFunc_Txn_idsUnlike_1_l : LoopsOk G61 ⟨1, 19, slices_IndexFunc_Txn_idsUnlike_1_loops⟩ (Try.f191.body.getD .skip) :=
  loopsOk_of (ids := [0]) (by kernel_rfl) (by kernel_rfl) ⟨slices_IndexFunc_Txn_idsUnlike_1_lo0, trivial⟩

theorem slices_IndexFunc_Txn_c : Contract Try.prog 191 slices_IndexFunc_Txn_g := by
  refine told G61_ok follows Try.func191 (c := Try.f191.body.getD .skip) (by kernel_rfl) ?_
  intro args s k r hk
  unfold slices_IndexFunc_Txn_g at hk
  rcases onPats_inv hk with ⟨p, q, rfl, rfl⟩ | hk
  · exact ⟨slices_IndexFunc_Txn_idsUnlike_1_loops, slices_IndexFunc_Txn_idsUnlike_1_q p.1 q.1.1 q.1.2.1 q.1.2.2.1 q.1.2.2.2.1 q.1.2.2.2.2.1 q.1.2.2.2.2.2.1 q.1.2.2.2.2.2.2.1 q.1.2.2.2.2.2.2.2.1, slices_IndexFunc_Txn_idsUnlike_1_y p.1 q.1.1 q.1.2.1 q.1.2.2.1 q.1.2.2.2.1 q.1.2.2.2.2.1 q.1.2.2.2.2.2.1 q.1.2.2.2.2.2.2.1 q.1.2.2.2.2.2.2.2.1, slices_IndexFunc_Txn_idsUnlike_1_l⟩
  cases hk

def G62 : Glob := G61.add 191 slices_IndexFunc_Txn_g

theorem G62_ok : GlobOk Try.prog G62 := G61_ok.add ⟨Try.f191, Try.func191, by kernel_rfl, by kernel_rfl⟩ slices_IndexFunc_Txn_c



def slices_ContainsFunc_Txn_idsUnlike_1_loops : Nat → Option LoopSpec
  | _ => none

theorem slices_ContainsFunc_Txn_idsUnlike_1_y (a0 : (List dTxn)) (a1 : Int) (a2 : Int) (a3 : Int) (a4 : Int) (a5 : (List dRange)) (a6 : (List dWrite)) (a7 : Bool) (a8 : ByteArray) : execFn G62 slices_ContainsFunc_Txn_idsUnlike_1_loops Try.f238 [.lst tTxn a0, .fn 227 [.bp 0 0]] [.box [.int .i64 a1, .int .i64 a2, .int .i64 a3, .int .i64 a4, .lst tRange a5, .lst tWrite a6, .bool a7, .str a8]] = slices_ContainsFunc_Txn_idsUnlike_1_k a0 a1 a2 a3 a4 a5 a6 a7 a8 (fun (y : q34T) => some ⟨.ret, [.bool y.1], [.box [.int .i64 y.2.1, .int .i64 y.2.2.1, .int .i64 y.2.2.2.1, .int .i64 y.2.2.2.2.1, .lst tRange y.2.2.2.2.2.1, .lst tWrite y.2.2.2.2.2.2.1, .bool y.2.2.2.2.2.2.2.1, .str y.2.2.2.2.2.2.2.2]]⟩) := by rw [slices_ContainsFunc_Txn_idsUnlike_1_e]; kernel_rfl

theorem slices_ContainsFunc_Txn_idsUnlike_1_l : LoopsOk G62 ⟨1, 9, slices_ContainsFunc_Txn_idsUnlike_1_loops⟩ (Try.f238.body.getD .skip) :=
  loopsOk_of (ids := []) (by kernel_rfl) (by kernel_rfl) trivial

theorem slices_ContainsFunc_Txn_c : Contract Try.prog 238 slices_ContainsFunc_Txn_g := by
  refine told G62_ok follows Try.func238 (c := Try.f238.body.getD .skip) (by kernel_rfl) ?_
  intro args s k r hk
  unfold slices_ContainsFunc_Txn_g at hk
  rcases onPats_inv hk with ⟨p, q, rfl, rfl⟩ | hk
  · exact ⟨slices_ContainsFunc_Txn_idsUnlike_1_loops, slices_ContainsFunc_Txn_idsUnlike_1_q p.1 q.1.1 q.1.2.1 q.1.2.2.1 q.1.2.2.2.1 q.1.2.2.2.2.1 q.1.2.2.2.2.2.1 q.1.2.2.2.2.2.2.1 q.1.2.2.2.2.2.2.2.1, slices_ContainsFunc_Txn_idsUnlike_1_y p.1 q.1.1 q.1.2.1 q.1.2.2.1 q.1.2.2.2.1 q.1.2.2.2.2.1 q.1.2.2.2.2.2.1 q.1.2.2.2.2.2.2.1 q.1.2.2.2.2.2.2.2.1, slices_ContainsFunc_Txn_idsUnlike_1_l⟩
  cases hk

def G63 : Glob := G62.add 238 slices_ContainsFunc_Txn_g

theorem G63_ok : GlobOk Try.prog G63 := G62_ok.add ⟨Try.f238, Try.func238, by kernel_rfl, by kernel_rfl⟩ slices_ContainsFunc_Txn_c



def impl_some_idsUnlike_1_loops : Nat → Option LoopSpec
  | _ => none

theorem impl_some_idsUnlike_1_y (a0 : (List dTxn)) (a1 : Int) (a2 : Int) (a3 : Int) (a4 : Int) (a5 : (List dRange)) (a6 : (List dWrite)) (a7 : Bool) (a8 : ByteArray) : execFn G63 impl_some_idsUnlike_1_loops Try.f226 [.lst tTxn a0, .fn 227 [.bp 0 0]] [.box [.int .i64 a1, .int .i64 a2, .int .i64 a3, .int .i64 a4, .lst tRange a5, .lst tWrite a6, .bool a7, .str a8]] = impl_some_idsUnlike_1_k a0 a1 a2 a3 a4 a5 a6 a7 a8 (fun (y : q34T) => some ⟨.ret, [.bool y.1], [.box [.int .i64 y.2.1, .int .i64 y.2.2.1, .int .i64 y.2.2.2.1, .int .i64 y.2.2.2.2.1, .lst tRange y.2.2.2.2.2.1, .lst tWrite y.2.2.2.2.2.2.1, .bool y.2.2.2.2.2.2.2.1, .str y.2.2.2.2.2.2.2.2]]⟩) := by rw [impl_some_idsUnlike_1_e]; kernel_rfl

theorem impl_some_idsUnlike_1_l : LoopsOk G63 ⟨1, 8, impl_some_idsUnlike_1_loops⟩ (Try.f226.body.getD .skip) :=
  loopsOk_of (ids := []) (by kernel_rfl) (by kernel_rfl) trivial

theorem impl_some_c : Contract Try.prog 226 impl_some_g := by
  refine told G63_ok follows Try.func226 (c := Try.f226.body.getD .skip) (by kernel_rfl) ?_
  intro args s k r hk
  unfold impl_some_g at hk
  rcases onPats_inv hk with ⟨p, q, rfl, rfl⟩ | hk
  · exact ⟨impl_some_idsUnlike_1_loops, impl_some_idsUnlike_1_q p.1 q.1.1 q.1.2.1 q.1.2.2.1 q.1.2.2.2.1 q.1.2.2.2.2.1 q.1.2.2.2.2.2.1 q.1.2.2.2.2.2.2.1 q.1.2.2.2.2.2.2.2.1, impl_some_idsUnlike_1_y p.1 q.1.1 q.1.2.1 q.1.2.2.1 q.1.2.2.2.1 q.1.2.2.2.2.1 q.1.2.2.2.2.2.1 q.1.2.2.2.2.2.2.1 q.1.2.2.2.2.2.2.2.1, impl_some_idsUnlike_1_l⟩
  cases hk

def G64 : Glob := G63.add 226 impl_some_g

theorem G64_ok : GlobOk Try.prog G64 := G63_ok.add ⟨Try.f226, Try.func226, by kernel_rfl, by kernel_rfl⟩ impl_some_c



def impl_idsUnlike_loops : Nat → Option LoopSpec
  | 0 => some ⟨[0, 1, 4, 7, 8, 9], [], fun vals st k => onPats [.lst tTxn, .int .i64, .bool, .lst tTxn, .int .i64, .int .i64] [] vals st (fun p q => loopK impl_idsUnlike_b0 Fuel (p.1, p.2.1, p.2.2.1, p.2.2.2.1, p.2.2.2.2.1, p.2.2.2.2.2.1) (Sum.elim (fun z => k .ret [.lst tTxn z.1, .int .i64 z.2.1, .bool z.2.2.1, .lst tTxn z.2.2.2.1, .int .i64 z.2.2.2.2.1, .int .i64 z.2.2.2.2.2] []) (fun z => k (.exit 0) [.lst tTxn z.1, .int .i64 z.2.1, .bool z.2.2.1, .lst tTxn z.2.2.2.1, .int .i64 z.2.2.2.2.1, .int .i64 z.2.2.2.2.2] [])))
      (none)⟩
  | _ => none

def impl_idsUnlike_v0 : q11T → List AV := (fun x => [.lst tTxn x.1, .int .i64 x.2.1, .bool x.2.2.1, .lst tTxn x.2.2.2.1, .int .i64 x.2.2.2.2.1, .int .i64 x.2.2.2.2.2])
def impl_idsUnlike_s0 : q11T → St := (fun x => [])
def impl_idsUnlike_e0 : (q11T ⊕ q11T) → Out × List AV × St := (Sum.elim (fun z => (.ret, [.lst tTxn z.1, .int .i64 z.2.1, .bool z.2.2.1, .lst tTxn z.2.2.2.1, .int .i64 z.2.2.2.2.1, .int .i64 z.2.2.2.2.2], [])) (fun z => ((.exit 0), [.lst tTxn z.1, .int .i64 z.2.1, .bool z.2.2.1, .lst tTxn z.2.2.2.1, .int .i64 z.2.2.2.2.1, .int .i64 z.2.2.2.2.2], [])))

theorem impl_idsUnlike_bx0 (x : q11T) : exec G64 ⟨0, 26, impl_idsUnlike_loops⟩ (loopBody Try.f196 0) (bodyK ⟨0, 26, impl_idsUnlike_loops⟩ [0, 1, 4, 7, 8, 9] []) (setEs (deads 26) [0, 1, 4, 7, 8, 9] (impl_idsUnlike_v0 x)) (impl_idsUnlike_s0 x) = impl_idsUnlike_b0 x (Sum.elim (fun y => some ⟨.norm, impl_idsUnlike_v0 y, impl_idsUnlike_s0 y⟩) fun z => some ⟨(impl_idsUnlike_e0 z).1, (impl_idsUnlike_e0 z).2.1, (impl_idsUnlike_e0 z).2.2⟩) := by
  kernel_rfl

theorem impl_idsUnlike_lo0 : ∀ sp, (impl_idsUnlike_loops 0) = some sp → LoopOk G64 ⟨0, 26, impl_idsUnlike_loops⟩ sp (loopBody Try.f196 0) := by
  intro sp hsp vals st k r h
  cases hsp
  dsimp only at h
  rcases onPats_inv2 h with ⟨p, q, rfl, rfl, h⟩ | h
  · exact loop_runs2 impl_idsUnlike_bp0 impl_idsUnlike_v0 impl_idsUnlike_s0 impl_idsUnlike_e0 (fun z => by rcases z with z | z <;> (intro h; cases h)) impl_idsUnlike_bx0 Fuel (p.1, p.2.1, p.2.2.1, p.2.2.2.1, p.2.2.2.2.1, p.2.2.2.2.2.1) _ k r (fun z => by rcases z with z | z <;> rfl) h
  cases h

theorem impl_idsUnlike_y (a0 : (List dTxn)) (a1 : Int) : execFn G64 impl_idsUnlike_loops Try.f196 [.lst tTxn a0, .int .i64 a1] [] = impl_idsUnlike_k a0 a1 (fun (y : Bool) => some ⟨.ret, [.bool y], []⟩) := by rw [impl_idsUnlike_e]; kernel_rfl

theorem impl_idsUnlike_l : LoopsOk G64 ⟨0, 26, impl_idsUnlike_loops⟩ (Try.f196.body.getD .skip) :=
  loopsOk_of (ids := [0]) (by kernel_rfl) (by kernel_rfl) ⟨impl_idsUnlike_lo0, trivial⟩

theorem impl_idsUnlike_c : Contract Try.prog 196 impl_idsUnlike_g := by
  refine told G64_ok follows Try.func196 (c := Try.f196.body.getD .skip) (by kernel_rfl) ?_
  intro args s k r hk
  unfold impl_idsUnlike_g at hk
  rcases onPats_inv hk with ⟨p, q, rfl, rfl⟩ | hk
  · exact ⟨impl_idsUnlike_loops, impl_idsUnlike_q p.1 p.2.1, impl_idsUnlike_y p.1 p.2.1, impl_idsUnlike_l⟩
  cases hk

def G65 : Glob := G64.add 196 impl_idsUnlike_g

theorem G65_ok : GlobOk Try.prog G65 := G64_ok.add ⟨Try.f196, Try.func196, by kernel_rfl, by kernel_rfl⟩ impl_idsUnlike_c



def impl_BaseOk_loops : Nat → Option LoopSpec
  | 0 => some ⟨[1, 2, 38, 39, 40], [], fun vals st k => onPats [.bp 0 0, .bool, .lst tVersion, .int .i64, .int .i64] [.box [.lst tVersion, .lst tTxn, .lst tTxn, .int .i64, .int .i64]] vals st (fun p q => loopK impl_BaseOk_b0 Fuel (p.2.1, p.2.2.1, p.2.2.2.1, p.2.2.2.2.1, q.1.1, q.1.2.1, q.1.2.2.1, q.1.2.2.2.1, q.1.2.2.2.2.1) (Sum.elim (fun z => k .ret [.bp 0 0, .bool z.1, .lst tVersion z.2.1, .int .i64 z.2.2.1, .int .i64 z.2.2.2.1] [.box [.lst tVersion z.2.2.2.2.1, .lst tTxn z.2.2.2.2.2.1, .lst tTxn z.2.2.2.2.2.2.1, .int .i64 z.2.2.2.2.2.2.2.1, .int .i64 z.2.2.2.2.2.2.2.2]]) (fun z => k (.exit 0) [.bp 0 0, .bool z.1, .lst tVersion z.2.1, .int .i64 z.2.2.1, .int .i64 z.2.2.2.1] [.box [.lst tVersion z.2.2.2.2.1, .lst tTxn z.2.2.2.2.2.1, .lst tTxn z.2.2.2.2.2.2.1, .int .i64 z.2.2.2.2.2.2.2.1, .int .i64 z.2.2.2.2.2.2.2.2]])))
      (none)⟩
  | 2 => some ⟨[1, 2, 51, 52, 53], [], fun vals st k => onPats [.bp 0 0, .bool, .lst tTxn, .int .i64, .int .i64] [.box [.lst tVersion, .lst tTxn, .lst tTxn, .int .i64, .int .i64]] vals st (fun p q => loopK impl_BaseOk_b2 Fuel (p.2.1, p.2.2.1, p.2.2.2.1, p.2.2.2.2.1, q.1.1, q.1.2.1, q.1.2.2.1, q.1.2.2.2.1, q.1.2.2.2.2.1) (Sum.elim (fun z => k .ret [.bp 0 0, .bool z.1, .lst tTxn z.2.1, .int .i64 z.2.2.1, .int .i64 z.2.2.2.1] [.box [.lst tVersion z.2.2.2.2.1, .lst tTxn z.2.2.2.2.2.1, .lst tTxn z.2.2.2.2.2.2.1, .int .i64 z.2.2.2.2.2.2.2.1, .int .i64 z.2.2.2.2.2.2.2.2]]) (fun z => k (.exit 2) [.bp 0 0, .bool z.1, .lst tTxn z.2.1, .int .i64 z.2.2.1, .int .i64 z.2.2.2.1] [.box [.lst tVersion z.2.2.2.2.1, .lst tTxn z.2.2.2.2.2.1, .lst tTxn z.2.2.2.2.2.2.1, .int .i64 z.2.2.2.2.2.2.2.1, .int .i64 z.2.2.2.2.2.2.2.2]])))
      (none)⟩
  | 4 => some ⟨[1, 2, 91, 92, 93], [], fun vals st k => onPats [.bp 0 0, .bool, .lst tTxn, .int .i64, .int .i64] [.box [.lst tVersion, .lst tTxn, .lst tTxn, .int .i64, .int .i64]] vals st (fun p q => loopK impl_BaseOk_b4 Fuel (p.2.1, p.2.2.1, p.2.2.2.1, p.2.2.2.2.1, q.1.1, q.1.2.1, q.1.2.2.1, q.1.2.2.2.1, q.1.2.2.2.2.1) (Sum.elim (fun z => k .ret [.bp 0 0, .bool z.1, .lst tTxn z.2.1, .int .i64 z.2.2.1, .int .i64 z.2.2.2.1] [.box [.lst tVersion z.2.2.2.2.1, .lst tTxn z.2.2.2.2.2.1, .lst tTxn z.2.2.2.2.2.2.1, .int .i64 z.2.2.2.2.2.2.2.1, .int .i64 z.2.2.2.2.2.2.2.2]]) (fun z => k (.exit 4) [.bp 0 0, .bool z.1, .lst tTxn z.2.1, .int .i64 z.2.2.1, .int .i64 z.2.2.2.1] [.box [.lst tVersion z.2.2.2.2.1, .lst tTxn z.2.2.2.2.2.1, .lst tTxn z.2.2.2.2.2.2.1, .int .i64 z.2.2.2.2.2.2.2.1, .int .i64 z.2.2.2.2.2.2.2.2]])))
      (none)⟩
  | 5000003 => some ⟨[1, 2], [], fun vals st k => onPats [.bp 0 0, .bool] [.box [.lst tVersion, .lst tTxn, .lst tTxn, .int .i64, .int .i64]] vals st (fun p q => impl_BaseOk_j5000003 (p.2.1, q.1.1, q.1.2.1, q.1.2.2.1, q.1.2.2.2.1, q.1.2.2.2.2.1) (fun z => k .ret [.bp 0 0, .bool z.1] [.box [.lst tVersion z.2.1, .lst tTxn z.2.2.1, .lst tTxn z.2.2.2.1, .int .i64 z.2.2.2.2.1, .int .i64 z.2.2.2.2.2]]))
      (none)⟩
  | 2000012 => some ⟨[0, 3, 4, 6, 8, 11, 12, 14, 16, 18, 20, 22, 24, 26, 28, 30, 32, 34, 36, 38, 40, 42, 44, 46, 48, 50, 52, 54, 56, 58, 60], [], fun _ _ _ => none⟩
  | 2000018 => some ⟨[0, 3, 4, 6, 8, 11, 12, 14, 16, 18, 20, 22, 24, 26, 28, 30, 32, 34, 36, 38, 40, 42, 44, 46, 48, 50, 52, 54, 56, 58, 60], [], fun _ _ _ => none⟩
  | 2000021 => some ⟨[0, 2, 4, 6, 12, 14, 9, 11, 17, 18], [], fun _ _ _ => none⟩
  | _ => none

def impl_BaseOk_v0 : q28T → List AV := (fun x => [.bp 0 0, .bool x.1, .lst tVersion x.2.1, .int .i64 x.2.2.1, .int .i64 x.2.2.2.1])
def impl_BaseOk_s0 : q28T → St := (fun x => [.box [.lst tVersion x.2.2.2.2.1, .lst tTxn x.2.2.2.2.2.1, .lst tTxn x.2.2.2.2.2.2.1, .int .i64 x.2.2.2.2.2.2.2.1, .int .i64 x.2.2.2.2.2.2.2.2]])
def impl_BaseOk_e0 : (q28T ⊕ q28T) → Out × List AV × St := (Sum.elim (fun z => (.ret, [.bp 0 0, .bool z.1, .lst tVersion z.2.1, .int .i64 z.2.2.1, .int .i64 z.2.2.2.1], [.box [.lst tVersion z.2.2.2.2.1, .lst tTxn z.2.2.2.2.2.1, .lst tTxn z.2.2.2.2.2.2.1, .int .i64 z.2.2.2.2.2.2.2.1, .int .i64 z.2.2.2.2.2.2.2.2]])) (fun z => ((.exit 0), [.bp 0 0, .bool z.1, .lst tVersion z.2.1, .int .i64 z.2.2.1, .int .i64 z.2.2.2.1], [.box [.lst tVersion z.2.2.2.2.1, .lst tTxn z.2.2.2.2.2.1, .lst tTxn z.2.2.2.2.2.2.1, .int .i64 z.2.2.2.2.2.2.2.1, .int .i64 z.2.2.2.2.2.2.2.2]])))

theorem impl_BaseOk_bx0 (x : q28T) : exec G65 ⟨0, 139, impl_BaseOk_loops⟩ (loopBody Try.f162 0) (bodyK ⟨0, 139, impl_BaseOk_loops⟩ [1, 2, 38, 39, 40] []) (setEs (deads 139) [1, 2, 38, 39, 40] (impl_BaseOk_v0 x)) (impl_BaseOk_s0 x) = impl_BaseOk_b0 x (Sum.elim (fun y => some ⟨.norm, impl_BaseOk_v0 y, impl_BaseOk_s0 y⟩) fun z => some ⟨(impl_BaseOk_e0 z).1, (impl_BaseOk_e0 z).2.1, (impl_BaseOk_e0 z).2.2⟩) := by
  kernel_rfl

theorem impl_BaseOk_lo0 : ∀ sp, (impl_BaseOk_loops 0) = some sp → LoopOk G65 ⟨0, 139, impl_BaseOk_loops⟩ sp (loopBody Try.f162 0) := by
  intro sp hsp vals st k r h
  cases hsp
  dsimp only at h
  rcases onPats_inv2 h with ⟨p, q, rfl, rfl, h⟩ | h
  · exact loop_runs2 impl_BaseOk_bp0 impl_BaseOk_v0 impl_BaseOk_s0 impl_BaseOk_e0 (fun z => by rcases z with z | z <;> (intro h; cases h)) impl_BaseOk_bx0 Fuel (p.2.1, p.2.2.1, p.2.2.2.1, p.2.2.2.2.1, q.1.1, q.1.2.1, q.1.2.2.1, q.1.2.2.2.1, q.1.2.2.2.2.1) _ k r (fun z => by rcases z with z | z <;> rfl) h
  cases h

def impl_BaseOk_v2 : q26T → List AV := (fun x => [.bp 0 0, .bool x.1, .lst tTxn x.2.1, .int .i64 x.2.2.1, .int .i64 x.2.2.2.1])
def impl_BaseOk_s2 : q26T → St := (fun x => [.box [.lst tVersion x.2.2.2.2.1, .lst tTxn x.2.2.2.2.2.1, .lst tTxn x.2.2.2.2.2.2.1, .int .i64 x.2.2.2.2.2.2.2.1, .int .i64 x.2.2.2.2.2.2.2.2]])
def impl_BaseOk_e2 : (q26T ⊕ q26T) → Out × List AV × St := (Sum.elim (fun z => (.ret, [.bp 0 0, .bool z.1, .lst tTxn z.2.1, .int .i64 z.2.2.1, .int .i64 z.2.2.2.1], [.box [.lst tVersion z.2.2.2.2.1, .lst tTxn z.2.2.2.2.2.1, .lst tTxn z.2.2.2.2.2.2.1, .int .i64 z.2.2.2.2.2.2.2.1, .int .i64 z.2.2.2.2.2.2.2.2]])) (fun z => ((.exit 2), [.bp 0 0, .bool z.1, .lst tTxn z.2.1, .int .i64 z.2.2.1, .int .i64 z.2.2.2.1], [.box [.lst tVersion z.2.2.2.2.1, .lst tTxn z.2.2.2.2.2.1, .lst tTxn z.2.2.2.2.2.2.1, .int .i64 z.2.2.2.2.2.2.2.1, .int .i64 z.2.2.2.2.2.2.2.2]])))

theorem impl_BaseOk_bx2 (x : q26T) : exec G65 ⟨0, 139, impl_BaseOk_loops⟩ (loopBody Try.f162 2) (bodyK ⟨0, 139, impl_BaseOk_loops⟩ [1, 2, 51, 52, 53] []) (setEs (deads 139) [1, 2, 51, 52, 53] (impl_BaseOk_v2 x)) (impl_BaseOk_s2 x) = impl_BaseOk_b2 x (Sum.elim (fun y => some ⟨.norm, impl_BaseOk_v2 y, impl_BaseOk_s2 y⟩) fun z => some ⟨(impl_BaseOk_e2 z).1, (impl_BaseOk_e2 z).2.1, (impl_BaseOk_e2 z).2.2⟩) := by
  kernel_rfl

theorem impl_BaseOk_lo2 : ∀ sp, (impl_BaseOk_loops 2) = some sp → LoopOk G65 ⟨0, 139, impl_BaseOk_loops⟩ sp (loopBody Try.f162 2) := by
  intro sp hsp vals st k r h
  cases hsp
  dsimp only at h
  rcases onPats_inv2 h with ⟨p, q, rfl, rfl, h⟩ | h
  · exact loop_runs2 impl_BaseOk_bp2 impl_BaseOk_v2 impl_BaseOk_s2 impl_BaseOk_e2 (fun z => by rcases z with z | z <;> (intro h; cases h)) impl_BaseOk_bx2 Fuel (p.2.1, p.2.2.1, p.2.2.2.1, p.2.2.2.2.1, q.1.1, q.1.2.1, q.1.2.2.1, q.1.2.2.2.1, q.1.2.2.2.2.1) _ k r (fun z => by rcases z with z | z <;> rfl) h
  cases h

def impl_BaseOk_v4 : q26T → List AV := (fun x => [.bp 0 0, .bool x.1, .lst tTxn x.2.1, .int .i64 x.2.2.1, .int .i64 x.2.2.2.1])
def impl_BaseOk_s4 : q26T → St := (fun x => [.box [.lst tVersion x.2.2.2.2.1, .lst tTxn x.2.2.2.2.2.1, .lst tTxn x.2.2.2.2.2.2.1, .int .i64 x.2.2.2.2.2.2.2.1, .int .i64 x.2.2.2.2.2.2.2.2]])
def impl_BaseOk_e4 : (q26T ⊕ q26T) → Out × List AV × St := (Sum.elim (fun z => (.ret, [.bp 0 0, .bool z.1, .lst tTxn z.2.1, .int .i64 z.2.2.1, .int .i64 z.2.2.2.1], [.box [.lst tVersion z.2.2.2.2.1, .lst tTxn z.2.2.2.2.2.1, .lst tTxn z.2.2.2.2.2.2.1, .int .i64 z.2.2.2.2.2.2.2.1, .int .i64 z.2.2.2.2.2.2.2.2]])) (fun z => ((.exit 4), [.bp 0 0, .bool z.1, .lst tTxn z.2.1, .int .i64 z.2.2.1, .int .i64 z.2.2.2.1], [.box [.lst tVersion z.2.2.2.2.1, .lst tTxn z.2.2.2.2.2.1, .lst tTxn z.2.2.2.2.2.2.1, .int .i64 z.2.2.2.2.2.2.2.1, .int .i64 z.2.2.2.2.2.2.2.2]])))

theorem impl_BaseOk_bx4 (x : q26T) : exec G65 ⟨0, 139, impl_BaseOk_loops⟩ (loopBody Try.f162 4) (bodyK ⟨0, 139, impl_BaseOk_loops⟩ [1, 2, 91, 92, 93] []) (setEs (deads 139) [1, 2, 91, 92, 93] (impl_BaseOk_v4 x)) (impl_BaseOk_s4 x) = impl_BaseOk_b4 x (Sum.elim (fun y => some ⟨.norm, impl_BaseOk_v4 y, impl_BaseOk_s4 y⟩) fun z => some ⟨(impl_BaseOk_e4 z).1, (impl_BaseOk_e4 z).2.1, (impl_BaseOk_e4 z).2.2⟩) := by
  kernel_rfl

theorem impl_BaseOk_lo4 : ∀ sp, (impl_BaseOk_loops 4) = some sp → LoopOk G65 ⟨0, 139, impl_BaseOk_loops⟩ sp (loopBody Try.f162 4) := by
  intro sp hsp vals st k r h
  cases hsp
  dsimp only at h
  rcases onPats_inv2 h with ⟨p, q, rfl, rfl, h⟩ | h
  · exact loop_runs2 impl_BaseOk_bp4 impl_BaseOk_v4 impl_BaseOk_s4 impl_BaseOk_e4 (fun z => by rcases z with z | z <;> (intro h; cases h)) impl_BaseOk_bx4 Fuel (p.2.1, p.2.2.1, p.2.2.2.1, p.2.2.2.2.1, q.1.1, q.1.2.1, q.1.2.2.1, q.1.2.2.2.1, q.1.2.2.2.2.1) _ k r (fun z => by rcases z with z | z <;> rfl) h
  cases h

def impl_BaseOk_jv5000003 : q27T → List AV := (fun x => [.bp 0 0, .bool x.1])
def impl_BaseOk_js5000003 : q27T → St := (fun x => [.box [.lst tVersion x.2.1, .lst tTxn x.2.2.1, .lst tTxn x.2.2.2.1, .int .i64 x.2.2.2.2.1, .int .i64 x.2.2.2.2.2]])
def impl_BaseOk_je5000003 : q27T → Out × List AV × St := (fun z => (.ret, [.bp 0 0, .bool z.1], [.box [.lst tVersion z.2.1, .lst tTxn z.2.2.1, .lst tTxn z.2.2.2.1, .int .i64 z.2.2.2.2.1, .int .i64 z.2.2.2.2.2]]))

theorem impl_BaseOk_jx5000003 (x : q27T) : exec G65 ⟨0, 139, impl_BaseOk_loops⟩ (loopBody Try.f162 5000003) (bodyK ⟨0, 139, impl_BaseOk_loops⟩ [1, 2] []) (setEs (deads 139) [1, 2] (impl_BaseOk_jv5000003 x)) (impl_BaseOk_js5000003 x) = impl_BaseOk_j5000003 x (fun z => some ⟨(impl_BaseOk_je5000003 z).1, (impl_BaseOk_je5000003 z).2.1, (impl_BaseOk_je5000003 z).2.2⟩) := by
  kernel_rfl

theorem impl_BaseOk_lo5000003 : ∀ sp, (impl_BaseOk_loops 5000003) = some sp → CutOk G65 ⟨0, 139, impl_BaseOk_loops⟩ sp (loopBody Try.f162 5000003) := by
  intro sp hsp vals st k r h
  cases hsp
  dsimp only at h
  rcases onPats_inv2 h with ⟨p, q, rfl, rfl, h⟩ | h
  · exact cut_runs impl_BaseOk_jp5000003 impl_BaseOk_jv5000003 impl_BaseOk_js5000003 impl_BaseOk_je5000003 impl_BaseOk_jx5000003 (p.2.1, q.1.1, q.1.2.1, q.1.2.2.1, q.1.2.2.2.1, q.1.2.2.2.2.1) _ k r (fun z => rfl) h
  cases h

theorem impl_BaseOk_y (a0 : (List dVersion)) (a1 : (List dTxn)) (a2 : (List dTxn)) (a3 : Int) (a4 : Int) : execFn G65 impl_BaseOk_loops Try.f162 [.agg [.lst tVersion a0, .lst tTxn a1, .lst tTxn a2, .int .i64 a3, .int .i64 a4]] [] = impl_BaseOk_k (a0, (a1, (a2, (a3, a4)))) (fun (y : Bool) => some ⟨.ret, [.bool y], []⟩) := by rw [impl_BaseOk_e]; kernel_rfl

theorem impl_BaseOk_l : LoopsOk G65 ⟨0, 139, impl_BaseOk_loops⟩ (Try.f162.body.getD .skip) :=
  loopsOk_of (ids := [0, 2, 4, 5000003]) (by kernel_rfl) (by kernel_rfl) ⟨impl_BaseOk_lo0, ⟨impl_BaseOk_lo2, ⟨impl_BaseOk_lo4, ⟨impl_BaseOk_lo5000003, trivial⟩⟩⟩⟩

theorem impl_BaseOk_c : Contract Try.prog 162 impl_BaseOk_g := by
  refine told G65_ok follows Try.func162 (c := Try.f162.body.getD .skip) (by kernel_rfl) ?_
  intro args s k r hk
  unfold impl_BaseOk_g at hk
  rcases onPats_inv hk with ⟨p, q, rfl, rfl⟩ | hk
  · exact ⟨impl_BaseOk_loops, impl_BaseOk_q p.1.1 p.1.2.1 p.1.2.2.1 p.1.2.2.2.1 p.1.2.2.2.2.1, impl_BaseOk_y p.1.1 p.1.2.1 p.1.2.2.1 p.1.2.2.2.1 p.1.2.2.2.2.1, impl_BaseOk_l⟩
  cases hk

def G66 : Glob := G65.add 162 impl_BaseOk_g

theorem G66_ok : GlobOk Try.prog G66 := G65_ok.add ⟨Try.f162, Try.func162, by kernel_rfl, by kernel_rfl⟩ impl_BaseOk_c



def impl_RecordOk_loops : Nat → Option LoopSpec
  | 5000012 => some ⟨[1, 2, 3, 4, 5], [], fun vals st k => onPats [.bp 0 0, .bool, .bool, .bool, .bool] [.box [.int .i64, .int .i64, .int .i64, .int .i64, .int .i64, .lst tRange, .lst tWrite, .bool, .str, .str, .bool, .lst tVersion, .lst tTxn, .lst tTxn, .int .i64, .int .i64]] vals st (fun p q => impl_RecordOk_j5000012 (p.2.1, p.2.2.1, p.2.2.2.1, p.2.2.2.2.1, q.1.1, q.1.2.1, q.1.2.2.1, q.1.2.2.2.1, q.1.2.2.2.2.1, q.1.2.2.2.2.2.1, q.1.2.2.2.2.2.2.1, q.1.2.2.2.2.2.2.2.1, q.1.2.2.2.2.2.2.2.2.1, q.1.2.2.2.2.2.2.2.2.2.1, q.1.2.2.2.2.2.2.2.2.2.2.1, q.1.2.2.2.2.2.2.2.2.2.2.2.1, q.1.2.2.2.2.2.2.2.2.2.2.2.2.1, q.1.2.2.2.2.2.2.2.2.2.2.2.2.2.1, q.1.2.2.2.2.2.2.2.2.2.2.2.2.2.2.1, q.1.2.2.2.2.2.2.2.2.2.2.2.2.2.2.2.1) (fun z => k .ret [.bp 0 0, .bool z.1, .bool z.2.1, .bool z.2.2.1, .bool z.2.2.2.1] [.box [.int .i64 z.2.2.2.2.1, .int .i64 z.2.2.2.2.2.1, .int .i64 z.2.2.2.2.2.2.1, .int .i64 z.2.2.2.2.2.2.2.1, .int .i64 z.2.2.2.2.2.2.2.2.1, .lst tRange z.2.2.2.2.2.2.2.2.2.1, .lst tWrite z.2.2.2.2.2.2.2.2.2.2.1, .bool z.2.2.2.2.2.2.2.2.2.2.2.1, .str z.2.2.2.2.2.2.2.2.2.2.2.2.1, .str z.2.2.2.2.2.2.2.2.2.2.2.2.2.1, .bool z.2.2.2.2.2.2.2.2.2.2.2.2.2.2.1, .lst tVersion z.2.2.2.2.2.2.2.2.2.2.2.2.2.2.2.1, .lst tTxn z.2.2.2.2.2.2.2.2.2.2.2.2.2.2.2.2.1, .lst tTxn z.2.2.2.2.2.2.2.2.2.2.2.2.2.2.2.2.2.1, .int .i64 z.2.2.2.2.2.2.2.2.2.2.2.2.2.2.2.2.2.2.1, .int .i64 z.2.2.2.2.2.2.2.2.2.2.2.2.2.2.2.2.2.2.2]]))
      (none)⟩
  | 2000001 => some ⟨[0, 2, 6, 8, 10, 12, 14, 5, 17, 18, 20, 22], [], fun _ _ _ => none⟩
  | _ => none

def impl_RecordOk_jv5000012 : q29T → List AV := (fun x => [.bp 0 0, .bool x.1, .bool x.2.1, .bool x.2.2.1, .bool x.2.2.2.1])
def impl_RecordOk_js5000012 : q29T → St := (fun x => [.box [.int .i64 x.2.2.2.2.1, .int .i64 x.2.2.2.2.2.1, .int .i64 x.2.2.2.2.2.2.1, .int .i64 x.2.2.2.2.2.2.2.1, .int .i64 x.2.2.2.2.2.2.2.2.1, .lst tRange x.2.2.2.2.2.2.2.2.2.1, .lst tWrite x.2.2.2.2.2.2.2.2.2.2.1, .bool x.2.2.2.2.2.2.2.2.2.2.2.1, .str x.2.2.2.2.2.2.2.2.2.2.2.2.1, .str x.2.2.2.2.2.2.2.2.2.2.2.2.2.1, .bool x.2.2.2.2.2.2.2.2.2.2.2.2.2.2.1, .lst tVersion x.2.2.2.2.2.2.2.2.2.2.2.2.2.2.2.1, .lst tTxn x.2.2.2.2.2.2.2.2.2.2.2.2.2.2.2.2.1, .lst tTxn x.2.2.2.2.2.2.2.2.2.2.2.2.2.2.2.2.2.1, .int .i64 x.2.2.2.2.2.2.2.2.2.2.2.2.2.2.2.2.2.2.1, .int .i64 x.2.2.2.2.2.2.2.2.2.2.2.2.2.2.2.2.2.2.2]])
def impl_RecordOk_je5000012 : q29T → Out × List AV × St := (fun z => (.ret, [.bp 0 0, .bool z.1, .bool z.2.1, .bool z.2.2.1, .bool z.2.2.2.1], [.box [.int .i64 z.2.2.2.2.1, .int .i64 z.2.2.2.2.2.1, .int .i64 z.2.2.2.2.2.2.1, .int .i64 z.2.2.2.2.2.2.2.1, .int .i64 z.2.2.2.2.2.2.2.2.1, .lst tRange z.2.2.2.2.2.2.2.2.2.1, .lst tWrite z.2.2.2.2.2.2.2.2.2.2.1, .bool z.2.2.2.2.2.2.2.2.2.2.2.1, .str z.2.2.2.2.2.2.2.2.2.2.2.2.1, .str z.2.2.2.2.2.2.2.2.2.2.2.2.2.1, .bool z.2.2.2.2.2.2.2.2.2.2.2.2.2.2.1, .lst tVersion z.2.2.2.2.2.2.2.2.2.2.2.2.2.2.2.1, .lst tTxn z.2.2.2.2.2.2.2.2.2.2.2.2.2.2.2.2.1, .lst tTxn z.2.2.2.2.2.2.2.2.2.2.2.2.2.2.2.2.2.1, .int .i64 z.2.2.2.2.2.2.2.2.2.2.2.2.2.2.2.2.2.2.1, .int .i64 z.2.2.2.2.2.2.2.2.2.2.2.2.2.2.2.2.2.2.2]]))

theorem impl_RecordOk_jx5000012 (x : q29T) : exec G66 ⟨0, 64, impl_RecordOk_loops⟩ (loopBody Try.f88 5000012) (bodyK ⟨0, 64, impl_RecordOk_loops⟩ [1, 2, 3, 4, 5] []) (setEs (deads 64) [1, 2, 3, 4, 5] (impl_RecordOk_jv5000012 x)) (impl_RecordOk_js5000012 x) = impl_RecordOk_j5000012 x (fun z => some ⟨(impl_RecordOk_je5000012 z).1, (impl_RecordOk_je5000012 z).2.1, (impl_RecordOk_je5000012 z).2.2⟩) := by
  kernel_rfl

theorem impl_RecordOk_lo5000012 : ∀ sp, (impl_RecordOk_loops 5000012) = some sp → CutOk G66 ⟨0, 64, impl_RecordOk_loops⟩ sp (loopBody Try.f88 5000012) := by
  intro sp hsp vals st k r h
  cases hsp
  dsimp only at h
  rcases onPats_inv2 h with ⟨p, q, rfl, rfl, h⟩ | h
  · exact cut_runs impl_RecordOk_jp5000012 impl_RecordOk_jv5000012 impl_RecordOk_js5000012 impl_RecordOk_je5000012 impl_RecordOk_jx5000012 (p.2.1, p.2.2.1, p.2.2.2.1, p.2.2.2.2.1, q.1.1, q.1.2.1, q.1.2.2.1, q.1.2.2.2.1, q.1.2.2.2.2.1, q.1.2.2.2.2.2.1, q.1.2.2.2.2.2.2.1, q.1.2.2.2.2.2.2.2.1, q.1.2.2.2.2.2.2.2.2.1, q.1.2.2.2.2.2.2.2.2.2.1, q.1.2.2.2.2.2.2.2.2.2.2.1, q.1.2.2.2.2.2.2.2.2.2.2.2.1, q.1.2.2.2.2.2.2.2.2.2.2.2.2.1, q.1.2.2.2.2.2.2.2.2.2.2.2.2.2.1, q.1.2.2.2.2.2.2.2.2.2.2.2.2.2.2.1, q.1.2.2.2.2.2.2.2.2.2.2.2.2.2.2.2.1) _ k r (fun z => rfl) h
  cases h

theorem impl_RecordOk_y (a0 : Int) (a1 : Int) (a2 : Int) (a3 : Int) (a4 : Int) (a5 : (List dRange)) (a6 : (List dWrite)) (a7 : Bool) (a8 : ByteArray) (a9 : ByteArray) (a10 : Bool) (a11 : (List dVersion)) (a12 : (List dTxn)) (a13 : (List dTxn)) (a14 : Int) (a15 : Int) : execFn G66 impl_RecordOk_loops Try.f88 [.agg [.int .i64 a0, .int .i64 a1, .int .i64 a2, .int .i64 a3, .int .i64 a4, .lst tRange a5, .lst tWrite a6, .bool a7, .str a8, .str a9, .bool a10, .lst tVersion a11, .lst tTxn a12, .lst tTxn a13, .int .i64 a14, .int .i64 a15]] [] = impl_RecordOk_k (a0, ((a1, (a2, (a3, (a4, (a5, (a6, (a7, a8))))))), (a9, (a10, (a11, (a12, (a13, (a14, a15)))))))) (fun (y : Bool) => some ⟨.ret, [.bool y], []⟩) := by rw [impl_RecordOk_e]; kernel_rfl

theorem impl_RecordOk_l : LoopsOk G66 ⟨0, 64, impl_RecordOk_loops⟩ (Try.f88.body.getD .skip) :=
  loopsOk_of (ids := [5000012]) (by kernel_rfl) (by kernel_rfl) ⟨impl_RecordOk_lo5000012, trivial⟩

theorem impl_RecordOk_c : Contract Try.prog 88 impl_RecordOk_g := by
  refine told G66_ok follows Try.func88 (c := Try.f88.body.getD .skip) (by kernel_rfl) ?_
  intro args s k r hk
  unfold impl_RecordOk_g at hk
  rcases onPats_inv hk with ⟨p, q, rfl, rfl⟩ | hk
  · exact ⟨impl_RecordOk_loops, impl_RecordOk_q p.1.1 p.1.2.1 p.1.2.2.1 p.1.2.2.2.1 p.1.2.2.2.2.1 p.1.2.2.2.2.2.1 p.1.2.2.2.2.2.2.1 p.1.2.2.2.2.2.2.2.1 p.1.2.2.2.2.2.2.2.2.1 p.1.2.2.2.2.2.2.2.2.2.1 p.1.2.2.2.2.2.2.2.2.2.2.1 p.1.2.2.2.2.2.2.2.2.2.2.2.1 p.1.2.2.2.2.2.2.2.2.2.2.2.2.1 p.1.2.2.2.2.2.2.2.2.2.2.2.2.2.1 p.1.2.2.2.2.2.2.2.2.2.2.2.2.2.2.1 p.1.2.2.2.2.2.2.2.2.2.2.2.2.2.2.2.1, impl_RecordOk_y p.1.1 p.1.2.1 p.1.2.2.1 p.1.2.2.2.1 p.1.2.2.2.2.1 p.1.2.2.2.2.2.1 p.1.2.2.2.2.2.2.1 p.1.2.2.2.2.2.2.2.1 p.1.2.2.2.2.2.2.2.2.1 p.1.2.2.2.2.2.2.2.2.2.1 p.1.2.2.2.2.2.2.2.2.2.2.1 p.1.2.2.2.2.2.2.2.2.2.2.2.1 p.1.2.2.2.2.2.2.2.2.2.2.2.2.1 p.1.2.2.2.2.2.2.2.2.2.2.2.2.2.1 p.1.2.2.2.2.2.2.2.2.2.2.2.2.2.2.1 p.1.2.2.2.2.2.2.2.2.2.2.2.2.2.2.2.1, impl_RecordOk_l⟩
  cases hk

def G67 : Glob := G66.add 88 impl_RecordOk_g

theorem G67_ok : GlobOk Try.prog G67 := G66_ok.add ⟨Try.f88, Try.func88, by kernel_rfl, by kernel_rfl⟩ impl_RecordOk_c



def impl_VarText_loops : Nat → Option LoopSpec
  | 0 => some ⟨[0, 4], [none, some (.int .u8)], fun vals st k => onPats [.int .i64, .own 0] [.arr (.int .u8)] vals st (fun p q => loopK impl_VarText_b0 Fuel (p.1, q.1) (fun z => k (.exit 0) [.int .i64 z.1, .own 0] [.arr (.int .u8) z.2]))
      (none)⟩
  | _ => none

def impl_VarText_v0 : (Int × (List Int)) → List AV := (fun x => [.int .i64 x.1, .own 0])
def impl_VarText_s0 : (Int × (List Int)) → St := (fun x => [.arr (.int .u8) x.2])
def impl_VarText_e0 : (Int × (List Int)) → Out × List AV × St := (fun z => ((.exit 0), [.int .i64 z.1, .own 0], [.arr (.int .u8) z.2]))

theorem impl_VarText_bx0 (x : (Int × (List Int))) : exec G67 ⟨0, 25, impl_VarText_loops⟩ (loopBody Try.f166 0) (bodyK ⟨0, 25, impl_VarText_loops⟩ [0, 4] [none, some (.int .u8)]) (setEs (deads 25) [0, 4] (impl_VarText_v0 x)) (impl_VarText_s0 x) = impl_VarText_b0 x (Sum.elim (fun y => some ⟨.norm, impl_VarText_v0 y, impl_VarText_s0 y⟩) fun z => some ⟨(impl_VarText_e0 z).1, (impl_VarText_e0 z).2.1, (impl_VarText_e0 z).2.2⟩) := by
  kernel_rfl

theorem impl_VarText_lo0 : ∀ sp, (impl_VarText_loops 0) = some sp → LoopOk G67 ⟨0, 25, impl_VarText_loops⟩ sp (loopBody Try.f166 0) := by
  intro sp hsp vals st k r h
  cases hsp
  dsimp only at h
  rcases onPats_inv2 h with ⟨p, q, rfl, rfl, h⟩ | h
  · exact loop_runs2 impl_VarText_bp0 impl_VarText_v0 impl_VarText_s0 impl_VarText_e0 (fun z => by (intro h; cases h)) impl_VarText_bx0 Fuel (p.1, q.1) _ k r (fun z => rfl) h
  cases h

theorem impl_VarText_y (a0 : Int) : execFn G67 impl_VarText_loops Try.f166 [.int .i64 a0] [] = impl_VarText_k a0 (fun (y : (ByteArray × Bool)) => some ⟨.ret, [.tup [.str y.1, .bool y.2]], []⟩) := by rw [impl_VarText_e]; kernel_rfl

theorem impl_VarText_l : LoopsOk G67 ⟨0, 25, impl_VarText_loops⟩ (Try.f166.body.getD .skip) :=
  loopsOk_of (ids := [0]) (by kernel_rfl) (by kernel_rfl) ⟨impl_VarText_lo0, trivial⟩

theorem impl_VarText_c : Contract Try.prog 166 impl_VarText_g := by
  refine told G67_ok follows Try.func166 (c := Try.f166.body.getD .skip) (by kernel_rfl) ?_
  intro args s k r hk
  unfold impl_VarText_g at hk
  rcases onPats_inv hk with ⟨p, q, rfl, rfl⟩ | hk
  · exact ⟨impl_VarText_loops, impl_VarText_q p.1, impl_VarText_y p.1, impl_VarText_l⟩
  cases hk

def G68 : Glob := G67.add 166 impl_VarText_g

theorem G68_ok : GlobOk Try.prog G68 := G67_ok.add ⟨Try.f166, Try.func166, by kernel_rfl, by kernel_rfl⟩ impl_VarText_c



def impl_ShortText_loops : Nat → Option LoopSpec
  | _ => none

theorem impl_ShortText_y (a0 : ByteArray) : execFn G68 impl_ShortText_loops Try.f163 [.str a0] [] = impl_ShortText_k a0 (fun (y : (ByteArray × Bool)) => some ⟨.ret, [.tup [.str y.1, .bool y.2]], []⟩) := by rw [impl_ShortText_e]; kernel_rfl

theorem impl_ShortText_l : LoopsOk G68 ⟨0, 18, impl_ShortText_loops⟩ (Try.f163.body.getD .skip) :=
  loopsOk_of (ids := []) (by kernel_rfl) (by kernel_rfl) trivial

theorem impl_ShortText_c : Contract Try.prog 163 impl_ShortText_g := by
  refine told G68_ok follows Try.func163 (c := Try.f163.body.getD .skip) (by kernel_rfl) ?_
  intro args s k r hk
  unfold impl_ShortText_g at hk
  rcases onPats_inv hk with ⟨p, q, rfl, rfl⟩ | hk
  · exact ⟨impl_ShortText_loops, impl_ShortText_q p.1, impl_ShortText_y p.1, impl_ShortText_l⟩
  cases hk

def G69 : Glob := G68.add 163 impl_ShortText_g

theorem G69_ok : GlobOk Try.prog G69 := G68_ok.add ⟨Try.f163, Try.func163, by kernel_rfl, by kernel_rfl⟩ impl_ShortText_c



def impl_plan_text_loops : Nat → Option LoopSpec
  | 0 => some ⟨[0, 8, 9, 10], [], fun vals st k => onPats [.bp 0 0, .lst .str, .int .i64, .int .i64] [.box [.own 1], .arr (.int .u8)] vals st (fun p q => loopK impl_plan_text_b0 Fuel (.inl (p.2.1, p.2.2.1, p.2.2.2.1, q.2.1)) (Sum.elim (fun z => k (.exit 0) [.bp 0 0, .lst .str z.1, .int .i64 z.2.1, .int .i64 z.2.2.1] [.box [.own 1], .arr (.int .u8) z.2.2.2]) (fun z => k (.exit 0) [.bp 0 0, .lst .str z.1, .int .i64 z.2.1, .int .i64 z.2.2.1] [.box [.own 2], .gone, .arr (.int .u8) z.2.2.2])))
      (onPats [.bp 0 0, .lst .str, .int .i64, .int .i64] [.box [.own 2], .gone, .arr (.int .u8)] vals st (fun p q => loopK impl_plan_text_b0 Fuel (.inr (p.2.1, p.2.2.1, p.2.2.2.1, q.2.2.1)) (Sum.elim (fun z => k (.exit 0) [.bp 0 0, .lst .str z.1, .int .i64 z.2.1, .int .i64 z.2.2.1] [.box [.own 1], .arr (.int .u8) z.2.2.2]) (fun z => k (.exit 0) [.bp 0 0, .lst .str z.1, .int .i64 z.2.1, .int .i64 z.2.2.1] [.box [.own 2], .gone, .arr (.int .u8) z.2.2.2])))
      (none))⟩
  | _ => none

def impl_plan_text_v0 : (q2T ⊕ q2T) → List AV := (Sum.elim (fun x => [.bp 0 0, .lst .str x.1, .int .i64 x.2.1, .int .i64 x.2.2.1]) (fun x => [.bp 0 0, .lst .str x.1, .int .i64 x.2.1, .int .i64 x.2.2.1]))
def impl_plan_text_s0 : (q2T ⊕ q2T) → St := (Sum.elim (fun x => [.box [.own 1], .arr (.int .u8) x.2.2.2]) (fun x => [.box [.own 2], .gone, .arr (.int .u8) x.2.2.2]))
def impl_plan_text_e0 : (q2T ⊕ q2T) → Out × List AV × St := (Sum.elim (fun z => ((.exit 0), [.bp 0 0, .lst .str z.1, .int .i64 z.2.1, .int .i64 z.2.2.1], [.box [.own 1], .arr (.int .u8) z.2.2.2])) (fun z => ((.exit 0), [.bp 0 0, .lst .str z.1, .int .i64 z.2.1, .int .i64 z.2.2.1], [.box [.own 2], .gone, .arr (.int .u8) z.2.2.2])))

theorem impl_plan_text_bx0 (x : (q2T ⊕ q2T)) : exec G69 ⟨2, 29, impl_plan_text_loops⟩ (loopBody Try.f89 0) (bodyK ⟨2, 29, impl_plan_text_loops⟩ [0, 8, 9, 10] []) (setEs (deads 29) [0, 8, 9, 10] (impl_plan_text_v0 x)) (impl_plan_text_s0 x) = impl_plan_text_b0 x (Sum.elim (fun y => some ⟨.norm, impl_plan_text_v0 y, impl_plan_text_s0 y⟩) fun z => some ⟨(impl_plan_text_e0 z).1, (impl_plan_text_e0 z).2.1, (impl_plan_text_e0 z).2.2⟩) := by
  rcases x with x | x <;> kernel_rfl

theorem impl_plan_text_lo0 : ∀ sp, (impl_plan_text_loops 0) = some sp → LoopOk G69 ⟨2, 29, impl_plan_text_loops⟩ sp (loopBody Try.f89 0) := by
  intro sp hsp vals st k r h
  cases hsp
  dsimp only at h
  rcases onPats_inv2 h with ⟨p, q, rfl, rfl, h⟩ | h
  · exact loop_runs2 impl_plan_text_bp0 impl_plan_text_v0 impl_plan_text_s0 impl_plan_text_e0 (fun z => by rcases z with z | z <;> (intro h; cases h)) impl_plan_text_bx0 Fuel (.inl (p.2.1, p.2.2.1, p.2.2.2.1, q.2.1)) _ k r (fun z => by rcases z with z | z <;> rfl) h
  rcases onPats_inv2 h with ⟨p, q, rfl, rfl, h⟩ | h
  · exact loop_runs2 impl_plan_text_bp0 impl_plan_text_v0 impl_plan_text_s0 impl_plan_text_e0 (fun z => by rcases z with z | z <;> (intro h; cases h)) impl_plan_text_bx0 Fuel (.inr (p.2.1, p.2.2.1, p.2.2.2.1, q.2.2.1)) _ k r (fun z => by rcases z with z | z <;> rfl) h
  cases h

theorem impl_plan_text_y (a0 : (List ByteArray)) (a1 : (List Int)) : execFn G69 impl_plan_text_loops Try.f89 [.bp 0 0, .lst .str a0] [.box [.own 1], .arr (.int .u8) a1] = impl_plan_text_k a0 a1 (Sum.elim (fun (y : (List Int)) => some ⟨.ret, [.tup []], [.box [.own 1], .arr (.int .u8) y]⟩) (fun (y : (List Int)) => some ⟨.ret, [.tup []], [.box [.own 2], .gone, .arr (.int .u8) y]⟩)) := by rw [impl_plan_text_e]; kernel_rfl

theorem impl_plan_text_l : LoopsOk G69 ⟨2, 29, impl_plan_text_loops⟩ (Try.f89.body.getD .skip) :=
  loopsOk_of (ids := [0]) (by kernel_rfl) (by kernel_rfl) ⟨impl_plan_text_lo0, trivial⟩

theorem impl_plan_text_c : Contract Try.prog 89 impl_plan_text_g := by
  refine told G69_ok follows Try.func89 (c := Try.f89.body.getD .skip) (by kernel_rfl) ?_
  intro args s k r hk
  unfold impl_plan_text_g at hk
  rcases onPats_inv hk with ⟨p, q, rfl, rfl⟩ | hk
  · exact ⟨impl_plan_text_loops, impl_plan_text_q p.2.1 q.2.1, impl_plan_text_y p.2.1 q.2.1, impl_plan_text_l⟩
  cases hk

def G70 : Glob := G69.add 89 impl_plan_text_g

theorem G70_ok : GlobOk Try.prog G70 := G69_ok.add ⟨Try.f89, Try.func89, by kernel_rfl, by kernel_rfl⟩ impl_plan_text_c



def impl_plan_flag_loops : Nat → Option LoopSpec
  | 5000003 => some ⟨[0, 4], [], fun vals st k => onPats [.bp 0 0, .int .u8] [.box [.own 1], .arr (.int .u8)] vals st (fun p q => impl_plan_flag_j5000003 (p.2.1, q.2.1) (fun z => k .norm [.bp 0 0, .int .u8 z.1] [.box [.own 2], .gone, .arr (.int .u8) z.2]))
      (none)⟩
  | _ => none

def impl_plan_flag_jv5000003 : (Int × (List Int)) → List AV := (fun x => [.bp 0 0, .int .u8 x.1])
def impl_plan_flag_js5000003 : (Int × (List Int)) → St := (fun x => [.box [.own 1], .arr (.int .u8) x.2])
def impl_plan_flag_je5000003 : (Int × (List Int)) → Out × List AV × St := (fun z => (.norm, [.bp 0 0, .int .u8 z.1], [.box [.own 2], .gone, .arr (.int .u8) z.2]))

theorem impl_plan_flag_jx5000003 (x : (Int × (List Int))) : exec G70 ⟨2, 16, impl_plan_flag_loops⟩ (loopBody Try.f90 5000003) (bodyK ⟨2, 16, impl_plan_flag_loops⟩ [0, 4] []) (setEs (deads 16) [0, 4] (impl_plan_flag_jv5000003 x)) (impl_plan_flag_js5000003 x) = impl_plan_flag_j5000003 x (fun z => some ⟨(impl_plan_flag_je5000003 z).1, (impl_plan_flag_je5000003 z).2.1, (impl_plan_flag_je5000003 z).2.2⟩) := by
  kernel_rfl

theorem impl_plan_flag_lo5000003 : ∀ sp, (impl_plan_flag_loops 5000003) = some sp → CutOk G70 ⟨2, 16, impl_plan_flag_loops⟩ sp (loopBody Try.f90 5000003) := by
  intro sp hsp vals st k r h
  cases hsp
  dsimp only at h
  rcases onPats_inv2 h with ⟨p, q, rfl, rfl, h⟩ | h
  · exact cut_runs impl_plan_flag_jp5000003 impl_plan_flag_jv5000003 impl_plan_flag_js5000003 impl_plan_flag_je5000003 impl_plan_flag_jx5000003 (p.2.1, q.2.1) _ k r (fun z => rfl) h
  cases h

theorem impl_plan_flag_y (a0 : Bool) (a1 : (List Int)) : execFn G70 impl_plan_flag_loops Try.f90 [.bp 0 0, .bool a0] [.box [.own 1], .arr (.int .u8) a1] = impl_plan_flag_k a0 a1 (fun (y : (List Int)) => some ⟨.ret, [.tup []], [.box [.own 2], .gone, .arr (.int .u8) y]⟩) := by rw [impl_plan_flag_e]; kernel_rfl

theorem impl_plan_flag_l : LoopsOk G70 ⟨2, 16, impl_plan_flag_loops⟩ (Try.f90.body.getD .skip) :=
  loopsOk_of (ids := [5000003]) (by kernel_rfl) (by kernel_rfl) ⟨impl_plan_flag_lo5000003, trivial⟩

theorem impl_plan_flag_c : Contract Try.prog 90 impl_plan_flag_g := by
  refine told G70_ok follows Try.func90 (c := Try.f90.body.getD .skip) (by kernel_rfl) ?_
  intro args s k r hk
  unfold impl_plan_flag_g at hk
  rcases onPats_inv hk with ⟨p, q, rfl, rfl⟩ | hk
  · exact ⟨impl_plan_flag_loops, impl_plan_flag_q p.2.1 q.2.1, impl_plan_flag_y p.2.1 q.2.1, impl_plan_flag_l⟩
  cases hk

def G71 : Glob := G70.add 90 impl_plan_flag_g

theorem G71_ok : GlobOk Try.prog G71 := G70_ok.add ⟨Try.f90, Try.func90, by kernel_rfl, by kernel_rfl⟩ impl_plan_flag_c



def impl_plan_num_loops : Nat → Option LoopSpec
  | 0 => some ⟨[0, 8, 9, 10], [none, none, none, none, some (.int .u8)], fun vals st k => onPats [.bp 0 0, .lst (.int .i64), .int .i64, .int .i64] [.box [.own 1], .arr (.int .u8)] vals st (fun p q => loopK impl_plan_num_b0 Fuel (p.2.1, p.2.2.1, p.2.2.2.1, q.2.1) (fun z => k (.exit 0) [.bp 0 0, .lst (.int .i64) z.1, .int .i64 z.2.1, .int .i64 z.2.2.1] [.box [.own 1], .arr (.int .u8) z.2.2.2]))
      (none)⟩
  | _ => none

def impl_plan_num_v0 : q3T → List AV := (fun x => [.bp 0 0, .lst (.int .i64) x.1, .int .i64 x.2.1, .int .i64 x.2.2.1])
def impl_plan_num_s0 : q3T → St := (fun x => [.box [.own 1], .arr (.int .u8) x.2.2.2])
def impl_plan_num_e0 : q3T → Out × List AV × St := (fun z => ((.exit 0), [.bp 0 0, .lst (.int .i64) z.1, .int .i64 z.2.1, .int .i64 z.2.2.1], [.box [.own 1], .arr (.int .u8) z.2.2.2]))

theorem impl_plan_num_bx0 (x : q3T) : exec G71 ⟨1, 29, impl_plan_num_loops⟩ (loopBody Try.f95 0) (bodyK ⟨1, 29, impl_plan_num_loops⟩ [0, 8, 9, 10] [none, none, none, none, some (.int .u8)]) (setEs (deads 29) [0, 8, 9, 10] (impl_plan_num_v0 x)) (impl_plan_num_s0 x) = impl_plan_num_b0 x (Sum.elim (fun y => some ⟨.norm, impl_plan_num_v0 y, impl_plan_num_s0 y⟩) fun z => some ⟨(impl_plan_num_e0 z).1, (impl_plan_num_e0 z).2.1, (impl_plan_num_e0 z).2.2⟩) := by
  kernel_rfl

theorem impl_plan_num_lo0 : ∀ sp, (impl_plan_num_loops 0) = some sp → LoopOk G71 ⟨1, 29, impl_plan_num_loops⟩ sp (loopBody Try.f95 0) := by
  intro sp hsp vals st k r h
  cases hsp
  dsimp only at h
  rcases onPats_inv2 h with ⟨p, q, rfl, rfl, h⟩ | h
  · exact loop_runs2 impl_plan_num_bp0 impl_plan_num_v0 impl_plan_num_s0 impl_plan_num_e0 (fun z => by (intro h; cases h)) impl_plan_num_bx0 Fuel (p.2.1, p.2.2.1, p.2.2.2.1, q.2.1) _ k r (fun z => rfl) h
  cases h

theorem impl_plan_num_y (a0 : (List Int)) : execFn G71 impl_plan_num_loops Try.f95 [.bp 0 0, .lst (.int .i64) a0] [.box [.nilS]] = impl_plan_num_k a0 (fun (y : (List Int)) => some ⟨.ret, [.tup []], [.box [.own 1], .arr (.int .u8) y]⟩) := by rw [impl_plan_num_e]; kernel_rfl

theorem impl_plan_num_l : LoopsOk G71 ⟨1, 29, impl_plan_num_loops⟩ (Try.f95.body.getD .skip) :=
  loopsOk_of (ids := [0]) (by kernel_rfl) (by kernel_rfl) ⟨impl_plan_num_lo0, trivial⟩

def impl_plan_num_61bd_loops : Nat → Option LoopSpec
  | 0 => some ⟨[0, 8, 9, 10], [], fun vals st k => onPats [.bp 0 0, .lst (.int .i64), .int .i64, .int .i64] [.box [.own 1], .arr (.int .u8)] vals st (fun p q => loopK impl_plan_num_61bd_b0 Fuel (.inl (p.2.1, p.2.2.1, p.2.2.2.1, q.2.1)) (Sum.elim (fun z => k (.exit 0) [.bp 0 0, .lst (.int .i64) z.1, .int .i64 z.2.1, .int .i64 z.2.2.1] [.box [.own 1], .arr (.int .u8) z.2.2.2]) (fun z => k (.exit 0) [.bp 0 0, .lst (.int .i64) z.1, .int .i64 z.2.1, .int .i64 z.2.2.1] [.box [.own 2], .gone, .arr (.int .u8) z.2.2.2])))
      (onPats [.bp 0 0, .lst (.int .i64), .int .i64, .int .i64] [.box [.own 2], .gone, .arr (.int .u8)] vals st (fun p q => loopK impl_plan_num_61bd_b0 Fuel (.inr (p.2.1, p.2.2.1, p.2.2.2.1, q.2.2.1)) (Sum.elim (fun z => k (.exit 0) [.bp 0 0, .lst (.int .i64) z.1, .int .i64 z.2.1, .int .i64 z.2.2.1] [.box [.own 1], .arr (.int .u8) z.2.2.2]) (fun z => k (.exit 0) [.bp 0 0, .lst (.int .i64) z.1, .int .i64 z.2.1, .int .i64 z.2.2.1] [.box [.own 2], .gone, .arr (.int .u8) z.2.2.2])))
      (none))⟩
  | _ => none

def impl_plan_num_61bd_v0 : (q3T ⊕ q3T) → List AV := (Sum.elim (fun x => [.bp 0 0, .lst (.int .i64) x.1, .int .i64 x.2.1, .int .i64 x.2.2.1]) (fun x => [.bp 0 0, .lst (.int .i64) x.1, .int .i64 x.2.1, .int .i64 x.2.2.1]))
def impl_plan_num_61bd_s0 : (q3T ⊕ q3T) → St := (Sum.elim (fun x => [.box [.own 1], .arr (.int .u8) x.2.2.2]) (fun x => [.box [.own 2], .gone, .arr (.int .u8) x.2.2.2]))
def impl_plan_num_61bd_e0 : (q3T ⊕ q3T) → Out × List AV × St := (Sum.elim (fun z => ((.exit 0), [.bp 0 0, .lst (.int .i64) z.1, .int .i64 z.2.1, .int .i64 z.2.2.1], [.box [.own 1], .arr (.int .u8) z.2.2.2])) (fun z => ((.exit 0), [.bp 0 0, .lst (.int .i64) z.1, .int .i64 z.2.1, .int .i64 z.2.2.1], [.box [.own 2], .gone, .arr (.int .u8) z.2.2.2])))

theorem impl_plan_num_61bd_bx0 (x : (q3T ⊕ q3T)) : exec G71 ⟨2, 29, impl_plan_num_61bd_loops⟩ (loopBody Try.f95 0) (bodyK ⟨2, 29, impl_plan_num_61bd_loops⟩ [0, 8, 9, 10] []) (setEs (deads 29) [0, 8, 9, 10] (impl_plan_num_61bd_v0 x)) (impl_plan_num_61bd_s0 x) = impl_plan_num_61bd_b0 x (Sum.elim (fun y => some ⟨.norm, impl_plan_num_61bd_v0 y, impl_plan_num_61bd_s0 y⟩) fun z => some ⟨(impl_plan_num_61bd_e0 z).1, (impl_plan_num_61bd_e0 z).2.1, (impl_plan_num_61bd_e0 z).2.2⟩) := by
  rcases x with x | x <;> kernel_rfl

theorem impl_plan_num_61bd_lo0 : ∀ sp, (impl_plan_num_61bd_loops 0) = some sp → LoopOk G71 ⟨2, 29, impl_plan_num_61bd_loops⟩ sp (loopBody Try.f95 0) := by
  intro sp hsp vals st k r h
  cases hsp
  dsimp only at h
  rcases onPats_inv2 h with ⟨p, q, rfl, rfl, h⟩ | h
  · exact loop_runs2 impl_plan_num_61bd_bp0 impl_plan_num_61bd_v0 impl_plan_num_61bd_s0 impl_plan_num_61bd_e0 (fun z => by rcases z with z | z <;> (intro h; cases h)) impl_plan_num_61bd_bx0 Fuel (.inl (p.2.1, p.2.2.1, p.2.2.2.1, q.2.1)) _ k r (fun z => by rcases z with z | z <;> rfl) h
  rcases onPats_inv2 h with ⟨p, q, rfl, rfl, h⟩ | h
  · exact loop_runs2 impl_plan_num_61bd_bp0 impl_plan_num_61bd_v0 impl_plan_num_61bd_s0 impl_plan_num_61bd_e0 (fun z => by rcases z with z | z <;> (intro h; cases h)) impl_plan_num_61bd_bx0 Fuel (.inr (p.2.1, p.2.2.1, p.2.2.2.1, q.2.2.1)) _ k r (fun z => by rcases z with z | z <;> rfl) h
  cases h

theorem impl_plan_num_61bd_y (a0 : (List Int)) (a1 : (List Int)) : execFn G71 impl_plan_num_61bd_loops Try.f95 [.bp 0 0, .lst (.int .i64) a0] [.box [.own 1], .arr (.int .u8) a1] = impl_plan_num_61bd_k a0 a1 (Sum.elim (fun (y : (List Int)) => some ⟨.ret, [.tup []], [.box [.own 1], .arr (.int .u8) y]⟩) (fun (y : (List Int)) => some ⟨.ret, [.tup []], [.box [.own 2], .gone, .arr (.int .u8) y]⟩)) := by rw [impl_plan_num_61bd_e]; kernel_rfl

theorem impl_plan_num_61bd_l : LoopsOk G71 ⟨2, 29, impl_plan_num_61bd_loops⟩ (Try.f95.body.getD .skip) :=
  loopsOk_of (ids := [0]) (by kernel_rfl) (by kernel_rfl) ⟨impl_plan_num_61bd_lo0, trivial⟩

theorem impl_plan_num_c : Contract Try.prog 95 impl_plan_num_g := by
  refine told G71_ok follows Try.func95 (c := Try.f95.body.getD .skip) (by kernel_rfl) ?_
  intro args s k r hk
  unfold impl_plan_num_g at hk
  rcases onPats_inv hk with ⟨p, q, rfl, rfl⟩ | hk
  · exact ⟨impl_plan_num_loops, impl_plan_num_q p.2.1, impl_plan_num_y p.2.1, impl_plan_num_l⟩
  rcases onPats_inv hk with ⟨p, q, rfl, rfl⟩ | hk
  · exact ⟨impl_plan_num_61bd_loops, impl_plan_num_61bd_q p.2.1 q.2.1, impl_plan_num_61bd_y p.2.1 q.2.1, impl_plan_num_61bd_l⟩
  cases hk

def G72 : Glob := G71.add 95 impl_plan_num_g

theorem G72_ok : GlobOk Try.prog G72 := G71_ok.add ⟨Try.f95, Try.func95, by kernel_rfl, by kernel_rfl⟩ impl_plan_num_c



def impl_TxnText_loops : Nat → Option LoopSpec
  | 0 => some ⟨[1, 4, 29, 30, 31], [], fun vals st k => onPats [.bp 0 0, .bp 1 0, .lst tRange, .int .i64, .int .i64] [.box [.int .i64, .int .i64, .int .i64, .int .i64, .lst tRange, .lst tWrite, .bool, .str], .box [.own 2], .arr (.int .u8)] vals st (fun p q => loopK impl_TxnText_b0 Fuel (p.2.2.1, p.2.2.2.1, p.2.2.2.2.1, q.1.1, q.1.2.1, q.1.2.2.1, q.1.2.2.2.1, q.1.2.2.2.2.1, q.1.2.2.2.2.2.1, q.1.2.2.2.2.2.2.1, q.1.2.2.2.2.2.2.2.1, q.2.2.1) (fun z => k (.exit 0) [.bp 0 0, .bp 1 0, .lst tRange z.1, .int .i64 z.2.1, .int .i64 z.2.2.1] [.box [.int .i64 z.2.2.2.1, .int .i64 z.2.2.2.2.1, .int .i64 z.2.2.2.2.2.1, .int .i64 z.2.2.2.2.2.2.1, .lst tRange z.2.2.2.2.2.2.2.1, .lst tWrite z.2.2.2.2.2.2.2.2.1, .bool z.2.2.2.2.2.2.2.2.2.1, .str z.2.2.2.2.2.2.2.2.2.2.1], .box [.own 2], .arr (.int .u8) z.2.2.2.2.2.2.2.2.2.2.2]))
      (none)⟩
  | 2 => some ⟨[1, 4, 50, 51, 52], [], fun vals st k => onPats [.bp 0 0, .bp 1 0, .lst tWrite, .int .i64, .int .i64] [.box [.int .i64, .int .i64, .int .i64, .int .i64, .lst tRange, .lst tWrite, .bool, .str], .box [.own 2], .arr (.int .u8)] vals st (fun p q => loopK impl_TxnText_b2 Fuel (p.2.2.1, p.2.2.2.1, p.2.2.2.2.1, q.1.1, q.1.2.1, q.1.2.2.1, q.1.2.2.2.1, q.1.2.2.2.2.1, q.1.2.2.2.2.2.1, q.1.2.2.2.2.2.2.1, q.1.2.2.2.2.2.2.2.1, q.2.2.1) (fun z => k (.exit 2) [.bp 0 0, .bp 1 0, .lst tWrite z.1, .int .i64 z.2.1, .int .i64 z.2.2.1] [.box [.int .i64 z.2.2.2.1, .int .i64 z.2.2.2.2.1, .int .i64 z.2.2.2.2.2.1, .int .i64 z.2.2.2.2.2.2.1, .lst tRange z.2.2.2.2.2.2.2.1, .lst tWrite z.2.2.2.2.2.2.2.2.1, .bool z.2.2.2.2.2.2.2.2.2.1, .str z.2.2.2.2.2.2.2.2.2.2.1], .box [.own 2], .arr (.int .u8) z.2.2.2.2.2.2.2.2.2.2.2]))
      (none)⟩
  | _ => none

def impl_TxnText_v0 : q6T → List AV := (fun x => [.bp 0 0, .bp 1 0, .lst tRange x.1, .int .i64 x.2.1, .int .i64 x.2.2.1])
def impl_TxnText_s0 : q6T → St := (fun x => [.box [.int .i64 x.2.2.2.1, .int .i64 x.2.2.2.2.1, .int .i64 x.2.2.2.2.2.1, .int .i64 x.2.2.2.2.2.2.1, .lst tRange x.2.2.2.2.2.2.2.1, .lst tWrite x.2.2.2.2.2.2.2.2.1, .bool x.2.2.2.2.2.2.2.2.2.1, .str x.2.2.2.2.2.2.2.2.2.2.1], .box [.own 2], .arr (.int .u8) x.2.2.2.2.2.2.2.2.2.2.2])
def impl_TxnText_e0 : q6T → Out × List AV × St := (fun z => ((.exit 0), [.bp 0 0, .bp 1 0, .lst tRange z.1, .int .i64 z.2.1, .int .i64 z.2.2.1], [.box [.int .i64 z.2.2.2.1, .int .i64 z.2.2.2.2.1, .int .i64 z.2.2.2.2.2.1, .int .i64 z.2.2.2.2.2.2.1, .lst tRange z.2.2.2.2.2.2.2.1, .lst tWrite z.2.2.2.2.2.2.2.2.1, .bool z.2.2.2.2.2.2.2.2.2.1, .str z.2.2.2.2.2.2.2.2.2.2.1], .box [.own 2], .arr (.int .u8) z.2.2.2.2.2.2.2.2.2.2.2]))

theorem impl_TxnText_bx0 (x : q6T) : exec G72 ⟨0, 82, impl_TxnText_loops⟩ (loopBody Try.f31 0) (bodyK ⟨0, 82, impl_TxnText_loops⟩ [1, 4, 29, 30, 31] []) (setEs (deads 82) [1, 4, 29, 30, 31] (impl_TxnText_v0 x)) (impl_TxnText_s0 x) = impl_TxnText_b0 x (Sum.elim (fun y => some ⟨.norm, impl_TxnText_v0 y, impl_TxnText_s0 y⟩) fun z => some ⟨(impl_TxnText_e0 z).1, (impl_TxnText_e0 z).2.1, (impl_TxnText_e0 z).2.2⟩) := by
  kernel_rfl

theorem impl_TxnText_lo0 : ∀ sp, (impl_TxnText_loops 0) = some sp → LoopOk G72 ⟨0, 82, impl_TxnText_loops⟩ sp (loopBody Try.f31 0) := by
  intro sp hsp vals st k r h
  cases hsp
  dsimp only at h
  rcases onPats_inv2 h with ⟨p, q, rfl, rfl, h⟩ | h
  · exact loop_runs2 impl_TxnText_bp0 impl_TxnText_v0 impl_TxnText_s0 impl_TxnText_e0 (fun z => by (intro h; cases h)) impl_TxnText_bx0 Fuel (p.2.2.1, p.2.2.2.1, p.2.2.2.2.1, q.1.1, q.1.2.1, q.1.2.2.1, q.1.2.2.2.1, q.1.2.2.2.2.1, q.1.2.2.2.2.2.1, q.1.2.2.2.2.2.2.1, q.1.2.2.2.2.2.2.2.1, q.2.2.1) _ k r (fun z => rfl) h
  cases h

def impl_TxnText_v2 : q23T → List AV := (fun x => [.bp 0 0, .bp 1 0, .lst tWrite x.1, .int .i64 x.2.1, .int .i64 x.2.2.1])
def impl_TxnText_s2 : q23T → St := (fun x => [.box [.int .i64 x.2.2.2.1, .int .i64 x.2.2.2.2.1, .int .i64 x.2.2.2.2.2.1, .int .i64 x.2.2.2.2.2.2.1, .lst tRange x.2.2.2.2.2.2.2.1, .lst tWrite x.2.2.2.2.2.2.2.2.1, .bool x.2.2.2.2.2.2.2.2.2.1, .str x.2.2.2.2.2.2.2.2.2.2.1], .box [.own 2], .arr (.int .u8) x.2.2.2.2.2.2.2.2.2.2.2])
def impl_TxnText_e2 : q23T → Out × List AV × St := (fun z => ((.exit 2), [.bp 0 0, .bp 1 0, .lst tWrite z.1, .int .i64 z.2.1, .int .i64 z.2.2.1], [.box [.int .i64 z.2.2.2.1, .int .i64 z.2.2.2.2.1, .int .i64 z.2.2.2.2.2.1, .int .i64 z.2.2.2.2.2.2.1, .lst tRange z.2.2.2.2.2.2.2.1, .lst tWrite z.2.2.2.2.2.2.2.2.1, .bool z.2.2.2.2.2.2.2.2.2.1, .str z.2.2.2.2.2.2.2.2.2.2.1], .box [.own 2], .arr (.int .u8) z.2.2.2.2.2.2.2.2.2.2.2]))

theorem impl_TxnText_bx2 (x : q23T) : exec G72 ⟨0, 82, impl_TxnText_loops⟩ (loopBody Try.f31 2) (bodyK ⟨0, 82, impl_TxnText_loops⟩ [1, 4, 50, 51, 52] []) (setEs (deads 82) [1, 4, 50, 51, 52] (impl_TxnText_v2 x)) (impl_TxnText_s2 x) = impl_TxnText_b2 x (Sum.elim (fun y => some ⟨.norm, impl_TxnText_v2 y, impl_TxnText_s2 y⟩) fun z => some ⟨(impl_TxnText_e2 z).1, (impl_TxnText_e2 z).2.1, (impl_TxnText_e2 z).2.2⟩) := by
  kernel_rfl

theorem impl_TxnText_lo2 : ∀ sp, (impl_TxnText_loops 2) = some sp → LoopOk G72 ⟨0, 82, impl_TxnText_loops⟩ sp (loopBody Try.f31 2) := by
  intro sp hsp vals st k r h
  cases hsp
  dsimp only at h
  rcases onPats_inv2 h with ⟨p, q, rfl, rfl, h⟩ | h
  · exact loop_runs2 impl_TxnText_bp2 impl_TxnText_v2 impl_TxnText_s2 impl_TxnText_e2 (fun z => by (intro h; cases h)) impl_TxnText_bx2 Fuel (p.2.2.1, p.2.2.2.1, p.2.2.2.2.1, q.1.1, q.1.2.1, q.1.2.2.1, q.1.2.2.2.1, q.1.2.2.2.2.1, q.1.2.2.2.2.2.1, q.1.2.2.2.2.2.2.1, q.1.2.2.2.2.2.2.2.1, q.2.2.1) _ k r (fun z => rfl) h
  cases h

theorem impl_TxnText_y (a0 : Int) (a1 : Int) (a2 : Int) (a3 : Int) (a4 : (List dRange)) (a5 : (List dWrite)) (a6 : Bool) (a7 : ByteArray) : execFn G72 impl_TxnText_loops Try.f31 [.agg [.int .i64 a0, .int .i64 a1, .int .i64 a2, .int .i64 a3, .lst tRange a4, .lst tWrite a5, .bool a6, .str a7]] [] = impl_TxnText_k (a0, (a1, (a2, (a3, (a4, (a5, (a6, a7))))))) (fun (y : (ByteArray × Bool)) => some ⟨.ret, [.tup [.str y.1, .bool y.2]], []⟩) := by rw [impl_TxnText_e]; kernel_rfl

theorem impl_TxnText_l : LoopsOk G72 ⟨0, 82, impl_TxnText_loops⟩ (Try.f31.body.getD .skip) :=
  loopsOk_of (ids := [0, 2]) (by kernel_rfl) (by kernel_rfl) ⟨impl_TxnText_lo0, ⟨impl_TxnText_lo2, trivial⟩⟩

theorem impl_TxnText_c : Contract Try.prog 31 impl_TxnText_g := by
  refine told G72_ok follows Try.func31 (c := Try.f31.body.getD .skip) (by kernel_rfl) ?_
  intro args s k r hk
  unfold impl_TxnText_g at hk
  rcases onPats_inv hk with ⟨p, q, rfl, rfl⟩ | hk
  · exact ⟨impl_TxnText_loops, impl_TxnText_q p.1.1 p.1.2.1 p.1.2.2.1 p.1.2.2.2.1 p.1.2.2.2.2.1 p.1.2.2.2.2.2.1 p.1.2.2.2.2.2.2.1 p.1.2.2.2.2.2.2.2.1, impl_TxnText_y p.1.1 p.1.2.1 p.1.2.2.1 p.1.2.2.2.1 p.1.2.2.2.2.1 p.1.2.2.2.2.2.1 p.1.2.2.2.2.2.2.1 p.1.2.2.2.2.2.2.2.1, impl_TxnText_l⟩
  cases hk

def G73 : Glob := G72.add 31 impl_TxnText_g

theorem G73_ok : GlobOk Try.prog G73 := G72_ok.add ⟨Try.f31, Try.func31, by kernel_rfl, by kernel_rfl⟩ impl_TxnText_c



def impl_BaseText_loops : Nat → Option LoopSpec
  | 0 => some ⟨[1, 4, 29, 30, 31], [], fun vals st k => onPats [.bp 0 0, .bp 1 0, .lst tVersion, .int .i64, .int .i64] [.box [.lst tVersion, .lst tTxn, .lst tTxn, .int .i64, .int .i64], .box [.own 2], .arr (.int .u8)] vals st (fun p q => loopK impl_BaseText_b0 Fuel (p.2.2.1, p.2.2.2.1, p.2.2.2.2.1, q.1.1, q.1.2.1, q.1.2.2.1, q.1.2.2.2.1, q.1.2.2.2.2.1, q.2.2.1) (fun z => k (.exit 0) [.bp 0 0, .bp 1 0, .lst tVersion z.1, .int .i64 z.2.1, .int .i64 z.2.2.1] [.box [.lst tVersion z.2.2.2.1, .lst tTxn z.2.2.2.2.1, .lst tTxn z.2.2.2.2.2.1, .int .i64 z.2.2.2.2.2.2.1, .int .i64 z.2.2.2.2.2.2.2.1], .box [.own 2], .arr (.int .u8) z.2.2.2.2.2.2.2.2]))
      (none)⟩
  | 4 => some ⟨[4, 56, 57, 58, 67, 68, 69], [], fun vals st k => onPats [.bp 0 0, .own 1, .int .i64, .int .i64, .lst tTxn, .int .i64, .int .i64] [.box [.own 2], .arr (.slice tTxn), .arr (.int .u8)] vals st (fun p q => loopK impl_BaseText_b4 Fuel (p.2.2.1, p.2.2.2.1, p.2.2.2.2.1, p.2.2.2.2.2.1, p.2.2.2.2.2.2.1, q.2.1, q.2.2.1) (fun z => k (.exit 4) [.bp 0 0, .own 1, .int .i64 z.1, .int .i64 z.2.1, .lst tTxn z.2.2.1, .int .i64 z.2.2.2.1, .int .i64 z.2.2.2.2.1] [.box [.own 2], .arr (.slice tTxn) z.2.2.2.2.2.1, .arr (.int .u8) z.2.2.2.2.2.2]))
      (none)⟩
  | 2 => some ⟨[4, 56, 57, 58], [], fun vals st k => onPats [.bp 0 0, .own 1, .int .i64, .int .i64] [.box [.own 2], .arr (.slice tTxn), .arr (.int .u8)] vals st (fun p q => loopK impl_BaseText_b2 Fuel (p.2.2.1, p.2.2.2.1, q.2.1, q.2.2.1) (fun z => k (.exit 2) [.bp 0 0, .own 1, .int .i64 z.1, .int .i64 z.2.1] [.box [.own 2], .arr (.slice tTxn) z.2.2.1, .arr (.int .u8) z.2.2.2]))
      (none)⟩
  | _ => none

def impl_BaseText_v0 : q18T → List AV := (fun x => [.bp 0 0, .bp 1 0, .lst tVersion x.1, .int .i64 x.2.1, .int .i64 x.2.2.1])
def impl_BaseText_s0 : q18T → St := (fun x => [.box [.lst tVersion x.2.2.2.1, .lst tTxn x.2.2.2.2.1, .lst tTxn x.2.2.2.2.2.1, .int .i64 x.2.2.2.2.2.2.1, .int .i64 x.2.2.2.2.2.2.2.1], .box [.own 2], .arr (.int .u8) x.2.2.2.2.2.2.2.2])
def impl_BaseText_e0 : q18T → Out × List AV × St := (fun z => ((.exit 0), [.bp 0 0, .bp 1 0, .lst tVersion z.1, .int .i64 z.2.1, .int .i64 z.2.2.1], [.box [.lst tVersion z.2.2.2.1, .lst tTxn z.2.2.2.2.1, .lst tTxn z.2.2.2.2.2.1, .int .i64 z.2.2.2.2.2.2.1, .int .i64 z.2.2.2.2.2.2.2.1], .box [.own 2], .arr (.int .u8) z.2.2.2.2.2.2.2.2]))

theorem impl_BaseText_bx0 (x : q18T) : exec G73 ⟨0, 94, impl_BaseText_loops⟩ (loopBody Try.f91 0) (bodyK ⟨0, 94, impl_BaseText_loops⟩ [1, 4, 29, 30, 31] []) (setEs (deads 94) [1, 4, 29, 30, 31] (impl_BaseText_v0 x)) (impl_BaseText_s0 x) = impl_BaseText_b0 x (Sum.elim (fun y => some ⟨.norm, impl_BaseText_v0 y, impl_BaseText_s0 y⟩) fun z => some ⟨(impl_BaseText_e0 z).1, (impl_BaseText_e0 z).2.1, (impl_BaseText_e0 z).2.2⟩) := by
  kernel_rfl

theorem impl_BaseText_lo0 : ∀ sp, (impl_BaseText_loops 0) = some sp → LoopOk G73 ⟨0, 94, impl_BaseText_loops⟩ sp (loopBody Try.f91 0) := by
  intro sp hsp vals st k r h
  cases hsp
  dsimp only at h
  rcases onPats_inv2 h with ⟨p, q, rfl, rfl, h⟩ | h
  · exact loop_runs2 impl_BaseText_bp0 impl_BaseText_v0 impl_BaseText_s0 impl_BaseText_e0 (fun z => by (intro h; cases h)) impl_BaseText_bx0 Fuel (p.2.2.1, p.2.2.2.1, p.2.2.2.2.1, q.1.1, q.1.2.1, q.1.2.2.1, q.1.2.2.2.1, q.1.2.2.2.2.1, q.2.2.1) _ k r (fun z => rfl) h
  cases h

def impl_BaseText_v4 : q43T → List AV := (fun x => [.bp 0 0, .own 1, .int .i64 x.1, .int .i64 x.2.1, .lst tTxn x.2.2.1, .int .i64 x.2.2.2.1, .int .i64 x.2.2.2.2.1])
def impl_BaseText_s4 : q43T → St := (fun x => [.box [.own 2], .arr (.slice tTxn) x.2.2.2.2.2.1, .arr (.int .u8) x.2.2.2.2.2.2])
def impl_BaseText_e4 : q43T → Out × List AV × St := (fun z => ((.exit 4), [.bp 0 0, .own 1, .int .i64 z.1, .int .i64 z.2.1, .lst tTxn z.2.2.1, .int .i64 z.2.2.2.1, .int .i64 z.2.2.2.2.1], [.box [.own 2], .arr (.slice tTxn) z.2.2.2.2.2.1, .arr (.int .u8) z.2.2.2.2.2.2]))

theorem impl_BaseText_bx4 (x : q43T) : exec G73 ⟨0, 94, impl_BaseText_loops⟩ (loopBody Try.f91 4) (bodyK ⟨0, 94, impl_BaseText_loops⟩ [4, 56, 57, 58, 67, 68, 69] []) (setEs (deads 94) [4, 56, 57, 58, 67, 68, 69] (impl_BaseText_v4 x)) (impl_BaseText_s4 x) = impl_BaseText_b4 x (Sum.elim (fun y => some ⟨.norm, impl_BaseText_v4 y, impl_BaseText_s4 y⟩) fun z => some ⟨(impl_BaseText_e4 z).1, (impl_BaseText_e4 z).2.1, (impl_BaseText_e4 z).2.2⟩) := by
  kernel_rfl

theorem impl_BaseText_lo4 : ∀ sp, (impl_BaseText_loops 4) = some sp → LoopOk G73 ⟨0, 94, impl_BaseText_loops⟩ sp (loopBody Try.f91 4) := by
  intro sp hsp vals st k r h
  cases hsp
  dsimp only at h
  rcases onPats_inv2 h with ⟨p, q, rfl, rfl, h⟩ | h
  · exact loop_runs2 impl_BaseText_bp4 impl_BaseText_v4 impl_BaseText_s4 impl_BaseText_e4 (fun z => by (intro h; cases h)) impl_BaseText_bx4 Fuel (p.2.2.1, p.2.2.2.1, p.2.2.2.2.1, p.2.2.2.2.2.1, p.2.2.2.2.2.2.1, q.2.1, q.2.2.1) _ k r (fun z => rfl) h
  cases h

def impl_BaseText_v2 : q42T → List AV := (fun x => [.bp 0 0, .own 1, .int .i64 x.1, .int .i64 x.2.1])
def impl_BaseText_s2 : q42T → St := (fun x => [.box [.own 2], .arr (.slice tTxn) x.2.2.1, .arr (.int .u8) x.2.2.2])
def impl_BaseText_e2 : q42T → Out × List AV × St := (fun z => ((.exit 2), [.bp 0 0, .own 1, .int .i64 z.1, .int .i64 z.2.1], [.box [.own 2], .arr (.slice tTxn) z.2.2.1, .arr (.int .u8) z.2.2.2]))

theorem impl_BaseText_bx2 (x : q42T) : exec G73 ⟨0, 94, impl_BaseText_loops⟩ (loopBody Try.f91 2) (bodyK ⟨0, 94, impl_BaseText_loops⟩ [4, 56, 57, 58] []) (setEs (deads 94) [4, 56, 57, 58] (impl_BaseText_v2 x)) (impl_BaseText_s2 x) = impl_BaseText_b2 x (Sum.elim (fun y => some ⟨.norm, impl_BaseText_v2 y, impl_BaseText_s2 y⟩) fun z => some ⟨(impl_BaseText_e2 z).1, (impl_BaseText_e2 z).2.1, (impl_BaseText_e2 z).2.2⟩) := by
  kernel_rfl

theorem impl_BaseText_lo2 : ∀ sp, (impl_BaseText_loops 2) = some sp → LoopOk G73 ⟨0, 94, impl_BaseText_loops⟩ sp (loopBody Try.f91 2) := by
  intro sp hsp vals st k r h
  cases hsp
  dsimp only at h
  rcases onPats_inv2 h with ⟨p, q, rfl, rfl, h⟩ | h
  · exact loop_runs2 impl_BaseText_bp2 impl_BaseText_v2 impl_BaseText_s2 impl_BaseText_e2 (fun z => by (intro h; cases h)) impl_BaseText_bx2 Fuel (p.2.2.1, p.2.2.2.1, q.2.1, q.2.2.1) _ k r (fun z => rfl) h
  cases h

theorem impl_BaseText_y (a0 : (List dVersion)) (a1 : (List dTxn)) (a2 : (List dTxn)) (a3 : Int) (a4 : Int) : execFn G73 impl_BaseText_loops Try.f91 [.agg [.lst tVersion a0, .lst tTxn a1, .lst tTxn a2, .int .i64 a3, .int .i64 a4]] [] = impl_BaseText_k (a0, (a1, (a2, (a3, a4)))) (fun (y : (ByteArray × Bool)) => some ⟨.ret, [.tup [.str y.1, .bool y.2]], []⟩) := by rw [impl_BaseText_e]; kernel_rfl

theorem impl_BaseText_l : LoopsOk G73 ⟨0, 94, impl_BaseText_loops⟩ (Try.f91.body.getD .skip) :=
  loopsOk_of (ids := [0, 4, 2]) (by kernel_rfl) (by kernel_rfl) ⟨impl_BaseText_lo0, ⟨impl_BaseText_lo4, ⟨impl_BaseText_lo2, trivial⟩⟩⟩

theorem impl_BaseText_c : Contract Try.prog 91 impl_BaseText_g := by
  refine told G73_ok follows Try.func91 (c := Try.f91.body.getD .skip) (by kernel_rfl) ?_
  intro args s k r hk
  unfold impl_BaseText_g at hk
  rcases onPats_inv hk with ⟨p, q, rfl, rfl⟩ | hk
  · exact ⟨impl_BaseText_loops, impl_BaseText_q p.1.1 p.1.2.1 p.1.2.2.1 p.1.2.2.2.1 p.1.2.2.2.2.1, impl_BaseText_y p.1.1 p.1.2.1 p.1.2.2.1 p.1.2.2.2.1 p.1.2.2.2.2.1, impl_BaseText_l⟩
  cases hk

def G74 : Glob := G73.add 91 impl_BaseText_g

theorem G74_ok : GlobOk Try.prog G74 := G73_ok.add ⟨Try.f91, Try.func91, by kernel_rfl, by kernel_rfl⟩ impl_BaseText_c



def impl_SumMore_loops : Nat → Option LoopSpec
  | 2 => some ⟨[0, 1, 5, 6], [], fun vals st k => onPats [.int .u32, .str, .int .i64, .int .i64] [] vals st (fun p q => loopK impl_SumMore_b2 Fuel (p.1, p.2.1, p.2.2.1, p.2.2.2.1) (fun z => k (.exit 2) [.int .u32 z.1, .str z.2.1, .int .i64 z.2.2.1, .int .i64 z.2.2.2] []))
      (none)⟩
  | 0 => some ⟨[0, 1, 5], [], fun vals st k => onPats [.int .u32, .str, .int .i64] [] vals st (fun p q => loopK impl_SumMore_b0 Fuel (p.1, p.2.1, p.2.2.1) (fun z => k (.exit 0) [.int .u32 z.1, .str z.2.1, .int .i64 z.2.2] []))
      (none)⟩
  | _ => none

def impl_SumMore_v2 : (Int × ByteArray × Int × Int) → List AV := (fun x => [.int .u32 x.1, .str x.2.1, .int .i64 x.2.2.1, .int .i64 x.2.2.2])
def impl_SumMore_s2 : (Int × ByteArray × Int × Int) → St := (fun x => [])
def impl_SumMore_e2 : (Int × ByteArray × Int × Int) → Out × List AV × St := (fun z => ((.exit 2), [.int .u32 z.1, .str z.2.1, .int .i64 z.2.2.1, .int .i64 z.2.2.2], []))

theorem impl_SumMore_bx2 (x : (Int × ByteArray × Int × Int)) : exec G74 ⟨0, 33, impl_SumMore_loops⟩ (loopBody Try.f220 2) (bodyK ⟨0, 33, impl_SumMore_loops⟩ [0, 1, 5, 6] []) (setEs (deads 33) [0, 1, 5, 6] (impl_SumMore_v2 x)) (impl_SumMore_s2 x) = impl_SumMore_b2 x (Sum.elim (fun y => some ⟨.norm, impl_SumMore_v2 y, impl_SumMore_s2 y⟩) fun z => some ⟨(impl_SumMore_e2 z).1, (impl_SumMore_e2 z).2.1, (impl_SumMore_e2 z).2.2⟩) := by
  kernel_rfl

theorem impl_SumMore_lo2 : ∀ sp, (impl_SumMore_loops 2) = some sp → LoopOk G74 ⟨0, 33, impl_SumMore_loops⟩ sp (loopBody Try.f220 2) := by
  intro sp hsp vals st k r h
  cases hsp
  dsimp only at h
  rcases onPats_inv2 h with ⟨p, q, rfl, rfl, h⟩ | h
  · exact loop_runs2 impl_SumMore_bp2 impl_SumMore_v2 impl_SumMore_s2 impl_SumMore_e2 (fun z => by (intro h; cases h)) impl_SumMore_bx2 Fuel (p.1, p.2.1, p.2.2.1, p.2.2.2.1) _ k r (fun z => rfl) h
  cases h

def impl_SumMore_v0 : (Int × ByteArray × Int) → List AV := (fun x => [.int .u32 x.1, .str x.2.1, .int .i64 x.2.2])
def impl_SumMore_s0 : (Int × ByteArray × Int) → St := (fun x => [])
def impl_SumMore_e0 : (Int × ByteArray × Int) → Out × List AV × St := (fun z => ((.exit 0), [.int .u32 z.1, .str z.2.1, .int .i64 z.2.2], []))

theorem impl_SumMore_bx0 (x : (Int × ByteArray × Int)) : exec G74 ⟨0, 33, impl_SumMore_loops⟩ (loopBody Try.f220 0) (bodyK ⟨0, 33, impl_SumMore_loops⟩ [0, 1, 5] []) (setEs (deads 33) [0, 1, 5] (impl_SumMore_v0 x)) (impl_SumMore_s0 x) = impl_SumMore_b0 x (Sum.elim (fun y => some ⟨.norm, impl_SumMore_v0 y, impl_SumMore_s0 y⟩) fun z => some ⟨(impl_SumMore_e0 z).1, (impl_SumMore_e0 z).2.1, (impl_SumMore_e0 z).2.2⟩) := by
  kernel_rfl

theorem impl_SumMore_lo0 : ∀ sp, (impl_SumMore_loops 0) = some sp → LoopOk G74 ⟨0, 33, impl_SumMore_loops⟩ sp (loopBody Try.f220 0) := by
  intro sp hsp vals st k r h
  cases hsp
  dsimp only at h
  rcases onPats_inv2 h with ⟨p, q, rfl, rfl, h⟩ | h
  · exact loop_runs2 impl_SumMore_bp0 impl_SumMore_v0 impl_SumMore_s0 impl_SumMore_e0 (fun z => by (intro h; cases h)) impl_SumMore_bx0 Fuel (p.1, p.2.1, p.2.2.1) _ k r (fun z => rfl) h
  cases h

theorem impl_SumMore_y (a0 : Int) (a1 : ByteArray) : execFn G74 impl_SumMore_loops Try.f220 [.int .u32 a0, .str a1] [] = impl_SumMore_k a0 a1 (fun (y : Int) => some ⟨.ret, [.int .u32 y], []⟩) := by rw [impl_SumMore_e]; kernel_rfl

theorem impl_SumMore_l : LoopsOk G74 ⟨0, 33, impl_SumMore_loops⟩ (Try.f220.body.getD .skip) :=
  loopsOk_of (ids := [2, 0]) (by kernel_rfl) (by kernel_rfl) ⟨impl_SumMore_lo2, ⟨impl_SumMore_lo0, trivial⟩⟩

theorem impl_SumMore_c : Contract Try.prog 220 impl_SumMore_g := by
  refine told G74_ok follows Try.func220 (c := Try.f220.body.getD .skip) (by kernel_rfl) ?_
  intro args s k r hk
  unfold impl_SumMore_g at hk
  rcases onPats_inv hk with ⟨p, q, rfl, rfl⟩ | hk
  · exact ⟨impl_SumMore_loops, impl_SumMore_q p.1 p.2.1, impl_SumMore_y p.1 p.2.1, impl_SumMore_l⟩
  cases hk

def G75 : Glob := G74.add 220 impl_SumMore_g

theorem G75_ok : GlobOk Try.prog G75 := G74_ok.add ⟨Try.f220, Try.func220, by kernel_rfl, by kernel_rfl⟩ impl_SumMore_c

end

end Go.VE
