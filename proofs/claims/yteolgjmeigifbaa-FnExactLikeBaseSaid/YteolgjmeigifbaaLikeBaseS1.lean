/- Each function told by its native program; written by gen.py. -/

import Derived.Test.YteolgjmeigifbaaLikeBaseS0

namespace Go.VE

open Go.Proofs

noncomputable section

set_option linter.unusedVariables false
set_option linter.unusedSimpArgs false
set_option maxRecDepth 100000




def laws_szVersion_loops : Nat → Option LoopSpec
  | _ => none

theorem laws_szVersion_y (a0 : ByteArray) (a1 : ByteArray) (a2 : Bool) (a3 : Int) (a4 : Int) : execFn G0 laws_szVersion_loops Try.f66 [.agg [.str a0, .str a1, .bool a2, .int .i64 a3], .int .i64 a4] [] = laws_szVersion_k (a0, (a1, (a2, a3))) a4 (fun (y : Int) => some ⟨.ret, [.int .i64 y], []⟩) := by rw [laws_szVersion_e]; kernel_rfl

theorem laws_szVersion_l : LoopsOk G0 ⟨0, 20, laws_szVersion_loops⟩ (Try.f66.body.getD .skip) :=
  loopsOk_of (ids := []) (by kernel_rfl) (by kernel_rfl) trivial

theorem laws_szVersion_c : Contract Try.prog 66 laws_szVersion_g := by
  refine told G0_ok follows Try.func66 (c := Try.f66.body.getD .skip) (by kernel_rfl) ?_
  intro args s k r hk
  unfold laws_szVersion_g at hk
  rcases onPats_inv hk with ⟨p, q, rfl, rfl⟩ | hk
  · exact ⟨laws_szVersion_loops, laws_szVersion_q p.1.1 p.1.2.1 p.1.2.2.1 p.1.2.2.2.1 p.2.1, laws_szVersion_y p.1.1 p.1.2.1 p.1.2.2.1 p.1.2.2.2.1 p.2.1, laws_szVersion_l⟩
  cases hk

def G1 : Glob := G0.add 66 laws_szVersion_g

theorem G1_ok : GlobOk Try.prog G1 := G0_ok.add ⟨Try.f66, Try.func66, by kernel_rfl, by kernel_rfl⟩ laws_szVersion_c



def laws_szVersionS_loops : Nat → Option LoopSpec
  | 0 => some ⟨[0, 1, 4, 5], [], fun vals st k => onPats [.lst tVersion, .int .i64, .int .i64, .int .i64] [] vals st (fun p q => loopK laws_szVersionS_b0 Fuel (p.1, p.2.1, p.2.2.1, p.2.2.2.1) (Sum.elim (fun z => k .ret [.lst tVersion z.1, .int .i64 z.2.1, .int .i64 z.2.2.1, .int .i64 z.2.2.2] []) (fun z => k (.exit 0) [.lst tVersion z.1, .int .i64 z.2.1, .int .i64 z.2.2.1, .int .i64 z.2.2.2] [])))
      (none)⟩
  | _ => none

def laws_szVersionS_v0 : q24T → List AV := (fun x => [.lst tVersion x.1, .int .i64 x.2.1, .int .i64 x.2.2.1, .int .i64 x.2.2.2])
def laws_szVersionS_s0 : q24T → St := (fun x => [])
def laws_szVersionS_e0 : (q24T ⊕ q24T) → Out × List AV × St := (Sum.elim (fun z => (.ret, [.lst tVersion z.1, .int .i64 z.2.1, .int .i64 z.2.2.1, .int .i64 z.2.2.2], [])) (fun z => ((.exit 0), [.lst tVersion z.1, .int .i64 z.2.1, .int .i64 z.2.2.1, .int .i64 z.2.2.2], [])))

theorem laws_szVersionS_bx0 (x : q24T) : exec G1 ⟨0, 27, laws_szVersionS_loops⟩ (loopBody Try.f10 0) (bodyK ⟨0, 27, laws_szVersionS_loops⟩ [0, 1, 4, 5] []) (setEs (deads 27) [0, 1, 4, 5] (laws_szVersionS_v0 x)) (laws_szVersionS_s0 x) = laws_szVersionS_b0 x (Sum.elim (fun y => some ⟨.norm, laws_szVersionS_v0 y, laws_szVersionS_s0 y⟩) fun z => some ⟨(laws_szVersionS_e0 z).1, (laws_szVersionS_e0 z).2.1, (laws_szVersionS_e0 z).2.2⟩) := by
  kernel_rfl

theorem laws_szVersionS_lo0 : ∀ sp, (laws_szVersionS_loops 0) = some sp → LoopOk G1 ⟨0, 27, laws_szVersionS_loops⟩ sp (loopBody Try.f10 0) := by
  intro sp hsp vals st k r h
  cases hsp
  dsimp only at h
  rcases onPats_inv2 h with ⟨p, q, rfl, rfl, h⟩ | h
  · exact loop_runs2 laws_szVersionS_bp0 laws_szVersionS_v0 laws_szVersionS_s0 laws_szVersionS_e0 (fun z => by rcases z with z | z <;> (intro h; cases h)) laws_szVersionS_bx0 Fuel (p.1, p.2.1, p.2.2.1, p.2.2.2.1) _ k r (fun z => by rcases z with z | z <;> rfl) h
  cases h

theorem laws_szVersionS_y (a0 : (List dVersion)) (a1 : Int) : execFn G1 laws_szVersionS_loops Try.f10 [.lst tVersion a0, .int .i64 a1] [] = laws_szVersionS_k a0 a1 (fun (y : Int) => some ⟨.ret, [.int .i64 y], []⟩) := by rw [laws_szVersionS_e]; kernel_rfl

theorem laws_szVersionS_l : LoopsOk G1 ⟨0, 27, laws_szVersionS_loops⟩ (Try.f10.body.getD .skip) :=
  loopsOk_of (ids := [0]) (by kernel_rfl) (by kernel_rfl) ⟨laws_szVersionS_lo0, trivial⟩

theorem laws_szVersionS_c : Contract Try.prog 10 laws_szVersionS_g := by
  refine told G1_ok follows Try.func10 (c := Try.f10.body.getD .skip) (by kernel_rfl) ?_
  intro args s k r hk
  unfold laws_szVersionS_g at hk
  rcases onPats_inv hk with ⟨p, q, rfl, rfl⟩ | hk
  · exact ⟨laws_szVersionS_loops, laws_szVersionS_q p.1 p.2.1, laws_szVersionS_y p.1 p.2.1, laws_szVersionS_l⟩
  cases hk

def G2 : Glob := G1.add 10 laws_szVersionS_g

theorem G2_ok : GlobOk Try.prog G2 := G1_ok.add ⟨Try.f10, Try.func10, by kernel_rfl, by kernel_rfl⟩ laws_szVersionS_c



def laws_szRange_loops : Nat → Option LoopSpec
  | _ => none

theorem laws_szRange_y (a0 : ByteArray) (a1 : ByteArray) (a2 : Int) : execFn G2 laws_szRange_loops Try.f11 [.agg [.str a0, .str a1], .int .i64 a2] [] = laws_szRange_k (a0, a1) a2 (fun (y : Int) => some ⟨.ret, [.int .i64 y], []⟩) := by rw [laws_szRange_e]; kernel_rfl

theorem laws_szRange_l : LoopsOk G2 ⟨0, 20, laws_szRange_loops⟩ (Try.f11.body.getD .skip) :=
  loopsOk_of (ids := []) (by kernel_rfl) (by kernel_rfl) trivial

theorem laws_szRange_c : Contract Try.prog 11 laws_szRange_g := by
  refine told G2_ok follows Try.func11 (c := Try.f11.body.getD .skip) (by kernel_rfl) ?_
  intro args s k r hk
  unfold laws_szRange_g at hk
  rcases onPats_inv hk with ⟨p, q, rfl, rfl⟩ | hk
  · exact ⟨laws_szRange_loops, laws_szRange_q p.1.1 p.1.2.1 p.2.1, laws_szRange_y p.1.1 p.1.2.1 p.2.1, laws_szRange_l⟩
  cases hk

def G3 : Glob := G2.add 11 laws_szRange_g

theorem G3_ok : GlobOk Try.prog G3 := G2_ok.add ⟨Try.f11, Try.func11, by kernel_rfl, by kernel_rfl⟩ laws_szRange_c



def laws_szRangeS_loops : Nat → Option LoopSpec
  | 0 => some ⟨[0, 1, 4, 5], [], fun vals st k => onPats [.lst tRange, .int .i64, .int .i64, .int .i64] [] vals st (fun p q => loopK laws_szRangeS_b0 Fuel (p.1, p.2.1, p.2.2.1, p.2.2.2.1) (Sum.elim (fun z => k .ret [.lst tRange z.1, .int .i64 z.2.1, .int .i64 z.2.2.1, .int .i64 z.2.2.2] []) (fun z => k (.exit 0) [.lst tRange z.1, .int .i64 z.2.1, .int .i64 z.2.2.1, .int .i64 z.2.2.2] [])))
      (none)⟩
  | _ => none

def laws_szRangeS_v0 : q8T → List AV := (fun x => [.lst tRange x.1, .int .i64 x.2.1, .int .i64 x.2.2.1, .int .i64 x.2.2.2])
def laws_szRangeS_s0 : q8T → St := (fun x => [])
def laws_szRangeS_e0 : (q8T ⊕ q8T) → Out × List AV × St := (Sum.elim (fun z => (.ret, [.lst tRange z.1, .int .i64 z.2.1, .int .i64 z.2.2.1, .int .i64 z.2.2.2], [])) (fun z => ((.exit 0), [.lst tRange z.1, .int .i64 z.2.1, .int .i64 z.2.2.1, .int .i64 z.2.2.2], [])))

theorem laws_szRangeS_bx0 (x : q8T) : exec G3 ⟨0, 27, laws_szRangeS_loops⟩ (loopBody Try.f64 0) (bodyK ⟨0, 27, laws_szRangeS_loops⟩ [0, 1, 4, 5] []) (setEs (deads 27) [0, 1, 4, 5] (laws_szRangeS_v0 x)) (laws_szRangeS_s0 x) = laws_szRangeS_b0 x (Sum.elim (fun y => some ⟨.norm, laws_szRangeS_v0 y, laws_szRangeS_s0 y⟩) fun z => some ⟨(laws_szRangeS_e0 z).1, (laws_szRangeS_e0 z).2.1, (laws_szRangeS_e0 z).2.2⟩) := by
  kernel_rfl

theorem laws_szRangeS_lo0 : ∀ sp, (laws_szRangeS_loops 0) = some sp → LoopOk G3 ⟨0, 27, laws_szRangeS_loops⟩ sp (loopBody Try.f64 0) := by
  intro sp hsp vals st k r h
  cases hsp
  dsimp only at h
  rcases onPats_inv2 h with ⟨p, q, rfl, rfl, h⟩ | h
  · exact loop_runs2 laws_szRangeS_bp0 laws_szRangeS_v0 laws_szRangeS_s0 laws_szRangeS_e0 (fun z => by rcases z with z | z <;> (intro h; cases h)) laws_szRangeS_bx0 Fuel (p.1, p.2.1, p.2.2.1, p.2.2.2.1) _ k r (fun z => by rcases z with z | z <;> rfl) h
  cases h

theorem laws_szRangeS_y (a0 : (List dRange)) (a1 : Int) : execFn G3 laws_szRangeS_loops Try.f64 [.lst tRange a0, .int .i64 a1] [] = laws_szRangeS_k a0 a1 (fun (y : Int) => some ⟨.ret, [.int .i64 y], []⟩) := by rw [laws_szRangeS_e]; kernel_rfl

theorem laws_szRangeS_l : LoopsOk G3 ⟨0, 27, laws_szRangeS_loops⟩ (Try.f64.body.getD .skip) :=
  loopsOk_of (ids := [0]) (by kernel_rfl) (by kernel_rfl) ⟨laws_szRangeS_lo0, trivial⟩

theorem laws_szRangeS_c : Contract Try.prog 64 laws_szRangeS_g := by
  refine told G3_ok follows Try.func64 (c := Try.f64.body.getD .skip) (by kernel_rfl) ?_
  intro args s k r hk
  unfold laws_szRangeS_g at hk
  rcases onPats_inv hk with ⟨p, q, rfl, rfl⟩ | hk
  · exact ⟨laws_szRangeS_loops, laws_szRangeS_q p.1 p.2.1, laws_szRangeS_y p.1 p.2.1, laws_szRangeS_l⟩
  cases hk

def G4 : Glob := G3.add 64 laws_szRangeS_g

theorem G4_ok : GlobOk Try.prog G4 := G3_ok.add ⟨Try.f64, Try.func64, by kernel_rfl, by kernel_rfl⟩ laws_szRangeS_c



def laws_szWrite_loops : Nat → Option LoopSpec
  | _ => none

theorem laws_szWrite_y (a0 : ByteArray) (a1 : ByteArray) (a2 : Bool) (a3 : Int) : execFn G4 laws_szWrite_loops Try.f49 [.agg [.str a0, .str a1, .bool a2], .int .i64 a3] [] = laws_szWrite_k (a0, (a1, a2)) a3 (fun (y : Int) => some ⟨.ret, [.int .i64 y], []⟩) := by rw [laws_szWrite_e]; kernel_rfl

theorem laws_szWrite_l : LoopsOk G4 ⟨0, 20, laws_szWrite_loops⟩ (Try.f49.body.getD .skip) :=
  loopsOk_of (ids := []) (by kernel_rfl) (by kernel_rfl) trivial

theorem laws_szWrite_c : Contract Try.prog 49 laws_szWrite_g := by
  refine told G4_ok follows Try.func49 (c := Try.f49.body.getD .skip) (by kernel_rfl) ?_
  intro args s k r hk
  unfold laws_szWrite_g at hk
  rcases onPats_inv hk with ⟨p, q, rfl, rfl⟩ | hk
  · exact ⟨laws_szWrite_loops, laws_szWrite_q p.1.1 p.1.2.1 p.1.2.2.1 p.2.1, laws_szWrite_y p.1.1 p.1.2.1 p.1.2.2.1 p.2.1, laws_szWrite_l⟩
  cases hk

def G5 : Glob := G4.add 49 laws_szWrite_g

theorem G5_ok : GlobOk Try.prog G5 := G4_ok.add ⟨Try.f49, Try.func49, by kernel_rfl, by kernel_rfl⟩ laws_szWrite_c



def laws_szWriteS_loops : Nat → Option LoopSpec
  | 0 => some ⟨[0, 1, 4, 5], [], fun vals st k => onPats [.lst tWrite, .int .i64, .int .i64, .int .i64] [] vals st (fun p q => loopK laws_szWriteS_b0 Fuel (p.1, p.2.1, p.2.2.1, p.2.2.2.1) (Sum.elim (fun z => k .ret [.lst tWrite z.1, .int .i64 z.2.1, .int .i64 z.2.2.1, .int .i64 z.2.2.2] []) (fun z => k (.exit 0) [.lst tWrite z.1, .int .i64 z.2.1, .int .i64 z.2.2.1, .int .i64 z.2.2.2] [])))
      (none)⟩
  | _ => none

def laws_szWriteS_v0 : q29T → List AV := (fun x => [.lst tWrite x.1, .int .i64 x.2.1, .int .i64 x.2.2.1, .int .i64 x.2.2.2])
def laws_szWriteS_s0 : q29T → St := (fun x => [])
def laws_szWriteS_e0 : (q29T ⊕ q29T) → Out × List AV × St := (Sum.elim (fun z => (.ret, [.lst tWrite z.1, .int .i64 z.2.1, .int .i64 z.2.2.1, .int .i64 z.2.2.2], [])) (fun z => ((.exit 0), [.lst tWrite z.1, .int .i64 z.2.1, .int .i64 z.2.2.1, .int .i64 z.2.2.2], [])))

theorem laws_szWriteS_bx0 (x : q29T) : exec G5 ⟨0, 27, laws_szWriteS_loops⟩ (loopBody Try.f65 0) (bodyK ⟨0, 27, laws_szWriteS_loops⟩ [0, 1, 4, 5] []) (setEs (deads 27) [0, 1, 4, 5] (laws_szWriteS_v0 x)) (laws_szWriteS_s0 x) = laws_szWriteS_b0 x (Sum.elim (fun y => some ⟨.norm, laws_szWriteS_v0 y, laws_szWriteS_s0 y⟩) fun z => some ⟨(laws_szWriteS_e0 z).1, (laws_szWriteS_e0 z).2.1, (laws_szWriteS_e0 z).2.2⟩) := by
  kernel_rfl

theorem laws_szWriteS_lo0 : ∀ sp, (laws_szWriteS_loops 0) = some sp → LoopOk G5 ⟨0, 27, laws_szWriteS_loops⟩ sp (loopBody Try.f65 0) := by
  intro sp hsp vals st k r h
  cases hsp
  dsimp only at h
  rcases onPats_inv2 h with ⟨p, q, rfl, rfl, h⟩ | h
  · exact loop_runs2 laws_szWriteS_bp0 laws_szWriteS_v0 laws_szWriteS_s0 laws_szWriteS_e0 (fun z => by rcases z with z | z <;> (intro h; cases h)) laws_szWriteS_bx0 Fuel (p.1, p.2.1, p.2.2.1, p.2.2.2.1) _ k r (fun z => by rcases z with z | z <;> rfl) h
  cases h

theorem laws_szWriteS_y (a0 : (List dWrite)) (a1 : Int) : execFn G5 laws_szWriteS_loops Try.f65 [.lst tWrite a0, .int .i64 a1] [] = laws_szWriteS_k a0 a1 (fun (y : Int) => some ⟨.ret, [.int .i64 y], []⟩) := by rw [laws_szWriteS_e]; kernel_rfl

theorem laws_szWriteS_l : LoopsOk G5 ⟨0, 27, laws_szWriteS_loops⟩ (Try.f65.body.getD .skip) :=
  loopsOk_of (ids := [0]) (by kernel_rfl) (by kernel_rfl) ⟨laws_szWriteS_lo0, trivial⟩

theorem laws_szWriteS_c : Contract Try.prog 65 laws_szWriteS_g := by
  refine told G5_ok follows Try.func65 (c := Try.f65.body.getD .skip) (by kernel_rfl) ?_
  intro args s k r hk
  unfold laws_szWriteS_g at hk
  rcases onPats_inv hk with ⟨p, q, rfl, rfl⟩ | hk
  · exact ⟨laws_szWriteS_loops, laws_szWriteS_q p.1 p.2.1, laws_szWriteS_y p.1 p.2.1, laws_szWriteS_l⟩
  cases hk

def G6 : Glob := G5.add 65 laws_szWriteS_g

theorem G6_ok : GlobOk Try.prog G6 := G5_ok.add ⟨Try.f65, Try.func65, by kernel_rfl, by kernel_rfl⟩ laws_szWriteS_c



def laws_szTxn_loops : Nat → Option LoopSpec
  | _ => none

theorem laws_szTxn_y (a0 : Int) (a1 : Int) (a2 : Int) (a3 : Int) (a4 : (List dRange)) (a5 : (List dWrite)) (a6 : Bool) (a7 : ByteArray) (a8 : Int) : execFn G6 laws_szTxn_loops Try.f9 [.agg [.int .i64 a0, .int .i64 a1, .int .i64 a2, .int .i64 a3, .lst tRange a4, .lst tWrite a5, .bool a6, .str a7], .int .i64 a8] [] = laws_szTxn_k (a0, (a1, (a2, (a3, (a4, (a5, (a6, a7))))))) a8 (fun (y : Int) => some ⟨.ret, [.int .i64 y], []⟩) := by rw [laws_szTxn_e]; kernel_rfl

theorem laws_szTxn_l : LoopsOk G6 ⟨0, 25, laws_szTxn_loops⟩ (Try.f9.body.getD .skip) :=
  loopsOk_of (ids := []) (by kernel_rfl) (by kernel_rfl) trivial

theorem laws_szTxn_c : Contract Try.prog 9 laws_szTxn_g := by
  refine told G6_ok follows Try.func9 (c := Try.f9.body.getD .skip) (by kernel_rfl) ?_
  intro args s k r hk
  unfold laws_szTxn_g at hk
  rcases onPats_inv hk with ⟨p, q, rfl, rfl⟩ | hk
  · exact ⟨laws_szTxn_loops, laws_szTxn_q p.1.1 p.1.2.1 p.1.2.2.1 p.1.2.2.2.1 p.1.2.2.2.2.1 p.1.2.2.2.2.2.1 p.1.2.2.2.2.2.2.1 p.1.2.2.2.2.2.2.2.1 p.2.1, laws_szTxn_y p.1.1 p.1.2.1 p.1.2.2.1 p.1.2.2.2.1 p.1.2.2.2.2.1 p.1.2.2.2.2.2.1 p.1.2.2.2.2.2.2.1 p.1.2.2.2.2.2.2.2.1 p.2.1, laws_szTxn_l⟩
  cases hk

def G7 : Glob := G6.add 9 laws_szTxn_g

theorem G7_ok : GlobOk Try.prog G7 := G6_ok.add ⟨Try.f9, Try.func9, by kernel_rfl, by kernel_rfl⟩ laws_szTxn_c



def laws_szTxnS_loops : Nat → Option LoopSpec
  | 0 => some ⟨[0, 1, 4, 5], [], fun vals st k => onPats [.lst tTxn, .int .i64, .int .i64, .int .i64] [] vals st (fun p q => loopK laws_szTxnS_b0 Fuel (p.1, p.2.1, p.2.2.1, p.2.2.2.1) (Sum.elim (fun z => k .ret [.lst tTxn z.1, .int .i64 z.2.1, .int .i64 z.2.2.1, .int .i64 z.2.2.2] []) (fun z => k (.exit 0) [.lst tTxn z.1, .int .i64 z.2.1, .int .i64 z.2.2.1, .int .i64 z.2.2.2] [])))
      (none)⟩
  | _ => none

def laws_szTxnS_v0 : q12T → List AV := (fun x => [.lst tTxn x.1, .int .i64 x.2.1, .int .i64 x.2.2.1, .int .i64 x.2.2.2])
def laws_szTxnS_s0 : q12T → St := (fun x => [])
def laws_szTxnS_e0 : (q12T ⊕ q12T) → Out × List AV × St := (Sum.elim (fun z => (.ret, [.lst tTxn z.1, .int .i64 z.2.1, .int .i64 z.2.2.1, .int .i64 z.2.2.2], [])) (fun z => ((.exit 0), [.lst tTxn z.1, .int .i64 z.2.1, .int .i64 z.2.2.1, .int .i64 z.2.2.2], [])))

theorem laws_szTxnS_bx0 (x : q12T) : exec G7 ⟨0, 27, laws_szTxnS_loops⟩ (loopBody Try.f128 0) (bodyK ⟨0, 27, laws_szTxnS_loops⟩ [0, 1, 4, 5] []) (setEs (deads 27) [0, 1, 4, 5] (laws_szTxnS_v0 x)) (laws_szTxnS_s0 x) = laws_szTxnS_b0 x (Sum.elim (fun y => some ⟨.norm, laws_szTxnS_v0 y, laws_szTxnS_s0 y⟩) fun z => some ⟨(laws_szTxnS_e0 z).1, (laws_szTxnS_e0 z).2.1, (laws_szTxnS_e0 z).2.2⟩) := by
  kernel_rfl

theorem laws_szTxnS_lo0 : ∀ sp, (laws_szTxnS_loops 0) = some sp → LoopOk G7 ⟨0, 27, laws_szTxnS_loops⟩ sp (loopBody Try.f128 0) := by
  intro sp hsp vals st k r h
  cases hsp
  dsimp only at h
  rcases onPats_inv2 h with ⟨p, q, rfl, rfl, h⟩ | h
  · exact loop_runs2 laws_szTxnS_bp0 laws_szTxnS_v0 laws_szTxnS_s0 laws_szTxnS_e0 (fun z => by rcases z with z | z <;> (intro h; cases h)) laws_szTxnS_bx0 Fuel (p.1, p.2.1, p.2.2.1, p.2.2.2.1) _ k r (fun z => by rcases z with z | z <;> rfl) h
  cases h

theorem laws_szTxnS_y (a0 : (List dTxn)) (a1 : Int) : execFn G7 laws_szTxnS_loops Try.f128 [.lst tTxn a0, .int .i64 a1] [] = laws_szTxnS_k a0 a1 (fun (y : Int) => some ⟨.ret, [.int .i64 y], []⟩) := by rw [laws_szTxnS_e]; kernel_rfl

theorem laws_szTxnS_l : LoopsOk G7 ⟨0, 27, laws_szTxnS_loops⟩ (Try.f128.body.getD .skip) :=
  loopsOk_of (ids := [0]) (by kernel_rfl) (by kernel_rfl) ⟨laws_szTxnS_lo0, trivial⟩

theorem laws_szTxnS_c : Contract Try.prog 128 laws_szTxnS_g := by
  refine told G7_ok follows Try.func128 (c := Try.f128.body.getD .skip) (by kernel_rfl) ?_
  intro args s k r hk
  unfold laws_szTxnS_g at hk
  rcases onPats_inv hk with ⟨p, q, rfl, rfl⟩ | hk
  · exact ⟨laws_szTxnS_loops, laws_szTxnS_q p.1 p.2.1, laws_szTxnS_y p.1 p.2.1, laws_szTxnS_l⟩
  cases hk

def G8 : Glob := G7.add 128 laws_szTxnS_g

theorem G8_ok : GlobOk Try.prog G8 := G7_ok.add ⟨Try.f128, Try.func128, by kernel_rfl, by kernel_rfl⟩ laws_szTxnS_c



def laws_szBase_loops : Nat → Option LoopSpec
  | _ => none

theorem laws_szBase_y (a0 : (List dVersion)) (a1 : (List dTxn)) (a2 : (List dTxn)) (a3 : Int) (a4 : Int) (a5 : Int) : execFn G8 laws_szBase_loops Try.f59 [.agg [.lst tVersion a0, .lst tTxn a1, .lst tTxn a2, .int .i64 a3, .int .i64 a4], .int .i64 a5] [] = laws_szBase_k (a0, (a1, (a2, (a3, a4)))) a5 (fun (y : Int) => some ⟨.ret, [.int .i64 y], []⟩) := by rw [laws_szBase_e]; kernel_rfl

theorem laws_szBase_l : LoopsOk G8 ⟨0, 24, laws_szBase_loops⟩ (Try.f59.body.getD .skip) :=
  loopsOk_of (ids := []) (by kernel_rfl) (by kernel_rfl) trivial

theorem laws_szBase_c : Contract Try.prog 59 laws_szBase_g := by
  refine told G8_ok follows Try.func59 (c := Try.f59.body.getD .skip) (by kernel_rfl) ?_
  intro args s k r hk
  unfold laws_szBase_g at hk
  rcases onPats_inv hk with ⟨p, q, rfl, rfl⟩ | hk
  · exact ⟨laws_szBase_loops, laws_szBase_q p.1.1 p.1.2.1 p.1.2.2.1 p.1.2.2.2.1 p.1.2.2.2.2.1 p.2.1, laws_szBase_y p.1.1 p.1.2.1 p.1.2.2.1 p.1.2.2.2.1 p.1.2.2.2.2.1 p.2.1, laws_szBase_l⟩
  cases hk

def G9 : Glob := G8.add 59 laws_szBase_g

theorem G9_ok : GlobOk Try.prog G9 := G8_ok.add ⟨Try.f59, Try.func59, by kernel_rfl, by kernel_rfl⟩ laws_szBase_c



def laws_toVersion_loops : Nat → Option LoopSpec
  | _ => none

theorem laws_toVersion_y (a0 : ByteArray) (a1 : ByteArray) (a2 : Bool) (a3 : Int) : execFn G9 laws_toVersion_loops Try.f70 [.agg [.str a0, .str a1, .bool a2, .int .i64 a3]] [] = laws_toVersion_k (a0, (a1, (a2, a3))) (fun (y : q34T) => some ⟨.ret, [.agg [.str y.1, .str y.2.1, .bool y.2.2.1, .int .i64 y.2.2.2]], []⟩) := by rw [laws_toVersion_e]; kernel_rfl

theorem laws_toVersion_l : LoopsOk G9 ⟨0, 17, laws_toVersion_loops⟩ (Try.f70.body.getD .skip) :=
  loopsOk_of (ids := []) (by kernel_rfl) (by kernel_rfl) trivial

theorem laws_toVersion_c : Contract Try.prog 70 laws_toVersion_g := by
  refine told G9_ok follows Try.func70 (c := Try.f70.body.getD .skip) (by kernel_rfl) ?_
  intro args s k r hk
  unfold laws_toVersion_g at hk
  rcases onPats_inv hk with ⟨p, q, rfl, rfl⟩ | hk
  · exact ⟨laws_toVersion_loops, laws_toVersion_q p.1.1 p.1.2.1 p.1.2.2.1 p.1.2.2.2.1, laws_toVersion_y p.1.1 p.1.2.1 p.1.2.2.1 p.1.2.2.2.1, laws_toVersion_l⟩
  cases hk

def G10 : Glob := G9.add 70 laws_toVersion_g

theorem G10_ok : GlobOk Try.prog G10 := G9_ok.add ⟨Try.f70, Try.func70, by kernel_rfl, by kernel_rfl⟩ laws_toVersion_c



def laws_toVersionS_loops : Nat → Option LoopSpec
  | 0 => some ⟨[0, 3, 4], [], fun vals st k => onPats [.lst tVersion, .own 0, .int .i64] [.arr tVersion] vals st (fun p q => loopK laws_toVersionS_b0 Fuel (p.1, p.2.2.1, q.1) (fun z => k (.exit 0) [.lst tVersion z.1, .own 0, .int .i64 z.2.1] [.arr tVersion z.2.2]))
      (none)⟩
  | _ => none

def laws_toVersionS_v0 : q18T → List AV := (fun x => [.lst tVersion x.1, .own 0, .int .i64 x.2.1])
def laws_toVersionS_s0 : q18T → St := (fun x => [.arr tVersion x.2.2])
def laws_toVersionS_e0 : q18T → Out × List AV × St := (fun z => ((.exit 0), [.lst tVersion z.1, .own 0, .int .i64 z.2.1], [.arr tVersion z.2.2]))

theorem laws_toVersionS_bx0 (x : q18T) : exec G10 ⟨0, 23, laws_toVersionS_loops⟩ (loopBody Try.f14 0) (bodyK ⟨0, 23, laws_toVersionS_loops⟩ [0, 3, 4] []) (setEs (deads 23) [0, 3, 4] (laws_toVersionS_v0 x)) (laws_toVersionS_s0 x) = laws_toVersionS_b0 x (Sum.elim (fun y => some ⟨.norm, laws_toVersionS_v0 y, laws_toVersionS_s0 y⟩) fun z => some ⟨(laws_toVersionS_e0 z).1, (laws_toVersionS_e0 z).2.1, (laws_toVersionS_e0 z).2.2⟩) := by
  kernel_rfl

theorem laws_toVersionS_lo0 : ∀ sp, (laws_toVersionS_loops 0) = some sp → LoopOk G10 ⟨0, 23, laws_toVersionS_loops⟩ sp (loopBody Try.f14 0) := by
  intro sp hsp vals st k r h
  cases hsp
  dsimp only at h
  rcases onPats_inv2 h with ⟨p, q, rfl, rfl, h⟩ | h
  · exact loop_runs2 laws_toVersionS_bp0 laws_toVersionS_v0 laws_toVersionS_s0 laws_toVersionS_e0 (fun z => by (intro h; cases h)) laws_toVersionS_bx0 Fuel (p.1, p.2.2.1, q.1) _ k r (fun z => rfl) h
  cases h

theorem laws_toVersionS_y (a0 : (List dVersion)) : execFn G10 laws_toVersionS_loops Try.f14 [.lst tVersion a0] [] = laws_toVersionS_k a0 (fun (y : (List dVersion)) => some ⟨.ret, [.own 0], [.arr tVersion y]⟩) := by rw [laws_toVersionS_e]; kernel_rfl

theorem laws_toVersionS_l : LoopsOk G10 ⟨0, 23, laws_toVersionS_loops⟩ (Try.f14.body.getD .skip) :=
  loopsOk_of (ids := [0]) (by kernel_rfl) (by kernel_rfl) ⟨laws_toVersionS_lo0, trivial⟩

theorem laws_toVersionS_c : Contract Try.prog 14 laws_toVersionS_g := by
  refine told G10_ok follows Try.func14 (c := Try.f14.body.getD .skip) (by kernel_rfl) ?_
  intro args s k r hk
  unfold laws_toVersionS_g at hk
  rcases onPats_inv hk with ⟨p, q, rfl, rfl⟩ | hk
  · exact ⟨laws_toVersionS_loops, laws_toVersionS_q p.1, laws_toVersionS_y p.1, laws_toVersionS_l⟩
  cases hk

def G11 : Glob := G10.add 14 laws_toVersionS_g

theorem G11_ok : GlobOk Try.prog G11 := G10_ok.add ⟨Try.f14, Try.func14, by kernel_rfl, by kernel_rfl⟩ laws_toVersionS_c



def laws_toRange_loops : Nat → Option LoopSpec
  | _ => none

theorem laws_toRange_y (a0 : ByteArray) (a1 : ByteArray) : execFn G11 laws_toRange_loops Try.f15 [.agg [.str a0, .str a1]] [] = laws_toRange_k (a0, a1) (fun (y : (ByteArray × ByteArray)) => some ⟨.ret, [.agg [.str y.1, .str y.2]], []⟩) := by rw [laws_toRange_e]; kernel_rfl

theorem laws_toRange_l : LoopsOk G11 ⟨0, 11, laws_toRange_loops⟩ (Try.f15.body.getD .skip) :=
  loopsOk_of (ids := []) (by kernel_rfl) (by kernel_rfl) trivial

theorem laws_toRange_c : Contract Try.prog 15 laws_toRange_g := by
  refine told G11_ok follows Try.func15 (c := Try.f15.body.getD .skip) (by kernel_rfl) ?_
  intro args s k r hk
  unfold laws_toRange_g at hk
  rcases onPats_inv hk with ⟨p, q, rfl, rfl⟩ | hk
  · exact ⟨laws_toRange_loops, laws_toRange_q p.1.1 p.1.2.1, laws_toRange_y p.1.1 p.1.2.1, laws_toRange_l⟩
  cases hk

def G12 : Glob := G11.add 15 laws_toRange_g

theorem G12_ok : GlobOk Try.prog G12 := G11_ok.add ⟨Try.f15, Try.func15, by kernel_rfl, by kernel_rfl⟩ laws_toRange_c



def laws_toRangeS_loops : Nat → Option LoopSpec
  | 0 => some ⟨[0, 3, 4], [], fun vals st k => onPats [.lst tRange, .own 0, .int .i64] [.arr tRange] vals st (fun p q => loopK laws_toRangeS_b0 Fuel (p.1, p.2.2.1, q.1) (fun z => k (.exit 0) [.lst tRange z.1, .own 0, .int .i64 z.2.1] [.arr tRange z.2.2]))
      (none)⟩
  | _ => none

def laws_toRangeS_v0 : q6T → List AV := (fun x => [.lst tRange x.1, .own 0, .int .i64 x.2.1])
def laws_toRangeS_s0 : q6T → St := (fun x => [.arr tRange x.2.2])
def laws_toRangeS_e0 : q6T → Out × List AV × St := (fun z => ((.exit 0), [.lst tRange z.1, .own 0, .int .i64 z.2.1], [.arr tRange z.2.2]))

theorem laws_toRangeS_bx0 (x : q6T) : exec G12 ⟨0, 23, laws_toRangeS_loops⟩ (loopBody Try.f68 0) (bodyK ⟨0, 23, laws_toRangeS_loops⟩ [0, 3, 4] []) (setEs (deads 23) [0, 3, 4] (laws_toRangeS_v0 x)) (laws_toRangeS_s0 x) = laws_toRangeS_b0 x (Sum.elim (fun y => some ⟨.norm, laws_toRangeS_v0 y, laws_toRangeS_s0 y⟩) fun z => some ⟨(laws_toRangeS_e0 z).1, (laws_toRangeS_e0 z).2.1, (laws_toRangeS_e0 z).2.2⟩) := by
  kernel_rfl

theorem laws_toRangeS_lo0 : ∀ sp, (laws_toRangeS_loops 0) = some sp → LoopOk G12 ⟨0, 23, laws_toRangeS_loops⟩ sp (loopBody Try.f68 0) := by
  intro sp hsp vals st k r h
  cases hsp
  dsimp only at h
  rcases onPats_inv2 h with ⟨p, q, rfl, rfl, h⟩ | h
  · exact loop_runs2 laws_toRangeS_bp0 laws_toRangeS_v0 laws_toRangeS_s0 laws_toRangeS_e0 (fun z => by (intro h; cases h)) laws_toRangeS_bx0 Fuel (p.1, p.2.2.1, q.1) _ k r (fun z => rfl) h
  cases h

theorem laws_toRangeS_y (a0 : (List dRange)) : execFn G12 laws_toRangeS_loops Try.f68 [.lst tRange a0] [] = laws_toRangeS_k a0 (fun (y : (List dRange)) => some ⟨.ret, [.own 0], [.arr tRange y]⟩) := by rw [laws_toRangeS_e]; kernel_rfl

theorem laws_toRangeS_l : LoopsOk G12 ⟨0, 23, laws_toRangeS_loops⟩ (Try.f68.body.getD .skip) :=
  loopsOk_of (ids := [0]) (by kernel_rfl) (by kernel_rfl) ⟨laws_toRangeS_lo0, trivial⟩

theorem laws_toRangeS_c : Contract Try.prog 68 laws_toRangeS_g := by
  refine told G12_ok follows Try.func68 (c := Try.f68.body.getD .skip) (by kernel_rfl) ?_
  intro args s k r hk
  unfold laws_toRangeS_g at hk
  rcases onPats_inv hk with ⟨p, q, rfl, rfl⟩ | hk
  · exact ⟨laws_toRangeS_loops, laws_toRangeS_q p.1, laws_toRangeS_y p.1, laws_toRangeS_l⟩
  cases hk

def G13 : Glob := G12.add 68 laws_toRangeS_g

theorem G13_ok : GlobOk Try.prog G13 := G12_ok.add ⟨Try.f68, Try.func68, by kernel_rfl, by kernel_rfl⟩ laws_toRangeS_c



def laws_toWrite_loops : Nat → Option LoopSpec
  | _ => none

theorem laws_toWrite_y (a0 : ByteArray) (a1 : ByteArray) (a2 : Bool) : execFn G13 laws_toWrite_loops Try.f52 [.agg [.str a0, .str a1, .bool a2]] [] = laws_toWrite_k (a0, (a1, a2)) (fun (y : (ByteArray × ByteArray × Bool)) => some ⟨.ret, [.agg [.str y.1, .str y.2.1, .bool y.2.2]], []⟩) := by rw [laws_toWrite_e]; kernel_rfl

theorem laws_toWrite_l : LoopsOk G13 ⟨0, 14, laws_toWrite_loops⟩ (Try.f52.body.getD .skip) :=
  loopsOk_of (ids := []) (by kernel_rfl) (by kernel_rfl) trivial

theorem laws_toWrite_c : Contract Try.prog 52 laws_toWrite_g := by
  refine told G13_ok follows Try.func52 (c := Try.f52.body.getD .skip) (by kernel_rfl) ?_
  intro args s k r hk
  unfold laws_toWrite_g at hk
  rcases onPats_inv hk with ⟨p, q, rfl, rfl⟩ | hk
  · exact ⟨laws_toWrite_loops, laws_toWrite_q p.1.1 p.1.2.1 p.1.2.2.1, laws_toWrite_y p.1.1 p.1.2.1 p.1.2.2.1, laws_toWrite_l⟩
  cases hk

def G14 : Glob := G13.add 52 laws_toWrite_g

theorem G14_ok : GlobOk Try.prog G14 := G13_ok.add ⟨Try.f52, Try.func52, by kernel_rfl, by kernel_rfl⟩ laws_toWrite_c



def laws_toWriteS_loops : Nat → Option LoopSpec
  | 0 => some ⟨[0, 3, 4], [], fun vals st k => onPats [.lst tWrite, .own 0, .int .i64] [.arr tWrite] vals st (fun p q => loopK laws_toWriteS_b0 Fuel (p.1, p.2.2.1, q.1) (fun z => k (.exit 0) [.lst tWrite z.1, .own 0, .int .i64 z.2.1] [.arr tWrite z.2.2]))
      (none)⟩
  | _ => none

def laws_toWriteS_v0 : q27T → List AV := (fun x => [.lst tWrite x.1, .own 0, .int .i64 x.2.1])
def laws_toWriteS_s0 : q27T → St := (fun x => [.arr tWrite x.2.2])
def laws_toWriteS_e0 : q27T → Out × List AV × St := (fun z => ((.exit 0), [.lst tWrite z.1, .own 0, .int .i64 z.2.1], [.arr tWrite z.2.2]))

theorem laws_toWriteS_bx0 (x : q27T) : exec G14 ⟨0, 23, laws_toWriteS_loops⟩ (loopBody Try.f69 0) (bodyK ⟨0, 23, laws_toWriteS_loops⟩ [0, 3, 4] []) (setEs (deads 23) [0, 3, 4] (laws_toWriteS_v0 x)) (laws_toWriteS_s0 x) = laws_toWriteS_b0 x (Sum.elim (fun y => some ⟨.norm, laws_toWriteS_v0 y, laws_toWriteS_s0 y⟩) fun z => some ⟨(laws_toWriteS_e0 z).1, (laws_toWriteS_e0 z).2.1, (laws_toWriteS_e0 z).2.2⟩) := by
  kernel_rfl

theorem laws_toWriteS_lo0 : ∀ sp, (laws_toWriteS_loops 0) = some sp → LoopOk G14 ⟨0, 23, laws_toWriteS_loops⟩ sp (loopBody Try.f69 0) := by
  intro sp hsp vals st k r h
  cases hsp
  dsimp only at h
  rcases onPats_inv2 h with ⟨p, q, rfl, rfl, h⟩ | h
  · exact loop_runs2 laws_toWriteS_bp0 laws_toWriteS_v0 laws_toWriteS_s0 laws_toWriteS_e0 (fun z => by (intro h; cases h)) laws_toWriteS_bx0 Fuel (p.1, p.2.2.1, q.1) _ k r (fun z => rfl) h
  cases h

theorem laws_toWriteS_y (a0 : (List dWrite)) : execFn G14 laws_toWriteS_loops Try.f69 [.lst tWrite a0] [] = laws_toWriteS_k a0 (fun (y : (List dWrite)) => some ⟨.ret, [.own 0], [.arr tWrite y]⟩) := by rw [laws_toWriteS_e]; kernel_rfl

theorem laws_toWriteS_l : LoopsOk G14 ⟨0, 23, laws_toWriteS_loops⟩ (Try.f69.body.getD .skip) :=
  loopsOk_of (ids := [0]) (by kernel_rfl) (by kernel_rfl) ⟨laws_toWriteS_lo0, trivial⟩

theorem laws_toWriteS_c : Contract Try.prog 69 laws_toWriteS_g := by
  refine told G14_ok follows Try.func69 (c := Try.f69.body.getD .skip) (by kernel_rfl) ?_
  intro args s k r hk
  unfold laws_toWriteS_g at hk
  rcases onPats_inv hk with ⟨p, q, rfl, rfl⟩ | hk
  · exact ⟨laws_toWriteS_loops, laws_toWriteS_q p.1, laws_toWriteS_y p.1, laws_toWriteS_l⟩
  cases hk

def G15 : Glob := G14.add 69 laws_toWriteS_g

theorem G15_ok : GlobOk Try.prog G15 := G14_ok.add ⟨Try.f69, Try.func69, by kernel_rfl, by kernel_rfl⟩ laws_toWriteS_c



def laws_toTxn_loops : Nat → Option LoopSpec
  | _ => none

theorem laws_toTxn_y (a0 : Int) (a1 : Int) (a2 : Int) (a3 : Int) (a4 : (List dRange)) (a5 : (List dWrite)) (a6 : Bool) (a7 : ByteArray) : execFn G15 laws_toTxn_loops Try.f13 [.agg [.int .i64 a0, .int .i64 a1, .int .i64 a2, .int .i64 a3, .lst tRange a4, .lst tWrite a5, .bool a6, .str a7]] [] = laws_toTxn_k (a0, (a1, (a2, (a3, (a4, (a5, (a6, a7))))))) (fun (y : q39T) => some ⟨.ret, [.agg [.int .i64 y.1, .int .i64 y.2.1, .int .i64 y.2.2.1, .int .i64 y.2.2.2.1, .own 0, .own 1, .bool y.2.2.2.2.1, .str y.2.2.2.2.2.1]], [.arr tRange y.2.2.2.2.2.2.1, .arr tWrite y.2.2.2.2.2.2.2]⟩) := by rw [laws_toTxn_e]; kernel_rfl

theorem laws_toTxn_l : LoopsOk G15 ⟨0, 31, laws_toTxn_loops⟩ (Try.f13.body.getD .skip) :=
  loopsOk_of (ids := []) (by kernel_rfl) (by kernel_rfl) trivial

theorem laws_toTxn_c : Contract Try.prog 13 laws_toTxn_g := by
  refine told G15_ok follows Try.func13 (c := Try.f13.body.getD .skip) (by kernel_rfl) ?_
  intro args s k r hk
  unfold laws_toTxn_g at hk
  rcases onPats_inv hk with ⟨p, q, rfl, rfl⟩ | hk
  · exact ⟨laws_toTxn_loops, laws_toTxn_q p.1.1 p.1.2.1 p.1.2.2.1 p.1.2.2.2.1 p.1.2.2.2.2.1 p.1.2.2.2.2.2.1 p.1.2.2.2.2.2.2.1 p.1.2.2.2.2.2.2.2.1, laws_toTxn_y p.1.1 p.1.2.1 p.1.2.2.1 p.1.2.2.2.1 p.1.2.2.2.2.1 p.1.2.2.2.2.2.1 p.1.2.2.2.2.2.2.1 p.1.2.2.2.2.2.2.2.1, laws_toTxn_l⟩
  cases hk

def G16 : Glob := G15.add 13 laws_toTxn_g

theorem G16_ok : GlobOk Try.prog G16 := G15_ok.add ⟨Try.f13, Try.func13, by kernel_rfl, by kernel_rfl⟩ laws_toTxn_c



def laws_toTxnS_loops : Nat → Option LoopSpec
  | 0 => some ⟨[0, 3, 4], [], fun vals st k => onPats [.lst tTxn, .own 0, .int .i64] [.arr tTxn] vals st (fun p q => loopK laws_toTxnS_b0 Fuel (p.1, p.2.2.1, q.1) (fun z => k (.exit 0) [.lst tTxn z.1, .own 0, .int .i64 z.2.1] [.arr tTxn z.2.2]))
      (none)⟩
  | _ => none

def laws_toTxnS_v0 : q11T → List AV := (fun x => [.lst tTxn x.1, .own 0, .int .i64 x.2.1])
def laws_toTxnS_s0 : q11T → St := (fun x => [.arr tTxn x.2.2])
def laws_toTxnS_e0 : q11T → Out × List AV × St := (fun z => ((.exit 0), [.lst tTxn z.1, .own 0, .int .i64 z.2.1], [.arr tTxn z.2.2]))

theorem laws_toTxnS_bx0 (x : q11T) : exec G16 ⟨0, 23, laws_toTxnS_loops⟩ (loopBody Try.f131 0) (bodyK ⟨0, 23, laws_toTxnS_loops⟩ [0, 3, 4] []) (setEs (deads 23) [0, 3, 4] (laws_toTxnS_v0 x)) (laws_toTxnS_s0 x) = laws_toTxnS_b0 x (Sum.elim (fun y => some ⟨.norm, laws_toTxnS_v0 y, laws_toTxnS_s0 y⟩) fun z => some ⟨(laws_toTxnS_e0 z).1, (laws_toTxnS_e0 z).2.1, (laws_toTxnS_e0 z).2.2⟩) := by
  kernel_rfl

theorem laws_toTxnS_lo0 : ∀ sp, (laws_toTxnS_loops 0) = some sp → LoopOk G16 ⟨0, 23, laws_toTxnS_loops⟩ sp (loopBody Try.f131 0) := by
  intro sp hsp vals st k r h
  cases hsp
  dsimp only at h
  rcases onPats_inv2 h with ⟨p, q, rfl, rfl, h⟩ | h
  · exact loop_runs2 laws_toTxnS_bp0 laws_toTxnS_v0 laws_toTxnS_s0 laws_toTxnS_e0 (fun z => by (intro h; cases h)) laws_toTxnS_bx0 Fuel (p.1, p.2.2.1, q.1) _ k r (fun z => rfl) h
  cases h

theorem laws_toTxnS_y (a0 : (List dTxn)) : execFn G16 laws_toTxnS_loops Try.f131 [.lst tTxn a0] [] = laws_toTxnS_k a0 (fun (y : (List dTxn)) => some ⟨.ret, [.own 0], [.arr tTxn y]⟩) := by rw [laws_toTxnS_e]; kernel_rfl

theorem laws_toTxnS_l : LoopsOk G16 ⟨0, 23, laws_toTxnS_loops⟩ (Try.f131.body.getD .skip) :=
  loopsOk_of (ids := [0]) (by kernel_rfl) (by kernel_rfl) ⟨laws_toTxnS_lo0, trivial⟩

theorem laws_toTxnS_c : Contract Try.prog 131 laws_toTxnS_g := by
  refine told G16_ok follows Try.func131 (c := Try.f131.body.getD .skip) (by kernel_rfl) ?_
  intro args s k r hk
  unfold laws_toTxnS_g at hk
  rcases onPats_inv hk with ⟨p, q, rfl, rfl⟩ | hk
  · exact ⟨laws_toTxnS_loops, laws_toTxnS_q p.1, laws_toTxnS_y p.1, laws_toTxnS_l⟩
  cases hk

def G17 : Glob := G16.add 131 laws_toTxnS_g

theorem G17_ok : GlobOk Try.prog G17 := G16_ok.add ⟨Try.f131, Try.func131, by kernel_rfl, by kernel_rfl⟩ laws_toTxnS_c



def laws_toBase_loops : Nat → Option LoopSpec
  | _ => none

theorem laws_toBase_y (a0 : (List dVersion)) (a1 : (List dTxn)) (a2 : (List dTxn)) (a3 : Int) (a4 : Int) : execFn G17 laws_toBase_loops Try.f61 [.agg [.lst tVersion a0, .lst tTxn a1, .lst tTxn a2, .int .i64 a3, .int .i64 a4]] [] = laws_toBase_k (a0, (a1, (a2, (a3, a4)))) (fun (y : q38T) => some ⟨.ret, [.agg [.own 0, .own 1, .own 2, .int .i64 y.1, .int .i64 y.2.1]], [.arr tVersion y.2.2.1, .arr tTxn y.2.2.2.1, .arr tTxn y.2.2.2.2]⟩) := by rw [laws_toBase_e]; kernel_rfl

theorem laws_toBase_l : LoopsOk G17 ⟨0, 23, laws_toBase_loops⟩ (Try.f61.body.getD .skip) :=
  loopsOk_of (ids := []) (by kernel_rfl) (by kernel_rfl) trivial

theorem laws_toBase_c : Contract Try.prog 61 laws_toBase_g := by
  refine told G17_ok follows Try.func61 (c := Try.f61.body.getD .skip) (by kernel_rfl) ?_
  intro args s k r hk
  unfold laws_toBase_g at hk
  rcases onPats_inv hk with ⟨p, q, rfl, rfl⟩ | hk
  · exact ⟨laws_toBase_loops, laws_toBase_q p.1.1 p.1.2.1 p.1.2.2.1 p.1.2.2.2.1 p.1.2.2.2.2.1, laws_toBase_y p.1.1 p.1.2.1 p.1.2.2.1 p.1.2.2.2.1 p.1.2.2.2.2.1, laws_toBase_l⟩
  cases hk

def G18 : Glob := G17.add 61 laws_toBase_g

theorem G18_ok : GlobOk Try.prog G18 := G17_ok.add ⟨Try.f61, Try.func61, by kernel_rfl, by kernel_rfl⟩ laws_toBase_c



def spec_l01In_loops : Nat → Option LoopSpec
  | _ => none

theorem spec_l01In_y (a0 : Int) (a1 : Int) (a2 : Int) : execFn G18 spec_l01In_loops Try.f122 [.int .i64 a0, .int .i64 a1, .int .i64 a2] [] = spec_l01In_k a0 a1 a2 (fun (y : Bool) => some ⟨.ret, [.bool y], []⟩) := by rw [spec_l01In_e]; kernel_rfl

theorem spec_l01In_l : LoopsOk G18 ⟨0, 15, spec_l01In_loops⟩ (Try.f122.body.getD .skip) :=
  loopsOk_of (ids := []) (by kernel_rfl) (by kernel_rfl) trivial

theorem spec_l01In_c : Contract Try.prog 122 spec_l01In_g := by
  refine told G18_ok follows Try.func122 (c := Try.f122.body.getD .skip) (by kernel_rfl) ?_
  intro args s k r hk
  unfold spec_l01In_g at hk
  rcases onPats_inv hk with ⟨p, q, rfl, rfl⟩ | hk
  · exact ⟨spec_l01In_loops, spec_l01In_q p.1 p.2.1 p.2.2.1, spec_l01In_y p.1 p.2.1 p.2.2.1, spec_l01In_l⟩
  cases hk

def G19 : Glob := G18.add 122 spec_l01In_g

theorem G19_ok : GlobOk Try.prog G19 := G18_ok.add ⟨Try.f122, Try.func122, by kernel_rfl, by kernel_rfl⟩ spec_l01In_c



def spec_KeyOk_loops : Nat → Option LoopSpec
  | 0 => some ⟨[0, 2, 3], [], fun vals st k => onPats [.str, .bool, .int .i64] [] vals st (fun p q => loopK spec_KeyOk_b0 Fuel (p.1, p.2.1, p.2.2.1) (Sum.elim (fun z => k .ret [.str z.1, .bool z.2.1, .int .i64 z.2.2] []) (fun z => k (.exit 0) [.str z.1, .bool z.2.1, .int .i64 z.2.2] [])))
      (none)⟩
  | _ => none

def spec_KeyOk_v0 : (ByteArray × Bool × Int) → List AV := (fun x => [.str x.1, .bool x.2.1, .int .i64 x.2.2])
def spec_KeyOk_s0 : (ByteArray × Bool × Int) → St := (fun x => [])
def spec_KeyOk_e0 : ((ByteArray × Bool × Int) ⊕ (ByteArray × Bool × Int)) → Out × List AV × St := (Sum.elim (fun z => (.ret, [.str z.1, .bool z.2.1, .int .i64 z.2.2], [])) (fun z => ((.exit 0), [.str z.1, .bool z.2.1, .int .i64 z.2.2], [])))

theorem spec_KeyOk_bx0 (x : (ByteArray × Bool × Int)) : exec G19 ⟨0, 23, spec_KeyOk_loops⟩ (loopBody Try.f123 0) (bodyK ⟨0, 23, spec_KeyOk_loops⟩ [0, 2, 3] []) (setEs (deads 23) [0, 2, 3] (spec_KeyOk_v0 x)) (spec_KeyOk_s0 x) = spec_KeyOk_b0 x (Sum.elim (fun y => some ⟨.norm, spec_KeyOk_v0 y, spec_KeyOk_s0 y⟩) fun z => some ⟨(spec_KeyOk_e0 z).1, (spec_KeyOk_e0 z).2.1, (spec_KeyOk_e0 z).2.2⟩) := by
  kernel_rfl

theorem spec_KeyOk_lo0 : ∀ sp, (spec_KeyOk_loops 0) = some sp → LoopOk G19 ⟨0, 23, spec_KeyOk_loops⟩ sp (loopBody Try.f123 0) := by
  intro sp hsp vals st k r h
  cases hsp
  dsimp only at h
  rcases onPats_inv2 h with ⟨p, q, rfl, rfl, h⟩ | h
  · exact loop_runs2 spec_KeyOk_bp0 spec_KeyOk_v0 spec_KeyOk_s0 spec_KeyOk_e0 (fun z => by rcases z with z | z <;> (intro h; cases h)) spec_KeyOk_bx0 Fuel (p.1, p.2.1, p.2.2.1) _ k r (fun z => by rcases z with z | z <;> rfl) h
  cases h

theorem spec_KeyOk_y (a0 : ByteArray) : execFn G19 spec_KeyOk_loops Try.f123 [.str a0] [] = spec_KeyOk_k a0 (fun (y : Bool) => some ⟨.ret, [.bool y], []⟩) := by rw [spec_KeyOk_e]; kernel_rfl

theorem spec_KeyOk_l : LoopsOk G19 ⟨0, 23, spec_KeyOk_loops⟩ (Try.f123.body.getD .skip) :=
  loopsOk_of (ids := [0]) (by kernel_rfl) (by kernel_rfl) ⟨spec_KeyOk_lo0, trivial⟩

theorem spec_KeyOk_c : Contract Try.prog 123 spec_KeyOk_g := by
  refine told G19_ok follows Try.func123 (c := Try.f123.body.getD .skip) (by kernel_rfl) ?_
  intro args s k r hk
  unfold spec_KeyOk_g at hk
  rcases onPats_inv hk with ⟨p, q, rfl, rfl⟩ | hk
  · exact ⟨spec_KeyOk_loops, spec_KeyOk_q p.1, spec_KeyOk_y p.1, spec_KeyOk_l⟩
  cases hk

def G20 : Glob := G19.add 123 spec_KeyOk_g

theorem G20_ok : GlobOk Try.prog G20 := G19_ok.add ⟨Try.f123, Try.func123, by kernel_rfl, by kernel_rfl⟩ spec_KeyOk_c



def spec_WriteOk_loops : Nat → Option LoopSpec
  | _ => none

theorem spec_WriteOk_y (a0 : ByteArray) (a1 : ByteArray) (a2 : Bool) : execFn G20 spec_WriteOk_loops Try.f114 [.agg [.str a0, .str a1, .bool a2]] [] = spec_WriteOk_k (a0, (a1, a2)) (fun (y : Bool) => some ⟨.ret, [.bool y], []⟩) := by rw [spec_WriteOk_e]; kernel_rfl

theorem spec_WriteOk_l : LoopsOk G20 ⟨0, 22, spec_WriteOk_loops⟩ (Try.f114.body.getD .skip) :=
  loopsOk_of (ids := []) (by kernel_rfl) (by kernel_rfl) trivial

theorem spec_WriteOk_c : Contract Try.prog 114 spec_WriteOk_g := by
  refine told G20_ok follows Try.func114 (c := Try.f114.body.getD .skip) (by kernel_rfl) ?_
  intro args s k r hk
  unfold spec_WriteOk_g at hk
  rcases onPats_inv hk with ⟨p, q, rfl, rfl⟩ | hk
  · exact ⟨spec_WriteOk_loops, spec_WriteOk_q p.1.1 p.1.2.1 p.1.2.2.1, spec_WriteOk_y p.1.1 p.1.2.1 p.1.2.2.1, spec_WriteOk_l⟩
  cases hk

def G21 : Glob := G20.add 114 spec_WriteOk_g

theorem G21_ok : GlobOk Try.prog G21 := G20_ok.add ⟨Try.f114, Try.func114, by kernel_rfl, by kernel_rfl⟩ spec_WriteOk_c



def spec_WritesOk_loops : Nat → Option LoopSpec
  | 0 => some ⟨[0, 2, 3], [], fun vals st k => onPats [.lst tWrite, .bool, .int .i64] [] vals st (fun p q => loopK spec_WritesOk_b0 Fuel (p.1, p.2.1, p.2.2.1) (Sum.elim (fun z => k .ret [.lst tWrite z.1, .bool z.2.1, .int .i64 z.2.2] []) (fun z => k (.exit 0) [.lst tWrite z.1, .bool z.2.1, .int .i64 z.2.2] [])))
      (none)⟩
  | 2000004 => some ⟨[0, 2, 4, 6, 9, 10, 12, 14, 16, 18, 20, 22, 24, 26, 28, 30, 32, 34, 36, 38, 40, 42, 44, 46], [], fun _ _ _ => none⟩
  | _ => none

def spec_WritesOk_v0 : ((List dWrite) × Bool × Int) → List AV := (fun x => [.lst tWrite x.1, .bool x.2.1, .int .i64 x.2.2])
def spec_WritesOk_s0 : ((List dWrite) × Bool × Int) → St := (fun x => [])
def spec_WritesOk_e0 : (((List dWrite) × Bool × Int) ⊕ ((List dWrite) × Bool × Int)) → Out × List AV × St := (Sum.elim (fun z => (.ret, [.lst tWrite z.1, .bool z.2.1, .int .i64 z.2.2], [])) (fun z => ((.exit 0), [.lst tWrite z.1, .bool z.2.1, .int .i64 z.2.2], [])))

theorem spec_WritesOk_bx0 (x : ((List dWrite) × Bool × Int)) : exec G21 ⟨0, 37, spec_WritesOk_loops⟩ (loopBody Try.f116 0) (bodyK ⟨0, 37, spec_WritesOk_loops⟩ [0, 2, 3] []) (setEs (deads 37) [0, 2, 3] (spec_WritesOk_v0 x)) (spec_WritesOk_s0 x) = spec_WritesOk_b0 x (Sum.elim (fun y => some ⟨.norm, spec_WritesOk_v0 y, spec_WritesOk_s0 y⟩) fun z => some ⟨(spec_WritesOk_e0 z).1, (spec_WritesOk_e0 z).2.1, (spec_WritesOk_e0 z).2.2⟩) := by
  kernel_rfl

theorem spec_WritesOk_lo0 : ∀ sp, (spec_WritesOk_loops 0) = some sp → LoopOk G21 ⟨0, 37, spec_WritesOk_loops⟩ sp (loopBody Try.f116 0) := by
  intro sp hsp vals st k r h
  cases hsp
  dsimp only at h
  rcases onPats_inv2 h with ⟨p, q, rfl, rfl, h⟩ | h
  · exact loop_runs2 spec_WritesOk_bp0 spec_WritesOk_v0 spec_WritesOk_s0 spec_WritesOk_e0 (fun z => by rcases z with z | z <;> (intro h; cases h)) spec_WritesOk_bx0 Fuel (p.1, p.2.1, p.2.2.1) _ k r (fun z => by rcases z with z | z <;> rfl) h
  cases h

theorem spec_WritesOk_y (a0 : (List dWrite)) : execFn G21 spec_WritesOk_loops Try.f116 [.lst tWrite a0] [] = spec_WritesOk_k a0 (fun (y : Bool) => some ⟨.ret, [.bool y], []⟩) := by rw [spec_WritesOk_e]; kernel_rfl

theorem spec_WritesOk_l : LoopsOk G21 ⟨0, 37, spec_WritesOk_loops⟩ (Try.f116.body.getD .skip) :=
  loopsOk_of (ids := [0]) (by kernel_rfl) (by kernel_rfl) ⟨spec_WritesOk_lo0, trivial⟩

theorem spec_WritesOk_c : Contract Try.prog 116 spec_WritesOk_g := by
  refine told G21_ok follows Try.func116 (c := Try.f116.body.getD .skip) (by kernel_rfl) ?_
  intro args s k r hk
  unfold spec_WritesOk_g at hk
  rcases onPats_inv hk with ⟨p, q, rfl, rfl⟩ | hk
  · exact ⟨spec_WritesOk_loops, spec_WritesOk_q p.1, spec_WritesOk_y p.1, spec_WritesOk_l⟩
  cases hk

def G22 : Glob := G21.add 116 spec_WritesOk_g

theorem G22_ok : GlobOk Try.prog G22 := G21_ok.add ⟨Try.f116, Try.func116, by kernel_rfl, by kernel_rfl⟩ spec_WritesOk_c



def spec_RangeOk_loops : Nat → Option LoopSpec
  | _ => none

theorem spec_RangeOk_y (a0 : ByteArray) (a1 : ByteArray) : execFn G22 spec_RangeOk_loops Try.f109 [.agg [.str a0, .str a1]] [] = spec_RangeOk_k (a0, a1) (fun (y : Bool) => some ⟨.ret, [.bool y], []⟩) := by rw [spec_RangeOk_e]; kernel_rfl

theorem spec_RangeOk_l : LoopsOk G22 ⟨0, 18, spec_RangeOk_loops⟩ (Try.f109.body.getD .skip) :=
  loopsOk_of (ids := []) (by kernel_rfl) (by kernel_rfl) trivial

theorem spec_RangeOk_c : Contract Try.prog 109 spec_RangeOk_g := by
  refine told G22_ok follows Try.func109 (c := Try.f109.body.getD .skip) (by kernel_rfl) ?_
  intro args s k r hk
  unfold spec_RangeOk_g at hk
  rcases onPats_inv hk with ⟨p, q, rfl, rfl⟩ | hk
  · exact ⟨spec_RangeOk_loops, spec_RangeOk_q p.1.1 p.1.2.1, spec_RangeOk_y p.1.1 p.1.2.1, spec_RangeOk_l⟩
  cases hk

def G23 : Glob := G22.add 109 spec_RangeOk_g

theorem G23_ok : GlobOk Try.prog G23 := G22_ok.add ⟨Try.f109, Try.func109, by kernel_rfl, by kernel_rfl⟩ spec_RangeOk_c



def spec_TxnOk_loops : Nat → Option LoopSpec
  | 5000012 => some ⟨[1, 2], [], fun vals st k => onPats [.bp 0 0, .bool] [.box [.int .i64, .int .i64, .int .i64, .int .i64, .lst tRange, .lst tWrite, .bool, .str]] vals st (fun p q => spec_TxnOk_j5000012 (p.2.1, q.1.1, q.1.2.1, q.1.2.2.1, q.1.2.2.2.1, q.1.2.2.2.2.1, q.1.2.2.2.2.2.1, q.1.2.2.2.2.2.2.1, q.1.2.2.2.2.2.2.2.1) (fun z => k .ret [.bp 0 0, .bool z.1] [.box [.int .i64 z.2.1, .int .i64 z.2.2.1, .int .i64 z.2.2.2.1, .int .i64 z.2.2.2.2.1, .lst tRange z.2.2.2.2.2.1, .lst tWrite z.2.2.2.2.2.2.1, .bool z.2.2.2.2.2.2.2.1, .str z.2.2.2.2.2.2.2.2]]))
      (none)⟩
  | 5000010 => some ⟨[1, 2], [], fun vals st k => onPats [.bp 0 0, .bool] [.box [.int .i64, .int .i64, .int .i64, .int .i64, .lst tRange, .lst tWrite, .bool, .str]] vals st (fun p q => spec_TxnOk_j5000010 (p.2.1, q.1.1, q.1.2.1, q.1.2.2.1, q.1.2.2.2.1, q.1.2.2.2.2.1, q.1.2.2.2.2.2.1, q.1.2.2.2.2.2.2.1, q.1.2.2.2.2.2.2.2.1) (fun z => k .ret [.bp 0 0, .bool z.1] [.box [.int .i64 z.2.1, .int .i64 z.2.2.1, .int .i64 z.2.2.2.1, .int .i64 z.2.2.2.2.1, .lst tRange z.2.2.2.2.2.1, .lst tWrite z.2.2.2.2.2.2.1, .bool z.2.2.2.2.2.2.2.1, .str z.2.2.2.2.2.2.2.2]]))
      (none)⟩
  | 0 => some ⟨[1, 2, 3], [], fun vals st k => onPats [.bp 0 0, .bool, .int .i64] [.box [.int .i64, .int .i64, .int .i64, .int .i64, .lst tRange, .lst tWrite, .bool, .str]] vals st (fun p q => loopK spec_TxnOk_b0 Fuel (p.2.1, p.2.2.1, q.1.1, q.1.2.1, q.1.2.2.1, q.1.2.2.2.1, q.1.2.2.2.2.1, q.1.2.2.2.2.2.1, q.1.2.2.2.2.2.2.1, q.1.2.2.2.2.2.2.2.1) (Sum.elim (fun z => k .ret [.bp 0 0, .bool z.1, .int .i64 z.2.1] [.box [.int .i64 z.2.2.1, .int .i64 z.2.2.2.1, .int .i64 z.2.2.2.2.1, .int .i64 z.2.2.2.2.2.1, .lst tRange z.2.2.2.2.2.2.1, .lst tWrite z.2.2.2.2.2.2.2.1, .bool z.2.2.2.2.2.2.2.2.1, .str z.2.2.2.2.2.2.2.2.2]]) (fun z => k (.exit 0) [.bp 0 0, .bool z.1, .int .i64 z.2.1] [.box [.int .i64 z.2.2.1, .int .i64 z.2.2.2.1, .int .i64 z.2.2.2.2.1, .int .i64 z.2.2.2.2.2.1, .lst tRange z.2.2.2.2.2.2.1, .lst tWrite z.2.2.2.2.2.2.2.1, .bool z.2.2.2.2.2.2.2.2.1, .str z.2.2.2.2.2.2.2.2.2]])))
      (none)⟩
  | 5000003 => some ⟨[1, 2], [], fun vals st k => onPats [.bp 0 0, .bool] [.box [.int .i64, .int .i64, .int .i64, .int .i64, .lst tRange, .lst tWrite, .bool, .str]] vals st (fun p q => spec_TxnOk_j5000003 (p.2.1, q.1.1, q.1.2.1, q.1.2.2.1, q.1.2.2.2.1, q.1.2.2.2.2.1, q.1.2.2.2.2.2.1, q.1.2.2.2.2.2.2.1, q.1.2.2.2.2.2.2.2.1) (fun z => k .ret [.bp 0 0, .bool z.1] [.box [.int .i64 z.2.1, .int .i64 z.2.2.1, .int .i64 z.2.2.2.1, .int .i64 z.2.2.2.2.1, .lst tRange z.2.2.2.2.2.1, .lst tWrite z.2.2.2.2.2.2.1, .bool z.2.2.2.2.2.2.2.1, .str z.2.2.2.2.2.2.2.2]]))
      (none)⟩
  | _ => none

def spec_TxnOk_jv5000012 : q32T → List AV := (fun x => [.bp 0 0, .bool x.1])
def spec_TxnOk_js5000012 : q32T → St := (fun x => [.box [.int .i64 x.2.1, .int .i64 x.2.2.1, .int .i64 x.2.2.2.1, .int .i64 x.2.2.2.2.1, .lst tRange x.2.2.2.2.2.1, .lst tWrite x.2.2.2.2.2.2.1, .bool x.2.2.2.2.2.2.2.1, .str x.2.2.2.2.2.2.2.2]])
def spec_TxnOk_je5000012 : q32T → Out × List AV × St := (fun z => (.ret, [.bp 0 0, .bool z.1], [.box [.int .i64 z.2.1, .int .i64 z.2.2.1, .int .i64 z.2.2.2.1, .int .i64 z.2.2.2.2.1, .lst tRange z.2.2.2.2.2.1, .lst tWrite z.2.2.2.2.2.2.1, .bool z.2.2.2.2.2.2.2.1, .str z.2.2.2.2.2.2.2.2]]))

theorem spec_TxnOk_jx5000012 (x : q32T) : exec G23 ⟨0, 95, spec_TxnOk_loops⟩ (loopBody Try.f44 5000012) (bodyK ⟨0, 95, spec_TxnOk_loops⟩ [1, 2] []) (setEs (deads 95) [1, 2] (spec_TxnOk_jv5000012 x)) (spec_TxnOk_js5000012 x) = spec_TxnOk_j5000012 x (fun z => some ⟨(spec_TxnOk_je5000012 z).1, (spec_TxnOk_je5000012 z).2.1, (spec_TxnOk_je5000012 z).2.2⟩) := by
  kernel_rfl

theorem spec_TxnOk_lo5000012 : ∀ sp, (spec_TxnOk_loops 5000012) = some sp → CutOk G23 ⟨0, 95, spec_TxnOk_loops⟩ sp (loopBody Try.f44 5000012) := by
  intro sp hsp vals st k r h
  cases hsp
  dsimp only at h
  rcases onPats_inv2 h with ⟨p, q, rfl, rfl, h⟩ | h
  · exact cut_runs spec_TxnOk_jp5000012 spec_TxnOk_jv5000012 spec_TxnOk_js5000012 spec_TxnOk_je5000012 spec_TxnOk_jx5000012 (p.2.1, q.1.1, q.1.2.1, q.1.2.2.1, q.1.2.2.2.1, q.1.2.2.2.2.1, q.1.2.2.2.2.2.1, q.1.2.2.2.2.2.2.1, q.1.2.2.2.2.2.2.2.1) _ k r (fun z => rfl) h
  cases h

def spec_TxnOk_jv5000010 : q32T → List AV := (fun x => [.bp 0 0, .bool x.1])
def spec_TxnOk_js5000010 : q32T → St := (fun x => [.box [.int .i64 x.2.1, .int .i64 x.2.2.1, .int .i64 x.2.2.2.1, .int .i64 x.2.2.2.2.1, .lst tRange x.2.2.2.2.2.1, .lst tWrite x.2.2.2.2.2.2.1, .bool x.2.2.2.2.2.2.2.1, .str x.2.2.2.2.2.2.2.2]])
def spec_TxnOk_je5000010 : q32T → Out × List AV × St := (fun z => (.ret, [.bp 0 0, .bool z.1], [.box [.int .i64 z.2.1, .int .i64 z.2.2.1, .int .i64 z.2.2.2.1, .int .i64 z.2.2.2.2.1, .lst tRange z.2.2.2.2.2.1, .lst tWrite z.2.2.2.2.2.2.1, .bool z.2.2.2.2.2.2.2.1, .str z.2.2.2.2.2.2.2.2]]))

theorem spec_TxnOk_jx5000010 (x : q32T) : exec G23 ⟨0, 95, spec_TxnOk_loops⟩ (loopBody Try.f44 5000010) (bodyK ⟨0, 95, spec_TxnOk_loops⟩ [1, 2] []) (setEs (deads 95) [1, 2] (spec_TxnOk_jv5000010 x)) (spec_TxnOk_js5000010 x) = spec_TxnOk_j5000010 x (fun z => some ⟨(spec_TxnOk_je5000010 z).1, (spec_TxnOk_je5000010 z).2.1, (spec_TxnOk_je5000010 z).2.2⟩) := by
  kernel_rfl

theorem spec_TxnOk_lo5000010 : ∀ sp, (spec_TxnOk_loops 5000010) = some sp → CutOk G23 ⟨0, 95, spec_TxnOk_loops⟩ sp (loopBody Try.f44 5000010) := by
  intro sp hsp vals st k r h
  cases hsp
  dsimp only at h
  rcases onPats_inv2 h with ⟨p, q, rfl, rfl, h⟩ | h
  · exact cut_runs spec_TxnOk_jp5000010 spec_TxnOk_jv5000010 spec_TxnOk_js5000010 spec_TxnOk_je5000010 spec_TxnOk_jx5000010 (p.2.1, q.1.1, q.1.2.1, q.1.2.2.1, q.1.2.2.2.1, q.1.2.2.2.2.1, q.1.2.2.2.2.2.1, q.1.2.2.2.2.2.2.1, q.1.2.2.2.2.2.2.2.1) _ k r (fun z => rfl) h
  cases h

def spec_TxnOk_v0 : q33T → List AV := (fun x => [.bp 0 0, .bool x.1, .int .i64 x.2.1])
def spec_TxnOk_s0 : q33T → St := (fun x => [.box [.int .i64 x.2.2.1, .int .i64 x.2.2.2.1, .int .i64 x.2.2.2.2.1, .int .i64 x.2.2.2.2.2.1, .lst tRange x.2.2.2.2.2.2.1, .lst tWrite x.2.2.2.2.2.2.2.1, .bool x.2.2.2.2.2.2.2.2.1, .str x.2.2.2.2.2.2.2.2.2]])
def spec_TxnOk_e0 : (q33T ⊕ q33T) → Out × List AV × St := (Sum.elim (fun z => (.ret, [.bp 0 0, .bool z.1, .int .i64 z.2.1], [.box [.int .i64 z.2.2.1, .int .i64 z.2.2.2.1, .int .i64 z.2.2.2.2.1, .int .i64 z.2.2.2.2.2.1, .lst tRange z.2.2.2.2.2.2.1, .lst tWrite z.2.2.2.2.2.2.2.1, .bool z.2.2.2.2.2.2.2.2.1, .str z.2.2.2.2.2.2.2.2.2]])) (fun z => ((.exit 0), [.bp 0 0, .bool z.1, .int .i64 z.2.1], [.box [.int .i64 z.2.2.1, .int .i64 z.2.2.2.1, .int .i64 z.2.2.2.2.1, .int .i64 z.2.2.2.2.2.1, .lst tRange z.2.2.2.2.2.2.1, .lst tWrite z.2.2.2.2.2.2.2.1, .bool z.2.2.2.2.2.2.2.2.1, .str z.2.2.2.2.2.2.2.2.2]])))

theorem spec_TxnOk_bx0 (x : q33T) : exec G23 ⟨0, 95, spec_TxnOk_loops⟩ (loopBody Try.f44 0) (bodyK ⟨0, 95, spec_TxnOk_loops⟩ [1, 2, 3] []) (setEs (deads 95) [1, 2, 3] (spec_TxnOk_v0 x)) (spec_TxnOk_s0 x) = spec_TxnOk_b0 x (Sum.elim (fun y => some ⟨.norm, spec_TxnOk_v0 y, spec_TxnOk_s0 y⟩) fun z => some ⟨(spec_TxnOk_e0 z).1, (spec_TxnOk_e0 z).2.1, (spec_TxnOk_e0 z).2.2⟩) := by
  kernel_rfl

theorem spec_TxnOk_lo0 : ∀ sp, (spec_TxnOk_loops 0) = some sp → LoopOk G23 ⟨0, 95, spec_TxnOk_loops⟩ sp (loopBody Try.f44 0) := by
  intro sp hsp vals st k r h
  cases hsp
  dsimp only at h
  rcases onPats_inv2 h with ⟨p, q, rfl, rfl, h⟩ | h
  · exact loop_runs2 spec_TxnOk_bp0 spec_TxnOk_v0 spec_TxnOk_s0 spec_TxnOk_e0 (fun z => by rcases z with z | z <;> (intro h; cases h)) spec_TxnOk_bx0 Fuel (p.2.1, p.2.2.1, q.1.1, q.1.2.1, q.1.2.2.1, q.1.2.2.2.1, q.1.2.2.2.2.1, q.1.2.2.2.2.2.1, q.1.2.2.2.2.2.2.1, q.1.2.2.2.2.2.2.2.1) _ k r (fun z => by rcases z with z | z <;> rfl) h
  cases h

def spec_TxnOk_jv5000003 : q32T → List AV := (fun x => [.bp 0 0, .bool x.1])
def spec_TxnOk_js5000003 : q32T → St := (fun x => [.box [.int .i64 x.2.1, .int .i64 x.2.2.1, .int .i64 x.2.2.2.1, .int .i64 x.2.2.2.2.1, .lst tRange x.2.2.2.2.2.1, .lst tWrite x.2.2.2.2.2.2.1, .bool x.2.2.2.2.2.2.2.1, .str x.2.2.2.2.2.2.2.2]])
def spec_TxnOk_je5000003 : q32T → Out × List AV × St := (fun z => (.ret, [.bp 0 0, .bool z.1], [.box [.int .i64 z.2.1, .int .i64 z.2.2.1, .int .i64 z.2.2.2.1, .int .i64 z.2.2.2.2.1, .lst tRange z.2.2.2.2.2.1, .lst tWrite z.2.2.2.2.2.2.1, .bool z.2.2.2.2.2.2.2.1, .str z.2.2.2.2.2.2.2.2]]))

theorem spec_TxnOk_jx5000003 (x : q32T) : exec G23 ⟨0, 95, spec_TxnOk_loops⟩ (loopBody Try.f44 5000003) (bodyK ⟨0, 95, spec_TxnOk_loops⟩ [1, 2] []) (setEs (deads 95) [1, 2] (spec_TxnOk_jv5000003 x)) (spec_TxnOk_js5000003 x) = spec_TxnOk_j5000003 x (fun z => some ⟨(spec_TxnOk_je5000003 z).1, (spec_TxnOk_je5000003 z).2.1, (spec_TxnOk_je5000003 z).2.2⟩) := by
  kernel_rfl

theorem spec_TxnOk_lo5000003 : ∀ sp, (spec_TxnOk_loops 5000003) = some sp → CutOk G23 ⟨0, 95, spec_TxnOk_loops⟩ sp (loopBody Try.f44 5000003) := by
  intro sp hsp vals st k r h
  cases hsp
  dsimp only at h
  rcases onPats_inv2 h with ⟨p, q, rfl, rfl, h⟩ | h
  · exact cut_runs spec_TxnOk_jp5000003 spec_TxnOk_jv5000003 spec_TxnOk_js5000003 spec_TxnOk_je5000003 spec_TxnOk_jx5000003 (p.2.1, q.1.1, q.1.2.1, q.1.2.2.1, q.1.2.2.2.1, q.1.2.2.2.2.1, q.1.2.2.2.2.2.1, q.1.2.2.2.2.2.2.1, q.1.2.2.2.2.2.2.2.1) _ k r (fun z => rfl) h
  cases h

theorem spec_TxnOk_y (a0 : Int) (a1 : Int) (a2 : Int) (a3 : Int) (a4 : (List dRange)) (a5 : (List dWrite)) (a6 : Bool) (a7 : ByteArray) : execFn G23 spec_TxnOk_loops Try.f44 [.agg [.int .i64 a0, .int .i64 a1, .int .i64 a2, .int .i64 a3, .lst tRange a4, .lst tWrite a5, .bool a6, .str a7]] [] = spec_TxnOk_k (a0, (a1, (a2, (a3, (a4, (a5, (a6, a7))))))) (fun (y : Bool) => some ⟨.ret, [.bool y], []⟩) := by rw [spec_TxnOk_e]; kernel_rfl

theorem spec_TxnOk_l : LoopsOk G23 ⟨0, 95, spec_TxnOk_loops⟩ (Try.f44.body.getD .skip) :=
  loopsOk_of (ids := [5000012, 5000010, 0, 5000003]) (by kernel_rfl) (by kernel_rfl) ⟨spec_TxnOk_lo5000012, ⟨spec_TxnOk_lo5000010, ⟨spec_TxnOk_lo0, ⟨spec_TxnOk_lo5000003, trivial⟩⟩⟩⟩

theorem spec_TxnOk_c : Contract Try.prog 44 spec_TxnOk_g := by
  refine told G23_ok follows Try.func44 (c := Try.f44.body.getD .skip) (by kernel_rfl) ?_
  intro args s k r hk
  unfold spec_TxnOk_g at hk
  rcases onPats_inv hk with ⟨p, q, rfl, rfl⟩ | hk
  · exact ⟨spec_TxnOk_loops, spec_TxnOk_q p.1.1 p.1.2.1 p.1.2.2.1 p.1.2.2.2.1 p.1.2.2.2.2.1 p.1.2.2.2.2.2.1 p.1.2.2.2.2.2.2.1 p.1.2.2.2.2.2.2.2.1, spec_TxnOk_y p.1.1 p.1.2.1 p.1.2.2.1 p.1.2.2.2.1 p.1.2.2.2.2.1 p.1.2.2.2.2.2.1 p.1.2.2.2.2.2.2.1 p.1.2.2.2.2.2.2.2.1, spec_TxnOk_l⟩
  cases hk

def G24 : Glob := G23.add 44 spec_TxnOk_g

theorem G24_ok : GlobOk Try.prog G24 := G23_ok.add ⟨Try.f44, Try.func44, by kernel_rfl, by kernel_rfl⟩ spec_TxnOk_c



def spec_l01Var_loops : Nat → Option LoopSpec
  | 0 => some ⟨[0, 3], [], fun vals st k => onPats [.int .i64, .own 0] [.arr (.int .u8)] vals st (fun p q => loopK spec_l01Var_b0 Fuel (p.1, q.1) (fun z => k (.exit 0) [.int .i64 z.1, .own 0] [.arr (.int .u8) z.2]))
      (none)⟩
  | _ => none

def spec_l01Var_v0 : (Int × (List Int)) → List AV := (fun x => [.int .i64 x.1, .own 0])
def spec_l01Var_s0 : (Int × (List Int)) → St := (fun x => [.arr (.int .u8) x.2])
def spec_l01Var_e0 : (Int × (List Int)) → Out × List AV × St := (fun z => ((.exit 0), [.int .i64 z.1, .own 0], [.arr (.int .u8) z.2]))

theorem spec_l01Var_bx0 (x : (Int × (List Int))) : exec G24 ⟨0, 22, spec_l01Var_loops⟩ (loopBody Try.f156 0) (bodyK ⟨0, 22, spec_l01Var_loops⟩ [0, 3] []) (setEs (deads 22) [0, 3] (spec_l01Var_v0 x)) (spec_l01Var_s0 x) = spec_l01Var_b0 x (Sum.elim (fun y => some ⟨.norm, spec_l01Var_v0 y, spec_l01Var_s0 y⟩) fun z => some ⟨(spec_l01Var_e0 z).1, (spec_l01Var_e0 z).2.1, (spec_l01Var_e0 z).2.2⟩) := by
  kernel_rfl

theorem spec_l01Var_lo0 : ∀ sp, (spec_l01Var_loops 0) = some sp → LoopOk G24 ⟨0, 22, spec_l01Var_loops⟩ sp (loopBody Try.f156 0) := by
  intro sp hsp vals st k r h
  cases hsp
  dsimp only at h
  rcases onPats_inv2 h with ⟨p, q, rfl, rfl, h⟩ | h
  · exact loop_runs2 spec_l01Var_bp0 spec_l01Var_v0 spec_l01Var_s0 spec_l01Var_e0 (fun z => by (intro h; cases h)) spec_l01Var_bx0 Fuel (p.1, q.1) _ k r (fun z => rfl) h
  cases h

theorem spec_l01Var_y (a0 : Int) : execFn G24 spec_l01Var_loops Try.f156 [.int .i64 a0] [] = spec_l01Var_k a0 (fun (y : ByteArray) => some ⟨.ret, [.str y], []⟩) := by rw [spec_l01Var_e]; kernel_rfl

theorem spec_l01Var_l : LoopsOk G24 ⟨0, 22, spec_l01Var_loops⟩ (Try.f156.body.getD .skip) :=
  loopsOk_of (ids := [0]) (by kernel_rfl) (by kernel_rfl) ⟨spec_l01Var_lo0, trivial⟩

theorem spec_l01Var_c : Contract Try.prog 156 spec_l01Var_g := by
  refine told G24_ok follows Try.func156 (c := Try.f156.body.getD .skip) (by kernel_rfl) ?_
  intro args s k r hk
  unfold spec_l01Var_g at hk
  rcases onPats_inv hk with ⟨p, q, rfl, rfl⟩ | hk
  · exact ⟨spec_l01Var_loops, spec_l01Var_q p.1, spec_l01Var_y p.1, spec_l01Var_l⟩
  cases hk

def G25 : Glob := G24.add 156 spec_l01Var_g

theorem G25_ok : GlobOk Try.prog G25 := G24_ok.add ⟨Try.f156, Try.func156, by kernel_rfl, by kernel_rfl⟩ spec_l01Var_c



def spec_l07Short_loops : Nat → Option LoopSpec
  | _ => none

theorem spec_l07Short_y (a0 : ByteArray) : execFn G25 spec_l07Short_loops Try.f84 [.str a0] [] = spec_l07Short_k a0 (fun (y : ByteArray) => some ⟨.ret, [.str y], []⟩) := by rw [spec_l07Short_e]; kernel_rfl

theorem spec_l07Short_l : LoopsOk G25 ⟨0, 8, spec_l07Short_loops⟩ (Try.f84.body.getD .skip) :=
  loopsOk_of (ids := []) (by kernel_rfl) (by kernel_rfl) trivial

theorem spec_l07Short_c : Contract Try.prog 84 spec_l07Short_g := by
  refine told G25_ok follows Try.func84 (c := Try.f84.body.getD .skip) (by kernel_rfl) ?_
  intro args s k r hk
  unfold spec_l07Short_g at hk
  rcases onPats_inv hk with ⟨p, q, rfl, rfl⟩ | hk
  · exact ⟨spec_l07Short_loops, spec_l07Short_q p.1, spec_l07Short_y p.1, spec_l07Short_l⟩
  cases hk

def G26 : Glob := G25.add 84 spec_l07Short_g

theorem G26_ok : GlobOk Try.prog G26 := G25_ok.add ⟨Try.f84, Try.func84, by kernel_rfl, by kernel_rfl⟩ spec_l07Short_c



def spec_l07Bit_loops : Nat → Option LoopSpec
  | _ => none

theorem spec_l07Bit_y (a0 : Bool) : execFn G26 spec_l07Bit_loops Try.f85 [.bool a0] [] = spec_l07Bit_k a0 (fun (y : ByteArray) => some ⟨.ret, [.str y], []⟩) := by rw [spec_l07Bit_e]; kernel_rfl

theorem spec_l07Bit_l : LoopsOk G26 ⟨0, 4, spec_l07Bit_loops⟩ (Try.f85.body.getD .skip) :=
  loopsOk_of (ids := []) (by kernel_rfl) (by kernel_rfl) trivial

theorem spec_l07Bit_c : Contract Try.prog 85 spec_l07Bit_g := by
  refine told G26_ok follows Try.func85 (c := Try.f85.body.getD .skip) (by kernel_rfl) ?_
  intro args s k r hk
  unfold spec_l07Bit_g at hk
  rcases onPats_inv hk with ⟨p, q, rfl, rfl⟩ | hk
  · exact ⟨spec_l07Bit_loops, spec_l07Bit_q p.1, spec_l07Bit_y p.1, spec_l07Bit_l⟩
  cases hk

def G27 : Glob := G26.add 85 spec_l07Bit_g

theorem G27_ok : GlobOk Try.prog G27 := G26_ok.add ⟨Try.f85, Try.func85, by kernel_rfl, by kernel_rfl⟩ spec_l07Bit_c



def spec_TxnText_loops : Nat → Option LoopSpec
  | 0 => some ⟨[1, 4, 5], [], fun vals st k => onPats [.bp 0 0, .str, .int .i64] [.box [.int .i64, .int .i64, .int .i64, .int .i64, .lst tRange, .lst tWrite, .bool, .str]] vals st (fun p q => loopK spec_TxnText_b0 Fuel (p.2.1, p.2.2.1, q.1.1, q.1.2.1, q.1.2.2.1, q.1.2.2.2.1, q.1.2.2.2.2.1, q.1.2.2.2.2.2.1, q.1.2.2.2.2.2.2.1, q.1.2.2.2.2.2.2.2.1) (fun z => k (.exit 0) [.bp 0 0, .str z.1, .int .i64 z.2.1] [.box [.int .i64 z.2.2.1, .int .i64 z.2.2.2.1, .int .i64 z.2.2.2.2.1, .int .i64 z.2.2.2.2.2.1, .lst tRange z.2.2.2.2.2.2.1, .lst tWrite z.2.2.2.2.2.2.2.1, .bool z.2.2.2.2.2.2.2.2.1, .str z.2.2.2.2.2.2.2.2.2]]))
      (none)⟩
  | 2 => some ⟨[1, 4, 6], [], fun vals st k => onPats [.bp 0 0, .str, .int .i64] [.box [.int .i64, .int .i64, .int .i64, .int .i64, .lst tRange, .lst tWrite, .bool, .str]] vals st (fun p q => loopK spec_TxnText_b2 Fuel (p.2.1, p.2.2.1, q.1.1, q.1.2.1, q.1.2.2.1, q.1.2.2.2.1, q.1.2.2.2.2.1, q.1.2.2.2.2.2.1, q.1.2.2.2.2.2.2.1, q.1.2.2.2.2.2.2.2.1) (fun z => k (.exit 2) [.bp 0 0, .str z.1, .int .i64 z.2.1] [.box [.int .i64 z.2.2.1, .int .i64 z.2.2.2.1, .int .i64 z.2.2.2.2.1, .int .i64 z.2.2.2.2.2.1, .lst tRange z.2.2.2.2.2.2.1, .lst tWrite z.2.2.2.2.2.2.2.1, .bool z.2.2.2.2.2.2.2.2.1, .str z.2.2.2.2.2.2.2.2.2]]))
      (none)⟩
  | 2000003 => some ⟨[0, 2, 6, 8, 14, 16, 22, 24, 30, 32, 34, 5, 11, 12, 19, 20, 27, 28, 37, 38, 40], [], fun _ _ _ => none⟩
  | 2000007 => some ⟨[0, 2, 4, 6, 8, 10, 12, 18, 20, 22, 24, 26, 28, 15, 16, 31, 32, 34], [], fun _ _ _ => none⟩
  | 2000012 => some ⟨[0, 2, 4, 6, 8, 10, 12, 18, 20, 22, 24, 26, 28, 34, 36, 38, 40, 42, 44, 15, 16, 31, 32, 47, 48, 50], [], fun _ _ _ => none⟩
  | 2000013 => some ⟨[0, 2, 4, 10, 12, 7, 8, 15, 16, 18, 20], [], fun _ _ _ => none⟩
  | _ => none

def spec_TxnText_v0 : q35T → List AV := (fun x => [.bp 0 0, .str x.1, .int .i64 x.2.1])
def spec_TxnText_s0 : q35T → St := (fun x => [.box [.int .i64 x.2.2.1, .int .i64 x.2.2.2.1, .int .i64 x.2.2.2.2.1, .int .i64 x.2.2.2.2.2.1, .lst tRange x.2.2.2.2.2.2.1, .lst tWrite x.2.2.2.2.2.2.2.1, .bool x.2.2.2.2.2.2.2.2.1, .str x.2.2.2.2.2.2.2.2.2]])
def spec_TxnText_e0 : q35T → Out × List AV × St := (fun z => ((.exit 0), [.bp 0 0, .str z.1, .int .i64 z.2.1], [.box [.int .i64 z.2.2.1, .int .i64 z.2.2.2.1, .int .i64 z.2.2.2.2.1, .int .i64 z.2.2.2.2.2.1, .lst tRange z.2.2.2.2.2.2.1, .lst tWrite z.2.2.2.2.2.2.2.1, .bool z.2.2.2.2.2.2.2.2.1, .str z.2.2.2.2.2.2.2.2.2]]))

theorem spec_TxnText_bx0 (x : q35T) : exec G27 ⟨0, 101, spec_TxnText_loops⟩ (loopBody Try.f87 0) (bodyK ⟨0, 101, spec_TxnText_loops⟩ [1, 4, 5] []) (setEs (deads 101) [1, 4, 5] (spec_TxnText_v0 x)) (spec_TxnText_s0 x) = spec_TxnText_b0 x (Sum.elim (fun y => some ⟨.norm, spec_TxnText_v0 y, spec_TxnText_s0 y⟩) fun z => some ⟨(spec_TxnText_e0 z).1, (spec_TxnText_e0 z).2.1, (spec_TxnText_e0 z).2.2⟩) := by
  kernel_rfl

theorem spec_TxnText_lo0 : ∀ sp, (spec_TxnText_loops 0) = some sp → LoopOk G27 ⟨0, 101, spec_TxnText_loops⟩ sp (loopBody Try.f87 0) := by
  intro sp hsp vals st k r h
  cases hsp
  dsimp only at h
  rcases onPats_inv2 h with ⟨p, q, rfl, rfl, h⟩ | h
  · exact loop_runs2 spec_TxnText_bp0 spec_TxnText_v0 spec_TxnText_s0 spec_TxnText_e0 (fun z => by (intro h; cases h)) spec_TxnText_bx0 Fuel (p.2.1, p.2.2.1, q.1.1, q.1.2.1, q.1.2.2.1, q.1.2.2.2.1, q.1.2.2.2.2.1, q.1.2.2.2.2.2.1, q.1.2.2.2.2.2.2.1, q.1.2.2.2.2.2.2.2.1) _ k r (fun z => rfl) h
  cases h

def spec_TxnText_v2 : q35T → List AV := (fun x => [.bp 0 0, .str x.1, .int .i64 x.2.1])
def spec_TxnText_s2 : q35T → St := (fun x => [.box [.int .i64 x.2.2.1, .int .i64 x.2.2.2.1, .int .i64 x.2.2.2.2.1, .int .i64 x.2.2.2.2.2.1, .lst tRange x.2.2.2.2.2.2.1, .lst tWrite x.2.2.2.2.2.2.2.1, .bool x.2.2.2.2.2.2.2.2.1, .str x.2.2.2.2.2.2.2.2.2]])
def spec_TxnText_e2 : q35T → Out × List AV × St := (fun z => ((.exit 2), [.bp 0 0, .str z.1, .int .i64 z.2.1], [.box [.int .i64 z.2.2.1, .int .i64 z.2.2.2.1, .int .i64 z.2.2.2.2.1, .int .i64 z.2.2.2.2.2.1, .lst tRange z.2.2.2.2.2.2.1, .lst tWrite z.2.2.2.2.2.2.2.1, .bool z.2.2.2.2.2.2.2.2.1, .str z.2.2.2.2.2.2.2.2.2]]))

theorem spec_TxnText_bx2 (x : q35T) : exec G27 ⟨0, 101, spec_TxnText_loops⟩ (loopBody Try.f87 2) (bodyK ⟨0, 101, spec_TxnText_loops⟩ [1, 4, 6] []) (setEs (deads 101) [1, 4, 6] (spec_TxnText_v2 x)) (spec_TxnText_s2 x) = spec_TxnText_b2 x (Sum.elim (fun y => some ⟨.norm, spec_TxnText_v2 y, spec_TxnText_s2 y⟩) fun z => some ⟨(spec_TxnText_e2 z).1, (spec_TxnText_e2 z).2.1, (spec_TxnText_e2 z).2.2⟩) := by
  kernel_rfl

theorem spec_TxnText_lo2 : ∀ sp, (spec_TxnText_loops 2) = some sp → LoopOk G27 ⟨0, 101, spec_TxnText_loops⟩ sp (loopBody Try.f87 2) := by
  intro sp hsp vals st k r h
  cases hsp
  dsimp only at h
  rcases onPats_inv2 h with ⟨p, q, rfl, rfl, h⟩ | h
  · exact loop_runs2 spec_TxnText_bp2 spec_TxnText_v2 spec_TxnText_s2 spec_TxnText_e2 (fun z => by (intro h; cases h)) spec_TxnText_bx2 Fuel (p.2.1, p.2.2.1, q.1.1, q.1.2.1, q.1.2.2.1, q.1.2.2.2.1, q.1.2.2.2.2.1, q.1.2.2.2.2.2.1, q.1.2.2.2.2.2.2.1, q.1.2.2.2.2.2.2.2.1) _ k r (fun z => rfl) h
  cases h

theorem spec_TxnText_y (a0 : Int) (a1 : Int) (a2 : Int) (a3 : Int) (a4 : (List dRange)) (a5 : (List dWrite)) (a6 : Bool) (a7 : ByteArray) : execFn G27 spec_TxnText_loops Try.f87 [.agg [.int .i64 a0, .int .i64 a1, .int .i64 a2, .int .i64 a3, .lst tRange a4, .lst tWrite a5, .bool a6, .str a7]] [] = spec_TxnText_k (a0, (a1, (a2, (a3, (a4, (a5, (a6, a7))))))) (fun (y : (ByteArray × Bool)) => some ⟨.ret, [.tup [.str y.1, .bool y.2]], []⟩) := by rw [spec_TxnText_e]; kernel_rfl

theorem spec_TxnText_l : LoopsOk G27 ⟨0, 101, spec_TxnText_loops⟩ (Try.f87.body.getD .skip) :=
  loopsOk_of (ids := [0, 2]) (by kernel_rfl) (by kernel_rfl) ⟨spec_TxnText_lo0, ⟨spec_TxnText_lo2, trivial⟩⟩

theorem spec_TxnText_c : Contract Try.prog 87 spec_TxnText_g := by
  refine told G27_ok follows Try.func87 (c := Try.f87.body.getD .skip) (by kernel_rfl) ?_
  intro args s k r hk
  unfold spec_TxnText_g at hk
  rcases onPats_inv hk with ⟨p, q, rfl, rfl⟩ | hk
  · exact ⟨spec_TxnText_loops, spec_TxnText_q p.1.1 p.1.2.1 p.1.2.2.1 p.1.2.2.2.1 p.1.2.2.2.2.1 p.1.2.2.2.2.2.1 p.1.2.2.2.2.2.2.1 p.1.2.2.2.2.2.2.2.1, spec_TxnText_y p.1.1 p.1.2.1 p.1.2.2.1 p.1.2.2.2.1 p.1.2.2.2.2.1 p.1.2.2.2.2.2.1 p.1.2.2.2.2.2.2.1 p.1.2.2.2.2.2.2.2.1, spec_TxnText_l⟩
  cases hk

def G28 : Glob := G27.add 87 spec_TxnText_g

theorem G28_ok : GlobOk Try.prog G28 := G27_ok.add ⟨Try.f87, Try.func87, by kernel_rfl, by kernel_rfl⟩ spec_TxnText_c



def spec_l12Texts_loops : Nat → Option LoopSpec
  | 0 => some ⟨[0, 1, 4, 5], [], fun vals st k => onPats [.lst tTxn, .lst tTxn, .bool, .int .i64] [] vals st (fun p q => loopK spec_l12Texts_b0 Fuel (p.1, p.2.1, p.2.2.1, p.2.2.2.1) (Sum.elim (fun z => k .ret [.lst tTxn z.1, .lst tTxn z.2.1, .bool z.2.2.1, .int .i64 z.2.2.2] []) (fun z => k (.exit 0) [.lst tTxn z.1, .lst tTxn z.2.1, .bool z.2.2.1, .int .i64 z.2.2.2] [])))
      (none)⟩
  | _ => none

def spec_l12Texts_v0 : q9T → List AV := (fun x => [.lst tTxn x.1, .lst tTxn x.2.1, .bool x.2.2.1, .int .i64 x.2.2.2])
def spec_l12Texts_s0 : q9T → St := (fun x => [])
def spec_l12Texts_e0 : (q9T ⊕ q9T) → Out × List AV × St := (Sum.elim (fun z => (.ret, [.lst tTxn z.1, .lst tTxn z.2.1, .bool z.2.2.1, .int .i64 z.2.2.2], [])) (fun z => ((.exit 0), [.lst tTxn z.1, .lst tTxn z.2.1, .bool z.2.2.1, .int .i64 z.2.2.2], [])))

theorem spec_l12Texts_bx0 (x : q9T) : exec G28 ⟨0, 45, spec_l12Texts_loops⟩ (loopBody Try.f141 0) (bodyK ⟨0, 45, spec_l12Texts_loops⟩ [0, 1, 4, 5] []) (setEs (deads 45) [0, 1, 4, 5] (spec_l12Texts_v0 x)) (spec_l12Texts_s0 x) = spec_l12Texts_b0 x (Sum.elim (fun y => some ⟨.norm, spec_l12Texts_v0 y, spec_l12Texts_s0 y⟩) fun z => some ⟨(spec_l12Texts_e0 z).1, (spec_l12Texts_e0 z).2.1, (spec_l12Texts_e0 z).2.2⟩) := by
  kernel_rfl

theorem spec_l12Texts_lo0 : ∀ sp, (spec_l12Texts_loops 0) = some sp → LoopOk G28 ⟨0, 45, spec_l12Texts_loops⟩ sp (loopBody Try.f141 0) := by
  intro sp hsp vals st k r h
  cases hsp
  dsimp only at h
  rcases onPats_inv2 h with ⟨p, q, rfl, rfl, h⟩ | h
  · exact loop_runs2 spec_l12Texts_bp0 spec_l12Texts_v0 spec_l12Texts_s0 spec_l12Texts_e0 (fun z => by rcases z with z | z <;> (intro h; cases h)) spec_l12Texts_bx0 Fuel (p.1, p.2.1, p.2.2.1, p.2.2.2.1) _ k r (fun z => by rcases z with z | z <;> rfl) h
  cases h

theorem spec_l12Texts_y (a0 : (List dTxn)) (a1 : (List dTxn)) : execFn G28 spec_l12Texts_loops Try.f141 [.lst tTxn a0, .lst tTxn a1] [] = spec_l12Texts_k a0 a1 (fun (y : Bool) => some ⟨.ret, [.bool y], []⟩) := by rw [spec_l12Texts_e]; kernel_rfl

theorem spec_l12Texts_l : LoopsOk G28 ⟨0, 45, spec_l12Texts_loops⟩ (Try.f141.body.getD .skip) :=
  loopsOk_of (ids := [0]) (by kernel_rfl) (by kernel_rfl) ⟨spec_l12Texts_lo0, trivial⟩

theorem spec_l12Texts_c : Contract Try.prog 141 spec_l12Texts_g := by
  refine told G28_ok follows Try.func141 (c := Try.f141.body.getD .skip) (by kernel_rfl) ?_
  intro args s k r hk
  unfold spec_l12Texts_g at hk
  rcases onPats_inv hk with ⟨p, q, rfl, rfl⟩ | hk
  · exact ⟨spec_l12Texts_loops, spec_l12Texts_q p.1 p.2.1, spec_l12Texts_y p.1 p.2.1, spec_l12Texts_l⟩
  cases hk

def G29 : Glob := G28.add 141 spec_l12Texts_g

theorem G29_ok : GlobOk Try.prog G29 := G28_ok.add ⟨Try.f141, Try.func141, by kernel_rfl, by kernel_rfl⟩ spec_l12Texts_c



def spec_l06All_loops : Nat → Option LoopSpec
  | _ => none

theorem spec_l06All_y  : execFn G29 spec_l06All_loops Try.f198 [] [] = spec_l06All_k  (fun (y : (ByteArray × ByteArray)) => some ⟨.ret, [.agg [.str y.1, .str y.2]], []⟩) := by rw [spec_l06All_e]; kernel_rfl

theorem spec_l06All_l : LoopsOk G29 ⟨0, 2, spec_l06All_loops⟩ (Try.f198.body.getD .skip) :=
  loopsOk_of (ids := []) (by kernel_rfl) (by kernel_rfl) trivial

theorem spec_l06All_c : Contract Try.prog 198 spec_l06All_g := by
  refine told G29_ok follows Try.func198 (c := Try.f198.body.getD .skip) (by kernel_rfl) ?_
  intro args s k r hk
  unfold spec_l06All_g at hk
  rcases onPats_inv hk with ⟨p, q, rfl, rfl⟩ | hk
  · exact ⟨spec_l06All_loops, spec_l06All_q , spec_l06All_y , spec_l06All_l⟩
  cases hk

def G30 : Glob := G29.add 198 spec_l06All_g

theorem G30_ok : GlobOk Try.prog G30 := G29_ok.add ⟨Try.f198, Try.func198, by kernel_rfl, by kernel_rfl⟩ spec_l06All_c



def spec_InRange_loops : Nat → Option LoopSpec
  | _ => none

theorem spec_InRange_y (a0 : ByteArray) (a1 : ByteArray) (a2 : ByteArray) : execFn G30 spec_InRange_loops Try.f146 [.agg [.str a0, .str a1], .str a2] [] = spec_InRange_k (a0, a1) a2 (fun (y : Bool) => some ⟨.ret, [.bool y], []⟩) := by rw [spec_InRange_e]; kernel_rfl

theorem spec_InRange_l : LoopsOk G30 ⟨0, 15, spec_InRange_loops⟩ (Try.f146.body.getD .skip) :=
  loopsOk_of (ids := []) (by kernel_rfl) (by kernel_rfl) trivial

theorem spec_InRange_c : Contract Try.prog 146 spec_InRange_g := by
  refine told G30_ok follows Try.func146 (c := Try.f146.body.getD .skip) (by kernel_rfl) ?_
  intro args s k r hk
  unfold spec_InRange_g at hk
  rcases onPats_inv hk with ⟨p, q, rfl, rfl⟩ | hk
  · exact ⟨spec_InRange_loops, spec_InRange_q p.1.1 p.1.2.1 p.2.1, spec_InRange_y p.1.1 p.1.2.1 p.2.1, spec_InRange_l⟩
  cases hk

def G31 : Glob := G30.add 146 spec_InRange_g

theorem G31_ok : GlobOk Try.prog G31 := G30_ok.add ⟨Try.f146, Try.func146, by kernel_rfl, by kernel_rfl⟩ spec_InRange_c



def spec_l06Keys_loops : Nat → Option LoopSpec
  | 2 => some ⟨[0, 3, 5, 6, 7, 8, 9], [], fun vals st k => onPats [.lst tVersion, .bp 0 0, .own 1, .int .i64, .str, .own 2, .int .i64] [.box [.str, .str], .arr .str, .arr .str] vals st (fun p q => loopK spec_l06Keys_b2 Fuel (p.1, p.2.2.2.1, p.2.2.2.2.1, p.2.2.2.2.2.2.1, q.1.1, q.1.2.1, q.2.1, q.2.2.1) (fun z => k (.exit 2) [.lst tVersion z.1, .bp 0 0, .own 1, .int .i64 z.2.1, .str z.2.2.1, .own 2, .int .i64 z.2.2.2.1] [.box [.str z.2.2.2.2.1, .str z.2.2.2.2.2.1], .arr .str z.2.2.2.2.2.2.1, .arr .str z.2.2.2.2.2.2.2]))
      (none)⟩
  | 4 => some ⟨[0, 3, 5, 6, 7, 8, 10], [], fun vals st k => onPats [.lst tVersion, .bp 0 0, .own 1, .int .i64, .str, .own 2, .int .i64] [.box [.str, .str], .arr .str, .arr .str] vals st (fun p q => loopK spec_l06Keys_b4 Fuel (p.1, p.2.2.2.1, p.2.2.2.2.1, p.2.2.2.2.2.2.1, q.1.1, q.1.2.1, q.2.1, q.2.2.1) (fun z => k (.exit 4) [.lst tVersion z.1, .bp 0 0, .own 1, .int .i64 z.2.1, .str z.2.2.1, .own 2, .int .i64 z.2.2.2.1] [.box [.str z.2.2.2.2.1, .str z.2.2.2.2.2.1], .arr .str z.2.2.2.2.2.2.1, .arr .str z.2.2.2.2.2.2.2]))
      (none)⟩
  | 0 => some ⟨[0, 3, 5, 6], [], fun vals st k => onPats [.lst tVersion, .bp 0 0, .own 1, .int .i64] [.box [.str, .str], .arr .str] vals st (fun p q => loopK spec_l06Keys_b0 Fuel (p.1, p.2.2.2.1, q.1.1, q.1.2.1, q.2.1) (fun z => k (.exit 0) [.lst tVersion z.1, .bp 0 0, .own 1, .int .i64 z.2.1] [.box [.str z.2.2.1, .str z.2.2.2.1], .arr .str z.2.2.2.2]))
      (none)⟩
  | _ => none

def spec_l06Keys_v2 : q20T → List AV := (fun x => [.lst tVersion x.1, .bp 0 0, .own 1, .int .i64 x.2.1, .str x.2.2.1, .own 2, .int .i64 x.2.2.2.1])
def spec_l06Keys_s2 : q20T → St := (fun x => [.box [.str x.2.2.2.2.1, .str x.2.2.2.2.2.1], .arr .str x.2.2.2.2.2.2.1, .arr .str x.2.2.2.2.2.2.2])
def spec_l06Keys_e2 : q20T → Out × List AV × St := (fun z => ((.exit 2), [.lst tVersion z.1, .bp 0 0, .own 1, .int .i64 z.2.1, .str z.2.2.1, .own 2, .int .i64 z.2.2.2.1], [.box [.str z.2.2.2.2.1, .str z.2.2.2.2.2.1], .arr .str z.2.2.2.2.2.2.1, .arr .str z.2.2.2.2.2.2.2]))

theorem spec_l06Keys_bx2 (x : q20T) : exec G31 ⟨0, 72, spec_l06Keys_loops⟩ (loopBody Try.f67 2) (bodyK ⟨0, 72, spec_l06Keys_loops⟩ [0, 3, 5, 6, 7, 8, 9] []) (setEs (deads 72) [0, 3, 5, 6, 7, 8, 9] (spec_l06Keys_v2 x)) (spec_l06Keys_s2 x) = spec_l06Keys_b2 x (Sum.elim (fun y => some ⟨.norm, spec_l06Keys_v2 y, spec_l06Keys_s2 y⟩) fun z => some ⟨(spec_l06Keys_e2 z).1, (spec_l06Keys_e2 z).2.1, (spec_l06Keys_e2 z).2.2⟩) := by
  kernel_rfl

theorem spec_l06Keys_lo2 : ∀ sp, (spec_l06Keys_loops 2) = some sp → LoopOk G31 ⟨0, 72, spec_l06Keys_loops⟩ sp (loopBody Try.f67 2) := by
  intro sp hsp vals st k r h
  cases hsp
  dsimp only at h
  rcases onPats_inv2 h with ⟨p, q, rfl, rfl, h⟩ | h
  · exact loop_runs2 spec_l06Keys_bp2 spec_l06Keys_v2 spec_l06Keys_s2 spec_l06Keys_e2 (fun z => by (intro h; cases h)) spec_l06Keys_bx2 Fuel (p.1, p.2.2.2.1, p.2.2.2.2.1, p.2.2.2.2.2.2.1, q.1.1, q.1.2.1, q.2.1, q.2.2.1) _ k r (fun z => rfl) h
  cases h

def spec_l06Keys_v4 : q20T → List AV := (fun x => [.lst tVersion x.1, .bp 0 0, .own 1, .int .i64 x.2.1, .str x.2.2.1, .own 2, .int .i64 x.2.2.2.1])
def spec_l06Keys_s4 : q20T → St := (fun x => [.box [.str x.2.2.2.2.1, .str x.2.2.2.2.2.1], .arr .str x.2.2.2.2.2.2.1, .arr .str x.2.2.2.2.2.2.2])
def spec_l06Keys_e4 : q20T → Out × List AV × St := (fun z => ((.exit 4), [.lst tVersion z.1, .bp 0 0, .own 1, .int .i64 z.2.1, .str z.2.2.1, .own 2, .int .i64 z.2.2.2.1], [.box [.str z.2.2.2.2.1, .str z.2.2.2.2.2.1], .arr .str z.2.2.2.2.2.2.1, .arr .str z.2.2.2.2.2.2.2]))

theorem spec_l06Keys_bx4 (x : q20T) : exec G31 ⟨0, 72, spec_l06Keys_loops⟩ (loopBody Try.f67 4) (bodyK ⟨0, 72, spec_l06Keys_loops⟩ [0, 3, 5, 6, 7, 8, 10] []) (setEs (deads 72) [0, 3, 5, 6, 7, 8, 10] (spec_l06Keys_v4 x)) (spec_l06Keys_s4 x) = spec_l06Keys_b4 x (Sum.elim (fun y => some ⟨.norm, spec_l06Keys_v4 y, spec_l06Keys_s4 y⟩) fun z => some ⟨(spec_l06Keys_e4 z).1, (spec_l06Keys_e4 z).2.1, (spec_l06Keys_e4 z).2.2⟩) := by
  kernel_rfl

theorem spec_l06Keys_lo4 : ∀ sp, (spec_l06Keys_loops 4) = some sp → LoopOk G31 ⟨0, 72, spec_l06Keys_loops⟩ sp (loopBody Try.f67 4) := by
  intro sp hsp vals st k r h
  cases hsp
  dsimp only at h
  rcases onPats_inv2 h with ⟨p, q, rfl, rfl, h⟩ | h
  · exact loop_runs2 spec_l06Keys_bp4 spec_l06Keys_v4 spec_l06Keys_s4 spec_l06Keys_e4 (fun z => by (intro h; cases h)) spec_l06Keys_bx4 Fuel (p.1, p.2.2.2.1, p.2.2.2.2.1, p.2.2.2.2.2.2.1, q.1.1, q.1.2.1, q.2.1, q.2.2.1) _ k r (fun z => rfl) h
  cases h

def spec_l06Keys_v0 : q19T → List AV := (fun x => [.lst tVersion x.1, .bp 0 0, .own 1, .int .i64 x.2.1])
def spec_l06Keys_s0 : q19T → St := (fun x => [.box [.str x.2.2.1, .str x.2.2.2.1], .arr .str x.2.2.2.2])
def spec_l06Keys_e0 : q19T → Out × List AV × St := (fun z => ((.exit 0), [.lst tVersion z.1, .bp 0 0, .own 1, .int .i64 z.2.1], [.box [.str z.2.2.1, .str z.2.2.2.1], .arr .str z.2.2.2.2]))

theorem spec_l06Keys_bx0 (x : q19T) : exec G31 ⟨0, 72, spec_l06Keys_loops⟩ (loopBody Try.f67 0) (bodyK ⟨0, 72, spec_l06Keys_loops⟩ [0, 3, 5, 6] []) (setEs (deads 72) [0, 3, 5, 6] (spec_l06Keys_v0 x)) (spec_l06Keys_s0 x) = spec_l06Keys_b0 x (Sum.elim (fun y => some ⟨.norm, spec_l06Keys_v0 y, spec_l06Keys_s0 y⟩) fun z => some ⟨(spec_l06Keys_e0 z).1, (spec_l06Keys_e0 z).2.1, (spec_l06Keys_e0 z).2.2⟩) := by
  kernel_rfl

theorem spec_l06Keys_lo0 : ∀ sp, (spec_l06Keys_loops 0) = some sp → LoopOk G31 ⟨0, 72, spec_l06Keys_loops⟩ sp (loopBody Try.f67 0) := by
  intro sp hsp vals st k r h
  cases hsp
  dsimp only at h
  rcases onPats_inv2 h with ⟨p, q, rfl, rfl, h⟩ | h
  · exact loop_runs2 spec_l06Keys_bp0 spec_l06Keys_v0 spec_l06Keys_s0 spec_l06Keys_e0 (fun z => by (intro h; cases h)) spec_l06Keys_bx0 Fuel (p.1, p.2.2.2.1, q.1.1, q.1.2.1, q.2.1) _ k r (fun z => rfl) h
  cases h

theorem spec_l06Keys_y (a0 : (List dVersion)) (a1 : ByteArray) (a2 : ByteArray) : execFn G31 spec_l06Keys_loops Try.f67 [.lst tVersion a0, .agg [.str a1, .str a2]] [] = spec_l06Keys_k a0 (a1, a2) (fun (y : (List ByteArray)) => some ⟨.ret, [.own 0], [.arr .str y]⟩) := by rw [spec_l06Keys_e]; kernel_rfl

theorem spec_l06Keys_l : LoopsOk G31 ⟨0, 72, spec_l06Keys_loops⟩ (Try.f67.body.getD .skip) :=
  loopsOk_of (ids := [2, 4, 0]) (by kernel_rfl) (by kernel_rfl) ⟨spec_l06Keys_lo2, ⟨spec_l06Keys_lo4, ⟨spec_l06Keys_lo0, trivial⟩⟩⟩

theorem spec_l06Keys_c : Contract Try.prog 67 spec_l06Keys_g := by
  refine told G31_ok follows Try.func67 (c := Try.f67.body.getD .skip) (by kernel_rfl) ?_
  intro args s k r hk
  unfold spec_l06Keys_g at hk
  rcases onPats_inv hk with ⟨p, q, rfl, rfl⟩ | hk
  · exact ⟨spec_l06Keys_loops, spec_l06Keys_q p.1 p.2.1.1 p.2.1.2.1, spec_l06Keys_y p.1 p.2.1.1 p.2.1.2.1, spec_l06Keys_l⟩
  cases hk

def G32 : Glob := G31.add 67 spec_l06Keys_g

theorem G32_ok : GlobOk Try.prog G32 := G31_ok.add ⟨Try.f67, Try.func67, by kernel_rfl, by kernel_rfl⟩ spec_l06Keys_c



def spec_l06At_loops : Nat → Option LoopSpec
  | 0 => some ⟨[0, 1, 2, 7, 8], [], fun vals st k => onPats [.lst tVersion, .str, .int .i64, .int .i64, .int .i64] [] vals st (fun p q => loopK spec_l06At_b0 Fuel (p.1, p.2.1, p.2.2.1, p.2.2.2.1, p.2.2.2.2.1) (fun z => k (.exit 0) [.lst tVersion z.1, .str z.2.1, .int .i64 z.2.2.1, .int .i64 z.2.2.2.1, .int .i64 z.2.2.2.2] []))
      (none)⟩
  | 2000005 => some ⟨[0, 2, 4, 6, 8, 10, 12, 14, 16, 18, 20, 22, 24, 26, 28, 30, 32, 34, 36, 38, 40, 42, 44, 46, 48, 50, 52, 54, 56, 58, 60, 62, 64], [], fun _ _ _ => none⟩
  | _ => none

def spec_l06At_v0 : q17T → List AV := (fun x => [.lst tVersion x.1, .str x.2.1, .int .i64 x.2.2.1, .int .i64 x.2.2.2.1, .int .i64 x.2.2.2.2])
def spec_l06At_s0 : q17T → St := (fun x => [])
def spec_l06At_e0 : q17T → Out × List AV × St := (fun z => ((.exit 0), [.lst tVersion z.1, .str z.2.1, .int .i64 z.2.2.1, .int .i64 z.2.2.2.1, .int .i64 z.2.2.2.2], []))

theorem spec_l06At_bx0 (x : q17T) : exec G32 ⟨0, 50, spec_l06At_loops⟩ (loopBody Try.f186 0) (bodyK ⟨0, 50, spec_l06At_loops⟩ [0, 1, 2, 7, 8] []) (setEs (deads 50) [0, 1, 2, 7, 8] (spec_l06At_v0 x)) (spec_l06At_s0 x) = spec_l06At_b0 x (Sum.elim (fun y => some ⟨.norm, spec_l06At_v0 y, spec_l06At_s0 y⟩) fun z => some ⟨(spec_l06At_e0 z).1, (spec_l06At_e0 z).2.1, (spec_l06At_e0 z).2.2⟩) := by
  kernel_rfl

theorem spec_l06At_lo0 : ∀ sp, (spec_l06At_loops 0) = some sp → LoopOk G32 ⟨0, 50, spec_l06At_loops⟩ sp (loopBody Try.f186 0) := by
  intro sp hsp vals st k r h
  cases hsp
  dsimp only at h
  rcases onPats_inv2 h with ⟨p, q, rfl, rfl, h⟩ | h
  · exact loop_runs2 spec_l06At_bp0 spec_l06At_v0 spec_l06At_s0 spec_l06At_e0 (fun z => by (intro h; cases h)) spec_l06At_bx0 Fuel (p.1, p.2.1, p.2.2.1, p.2.2.2.1, p.2.2.2.2.1) _ k r (fun z => rfl) h
  cases h

theorem spec_l06At_y (a0 : (List dVersion)) (a1 : ByteArray) (a2 : Int) : execFn G32 spec_l06At_loops Try.f186 [.lst tVersion a0, .str a1, .int .i64 a2] [] = spec_l06At_k a0 a1 a2 (fun (y : Int) => some ⟨.ret, [.int .i64 y], []⟩) := by rw [spec_l06At_e]; kernel_rfl

theorem spec_l06At_l : LoopsOk G32 ⟨0, 50, spec_l06At_loops⟩ (Try.f186.body.getD .skip) :=
  loopsOk_of (ids := [0]) (by kernel_rfl) (by kernel_rfl) ⟨spec_l06At_lo0, trivial⟩

theorem spec_l06At_c : Contract Try.prog 186 spec_l06At_g := by
  refine told G32_ok follows Try.func186 (c := Try.f186.body.getD .skip) (by kernel_rfl) ?_
  intro args s k r hk
  unfold spec_l06At_g at hk
  rcases onPats_inv hk with ⟨p, q, rfl, rfl⟩ | hk
  · exact ⟨spec_l06At_loops, spec_l06At_q p.1 p.2.1 p.2.2.1, spec_l06At_y p.1 p.2.1 p.2.2.1, spec_l06At_l⟩
  cases hk

def G33 : Glob := G32.add 186 spec_l06At_g

theorem G33_ok : GlobOk Try.prog G33 := G32_ok.add ⟨Try.f186, Try.func186, by kernel_rfl, by kernel_rfl⟩ spec_l06At_c



def spec_SeenAt_loops : Nat → Option LoopSpec
  | _ => none

theorem spec_SeenAt_y (a0 : (List dVersion)) (a1 : ByteArray) (a2 : Int) : execFn G33 spec_SeenAt_loops Try.f121 [.lst tVersion a0, .str a1, .int .i64 a2] [] = spec_SeenAt_k a0 a1 a2 (fun (y : (ByteArray × Bool)) => some ⟨.ret, [.tup [.str y.1, .bool y.2]], []⟩) := by rw [spec_SeenAt_e]; kernel_rfl

theorem spec_SeenAt_l : LoopsOk G33 ⟨0, 27, spec_SeenAt_loops⟩ (Try.f121.body.getD .skip) :=
  loopsOk_of (ids := []) (by kernel_rfl) (by kernel_rfl) trivial

theorem spec_SeenAt_c : Contract Try.prog 121 spec_SeenAt_g := by
  refine told G33_ok follows Try.func121 (c := Try.f121.body.getD .skip) (by kernel_rfl) ?_
  intro args s k r hk
  unfold spec_SeenAt_g at hk
  rcases onPats_inv hk with ⟨p, q, rfl, rfl⟩ | hk
  · exact ⟨spec_SeenAt_loops, spec_SeenAt_q p.1 p.2.1 p.2.2.1, spec_SeenAt_y p.1 p.2.1 p.2.2.1, spec_SeenAt_l⟩
  cases hk

def G34 : Glob := G33.add 121 spec_SeenAt_g

theorem G34_ok : GlobOk Try.prog G34 := G33_ok.add ⟨Try.f121, Try.func121, by kernel_rfl, by kernel_rfl⟩ spec_SeenAt_c



def spec_ScanAt_loops : Nat → Option LoopSpec
  | 0 => some ⟨[0, 2, 7, 8, 9], [], fun vals st k => onPats [.lst tVersion, .int .i64, .own 0, .own 1, .int .i64] [.arr tRange, .arr .str] vals st (fun p q => loopK spec_ScanAt_b0 Fuel (p.1, p.2.1, p.2.2.2.2.1, q.1, q.2.1) (fun z => k (.exit 0) [.lst tVersion z.1, .int .i64 z.2.1, .own 0, .own 1, .int .i64 z.2.2.1] [.arr tRange z.2.2.2.1, .arr .str z.2.2.2.2]))
      (none)⟩
  | _ => none

def spec_ScanAt_v0 : q22T → List AV := (fun x => [.lst tVersion x.1, .int .i64 x.2.1, .own 0, .own 1, .int .i64 x.2.2.1])
def spec_ScanAt_s0 : q22T → St := (fun x => [.arr tRange x.2.2.2.1, .arr .str x.2.2.2.2])
def spec_ScanAt_e0 : q22T → Out × List AV × St := (fun z => ((.exit 0), [.lst tVersion z.1, .int .i64 z.2.1, .own 0, .own 1, .int .i64 z.2.2.1], [.arr tRange z.2.2.2.1, .arr .str z.2.2.2.2]))

theorem spec_ScanAt_bx0 (x : q22T) : exec G34 ⟨0, 43, spec_ScanAt_loops⟩ (loopBody Try.f200 0) (bodyK ⟨0, 43, spec_ScanAt_loops⟩ [0, 2, 7, 8, 9] []) (setEs (deads 43) [0, 2, 7, 8, 9] (spec_ScanAt_v0 x)) (spec_ScanAt_s0 x) = spec_ScanAt_b0 x (Sum.elim (fun y => some ⟨.norm, spec_ScanAt_v0 y, spec_ScanAt_s0 y⟩) fun z => some ⟨(spec_ScanAt_e0 z).1, (spec_ScanAt_e0 z).2.1, (spec_ScanAt_e0 z).2.2⟩) := by
  kernel_rfl

theorem spec_ScanAt_lo0 : ∀ sp, (spec_ScanAt_loops 0) = some sp → LoopOk G34 ⟨0, 43, spec_ScanAt_loops⟩ sp (loopBody Try.f200 0) := by
  intro sp hsp vals st k r h
  cases hsp
  dsimp only at h
  rcases onPats_inv2 h with ⟨p, q, rfl, rfl, h⟩ | h
  · exact loop_runs2 spec_ScanAt_bp0 spec_ScanAt_v0 spec_ScanAt_s0 spec_ScanAt_e0 (fun z => by (intro h; cases h)) spec_ScanAt_bx0 Fuel (p.1, p.2.1, p.2.2.2.2.1, q.1, q.2.1) _ k r (fun z => rfl) h
  cases h

theorem spec_ScanAt_y (a0 : (List dVersion)) (a1 : ByteArray) (a2 : ByteArray) (a3 : Int) : execFn G34 spec_ScanAt_loops Try.f200 [.lst tVersion a0, .agg [.str a1, .str a2], .int .i64 a3] [] = spec_ScanAt_k a0 (a1, a2) a3 (fun (y : (List dRange)) => some ⟨.ret, [.own 0], [.arr tRange y]⟩) := by rw [spec_ScanAt_e]; kernel_rfl

theorem spec_ScanAt_l : LoopsOk G34 ⟨0, 43, spec_ScanAt_loops⟩ (Try.f200.body.getD .skip) :=
  loopsOk_of (ids := [0]) (by kernel_rfl) (by kernel_rfl) ⟨spec_ScanAt_lo0, trivial⟩

theorem spec_ScanAt_c : Contract Try.prog 200 spec_ScanAt_g := by
  refine told G34_ok follows Try.func200 (c := Try.f200.body.getD .skip) (by kernel_rfl) ?_
  intro args s k r hk
  unfold spec_ScanAt_g at hk
  rcases onPats_inv hk with ⟨p, q, rfl, rfl⟩ | hk
  · exact ⟨spec_ScanAt_loops, spec_ScanAt_q p.1 p.2.1.1 p.2.1.2.1 p.2.2.1, spec_ScanAt_y p.1 p.2.1.1 p.2.1.2.1 p.2.2.1, spec_ScanAt_l⟩
  cases hk

def G35 : Glob := G34.add 200 spec_ScanAt_g

theorem G35_ok : GlobOk Try.prog G35 := G34_ok.add ⟨Try.f200, Try.func200, by kernel_rfl, by kernel_rfl⟩ spec_ScanAt_c



def spec_l06Pairs_loops : Nat → Option LoopSpec
  | 0 => some ⟨[0, 1, 4, 5], [], fun vals st k => onPats [.lst tRange, .lst tRange, .bool, .int .i64] [] vals st (fun p q => loopK spec_l06Pairs_b0 Fuel (p.1, p.2.1, p.2.2.1, p.2.2.2.1) (Sum.elim (fun z => k .ret [.lst tRange z.1, .lst tRange z.2.1, .bool z.2.2.1, .int .i64 z.2.2.2] []) (fun z => k (.exit 0) [.lst tRange z.1, .lst tRange z.2.1, .bool z.2.2.1, .int .i64 z.2.2.2] [])))
      (none)⟩
  | 2000006 => some ⟨[0, 2, 4, 6, 8, 10, 12, 14, 16], [], fun _ _ _ => none⟩
  | _ => none

def spec_l06Pairs_v0 : q5T → List AV := (fun x => [.lst tRange x.1, .lst tRange x.2.1, .bool x.2.2.1, .int .i64 x.2.2.2])
def spec_l06Pairs_s0 : q5T → St := (fun x => [])
def spec_l06Pairs_e0 : (q5T ⊕ q5T) → Out × List AV × St := (Sum.elim (fun z => (.ret, [.lst tRange z.1, .lst tRange z.2.1, .bool z.2.2.1, .int .i64 z.2.2.2], [])) (fun z => ((.exit 0), [.lst tRange z.1, .lst tRange z.2.1, .bool z.2.2.1, .int .i64 z.2.2.2], [])))

theorem spec_l06Pairs_bx0 (x : q5T) : exec G35 ⟨0, 26, spec_l06Pairs_loops⟩ (loopBody Try.f199 0) (bodyK ⟨0, 26, spec_l06Pairs_loops⟩ [0, 1, 4, 5] []) (setEs (deads 26) [0, 1, 4, 5] (spec_l06Pairs_v0 x)) (spec_l06Pairs_s0 x) = spec_l06Pairs_b0 x (Sum.elim (fun y => some ⟨.norm, spec_l06Pairs_v0 y, spec_l06Pairs_s0 y⟩) fun z => some ⟨(spec_l06Pairs_e0 z).1, (spec_l06Pairs_e0 z).2.1, (spec_l06Pairs_e0 z).2.2⟩) := by
  kernel_rfl

theorem spec_l06Pairs_lo0 : ∀ sp, (spec_l06Pairs_loops 0) = some sp → LoopOk G35 ⟨0, 26, spec_l06Pairs_loops⟩ sp (loopBody Try.f199 0) := by
  intro sp hsp vals st k r h
  cases hsp
  dsimp only at h
  rcases onPats_inv2 h with ⟨p, q, rfl, rfl, h⟩ | h
  · exact loop_runs2 spec_l06Pairs_bp0 spec_l06Pairs_v0 spec_l06Pairs_s0 spec_l06Pairs_e0 (fun z => by rcases z with z | z <;> (intro h; cases h)) spec_l06Pairs_bx0 Fuel (p.1, p.2.1, p.2.2.1, p.2.2.2.1) _ k r (fun z => by rcases z with z | z <;> rfl) h
  cases h

theorem spec_l06Pairs_y (a0 : (List dRange)) (a1 : (List dRange)) : execFn G35 spec_l06Pairs_loops Try.f199 [.lst tRange a0, .lst tRange a1] [] = spec_l06Pairs_k a0 a1 (fun (y : Bool) => some ⟨.ret, [.bool y], []⟩) := by rw [spec_l06Pairs_e]; kernel_rfl

theorem spec_l06Pairs_l : LoopsOk G35 ⟨0, 26, spec_l06Pairs_loops⟩ (Try.f199.body.getD .skip) :=
  loopsOk_of (ids := [0]) (by kernel_rfl) (by kernel_rfl) ⟨spec_l06Pairs_lo0, trivial⟩

theorem spec_l06Pairs_c : Contract Try.prog 199 spec_l06Pairs_g := by
  refine told G35_ok follows Try.func199 (c := Try.f199.body.getD .skip) (by kernel_rfl) ?_
  intro args s k r hk
  unfold spec_l06Pairs_g at hk
  rcases onPats_inv hk with ⟨p, q, rfl, rfl⟩ | hk
  · exact ⟨spec_l06Pairs_loops, spec_l06Pairs_q p.1 p.2.1, spec_l06Pairs_y p.1 p.2.1, spec_l06Pairs_l⟩
  cases hk

def G36 : Glob := G35.add 199 spec_l06Pairs_g

theorem G36_ok : GlobOk Try.prog G36 := G35_ok.add ⟨Try.f199, Try.func199, by kernel_rfl, by kernel_rfl⟩ spec_l06Pairs_c



def spec_SameFrom_loops : Nat → Option LoopSpec
  | 5000011 => some ⟨[0, 1, 2, 6, 7, 8, 9], [], fun vals st k => onPats [.lst tVersion, .lst tVersion, .int .i64, .bool, .bp 0 0, .int .i64, .int .i64] [.box [.str, .str]] vals st (fun p q => spec_SameFrom_j5000011 (p.1, p.2.1, p.2.2.1, p.2.2.2.1, p.2.2.2.2.2.1, p.2.2.2.2.2.2.1, q.1.1, q.1.2.1) (Sum.elim (fun z => k .ret [.lst tVersion z.1, .lst tVersion z.2.1, .int .i64 z.2.2.1, .bool z.2.2.2.1, .bp 0 0, .int .i64 z.2.2.2.2.1, .int .i64 z.2.2.2.2.2.1] [.box [.str z.2.2.2.2.2.2.1, .str z.2.2.2.2.2.2.2]]) (fun z => k .norm [.lst tVersion z.1, .lst tVersion z.2.1, .int .i64 z.2.2.1, .bool z.2.2.2.1, .bp 0 0, .int .i64 z.2.2.2.2.1, .int .i64 z.2.2.2.2.2.1] [.box [.str z.2.2.2.2.2.2.1, .str z.2.2.2.2.2.2.2]])))
      (none)⟩
  | 0 => some ⟨[0, 1, 2, 6, 7, 8], [], fun vals st k => onPats [.lst tVersion, .lst tVersion, .int .i64, .bool, .bp 0 0, .int .i64] [.box [.str, .str]] vals st (fun p q => loopK spec_SameFrom_b0 Fuel (p.1, p.2.1, p.2.2.1, p.2.2.2.1, p.2.2.2.2.2.1, q.1.1, q.1.2.1) (Sum.elim (fun z => k (.exit 0) [.lst tVersion z.1, .lst tVersion z.2.1, .int .i64 z.2.2.1, .bool z.2.2.2.1, .bp 0 0, .int .i64 z.2.2.2.2.1] [.box [.str z.2.2.2.2.2.1, .str z.2.2.2.2.2.2]]) (fun z => k .ret [.lst tVersion z.1, .lst tVersion z.2.1, .int .i64 z.2.2.1, .bool z.2.2.2.1, .bp 0 0, .int .i64 z.2.2.2.2.1] [.box [.str z.2.2.2.2.2.1, .str z.2.2.2.2.2.2]])))
      (none)⟩
  | 2000002 => some ⟨[0, 2, 4, 8, 10, 12, 7, 15, 17, 18], [], fun _ _ _ => none⟩
  | 2000011 => some ⟨[0, 2, 4, 6, 8, 10, 12, 16, 18, 20, 15, 23, 25, 26, 28], [], fun _ _ _ => none⟩
  | _ => none

def spec_SameFrom_jv5000011 : q15T → List AV := (fun x => [.lst tVersion x.1, .lst tVersion x.2.1, .int .i64 x.2.2.1, .bool x.2.2.2.1, .bp 0 0, .int .i64 x.2.2.2.2.1, .int .i64 x.2.2.2.2.2.1])
def spec_SameFrom_js5000011 : q15T → St := (fun x => [.box [.str x.2.2.2.2.2.2.1, .str x.2.2.2.2.2.2.2]])
def spec_SameFrom_je5000011 : (q15T ⊕ q15T) → Out × List AV × St := (Sum.elim (fun z => (.ret, [.lst tVersion z.1, .lst tVersion z.2.1, .int .i64 z.2.2.1, .bool z.2.2.2.1, .bp 0 0, .int .i64 z.2.2.2.2.1, .int .i64 z.2.2.2.2.2.1], [.box [.str z.2.2.2.2.2.2.1, .str z.2.2.2.2.2.2.2]])) (fun z => (.norm, [.lst tVersion z.1, .lst tVersion z.2.1, .int .i64 z.2.2.1, .bool z.2.2.2.1, .bp 0 0, .int .i64 z.2.2.2.2.1, .int .i64 z.2.2.2.2.2.1], [.box [.str z.2.2.2.2.2.2.1, .str z.2.2.2.2.2.2.2]])))

theorem spec_SameFrom_jx5000011 (x : q15T) : exec G36 ⟨0, 62, spec_SameFrom_loops⟩ (loopBody Try.f142 5000011) (bodyK ⟨0, 62, spec_SameFrom_loops⟩ [0, 1, 2, 6, 7, 8, 9] []) (setEs (deads 62) [0, 1, 2, 6, 7, 8, 9] (spec_SameFrom_jv5000011 x)) (spec_SameFrom_js5000011 x) = spec_SameFrom_j5000011 x (fun z => some ⟨(spec_SameFrom_je5000011 z).1, (spec_SameFrom_je5000011 z).2.1, (spec_SameFrom_je5000011 z).2.2⟩) := by
  kernel_rfl

theorem spec_SameFrom_lo5000011 : ∀ sp, (spec_SameFrom_loops 5000011) = some sp → CutOk G36 ⟨0, 62, spec_SameFrom_loops⟩ sp (loopBody Try.f142 5000011) := by
  intro sp hsp vals st k r h
  cases hsp
  dsimp only at h
  rcases onPats_inv2 h with ⟨p, q, rfl, rfl, h⟩ | h
  · exact cut_runs spec_SameFrom_jp5000011 spec_SameFrom_jv5000011 spec_SameFrom_js5000011 spec_SameFrom_je5000011 spec_SameFrom_jx5000011 (p.1, p.2.1, p.2.2.1, p.2.2.2.1, p.2.2.2.2.2.1, p.2.2.2.2.2.2.1, q.1.1, q.1.2.1) _ k r (fun z => by rcases z with z | z <;> rfl) h
  cases h

def spec_SameFrom_v0 : q14T → List AV := (fun x => [.lst tVersion x.1, .lst tVersion x.2.1, .int .i64 x.2.2.1, .bool x.2.2.2.1, .bp 0 0, .int .i64 x.2.2.2.2.1])
def spec_SameFrom_s0 : q14T → St := (fun x => [.box [.str x.2.2.2.2.2.1, .str x.2.2.2.2.2.2]])
def spec_SameFrom_e0 : (q14T ⊕ q14T) → Out × List AV × St := (Sum.elim (fun z => ((.exit 0), [.lst tVersion z.1, .lst tVersion z.2.1, .int .i64 z.2.2.1, .bool z.2.2.2.1, .bp 0 0, .int .i64 z.2.2.2.2.1], [.box [.str z.2.2.2.2.2.1, .str z.2.2.2.2.2.2]])) (fun z => (.ret, [.lst tVersion z.1, .lst tVersion z.2.1, .int .i64 z.2.2.1, .bool z.2.2.2.1, .bp 0 0, .int .i64 z.2.2.2.2.1], [.box [.str z.2.2.2.2.2.1, .str z.2.2.2.2.2.2]])))

theorem spec_SameFrom_bx0 (x : q14T) : exec G36 ⟨0, 62, spec_SameFrom_loops⟩ (loopBody Try.f142 0) (bodyK ⟨0, 62, spec_SameFrom_loops⟩ [0, 1, 2, 6, 7, 8] []) (setEs (deads 62) [0, 1, 2, 6, 7, 8] (spec_SameFrom_v0 x)) (spec_SameFrom_s0 x) = spec_SameFrom_b0 x (Sum.elim (fun y => some ⟨.norm, spec_SameFrom_v0 y, spec_SameFrom_s0 y⟩) fun z => some ⟨(spec_SameFrom_e0 z).1, (spec_SameFrom_e0 z).2.1, (spec_SameFrom_e0 z).2.2⟩) := by
  kernel_rfl

theorem spec_SameFrom_lo0 : ∀ sp, (spec_SameFrom_loops 0) = some sp → LoopOk G36 ⟨0, 62, spec_SameFrom_loops⟩ sp (loopBody Try.f142 0) := by
  intro sp hsp vals st k r h
  cases hsp
  dsimp only at h
  rcases onPats_inv2 h with ⟨p, q, rfl, rfl, h⟩ | h
  · exact loop_runs2 spec_SameFrom_bp0 spec_SameFrom_v0 spec_SameFrom_s0 spec_SameFrom_e0 (fun z => by rcases z with z | z <;> (intro h; cases h)) spec_SameFrom_bx0 Fuel (p.1, p.2.1, p.2.2.1, p.2.2.2.1, p.2.2.2.2.2.1, q.1.1, q.1.2.1) _ k r (fun z => by rcases z with z | z <;> rfl) h
  cases h

theorem spec_SameFrom_y (a0 : (List dVersion)) (a1 : (List dVersion)) (a2 : Int) : execFn G36 spec_SameFrom_loops Try.f142 [.lst tVersion a0, .lst tVersion a1, .int .i64 a2] [] = spec_SameFrom_k a0 a1 a2 (fun (y : Bool) => some ⟨.ret, [.bool y], []⟩) := by rw [spec_SameFrom_e]; kernel_rfl

theorem spec_SameFrom_l : LoopsOk G36 ⟨0, 62, spec_SameFrom_loops⟩ (Try.f142.body.getD .skip) :=
  loopsOk_of (ids := [5000011, 0]) (by kernel_rfl) (by kernel_rfl) ⟨spec_SameFrom_lo5000011, ⟨spec_SameFrom_lo0, trivial⟩⟩

theorem spec_SameFrom_c : Contract Try.prog 142 spec_SameFrom_g := by
  refine told G36_ok follows Try.func142 (c := Try.f142.body.getD .skip) (by kernel_rfl) ?_
  intro args s k r hk
  unfold spec_SameFrom_g at hk
  rcases onPats_inv hk with ⟨p, q, rfl, rfl⟩ | hk
  · exact ⟨spec_SameFrom_loops, spec_SameFrom_q p.1 p.2.1 p.2.2.1, spec_SameFrom_y p.1 p.2.1 p.2.2.1, spec_SameFrom_l⟩
  cases hk

def G37 : Glob := G36.add 142 spec_SameFrom_g

theorem G37_ok : GlobOk Try.prog G37 := G36_ok.add ⟨Try.f142, Try.func142, by kernel_rfl, by kernel_rfl⟩ spec_SameFrom_c



def spec_LikeBase_loops : Nat → Option LoopSpec
  | _ => none

theorem spec_LikeBase_y (a0 : (List dVersion)) (a1 : (List dTxn)) (a2 : (List dTxn)) (a3 : Int) (a4 : Int) (a5 : (List dVersion)) (a6 : (List dTxn)) (a7 : (List dTxn)) (a8 : Int) (a9 : Int) : execFn G37 spec_LikeBase_loops Try.f60 [.agg [.lst tVersion a0, .lst tTxn a1, .lst tTxn a2, .int .i64 a3, .int .i64 a4], .agg [.lst tVersion a5, .lst tTxn a6, .lst tTxn a7, .int .i64 a8, .int .i64 a9]] [] = spec_LikeBase_k (a0, (a1, (a2, (a3, a4)))) (a5, (a6, (a7, (a8, a9)))) (fun (y : Bool) => some ⟨.ret, [.bool y], []⟩) := by rw [spec_LikeBase_e]; kernel_rfl

theorem spec_LikeBase_l : LoopsOk G37 ⟨0, 33, spec_LikeBase_loops⟩ (Try.f60.body.getD .skip) :=
  loopsOk_of (ids := []) (by kernel_rfl) (by kernel_rfl) trivial

theorem spec_LikeBase_c : Contract Try.prog 60 spec_LikeBase_g := by
  refine told G37_ok follows Try.func60 (c := Try.f60.body.getD .skip) (by kernel_rfl) ?_
  intro args s k r hk
  unfold spec_LikeBase_g at hk
  rcases onPats_inv hk with ⟨p, q, rfl, rfl⟩ | hk
  · exact ⟨spec_LikeBase_loops, spec_LikeBase_q p.1.1 p.1.2.1 p.1.2.2.1 p.1.2.2.2.1 p.1.2.2.2.2.1 p.2.1.1 p.2.1.2.1 p.2.1.2.2.1 p.2.1.2.2.2.1 p.2.1.2.2.2.2.1, spec_LikeBase_y p.1.1 p.1.2.1 p.1.2.2.1 p.1.2.2.2.1 p.1.2.2.2.2.1 p.2.1.1 p.2.1.2.1 p.2.1.2.2.1 p.2.1.2.2.2.1 p.2.1.2.2.2.2.1, spec_LikeBase_l⟩
  cases hk

def G38 : Glob := G37.add 60 spec_LikeBase_g

theorem G38_ok : GlobOk Try.prog G38 := G37_ok.add ⟨Try.f60, Try.func60, by kernel_rfl, by kernel_rfl⟩ spec_LikeBase_c



def impl_within_loops : Nat → Option LoopSpec
  | _ => none

theorem impl_within_y (a0 : Int) (a1 : Int) (a2 : Int) : execFn G38 impl_within_loops Try.f124 [.int .i64 a0, .int .i64 a1, .int .i64 a2] [] = impl_within_k a0 a1 a2 (fun (y : Bool) => some ⟨.ret, [.bool y], []⟩) := by rw [impl_within_e]; kernel_rfl

theorem impl_within_l : LoopsOk G38 ⟨0, 15, impl_within_loops⟩ (Try.f124.body.getD .skip) :=
  loopsOk_of (ids := []) (by kernel_rfl) (by kernel_rfl) trivial

theorem impl_within_c : Contract Try.prog 124 impl_within_g := by
  refine told G38_ok follows Try.func124 (c := Try.f124.body.getD .skip) (by kernel_rfl) ?_
  intro args s k r hk
  unfold impl_within_g at hk
  rcases onPats_inv hk with ⟨p, q, rfl, rfl⟩ | hk
  · exact ⟨impl_within_loops, impl_within_q p.1 p.2.1 p.2.2.1, impl_within_y p.1 p.2.1 p.2.2.1, impl_within_l⟩
  cases hk

def G39 : Glob := G38.add 124 impl_within_g

theorem G39_ok : GlobOk Try.prog G39 := G38_ok.add ⟨Try.f124, Try.func124, by kernel_rfl, by kernel_rfl⟩ impl_within_c



def impl_KeyOk_loops : Nat → Option LoopSpec
  | 0 => some ⟨[0, 2, 3], [], fun vals st k => onPats [.str, .bool, .int .i64] [] vals st (fun p q => loopK impl_KeyOk_b0 Fuel (p.1, p.2.1, p.2.2.1) (Sum.elim (fun z => k .ret [.str z.1, .bool z.2.1, .int .i64 z.2.2] []) (fun z => k (.exit 0) [.str z.1, .bool z.2.1, .int .i64 z.2.2] [])))
      (none)⟩
  | _ => none

def impl_KeyOk_v0 : (ByteArray × Bool × Int) → List AV := (fun x => [.str x.1, .bool x.2.1, .int .i64 x.2.2])
def impl_KeyOk_s0 : (ByteArray × Bool × Int) → St := (fun x => [])
def impl_KeyOk_e0 : ((ByteArray × Bool × Int) ⊕ (ByteArray × Bool × Int)) → Out × List AV × St := (Sum.elim (fun z => (.ret, [.str z.1, .bool z.2.1, .int .i64 z.2.2], [])) (fun z => ((.exit 0), [.str z.1, .bool z.2.1, .int .i64 z.2.2], [])))

theorem impl_KeyOk_bx0 (x : (ByteArray × Bool × Int)) : exec G39 ⟨0, 23, impl_KeyOk_loops⟩ (loopBody Try.f126 0) (bodyK ⟨0, 23, impl_KeyOk_loops⟩ [0, 2, 3] []) (setEs (deads 23) [0, 2, 3] (impl_KeyOk_v0 x)) (impl_KeyOk_s0 x) = impl_KeyOk_b0 x (Sum.elim (fun y => some ⟨.norm, impl_KeyOk_v0 y, impl_KeyOk_s0 y⟩) fun z => some ⟨(impl_KeyOk_e0 z).1, (impl_KeyOk_e0 z).2.1, (impl_KeyOk_e0 z).2.2⟩) := by
  kernel_rfl

theorem impl_KeyOk_lo0 : ∀ sp, (impl_KeyOk_loops 0) = some sp → LoopOk G39 ⟨0, 23, impl_KeyOk_loops⟩ sp (loopBody Try.f126 0) := by
  intro sp hsp vals st k r h
  cases hsp
  dsimp only at h
  rcases onPats_inv2 h with ⟨p, q, rfl, rfl, h⟩ | h
  · exact loop_runs2 impl_KeyOk_bp0 impl_KeyOk_v0 impl_KeyOk_s0 impl_KeyOk_e0 (fun z => by rcases z with z | z <;> (intro h; cases h)) impl_KeyOk_bx0 Fuel (p.1, p.2.1, p.2.2.1) _ k r (fun z => by rcases z with z | z <;> rfl) h
  cases h

theorem impl_KeyOk_y (a0 : ByteArray) : execFn G39 impl_KeyOk_loops Try.f126 [.str a0] [] = impl_KeyOk_k a0 (fun (y : Bool) => some ⟨.ret, [.bool y], []⟩) := by rw [impl_KeyOk_e]; kernel_rfl

theorem impl_KeyOk_l : LoopsOk G39 ⟨0, 23, impl_KeyOk_loops⟩ (Try.f126.body.getD .skip) :=
  loopsOk_of (ids := [0]) (by kernel_rfl) (by kernel_rfl) ⟨impl_KeyOk_lo0, trivial⟩

theorem impl_KeyOk_c : Contract Try.prog 126 impl_KeyOk_g := by
  refine told G39_ok follows Try.func126 (c := Try.f126.body.getD .skip) (by kernel_rfl) ?_
  intro args s k r hk
  unfold impl_KeyOk_g at hk
  rcases onPats_inv hk with ⟨p, q, rfl, rfl⟩ | hk
  · exact ⟨impl_KeyOk_loops, impl_KeyOk_q p.1, impl_KeyOk_y p.1, impl_KeyOk_l⟩
  cases hk

def G40 : Glob := G39.add 126 impl_KeyOk_g

theorem G40_ok : GlobOk Try.prog G40 := G39_ok.add ⟨Try.f126, Try.func126, by kernel_rfl, by kernel_rfl⟩ impl_KeyOk_c



def impl_RangeOk_loops : Nat → Option LoopSpec
  | _ => none

theorem impl_RangeOk_y (a0 : ByteArray) (a1 : ByteArray) : execFn G40 impl_RangeOk_loops Try.f106 [.agg [.str a0, .str a1]] [] = impl_RangeOk_k (a0, a1) (fun (y : Bool) => some ⟨.ret, [.bool y], []⟩) := by rw [impl_RangeOk_e]; kernel_rfl

theorem impl_RangeOk_l : LoopsOk G40 ⟨0, 18, impl_RangeOk_loops⟩ (Try.f106.body.getD .skip) :=
  loopsOk_of (ids := []) (by kernel_rfl) (by kernel_rfl) trivial

theorem impl_RangeOk_c : Contract Try.prog 106 impl_RangeOk_g := by
  refine told G40_ok follows Try.func106 (c := Try.f106.body.getD .skip) (by kernel_rfl) ?_
  intro args s k r hk
  unfold impl_RangeOk_g at hk
  rcases onPats_inv hk with ⟨p, q, rfl, rfl⟩ | hk
  · exact ⟨impl_RangeOk_loops, impl_RangeOk_q p.1.1 p.1.2.1, impl_RangeOk_y p.1.1 p.1.2.1, impl_RangeOk_l⟩
  cases hk

def G41 : Glob := G40.add 106 impl_RangeOk_g

theorem G41_ok : GlobOk Try.prog G41 := G40_ok.add ⟨Try.f106, Try.func106, by kernel_rfl, by kernel_rfl⟩ impl_RangeOk_c



def impl_WriteOk_loops : Nat → Option LoopSpec
  | _ => none

theorem impl_WriteOk_y (a0 : ByteArray) (a1 : ByteArray) (a2 : Bool) : execFn G41 impl_WriteOk_loops Try.f112 [.agg [.str a0, .str a1, .bool a2]] [] = impl_WriteOk_k (a0, (a1, a2)) (fun (y : Bool) => some ⟨.ret, [.bool y], []⟩) := by rw [impl_WriteOk_e]; kernel_rfl

theorem impl_WriteOk_l : LoopsOk G41 ⟨0, 22, impl_WriteOk_loops⟩ (Try.f112.body.getD .skip) :=
  loopsOk_of (ids := []) (by kernel_rfl) (by kernel_rfl) trivial

theorem impl_WriteOk_c : Contract Try.prog 112 impl_WriteOk_g := by
  refine told G41_ok follows Try.func112 (c := Try.f112.body.getD .skip) (by kernel_rfl) ?_
  intro args s k r hk
  unfold impl_WriteOk_g at hk
  rcases onPats_inv hk with ⟨p, q, rfl, rfl⟩ | hk
  · exact ⟨impl_WriteOk_loops, impl_WriteOk_q p.1.1 p.1.2.1 p.1.2.2.1, impl_WriteOk_y p.1.1 p.1.2.1 p.1.2.2.1, impl_WriteOk_l⟩
  cases hk

def G42 : Glob := G41.add 112 impl_WriteOk_g

theorem G42_ok : GlobOk Try.prog G42 := G41_ok.add ⟨Try.f112, Try.func112, by kernel_rfl, by kernel_rfl⟩ impl_WriteOk_c



def impl_WritesOk_loops : Nat → Option LoopSpec
  | 0 => some ⟨[0, 2, 5, 6, 7], [], fun vals st k => onPats [.lst tWrite, .bool, .lst tWrite, .int .i64, .int .i64] [] vals st (fun p q => loopK impl_WritesOk_b0 Fuel (p.1, p.2.1, p.2.2.1, p.2.2.2.1, p.2.2.2.2.1) (Sum.elim (fun z => k .ret [.lst tWrite z.1, .bool z.2.1, .lst tWrite z.2.2.1, .int .i64 z.2.2.2.1, .int .i64 z.2.2.2.2] []) (fun z => k (.exit 0) [.lst tWrite z.1, .bool z.2.1, .lst tWrite z.2.2.1, .int .i64 z.2.2.2.1, .int .i64 z.2.2.2.2] [])))
      (none)⟩
  | 2000004 => some ⟨[0, 3, 4, 6, 8, 10, 12, 14, 16, 18, 20, 22, 24, 26, 28, 30, 32, 34], [], fun _ _ _ => none⟩
  | _ => none

def impl_WritesOk_v0 : q26T → List AV := (fun x => [.lst tWrite x.1, .bool x.2.1, .lst tWrite x.2.2.1, .int .i64 x.2.2.2.1, .int .i64 x.2.2.2.2])
def impl_WritesOk_s0 : q26T → St := (fun x => [])
def impl_WritesOk_e0 : (q26T ⊕ q26T) → Out × List AV × St := (Sum.elim (fun z => (.ret, [.lst tWrite z.1, .bool z.2.1, .lst tWrite z.2.2.1, .int .i64 z.2.2.2.1, .int .i64 z.2.2.2.2], [])) (fun z => ((.exit 0), [.lst tWrite z.1, .bool z.2.1, .lst tWrite z.2.2.1, .int .i64 z.2.2.2.1, .int .i64 z.2.2.2.2], [])))

theorem impl_WritesOk_bx0 (x : q26T) : exec G42 ⟨0, 34, impl_WritesOk_loops⟩ (loopBody Try.f125 0) (bodyK ⟨0, 34, impl_WritesOk_loops⟩ [0, 2, 5, 6, 7] []) (setEs (deads 34) [0, 2, 5, 6, 7] (impl_WritesOk_v0 x)) (impl_WritesOk_s0 x) = impl_WritesOk_b0 x (Sum.elim (fun y => some ⟨.norm, impl_WritesOk_v0 y, impl_WritesOk_s0 y⟩) fun z => some ⟨(impl_WritesOk_e0 z).1, (impl_WritesOk_e0 z).2.1, (impl_WritesOk_e0 z).2.2⟩) := by
  kernel_rfl

theorem impl_WritesOk_lo0 : ∀ sp, (impl_WritesOk_loops 0) = some sp → LoopOk G42 ⟨0, 34, impl_WritesOk_loops⟩ sp (loopBody Try.f125 0) := by
  intro sp hsp vals st k r h
  cases hsp
  dsimp only at h
  rcases onPats_inv2 h with ⟨p, q, rfl, rfl, h⟩ | h
  · exact loop_runs2 impl_WritesOk_bp0 impl_WritesOk_v0 impl_WritesOk_s0 impl_WritesOk_e0 (fun z => by rcases z with z | z <;> (intro h; cases h)) impl_WritesOk_bx0 Fuel (p.1, p.2.1, p.2.2.1, p.2.2.2.1, p.2.2.2.2.1) _ k r (fun z => by rcases z with z | z <;> rfl) h
  cases h

theorem impl_WritesOk_y (a0 : (List dWrite)) : execFn G42 impl_WritesOk_loops Try.f125 [.lst tWrite a0] [] = impl_WritesOk_k a0 (fun (y : Bool) => some ⟨.ret, [.bool y], []⟩) := by rw [impl_WritesOk_e]; kernel_rfl

theorem impl_WritesOk_l : LoopsOk G42 ⟨0, 34, impl_WritesOk_loops⟩ (Try.f125.body.getD .skip) :=
  loopsOk_of (ids := [0]) (by kernel_rfl) (by kernel_rfl) ⟨impl_WritesOk_lo0, trivial⟩

theorem impl_WritesOk_c : Contract Try.prog 125 impl_WritesOk_g := by
  refine told G42_ok follows Try.func125 (c := Try.f125.body.getD .skip) (by kernel_rfl) ?_
  intro args s k r hk
  unfold impl_WritesOk_g at hk
  rcases onPats_inv hk with ⟨p, q, rfl, rfl⟩ | hk
  · exact ⟨impl_WritesOk_loops, impl_WritesOk_q p.1, impl_WritesOk_y p.1, impl_WritesOk_l⟩
  cases hk

def G43 : Glob := G42.add 125 impl_WritesOk_g

theorem G43_ok : GlobOk Try.prog G43 := G42_ok.add ⟨Try.f125, Try.func125, by kernel_rfl, by kernel_rfl⟩ impl_WritesOk_c



def impl_TxnOk_loops : Nat → Option LoopSpec
  | 5000011 => some ⟨[1, 2], [], fun vals st k => onPats [.bp 0 0, .bool] [.box [.int .i64, .int .i64, .int .i64, .int .i64, .lst tRange, .lst tWrite, .bool, .str]] vals st (fun p q => impl_TxnOk_j5000011 (p.2.1, q.1.1, q.1.2.1, q.1.2.2.1, q.1.2.2.2.1, q.1.2.2.2.2.1, q.1.2.2.2.2.2.1, q.1.2.2.2.2.2.2.1, q.1.2.2.2.2.2.2.2.1) (fun z => k .ret [.bp 0 0, .bool z.1] [.box [.int .i64 z.2.1, .int .i64 z.2.2.1, .int .i64 z.2.2.2.1, .int .i64 z.2.2.2.2.1, .lst tRange z.2.2.2.2.2.1, .lst tWrite z.2.2.2.2.2.2.1, .bool z.2.2.2.2.2.2.2.1, .str z.2.2.2.2.2.2.2.2]]))
      (none)⟩
  | 5000009 => some ⟨[1, 2], [], fun vals st k => onPats [.bp 0 0, .bool] [.box [.int .i64, .int .i64, .int .i64, .int .i64, .lst tRange, .lst tWrite, .bool, .str]] vals st (fun p q => impl_TxnOk_j5000009 (p.2.1, q.1.1, q.1.2.1, q.1.2.2.1, q.1.2.2.2.1, q.1.2.2.2.2.1, q.1.2.2.2.2.2.1, q.1.2.2.2.2.2.2.1, q.1.2.2.2.2.2.2.2.1) (fun z => k .ret [.bp 0 0, .bool z.1] [.box [.int .i64 z.2.1, .int .i64 z.2.2.1, .int .i64 z.2.2.2.1, .int .i64 z.2.2.2.2.1, .lst tRange z.2.2.2.2.2.1, .lst tWrite z.2.2.2.2.2.2.1, .bool z.2.2.2.2.2.2.2.1, .str z.2.2.2.2.2.2.2.2]]))
      (none)⟩
  | 0 => some ⟨[1, 2, 6, 7, 8], [], fun vals st k => onPats [.bp 0 0, .bool, .lst tRange, .int .i64, .int .i64] [.box [.int .i64, .int .i64, .int .i64, .int .i64, .lst tRange, .lst tWrite, .bool, .str]] vals st (fun p q => loopK impl_TxnOk_b0 Fuel (p.2.1, p.2.2.1, p.2.2.2.1, p.2.2.2.2.1, q.1.1, q.1.2.1, q.1.2.2.1, q.1.2.2.2.1, q.1.2.2.2.2.1, q.1.2.2.2.2.2.1, q.1.2.2.2.2.2.2.1, q.1.2.2.2.2.2.2.2.1) (Sum.elim (fun z => k .ret [.bp 0 0, .bool z.1, .lst tRange z.2.1, .int .i64 z.2.2.1, .int .i64 z.2.2.2.1] [.box [.int .i64 z.2.2.2.2.1, .int .i64 z.2.2.2.2.2.1, .int .i64 z.2.2.2.2.2.2.1, .int .i64 z.2.2.2.2.2.2.2.1, .lst tRange z.2.2.2.2.2.2.2.2.1, .lst tWrite z.2.2.2.2.2.2.2.2.2.1, .bool z.2.2.2.2.2.2.2.2.2.2.1, .str z.2.2.2.2.2.2.2.2.2.2.2]]) (fun z => k (.exit 0) [.bp 0 0, .bool z.1, .lst tRange z.2.1, .int .i64 z.2.2.1, .int .i64 z.2.2.2.1] [.box [.int .i64 z.2.2.2.2.1, .int .i64 z.2.2.2.2.2.1, .int .i64 z.2.2.2.2.2.2.1, .int .i64 z.2.2.2.2.2.2.2.1, .lst tRange z.2.2.2.2.2.2.2.2.1, .lst tWrite z.2.2.2.2.2.2.2.2.2.1, .bool z.2.2.2.2.2.2.2.2.2.2.1, .str z.2.2.2.2.2.2.2.2.2.2.2]])))
      (none)⟩
  | _ => none

def impl_TxnOk_jv5000011 : q32T → List AV := (fun x => [.bp 0 0, .bool x.1])
def impl_TxnOk_js5000011 : q32T → St := (fun x => [.box [.int .i64 x.2.1, .int .i64 x.2.2.1, .int .i64 x.2.2.2.1, .int .i64 x.2.2.2.2.1, .lst tRange x.2.2.2.2.2.1, .lst tWrite x.2.2.2.2.2.2.1, .bool x.2.2.2.2.2.2.2.1, .str x.2.2.2.2.2.2.2.2]])
def impl_TxnOk_je5000011 : q32T → Out × List AV × St := (fun z => (.ret, [.bp 0 0, .bool z.1], [.box [.int .i64 z.2.1, .int .i64 z.2.2.1, .int .i64 z.2.2.2.1, .int .i64 z.2.2.2.2.1, .lst tRange z.2.2.2.2.2.1, .lst tWrite z.2.2.2.2.2.2.1, .bool z.2.2.2.2.2.2.2.1, .str z.2.2.2.2.2.2.2.2]]))

theorem impl_TxnOk_jx5000011 (x : q32T) : exec G43 ⟨0, 93, impl_TxnOk_loops⟩ (loopBody Try.f45 5000011) (bodyK ⟨0, 93, impl_TxnOk_loops⟩ [1, 2] []) (setEs (deads 93) [1, 2] (impl_TxnOk_jv5000011 x)) (impl_TxnOk_js5000011 x) = impl_TxnOk_j5000011 x (fun z => some ⟨(impl_TxnOk_je5000011 z).1, (impl_TxnOk_je5000011 z).2.1, (impl_TxnOk_je5000011 z).2.2⟩) := by
  kernel_rfl

theorem impl_TxnOk_lo5000011 : ∀ sp, (impl_TxnOk_loops 5000011) = some sp → CutOk G43 ⟨0, 93, impl_TxnOk_loops⟩ sp (loopBody Try.f45 5000011) := by
  intro sp hsp vals st k r h
  cases hsp
  dsimp only at h
  rcases onPats_inv2 h with ⟨p, q, rfl, rfl, h⟩ | h
  · exact cut_runs impl_TxnOk_jp5000011 impl_TxnOk_jv5000011 impl_TxnOk_js5000011 impl_TxnOk_je5000011 impl_TxnOk_jx5000011 (p.2.1, q.1.1, q.1.2.1, q.1.2.2.1, q.1.2.2.2.1, q.1.2.2.2.2.1, q.1.2.2.2.2.2.1, q.1.2.2.2.2.2.2.1, q.1.2.2.2.2.2.2.2.1) _ k r (fun z => rfl) h
  cases h

def impl_TxnOk_jv5000009 : q32T → List AV := (fun x => [.bp 0 0, .bool x.1])
def impl_TxnOk_js5000009 : q32T → St := (fun x => [.box [.int .i64 x.2.1, .int .i64 x.2.2.1, .int .i64 x.2.2.2.1, .int .i64 x.2.2.2.2.1, .lst tRange x.2.2.2.2.2.1, .lst tWrite x.2.2.2.2.2.2.1, .bool x.2.2.2.2.2.2.2.1, .str x.2.2.2.2.2.2.2.2]])
def impl_TxnOk_je5000009 : q32T → Out × List AV × St := (fun z => (.ret, [.bp 0 0, .bool z.1], [.box [.int .i64 z.2.1, .int .i64 z.2.2.1, .int .i64 z.2.2.2.1, .int .i64 z.2.2.2.2.1, .lst tRange z.2.2.2.2.2.1, .lst tWrite z.2.2.2.2.2.2.1, .bool z.2.2.2.2.2.2.2.1, .str z.2.2.2.2.2.2.2.2]]))

theorem impl_TxnOk_jx5000009 (x : q32T) : exec G43 ⟨0, 93, impl_TxnOk_loops⟩ (loopBody Try.f45 5000009) (bodyK ⟨0, 93, impl_TxnOk_loops⟩ [1, 2] []) (setEs (deads 93) [1, 2] (impl_TxnOk_jv5000009 x)) (impl_TxnOk_js5000009 x) = impl_TxnOk_j5000009 x (fun z => some ⟨(impl_TxnOk_je5000009 z).1, (impl_TxnOk_je5000009 z).2.1, (impl_TxnOk_je5000009 z).2.2⟩) := by
  kernel_rfl

theorem impl_TxnOk_lo5000009 : ∀ sp, (impl_TxnOk_loops 5000009) = some sp → CutOk G43 ⟨0, 93, impl_TxnOk_loops⟩ sp (loopBody Try.f45 5000009) := by
  intro sp hsp vals st k r h
  cases hsp
  dsimp only at h
  rcases onPats_inv2 h with ⟨p, q, rfl, rfl, h⟩ | h
  · exact cut_runs impl_TxnOk_jp5000009 impl_TxnOk_jv5000009 impl_TxnOk_js5000009 impl_TxnOk_je5000009 impl_TxnOk_jx5000009 (p.2.1, q.1.1, q.1.2.1, q.1.2.2.1, q.1.2.2.2.1, q.1.2.2.2.2.1, q.1.2.2.2.2.2.1, q.1.2.2.2.2.2.2.1, q.1.2.2.2.2.2.2.2.1) _ k r (fun z => rfl) h
  cases h

def impl_TxnOk_v0 : q30T → List AV := (fun x => [.bp 0 0, .bool x.1, .lst tRange x.2.1, .int .i64 x.2.2.1, .int .i64 x.2.2.2.1])
def impl_TxnOk_s0 : q30T → St := (fun x => [.box [.int .i64 x.2.2.2.2.1, .int .i64 x.2.2.2.2.2.1, .int .i64 x.2.2.2.2.2.2.1, .int .i64 x.2.2.2.2.2.2.2.1, .lst tRange x.2.2.2.2.2.2.2.2.1, .lst tWrite x.2.2.2.2.2.2.2.2.2.1, .bool x.2.2.2.2.2.2.2.2.2.2.1, .str x.2.2.2.2.2.2.2.2.2.2.2]])
def impl_TxnOk_e0 : (q30T ⊕ q30T) → Out × List AV × St := (Sum.elim (fun z => (.ret, [.bp 0 0, .bool z.1, .lst tRange z.2.1, .int .i64 z.2.2.1, .int .i64 z.2.2.2.1], [.box [.int .i64 z.2.2.2.2.1, .int .i64 z.2.2.2.2.2.1, .int .i64 z.2.2.2.2.2.2.1, .int .i64 z.2.2.2.2.2.2.2.1, .lst tRange z.2.2.2.2.2.2.2.2.1, .lst tWrite z.2.2.2.2.2.2.2.2.2.1, .bool z.2.2.2.2.2.2.2.2.2.2.1, .str z.2.2.2.2.2.2.2.2.2.2.2]])) (fun z => ((.exit 0), [.bp 0 0, .bool z.1, .lst tRange z.2.1, .int .i64 z.2.2.1, .int .i64 z.2.2.2.1], [.box [.int .i64 z.2.2.2.2.1, .int .i64 z.2.2.2.2.2.1, .int .i64 z.2.2.2.2.2.2.1, .int .i64 z.2.2.2.2.2.2.2.1, .lst tRange z.2.2.2.2.2.2.2.2.1, .lst tWrite z.2.2.2.2.2.2.2.2.2.1, .bool z.2.2.2.2.2.2.2.2.2.2.1, .str z.2.2.2.2.2.2.2.2.2.2.2]])))

theorem impl_TxnOk_bx0 (x : q30T) : exec G43 ⟨0, 93, impl_TxnOk_loops⟩ (loopBody Try.f45 0) (bodyK ⟨0, 93, impl_TxnOk_loops⟩ [1, 2, 6, 7, 8] []) (setEs (deads 93) [1, 2, 6, 7, 8] (impl_TxnOk_v0 x)) (impl_TxnOk_s0 x) = impl_TxnOk_b0 x (Sum.elim (fun y => some ⟨.norm, impl_TxnOk_v0 y, impl_TxnOk_s0 y⟩) fun z => some ⟨(impl_TxnOk_e0 z).1, (impl_TxnOk_e0 z).2.1, (impl_TxnOk_e0 z).2.2⟩) := by
  kernel_rfl

theorem impl_TxnOk_lo0 : ∀ sp, (impl_TxnOk_loops 0) = some sp → LoopOk G43 ⟨0, 93, impl_TxnOk_loops⟩ sp (loopBody Try.f45 0) := by
  intro sp hsp vals st k r h
  cases hsp
  dsimp only at h
  rcases onPats_inv2 h with ⟨p, q, rfl, rfl, h⟩ | h
  · exact loop_runs2 impl_TxnOk_bp0 impl_TxnOk_v0 impl_TxnOk_s0 impl_TxnOk_e0 (fun z => by rcases z with z | z <;> (intro h; cases h)) impl_TxnOk_bx0 Fuel (p.2.1, p.2.2.1, p.2.2.2.1, p.2.2.2.2.1, q.1.1, q.1.2.1, q.1.2.2.1, q.1.2.2.2.1, q.1.2.2.2.2.1, q.1.2.2.2.2.2.1, q.1.2.2.2.2.2.2.1, q.1.2.2.2.2.2.2.2.1) _ k r (fun z => by rcases z with z | z <;> rfl) h
  cases h

theorem impl_TxnOk_y (a0 : Int) (a1 : Int) (a2 : Int) (a3 : Int) (a4 : (List dRange)) (a5 : (List dWrite)) (a6 : Bool) (a7 : ByteArray) : execFn G43 impl_TxnOk_loops Try.f45 [.agg [.int .i64 a0, .int .i64 a1, .int .i64 a2, .int .i64 a3, .lst tRange a4, .lst tWrite a5, .bool a6, .str a7]] [] = impl_TxnOk_k (a0, (a1, (a2, (a3, (a4, (a5, (a6, a7))))))) (fun (y : Bool) => some ⟨.ret, [.bool y], []⟩) := by rw [impl_TxnOk_e]; kernel_rfl

theorem impl_TxnOk_l : LoopsOk G43 ⟨0, 93, impl_TxnOk_loops⟩ (Try.f45.body.getD .skip) :=
  loopsOk_of (ids := [5000011, 5000009, 0]) (by kernel_rfl) (by kernel_rfl) ⟨impl_TxnOk_lo5000011, ⟨impl_TxnOk_lo5000009, ⟨impl_TxnOk_lo0, trivial⟩⟩⟩

theorem impl_TxnOk_c : Contract Try.prog 45 impl_TxnOk_g := by
  refine told G43_ok follows Try.func45 (c := Try.f45.body.getD .skip) (by kernel_rfl) ?_
  intro args s k r hk
  unfold impl_TxnOk_g at hk
  rcases onPats_inv hk with ⟨p, q, rfl, rfl⟩ | hk
  · exact ⟨impl_TxnOk_loops, impl_TxnOk_q p.1.1 p.1.2.1 p.1.2.2.1 p.1.2.2.2.1 p.1.2.2.2.2.1 p.1.2.2.2.2.2.1 p.1.2.2.2.2.2.2.1 p.1.2.2.2.2.2.2.2.1, impl_TxnOk_y p.1.1 p.1.2.1 p.1.2.2.1 p.1.2.2.2.1 p.1.2.2.2.2.1 p.1.2.2.2.2.2.1 p.1.2.2.2.2.2.2.1 p.1.2.2.2.2.2.2.2.1, impl_TxnOk_l⟩
  cases hk

def G44 : Glob := G43.add 45 impl_TxnOk_g

theorem G44_ok : GlobOk Try.prog G44 := G43_ok.add ⟨Try.f45, Try.func45, by kernel_rfl, by kernel_rfl⟩ impl_TxnOk_c



def impl_VarText_loops : Nat → Option LoopSpec
  | 0 => some ⟨[0, 4], [none, some (.int .u8)], fun vals st k => onPats [.int .i64, .own 0] [.arr (.int .u8)] vals st (fun p q => loopK impl_VarText_b0 Fuel (p.1, q.1) (fun z => k (.exit 0) [.int .i64 z.1, .own 0] [.arr (.int .u8) z.2]))
      (none)⟩
  | _ => none

def impl_VarText_v0 : (Int × (List Int)) → List AV := (fun x => [.int .i64 x.1, .own 0])
def impl_VarText_s0 : (Int × (List Int)) → St := (fun x => [.arr (.int .u8) x.2])
def impl_VarText_e0 : (Int × (List Int)) → Out × List AV × St := (fun z => ((.exit 0), [.int .i64 z.1, .own 0], [.arr (.int .u8) z.2]))

theorem impl_VarText_bx0 (x : (Int × (List Int))) : exec G44 ⟨0, 25, impl_VarText_loops⟩ (loopBody Try.f166 0) (bodyK ⟨0, 25, impl_VarText_loops⟩ [0, 4] [none, some (.int .u8)]) (setEs (deads 25) [0, 4] (impl_VarText_v0 x)) (impl_VarText_s0 x) = impl_VarText_b0 x (Sum.elim (fun y => some ⟨.norm, impl_VarText_v0 y, impl_VarText_s0 y⟩) fun z => some ⟨(impl_VarText_e0 z).1, (impl_VarText_e0 z).2.1, (impl_VarText_e0 z).2.2⟩) := by
  kernel_rfl

theorem impl_VarText_lo0 : ∀ sp, (impl_VarText_loops 0) = some sp → LoopOk G44 ⟨0, 25, impl_VarText_loops⟩ sp (loopBody Try.f166 0) := by
  intro sp hsp vals st k r h
  cases hsp
  dsimp only at h
  rcases onPats_inv2 h with ⟨p, q, rfl, rfl, h⟩ | h
  · exact loop_runs2 impl_VarText_bp0 impl_VarText_v0 impl_VarText_s0 impl_VarText_e0 (fun z => by (intro h; cases h)) impl_VarText_bx0 Fuel (p.1, q.1) _ k r (fun z => rfl) h
  cases h

theorem impl_VarText_y (a0 : Int) : execFn G44 impl_VarText_loops Try.f166 [.int .i64 a0] [] = impl_VarText_k a0 (fun (y : (ByteArray × Bool)) => some ⟨.ret, [.tup [.str y.1, .bool y.2]], []⟩) := by rw [impl_VarText_e]; kernel_rfl

theorem impl_VarText_l : LoopsOk G44 ⟨0, 25, impl_VarText_loops⟩ (Try.f166.body.getD .skip) :=
  loopsOk_of (ids := [0]) (by kernel_rfl) (by kernel_rfl) ⟨impl_VarText_lo0, trivial⟩

theorem impl_VarText_c : Contract Try.prog 166 impl_VarText_g := by
  refine told G44_ok follows Try.func166 (c := Try.f166.body.getD .skip) (by kernel_rfl) ?_
  intro args s k r hk
  unfold impl_VarText_g at hk
  rcases onPats_inv hk with ⟨p, q, rfl, rfl⟩ | hk
  · exact ⟨impl_VarText_loops, impl_VarText_q p.1, impl_VarText_y p.1, impl_VarText_l⟩
  cases hk

def G45 : Glob := G44.add 166 impl_VarText_g

theorem G45_ok : GlobOk Try.prog G45 := G44_ok.add ⟨Try.f166, Try.func166, by kernel_rfl, by kernel_rfl⟩ impl_VarText_c



def impl_plan_num_loops : Nat → Option LoopSpec
  | 0 => some ⟨[0, 8, 9, 10], [none, none, none, none, some (.int .u8)], fun vals st k => onPats [.bp 0 0, .lst (.int .i64), .int .i64, .int .i64] [.box [.own 1], .arr (.int .u8)] vals st (fun p q => loopK impl_plan_num_b0 Fuel (p.2.1, p.2.2.1, p.2.2.2.1, q.2.1) (fun z => k (.exit 0) [.bp 0 0, .lst (.int .i64) z.1, .int .i64 z.2.1, .int .i64 z.2.2.1] [.box [.own 1], .arr (.int .u8) z.2.2.2]))
      (none)⟩
  | _ => none

def impl_plan_num_v0 : q3T → List AV := (fun x => [.bp 0 0, .lst (.int .i64) x.1, .int .i64 x.2.1, .int .i64 x.2.2.1])
def impl_plan_num_s0 : q3T → St := (fun x => [.box [.own 1], .arr (.int .u8) x.2.2.2])
def impl_plan_num_e0 : q3T → Out × List AV × St := (fun z => ((.exit 0), [.bp 0 0, .lst (.int .i64) z.1, .int .i64 z.2.1, .int .i64 z.2.2.1], [.box [.own 1], .arr (.int .u8) z.2.2.2]))

theorem impl_plan_num_bx0 (x : q3T) : exec G45 ⟨1, 29, impl_plan_num_loops⟩ (loopBody Try.f95 0) (bodyK ⟨1, 29, impl_plan_num_loops⟩ [0, 8, 9, 10] [none, none, none, none, some (.int .u8)]) (setEs (deads 29) [0, 8, 9, 10] (impl_plan_num_v0 x)) (impl_plan_num_s0 x) = impl_plan_num_b0 x (Sum.elim (fun y => some ⟨.norm, impl_plan_num_v0 y, impl_plan_num_s0 y⟩) fun z => some ⟨(impl_plan_num_e0 z).1, (impl_plan_num_e0 z).2.1, (impl_plan_num_e0 z).2.2⟩) := by
  kernel_rfl

theorem impl_plan_num_lo0 : ∀ sp, (impl_plan_num_loops 0) = some sp → LoopOk G45 ⟨1, 29, impl_plan_num_loops⟩ sp (loopBody Try.f95 0) := by
  intro sp hsp vals st k r h
  cases hsp
  dsimp only at h
  rcases onPats_inv2 h with ⟨p, q, rfl, rfl, h⟩ | h
  · exact loop_runs2 impl_plan_num_bp0 impl_plan_num_v0 impl_plan_num_s0 impl_plan_num_e0 (fun z => by (intro h; cases h)) impl_plan_num_bx0 Fuel (p.2.1, p.2.2.1, p.2.2.2.1, q.2.1) _ k r (fun z => rfl) h
  cases h

theorem impl_plan_num_y (a0 : (List Int)) : execFn G45 impl_plan_num_loops Try.f95 [.bp 0 0, .lst (.int .i64) a0] [.box [.nilS]] = impl_plan_num_k a0 (fun (y : (List Int)) => some ⟨.ret, [.tup []], [.box [.own 1], .arr (.int .u8) y]⟩) := by rw [impl_plan_num_e]; kernel_rfl

theorem impl_plan_num_l : LoopsOk G45 ⟨1, 29, impl_plan_num_loops⟩ (Try.f95.body.getD .skip) :=
  loopsOk_of (ids := [0]) (by kernel_rfl) (by kernel_rfl) ⟨impl_plan_num_lo0, trivial⟩

def impl_plan_num_61bd_loops : Nat → Option LoopSpec
  | 0 => some ⟨[0, 8, 9, 10], [], fun vals st k => onPats [.bp 0 0, .lst (.int .i64), .int .i64, .int .i64] [.box [.own 1], .arr (.int .u8)] vals st (fun p q => loopK impl_plan_num_61bd_b0 Fuel (.inl (p.2.1, p.2.2.1, p.2.2.2.1, q.2.1)) (Sum.elim (fun z => k (.exit 0) [.bp 0 0, .lst (.int .i64) z.1, .int .i64 z.2.1, .int .i64 z.2.2.1] [.box [.own 1], .arr (.int .u8) z.2.2.2]) (fun z => k (.exit 0) [.bp 0 0, .lst (.int .i64) z.1, .int .i64 z.2.1, .int .i64 z.2.2.1] [.box [.own 2], .gone, .arr (.int .u8) z.2.2.2])))
      (onPats [.bp 0 0, .lst (.int .i64), .int .i64, .int .i64] [.box [.own 2], .gone, .arr (.int .u8)] vals st (fun p q => loopK impl_plan_num_61bd_b0 Fuel (.inr (p.2.1, p.2.2.1, p.2.2.2.1, q.2.2.1)) (Sum.elim (fun z => k (.exit 0) [.bp 0 0, .lst (.int .i64) z.1, .int .i64 z.2.1, .int .i64 z.2.2.1] [.box [.own 1], .arr (.int .u8) z.2.2.2]) (fun z => k (.exit 0) [.bp 0 0, .lst (.int .i64) z.1, .int .i64 z.2.1, .int .i64 z.2.2.1] [.box [.own 2], .gone, .arr (.int .u8) z.2.2.2])))
      (none))⟩
  | _ => none

def impl_plan_num_61bd_v0 : (q3T ⊕ q3T) → List AV := (Sum.elim (fun x => [.bp 0 0, .lst (.int .i64) x.1, .int .i64 x.2.1, .int .i64 x.2.2.1]) (fun x => [.bp 0 0, .lst (.int .i64) x.1, .int .i64 x.2.1, .int .i64 x.2.2.1]))
def impl_plan_num_61bd_s0 : (q3T ⊕ q3T) → St := (Sum.elim (fun x => [.box [.own 1], .arr (.int .u8) x.2.2.2]) (fun x => [.box [.own 2], .gone, .arr (.int .u8) x.2.2.2]))
def impl_plan_num_61bd_e0 : (q3T ⊕ q3T) → Out × List AV × St := (Sum.elim (fun z => ((.exit 0), [.bp 0 0, .lst (.int .i64) z.1, .int .i64 z.2.1, .int .i64 z.2.2.1], [.box [.own 1], .arr (.int .u8) z.2.2.2])) (fun z => ((.exit 0), [.bp 0 0, .lst (.int .i64) z.1, .int .i64 z.2.1, .int .i64 z.2.2.1], [.box [.own 2], .gone, .arr (.int .u8) z.2.2.2])))

theorem impl_plan_num_61bd_bx0 (x : (q3T ⊕ q3T)) : exec G45 ⟨2, 29, impl_plan_num_61bd_loops⟩ (loopBody Try.f95 0) (bodyK ⟨2, 29, impl_plan_num_61bd_loops⟩ [0, 8, 9, 10] []) (setEs (deads 29) [0, 8, 9, 10] (impl_plan_num_61bd_v0 x)) (impl_plan_num_61bd_s0 x) = impl_plan_num_61bd_b0 x (Sum.elim (fun y => some ⟨.norm, impl_plan_num_61bd_v0 y, impl_plan_num_61bd_s0 y⟩) fun z => some ⟨(impl_plan_num_61bd_e0 z).1, (impl_plan_num_61bd_e0 z).2.1, (impl_plan_num_61bd_e0 z).2.2⟩) := by
  rcases x with x | x <;> kernel_rfl

theorem impl_plan_num_61bd_lo0 : ∀ sp, (impl_plan_num_61bd_loops 0) = some sp → LoopOk G45 ⟨2, 29, impl_plan_num_61bd_loops⟩ sp (loopBody Try.f95 0) := by
  intro sp hsp vals st k r h
  cases hsp
  dsimp only at h
  rcases onPats_inv2 h with ⟨p, q, rfl, rfl, h⟩ | h
  · exact loop_runs2 impl_plan_num_61bd_bp0 impl_plan_num_61bd_v0 impl_plan_num_61bd_s0 impl_plan_num_61bd_e0 (fun z => by rcases z with z | z <;> (intro h; cases h)) impl_plan_num_61bd_bx0 Fuel (.inl (p.2.1, p.2.2.1, p.2.2.2.1, q.2.1)) _ k r (fun z => by rcases z with z | z <;> rfl) h
  rcases onPats_inv2 h with ⟨p, q, rfl, rfl, h⟩ | h
  · exact loop_runs2 impl_plan_num_61bd_bp0 impl_plan_num_61bd_v0 impl_plan_num_61bd_s0 impl_plan_num_61bd_e0 (fun z => by rcases z with z | z <;> (intro h; cases h)) impl_plan_num_61bd_bx0 Fuel (.inr (p.2.1, p.2.2.1, p.2.2.2.1, q.2.2.1)) _ k r (fun z => by rcases z with z | z <;> rfl) h
  cases h

theorem impl_plan_num_61bd_y (a0 : (List Int)) (a1 : (List Int)) : execFn G45 impl_plan_num_61bd_loops Try.f95 [.bp 0 0, .lst (.int .i64) a0] [.box [.own 1], .arr (.int .u8) a1] = impl_plan_num_61bd_k a0 a1 (Sum.elim (fun (y : (List Int)) => some ⟨.ret, [.tup []], [.box [.own 1], .arr (.int .u8) y]⟩) (fun (y : (List Int)) => some ⟨.ret, [.tup []], [.box [.own 2], .gone, .arr (.int .u8) y]⟩)) := by rw [impl_plan_num_61bd_e]; kernel_rfl

theorem impl_plan_num_61bd_l : LoopsOk G45 ⟨2, 29, impl_plan_num_61bd_loops⟩ (Try.f95.body.getD .skip) :=
  loopsOk_of (ids := [0]) (by kernel_rfl) (by kernel_rfl) ⟨impl_plan_num_61bd_lo0, trivial⟩

theorem impl_plan_num_c : Contract Try.prog 95 impl_plan_num_g := by
  refine told G45_ok follows Try.func95 (c := Try.f95.body.getD .skip) (by kernel_rfl) ?_
  intro args s k r hk
  unfold impl_plan_num_g at hk
  rcases onPats_inv hk with ⟨p, q, rfl, rfl⟩ | hk
  · exact ⟨impl_plan_num_loops, impl_plan_num_q p.2.1, impl_plan_num_y p.2.1, impl_plan_num_l⟩
  rcases onPats_inv hk with ⟨p, q, rfl, rfl⟩ | hk
  · exact ⟨impl_plan_num_61bd_loops, impl_plan_num_61bd_q p.2.1 q.2.1, impl_plan_num_61bd_y p.2.1 q.2.1, impl_plan_num_61bd_l⟩
  cases hk

def G46 : Glob := G45.add 95 impl_plan_num_g

theorem G46_ok : GlobOk Try.prog G46 := G45_ok.add ⟨Try.f95, Try.func95, by kernel_rfl, by kernel_rfl⟩ impl_plan_num_c



def impl_ShortText_loops : Nat → Option LoopSpec
  | _ => none

theorem impl_ShortText_y (a0 : ByteArray) : execFn G46 impl_ShortText_loops Try.f163 [.str a0] [] = impl_ShortText_k a0 (fun (y : (ByteArray × Bool)) => some ⟨.ret, [.tup [.str y.1, .bool y.2]], []⟩) := by rw [impl_ShortText_e]; kernel_rfl

theorem impl_ShortText_l : LoopsOk G46 ⟨0, 18, impl_ShortText_loops⟩ (Try.f163.body.getD .skip) :=
  loopsOk_of (ids := []) (by kernel_rfl) (by kernel_rfl) trivial

theorem impl_ShortText_c : Contract Try.prog 163 impl_ShortText_g := by
  refine told G46_ok follows Try.func163 (c := Try.f163.body.getD .skip) (by kernel_rfl) ?_
  intro args s k r hk
  unfold impl_ShortText_g at hk
  rcases onPats_inv hk with ⟨p, q, rfl, rfl⟩ | hk
  · exact ⟨impl_ShortText_loops, impl_ShortText_q p.1, impl_ShortText_y p.1, impl_ShortText_l⟩
  cases hk

def G47 : Glob := G46.add 163 impl_ShortText_g

theorem G47_ok : GlobOk Try.prog G47 := G46_ok.add ⟨Try.f163, Try.func163, by kernel_rfl, by kernel_rfl⟩ impl_ShortText_c



def impl_plan_text_loops : Nat → Option LoopSpec
  | 0 => some ⟨[0, 8, 9, 10], [], fun vals st k => onPats [.bp 0 0, .lst .str, .int .i64, .int .i64] [.box [.own 1], .arr (.int .u8)] vals st (fun p q => loopK impl_plan_text_b0 Fuel (.inl (p.2.1, p.2.2.1, p.2.2.2.1, q.2.1)) (Sum.elim (fun z => k (.exit 0) [.bp 0 0, .lst .str z.1, .int .i64 z.2.1, .int .i64 z.2.2.1] [.box [.own 1], .arr (.int .u8) z.2.2.2]) (fun z => k (.exit 0) [.bp 0 0, .lst .str z.1, .int .i64 z.2.1, .int .i64 z.2.2.1] [.box [.own 2], .gone, .arr (.int .u8) z.2.2.2])))
      (onPats [.bp 0 0, .lst .str, .int .i64, .int .i64] [.box [.own 2], .gone, .arr (.int .u8)] vals st (fun p q => loopK impl_plan_text_b0 Fuel (.inr (p.2.1, p.2.2.1, p.2.2.2.1, q.2.2.1)) (Sum.elim (fun z => k (.exit 0) [.bp 0 0, .lst .str z.1, .int .i64 z.2.1, .int .i64 z.2.2.1] [.box [.own 1], .arr (.int .u8) z.2.2.2]) (fun z => k (.exit 0) [.bp 0 0, .lst .str z.1, .int .i64 z.2.1, .int .i64 z.2.2.1] [.box [.own 2], .gone, .arr (.int .u8) z.2.2.2])))
      (none))⟩
  | _ => none

def impl_plan_text_v0 : (q2T ⊕ q2T) → List AV := (Sum.elim (fun x => [.bp 0 0, .lst .str x.1, .int .i64 x.2.1, .int .i64 x.2.2.1]) (fun x => [.bp 0 0, .lst .str x.1, .int .i64 x.2.1, .int .i64 x.2.2.1]))
def impl_plan_text_s0 : (q2T ⊕ q2T) → St := (Sum.elim (fun x => [.box [.own 1], .arr (.int .u8) x.2.2.2]) (fun x => [.box [.own 2], .gone, .arr (.int .u8) x.2.2.2]))
def impl_plan_text_e0 : (q2T ⊕ q2T) → Out × List AV × St := (Sum.elim (fun z => ((.exit 0), [.bp 0 0, .lst .str z.1, .int .i64 z.2.1, .int .i64 z.2.2.1], [.box [.own 1], .arr (.int .u8) z.2.2.2])) (fun z => ((.exit 0), [.bp 0 0, .lst .str z.1, .int .i64 z.2.1, .int .i64 z.2.2.1], [.box [.own 2], .gone, .arr (.int .u8) z.2.2.2])))

theorem impl_plan_text_bx0 (x : (q2T ⊕ q2T)) : exec G47 ⟨2, 29, impl_plan_text_loops⟩ (loopBody Try.f89 0) (bodyK ⟨2, 29, impl_plan_text_loops⟩ [0, 8, 9, 10] []) (setEs (deads 29) [0, 8, 9, 10] (impl_plan_text_v0 x)) (impl_plan_text_s0 x) = impl_plan_text_b0 x (Sum.elim (fun y => some ⟨.norm, impl_plan_text_v0 y, impl_plan_text_s0 y⟩) fun z => some ⟨(impl_plan_text_e0 z).1, (impl_plan_text_e0 z).2.1, (impl_plan_text_e0 z).2.2⟩) := by
  rcases x with x | x <;> kernel_rfl

theorem impl_plan_text_lo0 : ∀ sp, (impl_plan_text_loops 0) = some sp → LoopOk G47 ⟨2, 29, impl_plan_text_loops⟩ sp (loopBody Try.f89 0) := by
  intro sp hsp vals st k r h
  cases hsp
  dsimp only at h
  rcases onPats_inv2 h with ⟨p, q, rfl, rfl, h⟩ | h
  · exact loop_runs2 impl_plan_text_bp0 impl_plan_text_v0 impl_plan_text_s0 impl_plan_text_e0 (fun z => by rcases z with z | z <;> (intro h; cases h)) impl_plan_text_bx0 Fuel (.inl (p.2.1, p.2.2.1, p.2.2.2.1, q.2.1)) _ k r (fun z => by rcases z with z | z <;> rfl) h
  rcases onPats_inv2 h with ⟨p, q, rfl, rfl, h⟩ | h
  · exact loop_runs2 impl_plan_text_bp0 impl_plan_text_v0 impl_plan_text_s0 impl_plan_text_e0 (fun z => by rcases z with z | z <;> (intro h; cases h)) impl_plan_text_bx0 Fuel (.inr (p.2.1, p.2.2.1, p.2.2.2.1, q.2.2.1)) _ k r (fun z => by rcases z with z | z <;> rfl) h
  cases h

theorem impl_plan_text_y (a0 : (List ByteArray)) (a1 : (List Int)) : execFn G47 impl_plan_text_loops Try.f89 [.bp 0 0, .lst .str a0] [.box [.own 1], .arr (.int .u8) a1] = impl_plan_text_k a0 a1 (Sum.elim (fun (y : (List Int)) => some ⟨.ret, [.tup []], [.box [.own 1], .arr (.int .u8) y]⟩) (fun (y : (List Int)) => some ⟨.ret, [.tup []], [.box [.own 2], .gone, .arr (.int .u8) y]⟩)) := by rw [impl_plan_text_e]; kernel_rfl

theorem impl_plan_text_l : LoopsOk G47 ⟨2, 29, impl_plan_text_loops⟩ (Try.f89.body.getD .skip) :=
  loopsOk_of (ids := [0]) (by kernel_rfl) (by kernel_rfl) ⟨impl_plan_text_lo0, trivial⟩

theorem impl_plan_text_c : Contract Try.prog 89 impl_plan_text_g := by
  refine told G47_ok follows Try.func89 (c := Try.f89.body.getD .skip) (by kernel_rfl) ?_
  intro args s k r hk
  unfold impl_plan_text_g at hk
  rcases onPats_inv hk with ⟨p, q, rfl, rfl⟩ | hk
  · exact ⟨impl_plan_text_loops, impl_plan_text_q p.2.1 q.2.1, impl_plan_text_y p.2.1 q.2.1, impl_plan_text_l⟩
  cases hk

def G48 : Glob := G47.add 89 impl_plan_text_g

theorem G48_ok : GlobOk Try.prog G48 := G47_ok.add ⟨Try.f89, Try.func89, by kernel_rfl, by kernel_rfl⟩ impl_plan_text_c



def impl_plan_flag_loops : Nat → Option LoopSpec
  | 5000003 => some ⟨[0, 4], [], fun vals st k => onPats [.bp 0 0, .int .u8] [.box [.own 1], .arr (.int .u8)] vals st (fun p q => impl_plan_flag_j5000003 (p.2.1, q.2.1) (fun z => k .norm [.bp 0 0, .int .u8 z.1] [.box [.own 2], .gone, .arr (.int .u8) z.2]))
      (none)⟩
  | _ => none

def impl_plan_flag_jv5000003 : (Int × (List Int)) → List AV := (fun x => [.bp 0 0, .int .u8 x.1])
def impl_plan_flag_js5000003 : (Int × (List Int)) → St := (fun x => [.box [.own 1], .arr (.int .u8) x.2])
def impl_plan_flag_je5000003 : (Int × (List Int)) → Out × List AV × St := (fun z => (.norm, [.bp 0 0, .int .u8 z.1], [.box [.own 2], .gone, .arr (.int .u8) z.2]))

theorem impl_plan_flag_jx5000003 (x : (Int × (List Int))) : exec G48 ⟨2, 16, impl_plan_flag_loops⟩ (loopBody Try.f90 5000003) (bodyK ⟨2, 16, impl_plan_flag_loops⟩ [0, 4] []) (setEs (deads 16) [0, 4] (impl_plan_flag_jv5000003 x)) (impl_plan_flag_js5000003 x) = impl_plan_flag_j5000003 x (fun z => some ⟨(impl_plan_flag_je5000003 z).1, (impl_plan_flag_je5000003 z).2.1, (impl_plan_flag_je5000003 z).2.2⟩) := by
  kernel_rfl

theorem impl_plan_flag_lo5000003 : ∀ sp, (impl_plan_flag_loops 5000003) = some sp → CutOk G48 ⟨2, 16, impl_plan_flag_loops⟩ sp (loopBody Try.f90 5000003) := by
  intro sp hsp vals st k r h
  cases hsp
  dsimp only at h
  rcases onPats_inv2 h with ⟨p, q, rfl, rfl, h⟩ | h
  · exact cut_runs impl_plan_flag_jp5000003 impl_plan_flag_jv5000003 impl_plan_flag_js5000003 impl_plan_flag_je5000003 impl_plan_flag_jx5000003 (p.2.1, q.2.1) _ k r (fun z => rfl) h
  cases h

theorem impl_plan_flag_y (a0 : Bool) (a1 : (List Int)) : execFn G48 impl_plan_flag_loops Try.f90 [.bp 0 0, .bool a0] [.box [.own 1], .arr (.int .u8) a1] = impl_plan_flag_k a0 a1 (fun (y : (List Int)) => some ⟨.ret, [.tup []], [.box [.own 2], .gone, .arr (.int .u8) y]⟩) := by rw [impl_plan_flag_e]; kernel_rfl

theorem impl_plan_flag_l : LoopsOk G48 ⟨2, 16, impl_plan_flag_loops⟩ (Try.f90.body.getD .skip) :=
  loopsOk_of (ids := [5000003]) (by kernel_rfl) (by kernel_rfl) ⟨impl_plan_flag_lo5000003, trivial⟩

theorem impl_plan_flag_c : Contract Try.prog 90 impl_plan_flag_g := by
  refine told G48_ok follows Try.func90 (c := Try.f90.body.getD .skip) (by kernel_rfl) ?_
  intro args s k r hk
  unfold impl_plan_flag_g at hk
  rcases onPats_inv hk with ⟨p, q, rfl, rfl⟩ | hk
  · exact ⟨impl_plan_flag_loops, impl_plan_flag_q p.2.1 q.2.1, impl_plan_flag_y p.2.1 q.2.1, impl_plan_flag_l⟩
  cases hk

def G49 : Glob := G48.add 90 impl_plan_flag_g

theorem G49_ok : GlobOk Try.prog G49 := G48_ok.add ⟨Try.f90, Try.func90, by kernel_rfl, by kernel_rfl⟩ impl_plan_flag_c



def impl_TxnText_loops : Nat → Option LoopSpec
  | 0 => some ⟨[1, 4, 29, 30, 31], [], fun vals st k => onPats [.bp 0 0, .bp 1 0, .lst tRange, .int .i64, .int .i64] [.box [.int .i64, .int .i64, .int .i64, .int .i64, .lst tRange, .lst tWrite, .bool, .str], .box [.own 2], .arr (.int .u8)] vals st (fun p q => loopK impl_TxnText_b0 Fuel (p.2.2.1, p.2.2.2.1, p.2.2.2.2.1, q.1.1, q.1.2.1, q.1.2.2.1, q.1.2.2.2.1, q.1.2.2.2.2.1, q.1.2.2.2.2.2.1, q.1.2.2.2.2.2.2.1, q.1.2.2.2.2.2.2.2.1, q.2.2.1) (fun z => k (.exit 0) [.bp 0 0, .bp 1 0, .lst tRange z.1, .int .i64 z.2.1, .int .i64 z.2.2.1] [.box [.int .i64 z.2.2.2.1, .int .i64 z.2.2.2.2.1, .int .i64 z.2.2.2.2.2.1, .int .i64 z.2.2.2.2.2.2.1, .lst tRange z.2.2.2.2.2.2.2.1, .lst tWrite z.2.2.2.2.2.2.2.2.1, .bool z.2.2.2.2.2.2.2.2.2.1, .str z.2.2.2.2.2.2.2.2.2.2.1], .box [.own 2], .arr (.int .u8) z.2.2.2.2.2.2.2.2.2.2.2]))
      (none)⟩
  | 2 => some ⟨[1, 4, 50, 51, 52], [], fun vals st k => onPats [.bp 0 0, .bp 1 0, .lst tWrite, .int .i64, .int .i64] [.box [.int .i64, .int .i64, .int .i64, .int .i64, .lst tRange, .lst tWrite, .bool, .str], .box [.own 2], .arr (.int .u8)] vals st (fun p q => loopK impl_TxnText_b2 Fuel (p.2.2.1, p.2.2.2.1, p.2.2.2.2.1, q.1.1, q.1.2.1, q.1.2.2.1, q.1.2.2.2.1, q.1.2.2.2.2.1, q.1.2.2.2.2.2.1, q.1.2.2.2.2.2.2.1, q.1.2.2.2.2.2.2.2.1, q.2.2.1) (fun z => k (.exit 2) [.bp 0 0, .bp 1 0, .lst tWrite z.1, .int .i64 z.2.1, .int .i64 z.2.2.1] [.box [.int .i64 z.2.2.2.1, .int .i64 z.2.2.2.2.1, .int .i64 z.2.2.2.2.2.1, .int .i64 z.2.2.2.2.2.2.1, .lst tRange z.2.2.2.2.2.2.2.1, .lst tWrite z.2.2.2.2.2.2.2.2.1, .bool z.2.2.2.2.2.2.2.2.2.1, .str z.2.2.2.2.2.2.2.2.2.2.1], .box [.own 2], .arr (.int .u8) z.2.2.2.2.2.2.2.2.2.2.2]))
      (none)⟩
  | _ => none

def impl_TxnText_v0 : q7T → List AV := (fun x => [.bp 0 0, .bp 1 0, .lst tRange x.1, .int .i64 x.2.1, .int .i64 x.2.2.1])
def impl_TxnText_s0 : q7T → St := (fun x => [.box [.int .i64 x.2.2.2.1, .int .i64 x.2.2.2.2.1, .int .i64 x.2.2.2.2.2.1, .int .i64 x.2.2.2.2.2.2.1, .lst tRange x.2.2.2.2.2.2.2.1, .lst tWrite x.2.2.2.2.2.2.2.2.1, .bool x.2.2.2.2.2.2.2.2.2.1, .str x.2.2.2.2.2.2.2.2.2.2.1], .box [.own 2], .arr (.int .u8) x.2.2.2.2.2.2.2.2.2.2.2])
def impl_TxnText_e0 : q7T → Out × List AV × St := (fun z => ((.exit 0), [.bp 0 0, .bp 1 0, .lst tRange z.1, .int .i64 z.2.1, .int .i64 z.2.2.1], [.box [.int .i64 z.2.2.2.1, .int .i64 z.2.2.2.2.1, .int .i64 z.2.2.2.2.2.1, .int .i64 z.2.2.2.2.2.2.1, .lst tRange z.2.2.2.2.2.2.2.1, .lst tWrite z.2.2.2.2.2.2.2.2.1, .bool z.2.2.2.2.2.2.2.2.2.1, .str z.2.2.2.2.2.2.2.2.2.2.1], .box [.own 2], .arr (.int .u8) z.2.2.2.2.2.2.2.2.2.2.2]))

theorem impl_TxnText_bx0 (x : q7T) : exec G49 ⟨0, 82, impl_TxnText_loops⟩ (loopBody Try.f31 0) (bodyK ⟨0, 82, impl_TxnText_loops⟩ [1, 4, 29, 30, 31] []) (setEs (deads 82) [1, 4, 29, 30, 31] (impl_TxnText_v0 x)) (impl_TxnText_s0 x) = impl_TxnText_b0 x (Sum.elim (fun y => some ⟨.norm, impl_TxnText_v0 y, impl_TxnText_s0 y⟩) fun z => some ⟨(impl_TxnText_e0 z).1, (impl_TxnText_e0 z).2.1, (impl_TxnText_e0 z).2.2⟩) := by
  kernel_rfl

theorem impl_TxnText_lo0 : ∀ sp, (impl_TxnText_loops 0) = some sp → LoopOk G49 ⟨0, 82, impl_TxnText_loops⟩ sp (loopBody Try.f31 0) := by
  intro sp hsp vals st k r h
  cases hsp
  dsimp only at h
  rcases onPats_inv2 h with ⟨p, q, rfl, rfl, h⟩ | h
  · exact loop_runs2 impl_TxnText_bp0 impl_TxnText_v0 impl_TxnText_s0 impl_TxnText_e0 (fun z => by (intro h; cases h)) impl_TxnText_bx0 Fuel (p.2.2.1, p.2.2.2.1, p.2.2.2.2.1, q.1.1, q.1.2.1, q.1.2.2.1, q.1.2.2.2.1, q.1.2.2.2.2.1, q.1.2.2.2.2.2.1, q.1.2.2.2.2.2.2.1, q.1.2.2.2.2.2.2.2.1, q.2.2.1) _ k r (fun z => rfl) h
  cases h

def impl_TxnText_v2 : q28T → List AV := (fun x => [.bp 0 0, .bp 1 0, .lst tWrite x.1, .int .i64 x.2.1, .int .i64 x.2.2.1])
def impl_TxnText_s2 : q28T → St := (fun x => [.box [.int .i64 x.2.2.2.1, .int .i64 x.2.2.2.2.1, .int .i64 x.2.2.2.2.2.1, .int .i64 x.2.2.2.2.2.2.1, .lst tRange x.2.2.2.2.2.2.2.1, .lst tWrite x.2.2.2.2.2.2.2.2.1, .bool x.2.2.2.2.2.2.2.2.2.1, .str x.2.2.2.2.2.2.2.2.2.2.1], .box [.own 2], .arr (.int .u8) x.2.2.2.2.2.2.2.2.2.2.2])
def impl_TxnText_e2 : q28T → Out × List AV × St := (fun z => ((.exit 2), [.bp 0 0, .bp 1 0, .lst tWrite z.1, .int .i64 z.2.1, .int .i64 z.2.2.1], [.box [.int .i64 z.2.2.2.1, .int .i64 z.2.2.2.2.1, .int .i64 z.2.2.2.2.2.1, .int .i64 z.2.2.2.2.2.2.1, .lst tRange z.2.2.2.2.2.2.2.1, .lst tWrite z.2.2.2.2.2.2.2.2.1, .bool z.2.2.2.2.2.2.2.2.2.1, .str z.2.2.2.2.2.2.2.2.2.2.1], .box [.own 2], .arr (.int .u8) z.2.2.2.2.2.2.2.2.2.2.2]))

theorem impl_TxnText_bx2 (x : q28T) : exec G49 ⟨0, 82, impl_TxnText_loops⟩ (loopBody Try.f31 2) (bodyK ⟨0, 82, impl_TxnText_loops⟩ [1, 4, 50, 51, 52] []) (setEs (deads 82) [1, 4, 50, 51, 52] (impl_TxnText_v2 x)) (impl_TxnText_s2 x) = impl_TxnText_b2 x (Sum.elim (fun y => some ⟨.norm, impl_TxnText_v2 y, impl_TxnText_s2 y⟩) fun z => some ⟨(impl_TxnText_e2 z).1, (impl_TxnText_e2 z).2.1, (impl_TxnText_e2 z).2.2⟩) := by
  kernel_rfl

theorem impl_TxnText_lo2 : ∀ sp, (impl_TxnText_loops 2) = some sp → LoopOk G49 ⟨0, 82, impl_TxnText_loops⟩ sp (loopBody Try.f31 2) := by
  intro sp hsp vals st k r h
  cases hsp
  dsimp only at h
  rcases onPats_inv2 h with ⟨p, q, rfl, rfl, h⟩ | h
  · exact loop_runs2 impl_TxnText_bp2 impl_TxnText_v2 impl_TxnText_s2 impl_TxnText_e2 (fun z => by (intro h; cases h)) impl_TxnText_bx2 Fuel (p.2.2.1, p.2.2.2.1, p.2.2.2.2.1, q.1.1, q.1.2.1, q.1.2.2.1, q.1.2.2.2.1, q.1.2.2.2.2.1, q.1.2.2.2.2.2.1, q.1.2.2.2.2.2.2.1, q.1.2.2.2.2.2.2.2.1, q.2.2.1) _ k r (fun z => rfl) h
  cases h

theorem impl_TxnText_y (a0 : Int) (a1 : Int) (a2 : Int) (a3 : Int) (a4 : (List dRange)) (a5 : (List dWrite)) (a6 : Bool) (a7 : ByteArray) : execFn G49 impl_TxnText_loops Try.f31 [.agg [.int .i64 a0, .int .i64 a1, .int .i64 a2, .int .i64 a3, .lst tRange a4, .lst tWrite a5, .bool a6, .str a7]] [] = impl_TxnText_k (a0, (a1, (a2, (a3, (a4, (a5, (a6, a7))))))) (fun (y : (ByteArray × Bool)) => some ⟨.ret, [.tup [.str y.1, .bool y.2]], []⟩) := by rw [impl_TxnText_e]; kernel_rfl

theorem impl_TxnText_l : LoopsOk G49 ⟨0, 82, impl_TxnText_loops⟩ (Try.f31.body.getD .skip) :=
  loopsOk_of (ids := [0, 2]) (by kernel_rfl) (by kernel_rfl) ⟨impl_TxnText_lo0, ⟨impl_TxnText_lo2, trivial⟩⟩

theorem impl_TxnText_c : Contract Try.prog 31 impl_TxnText_g := by
  refine told G49_ok follows Try.func31 (c := Try.f31.body.getD .skip) (by kernel_rfl) ?_
  intro args s k r hk
  unfold impl_TxnText_g at hk
  rcases onPats_inv hk with ⟨p, q, rfl, rfl⟩ | hk
  · exact ⟨impl_TxnText_loops, impl_TxnText_q p.1.1 p.1.2.1 p.1.2.2.1 p.1.2.2.2.1 p.1.2.2.2.2.1 p.1.2.2.2.2.2.1 p.1.2.2.2.2.2.2.1 p.1.2.2.2.2.2.2.2.1, impl_TxnText_y p.1.1 p.1.2.1 p.1.2.2.1 p.1.2.2.2.1 p.1.2.2.2.2.1 p.1.2.2.2.2.2.1 p.1.2.2.2.2.2.2.1 p.1.2.2.2.2.2.2.2.1, impl_TxnText_l⟩
  cases hk

def G50 : Glob := G49.add 31 impl_TxnText_g

theorem G50_ok : GlobOk Try.prog G50 := G49_ok.add ⟨Try.f31, Try.func31, by kernel_rfl, by kernel_rfl⟩ impl_TxnText_c



def impl_sameText_loops : Nat → Option LoopSpec
  | _ => none

theorem impl_sameText_y (a0 : Int) (a1 : Int) (a2 : Int) (a3 : Int) (a4 : (List dRange)) (a5 : (List dWrite)) (a6 : Bool) (a7 : ByteArray) (a8 : Int) (a9 : Int) (a10 : Int) (a11 : Int) (a12 : (List dRange)) (a13 : (List dWrite)) (a14 : Bool) (a15 : ByteArray) : execFn G50 impl_sameText_loops Try.f144 [.agg [.int .i64 a0, .int .i64 a1, .int .i64 a2, .int .i64 a3, .lst tRange a4, .lst tWrite a5, .bool a6, .str a7], .agg [.int .i64 a8, .int .i64 a9, .int .i64 a10, .int .i64 a11, .lst tRange a12, .lst tWrite a13, .bool a14, .str a15]] [] = impl_sameText_k (a0, (a1, (a2, (a3, (a4, (a5, (a6, a7))))))) (a8, (a9, (a10, (a11, (a12, (a13, (a14, a15))))))) (fun (y : Bool) => some ⟨.ret, [.bool y], []⟩) := by rw [impl_sameText_e]; kernel_rfl

theorem impl_sameText_l : LoopsOk G50 ⟨0, 27, impl_sameText_loops⟩ (Try.f144.body.getD .skip) :=
  loopsOk_of (ids := []) (by kernel_rfl) (by kernel_rfl) trivial

theorem impl_sameText_c : Contract Try.prog 144 impl_sameText_g := by
  refine told G50_ok follows Try.func144 (c := Try.f144.body.getD .skip) (by kernel_rfl) ?_
  intro args s k r hk
  unfold impl_sameText_g at hk
  rcases onPats_inv hk with ⟨p, q, rfl, rfl⟩ | hk
  · exact ⟨impl_sameText_loops, impl_sameText_q p.1.1 p.1.2.1 p.1.2.2.1 p.1.2.2.2.1 p.1.2.2.2.2.1 p.1.2.2.2.2.2.1 p.1.2.2.2.2.2.2.1 p.1.2.2.2.2.2.2.2.1 p.2.1.1 p.2.1.2.1 p.2.1.2.2.1 p.2.1.2.2.2.1 p.2.1.2.2.2.2.1 p.2.1.2.2.2.2.2.1 p.2.1.2.2.2.2.2.2.1 p.2.1.2.2.2.2.2.2.2.1, impl_sameText_y p.1.1 p.1.2.1 p.1.2.2.1 p.1.2.2.2.1 p.1.2.2.2.2.1 p.1.2.2.2.2.2.1 p.1.2.2.2.2.2.2.1 p.1.2.2.2.2.2.2.2.1 p.2.1.1 p.2.1.2.1 p.2.1.2.2.1 p.2.1.2.2.2.1 p.2.1.2.2.2.2.1 p.2.1.2.2.2.2.2.1 p.2.1.2.2.2.2.2.2.1 p.2.1.2.2.2.2.2.2.2.1, impl_sameText_l⟩
  cases hk

def G51 : Glob := G50.add 144 impl_sameText_g

theorem G51_ok : GlobOk Try.prog G51 := G50_ok.add ⟨Try.f144, Try.func144, by kernel_rfl, by kernel_rfl⟩ impl_sameText_c



def slices_EqualFunc_Txn_sameText_loops : Nat → Option LoopSpec
  | 0 => some ⟨[1, 2, 6, 15, 16, 17], [], fun vals st k => onPats [.lst tTxn, .fn 144 [], .bool, .lst tTxn, .int .i64, .int .i64] [] vals st (fun p q => loopK slices_EqualFunc_Txn_sameText_b0 Fuel (p.1, p.2.2.1, p.2.2.2.1, p.2.2.2.2.1, p.2.2.2.2.2.1) (Sum.elim (fun z => k .ret [.lst tTxn z.1, .fn 144 [], .bool z.2.1, .lst tTxn z.2.2.1, .int .i64 z.2.2.2.1, .int .i64 z.2.2.2.2] []) (fun z => k (.exit 0) [.lst tTxn z.1, .fn 144 [], .bool z.2.1, .lst tTxn z.2.2.1, .int .i64 z.2.2.2.1, .int .i64 z.2.2.2.2] [])))
      (none)⟩
  | _ => none

def slices_EqualFunc_Txn_sameText_v0 : q10T → List AV := (fun x => [.lst tTxn x.1, .fn 144 [], .bool x.2.1, .lst tTxn x.2.2.1, .int .i64 x.2.2.2.1, .int .i64 x.2.2.2.2])
def slices_EqualFunc_Txn_sameText_s0 : q10T → St := (fun x => [])
def slices_EqualFunc_Txn_sameText_e0 : (q10T ⊕ q10T) → Out × List AV × St := (Sum.elim (fun z => (.ret, [.lst tTxn z.1, .fn 144 [], .bool z.2.1, .lst tTxn z.2.2.1, .int .i64 z.2.2.2.1, .int .i64 z.2.2.2.2], [])) (fun z => ((.exit 0), [.lst tTxn z.1, .fn 144 [], .bool z.2.1, .lst tTxn z.2.2.1, .int .i64 z.2.2.2.1, .int .i64 z.2.2.2.2], [])))

theorem slices_EqualFunc_Txn_sameText_bx0 (x : q10T) : exec G51 ⟨0, 32, slices_EqualFunc_Txn_sameText_loops⟩ (loopBody Try.f143 0) (bodyK ⟨0, 32, slices_EqualFunc_Txn_sameText_loops⟩ [1, 2, 6, 15, 16, 17] []) (setEs (deads 32) [1, 2, 6, 15, 16, 17] (slices_EqualFunc_Txn_sameText_v0 x)) (slices_EqualFunc_Txn_sameText_s0 x) = slices_EqualFunc_Txn_sameText_b0 x (Sum.elim (fun y => some ⟨.norm, slices_EqualFunc_Txn_sameText_v0 y, slices_EqualFunc_Txn_sameText_s0 y⟩) fun z => some ⟨(slices_EqualFunc_Txn_sameText_e0 z).1, (slices_EqualFunc_Txn_sameText_e0 z).2.1, (slices_EqualFunc_Txn_sameText_e0 z).2.2⟩) := by
  kernel_rfl

theorem slices_EqualFunc_Txn_sameText_lo0 : ∀ sp, (slices_EqualFunc_Txn_sameText_loops 0) = some sp → LoopOk G51 ⟨0, 32, slices_EqualFunc_Txn_sameText_loops⟩ sp (loopBody Try.f143 0) := by
  intro sp hsp vals st k r h
  cases hsp
  dsimp only at h
  rcases onPats_inv2 h with ⟨p, q, rfl, rfl, h⟩ | h
  · exact loop_runs2 slices_EqualFunc_Txn_sameText_bp0 slices_EqualFunc_Txn_sameText_v0 slices_EqualFunc_Txn_sameText_s0 slices_EqualFunc_Txn_sameText_e0 (fun z => by rcases z with z | z <;> (intro h; cases h)) slices_EqualFunc_Txn_sameText_bx0 Fuel (p.1, p.2.2.1, p.2.2.2.1, p.2.2.2.2.1, p.2.2.2.2.2.1) _ k r (fun z => by rcases z with z | z <;> rfl) h
  cases h

theorem slices_EqualFunc_Txn_sameText_y (a0 : (List dTxn)) (a1 : (List dTxn)) : execFn G51 slices_EqualFunc_Txn_sameText_loops Try.f143 [.lst tTxn a0, .lst tTxn a1, .fn 144 []] [] = slices_EqualFunc_Txn_sameText_k a0 a1 (fun (y : Bool) => some ⟨.ret, [.bool y], []⟩) := by rw [slices_EqualFunc_Txn_sameText_e]; kernel_rfl

theorem slices_EqualFunc_Txn_sameText_l : LoopsOk G51 ⟨0, 32, slices_EqualFunc_Txn_sameText_loops⟩ (Try.f143.body.getD .skip) :=
  loopsOk_of (ids := [0]) (by kernel_rfl) (by kernel_rfl) ⟨slices_EqualFunc_Txn_sameText_lo0, trivial⟩

theorem slices_EqualFunc_Txn_c : Contract Try.prog 143 slices_EqualFunc_Txn_g := by
  refine told G51_ok follows Try.func143 (c := Try.f143.body.getD .skip) (by kernel_rfl) ?_
  intro args s k r hk
  unfold slices_EqualFunc_Txn_g at hk
  rcases onPats_inv hk with ⟨p, q, rfl, rfl⟩ | hk
  · exact ⟨slices_EqualFunc_Txn_sameText_loops, slices_EqualFunc_Txn_sameText_q p.1 p.2.1, slices_EqualFunc_Txn_sameText_y p.1 p.2.1, slices_EqualFunc_Txn_sameText_l⟩
  cases hk

def G52 : Glob := G51.add 143 slices_EqualFunc_Txn_g

theorem G52_ok : GlobOk Try.prog G52 := G51_ok.add ⟨Try.f143, Try.func143, by kernel_rfl, by kernel_rfl⟩ slices_EqualFunc_Txn_c



def slices_Grow_Version_vn_loops : Nat → Option LoopSpec
  | 3000000 => some ⟨[], [some tVersion], fun _ _ _ => none⟩
  | _ => none

theorem slices_Grow_Version_vn_y (a0 : Int) : execFn G52 slices_Grow_Version_vn_loops Try.f229 [.nilS, .int .i64 a0] [] = slices_Grow_Version_vn_k a0 (fun (y : (List dVersion)) => some ⟨.ret, [.own 0], [.arr tVersion y]⟩) := by rw [slices_Grow_Version_vn_e]; kernel_rfl

theorem slices_Grow_Version_vn_l : LoopsOk G52 ⟨0, 27, slices_Grow_Version_vn_loops⟩ (Try.f229.body.getD .skip) :=
  loopsOk_of (ids := []) (by kernel_rfl) (by kernel_rfl) trivial

theorem slices_Grow_Version_c : Contract Try.prog 229 slices_Grow_Version_g := by
  refine told G52_ok follows Try.func229 (c := Try.f229.body.getD .skip) (by kernel_rfl) ?_
  intro args s k r hk
  unfold slices_Grow_Version_g at hk
  rcases onPats_inv hk with ⟨p, q, rfl, rfl⟩ | hk
  · exact ⟨slices_Grow_Version_vn_loops, slices_Grow_Version_vn_q p.2.1, slices_Grow_Version_vn_y p.2.1, slices_Grow_Version_vn_l⟩
  cases hk

def G53 : Glob := G52.add 229 slices_Grow_Version_g

theorem G53_ok : GlobOk Try.prog G53 := G52_ok.add ⟨Try.f229, Try.func229, by kernel_rfl, by kernel_rfl⟩ slices_Grow_Version_c



def slices_Concat_Version_loops : Nat → Option LoopSpec
  | 0 => some ⟨[0, 3, 9, 10, 11], [], fun vals st k => onPats [.lst (.slice tVersion), .int .i64, .lst (.slice tVersion), .int .i64, .int .i64] [] vals st (fun p q => loopK slices_Concat_Version_b0 Fuel (p.1, p.2.1, p.2.2.1, p.2.2.2.1, p.2.2.2.2.1) (fun z => k (.exit 0) [.lst (.slice tVersion) z.1, .int .i64 z.2.1, .lst (.slice tVersion) z.2.2.1, .int .i64 z.2.2.2.1, .int .i64 z.2.2.2.2] []))
      (none)⟩
  | 2 => some ⟨[6, 25, 26, 27], [], fun vals st k => onPats [.own 0, .lst (.slice tVersion), .int .i64, .int .i64] [.arr tVersion] vals st (fun p q => loopK slices_Concat_Version_b2 Fuel (p.2.1, p.2.2.1, p.2.2.2.1, q.1) (fun z => k (.exit 2) [.own 0, .lst (.slice tVersion) z.1, .int .i64 z.2.1, .int .i64 z.2.2.1] [.arr tVersion z.2.2.2]))
      (none)⟩
  | _ => none

def slices_Concat_Version_v0 : q0T → List AV := (fun x => [.lst (.slice tVersion) x.1, .int .i64 x.2.1, .lst (.slice tVersion) x.2.2.1, .int .i64 x.2.2.2.1, .int .i64 x.2.2.2.2])
def slices_Concat_Version_s0 : q0T → St := (fun x => [])
def slices_Concat_Version_e0 : q0T → Out × List AV × St := (fun z => ((.exit 0), [.lst (.slice tVersion) z.1, .int .i64 z.2.1, .lst (.slice tVersion) z.2.2.1, .int .i64 z.2.2.2.1, .int .i64 z.2.2.2.2], []))

theorem slices_Concat_Version_bx0 (x : q0T) : exec G53 ⟨0, 36, slices_Concat_Version_loops⟩ (loopBody Try.f205 0) (bodyK ⟨0, 36, slices_Concat_Version_loops⟩ [0, 3, 9, 10, 11] []) (setEs (deads 36) [0, 3, 9, 10, 11] (slices_Concat_Version_v0 x)) (slices_Concat_Version_s0 x) = slices_Concat_Version_b0 x (Sum.elim (fun y => some ⟨.norm, slices_Concat_Version_v0 y, slices_Concat_Version_s0 y⟩) fun z => some ⟨(slices_Concat_Version_e0 z).1, (slices_Concat_Version_e0 z).2.1, (slices_Concat_Version_e0 z).2.2⟩) := by
  kernel_rfl

theorem slices_Concat_Version_lo0 : ∀ sp, (slices_Concat_Version_loops 0) = some sp → LoopOk G53 ⟨0, 36, slices_Concat_Version_loops⟩ sp (loopBody Try.f205 0) := by
  intro sp hsp vals st k r h
  cases hsp
  dsimp only at h
  rcases onPats_inv2 h with ⟨p, q, rfl, rfl, h⟩ | h
  · exact loop_runs2 slices_Concat_Version_bp0 slices_Concat_Version_v0 slices_Concat_Version_s0 slices_Concat_Version_e0 (fun z => by (intro h; cases h)) slices_Concat_Version_bx0 Fuel (p.1, p.2.1, p.2.2.1, p.2.2.2.1, p.2.2.2.2.1) _ k r (fun z => rfl) h
  cases h

def slices_Concat_Version_v2 : q1T → List AV := (fun x => [.own 0, .lst (.slice tVersion) x.1, .int .i64 x.2.1, .int .i64 x.2.2.1])
def slices_Concat_Version_s2 : q1T → St := (fun x => [.arr tVersion x.2.2.2])
def slices_Concat_Version_e2 : q1T → Out × List AV × St := (fun z => ((.exit 2), [.own 0, .lst (.slice tVersion) z.1, .int .i64 z.2.1, .int .i64 z.2.2.1], [.arr tVersion z.2.2.2]))

theorem slices_Concat_Version_bx2 (x : q1T) : exec G53 ⟨0, 36, slices_Concat_Version_loops⟩ (loopBody Try.f205 2) (bodyK ⟨0, 36, slices_Concat_Version_loops⟩ [6, 25, 26, 27] []) (setEs (deads 36) [6, 25, 26, 27] (slices_Concat_Version_v2 x)) (slices_Concat_Version_s2 x) = slices_Concat_Version_b2 x (Sum.elim (fun y => some ⟨.norm, slices_Concat_Version_v2 y, slices_Concat_Version_s2 y⟩) fun z => some ⟨(slices_Concat_Version_e2 z).1, (slices_Concat_Version_e2 z).2.1, (slices_Concat_Version_e2 z).2.2⟩) := by
  kernel_rfl

theorem slices_Concat_Version_lo2 : ∀ sp, (slices_Concat_Version_loops 2) = some sp → LoopOk G53 ⟨0, 36, slices_Concat_Version_loops⟩ sp (loopBody Try.f205 2) := by
  intro sp hsp vals st k r h
  cases hsp
  dsimp only at h
  rcases onPats_inv2 h with ⟨p, q, rfl, rfl, h⟩ | h
  · exact loop_runs2 slices_Concat_Version_bp2 slices_Concat_Version_v2 slices_Concat_Version_s2 slices_Concat_Version_e2 (fun z => by (intro h; cases h)) slices_Concat_Version_bx2 Fuel (p.2.1, p.2.2.1, p.2.2.2.1, q.1) _ k r (fun z => rfl) h
  cases h

theorem slices_Concat_Version_y (a0 : (List (List dVersion))) : execFn G53 slices_Concat_Version_loops Try.f205 [.lst (.slice tVersion) a0] [] = slices_Concat_Version_k a0 (fun (y : (List dVersion)) => some ⟨.ret, [.own 0], [.arr tVersion y]⟩) := by rw [slices_Concat_Version_e]; kernel_rfl

theorem slices_Concat_Version_l : LoopsOk G53 ⟨0, 36, slices_Concat_Version_loops⟩ (Try.f205.body.getD .skip) :=
  loopsOk_of (ids := [0, 2]) (by kernel_rfl) (by kernel_rfl) ⟨slices_Concat_Version_lo0, ⟨slices_Concat_Version_lo2, trivial⟩⟩

theorem slices_Concat_Version_c : Contract Try.prog 205 slices_Concat_Version_g := by
  refine told G53_ok follows Try.func205 (c := Try.f205.body.getD .skip) (by kernel_rfl) ?_
  intro args s k r hk
  unfold slices_Concat_Version_g at hk
  rcases onPats_inv hk with ⟨p, q, rfl, rfl⟩ | hk
  · exact ⟨slices_Concat_Version_loops, slices_Concat_Version_q p.1, slices_Concat_Version_y p.1, slices_Concat_Version_l⟩
  cases hk

def G54 : Glob := G53.add 205 slices_Concat_Version_g

theorem G54_ok : GlobOk Try.prog G54 := G53_ok.add ⟨Try.f205, Try.func205, by kernel_rfl, by kernel_rfl⟩ slices_Concat_Version_c



def impl_allKeys_loops : Nat → Option LoopSpec
  | _ => none

theorem impl_allKeys_y  : execFn G54 impl_allKeys_loops Try.f204 [] [] = impl_allKeys_k  (fun (y : (ByteArray × ByteArray)) => some ⟨.ret, [.agg [.str y.1, .str y.2]], []⟩) := by rw [impl_allKeys_e]; kernel_rfl

theorem impl_allKeys_l : LoopsOk G54 ⟨0, 2, impl_allKeys_loops⟩ (Try.f204.body.getD .skip) :=
  loopsOk_of (ids := []) (by kernel_rfl) (by kernel_rfl) trivial

theorem impl_allKeys_c : Contract Try.prog 204 impl_allKeys_g := by
  refine told G54_ok follows Try.func204 (c := Try.f204.body.getD .skip) (by kernel_rfl) ?_
  intro args s k r hk
  unfold impl_allKeys_g at hk
  rcases onPats_inv hk with ⟨p, q, rfl, rfl⟩ | hk
  · exact ⟨impl_allKeys_loops, impl_allKeys_q , impl_allKeys_y , impl_allKeys_l⟩
  cases hk

def G55 : Glob := G54.add 204 impl_allKeys_g

theorem G55_ok : GlobOk Try.prog G55 := G54_ok.add ⟨Try.f204, Try.func204, by kernel_rfl, by kernel_rfl⟩ impl_allKeys_c



theorem slices_Sort_string_c : Contract Try.prog 72 slices_Sort_string_g := by
  intro args s k r hk
  unfold slices_Sort_string_g at hk
  rw [slices_Sort_string_vo_e] at hk
  unfold slices_Sort_string_vo_d at hk
  have e : Try.laysSort_ren.f 190 = 72 := by kernel_rfl
  exact e ▸ sort_contract Try.laysSort args s k r hk

def G56 : Glob := G55.add 72 slices_Sort_string_g

theorem G56_ok : GlobOk Try.prog G56 := G55_ok.add ⟨Try.f72, Try.func72, by kernel_rfl, by kernel_rfl⟩ slices_Sort_string_c



def slices_Compact_string_vo_loops : Nat → Option LoopSpec
  | 2 => some ⟨[0, 3, 4, 5], [], fun vals st k => onPats [.own 0, .int .i64, .win 0, .int .i64] [.arr .str] vals st (fun p q => loopK slices_Compact_string_vo_b2 Fuel (p.2.1, p.2.2.1, p.2.2.2.1, q.1) (fun z => k (.exit 2) [.own 0, .int .i64 z.1, .win 0 z.2.1, .int .i64 z.2.2.1] [.arr .str z.2.2.2]))
      (none)⟩
  | 0 => some ⟨[0, 2, 3], [none, some .str], fun vals st k => onPats [.own 0, .own 1, .int .i64] [.arr .str, .arr .str] vals st (fun p q => loopK slices_Compact_string_vo_b0 Fuel (p.2.2.1, q.1, q.2.1) (Sum.elim (fun z => k (.exit 0) [.own 0, .own 1, .int .i64 z.1] [.arr .str z.2.1, .arr .str z.2.2]) (fun z => k .ret [.own 0, .own 1, .int .i64 z.1] [.gone, .arr .str z.2])))
      (none)⟩
  | 2000006 => some ⟨[0, 2, 4, 6, 8, 10, 12, 14, 16, 18], [], fun _ _ _ => none⟩
  | 2000011 => some ⟨[0, 2, 4, 6, 8, 10, 12, 14, 16, 18], [], fun _ _ _ => none⟩
  | _ => none

def slices_Compact_string_vo_v2 : (Int × Nat × Int × (List ByteArray)) → List AV := (fun x => [.own 0, .int .i64 x.1, .win 0 x.2.1, .int .i64 x.2.2.1])
def slices_Compact_string_vo_s2 : (Int × Nat × Int × (List ByteArray)) → St := (fun x => [.arr .str x.2.2.2])
def slices_Compact_string_vo_e2 : (Int × Nat × Int × (List ByteArray)) → Out × List AV × St := (fun z => ((.exit 2), [.own 0, .int .i64 z.1, .win 0 z.2.1, .int .i64 z.2.2.1], [.arr .str z.2.2.2]))

theorem slices_Compact_string_vo_bx2 (x : (Int × Nat × Int × (List ByteArray))) : exec G56 ⟨1, 61, slices_Compact_string_vo_loops⟩ (loopBody Try.f73 2) (bodyK ⟨1, 61, slices_Compact_string_vo_loops⟩ [0, 3, 4, 5] []) (setEs (deads 61) [0, 3, 4, 5] (slices_Compact_string_vo_v2 x)) (slices_Compact_string_vo_s2 x) = slices_Compact_string_vo_b2 x (Sum.elim (fun y => some ⟨.norm, slices_Compact_string_vo_v2 y, slices_Compact_string_vo_s2 y⟩) fun z => some ⟨(slices_Compact_string_vo_e2 z).1, (slices_Compact_string_vo_e2 z).2.1, (slices_Compact_string_vo_e2 z).2.2⟩) := by
  kernel_rfl

theorem slices_Compact_string_vo_lo2 : ∀ sp, (slices_Compact_string_vo_loops 2) = some sp → LoopOk G56 ⟨1, 61, slices_Compact_string_vo_loops⟩ sp (loopBody Try.f73 2) := by
  intro sp hsp vals st k r h
  cases hsp
  dsimp only at h
  rcases onPats_inv2 h with ⟨p, q, rfl, rfl, h⟩ | h
  · exact loop_runs2 slices_Compact_string_vo_bp2 slices_Compact_string_vo_v2 slices_Compact_string_vo_s2 slices_Compact_string_vo_e2 (fun z => by (intro h; cases h)) slices_Compact_string_vo_bx2 Fuel (p.2.1, p.2.2.1, p.2.2.2.1, q.1) _ k r (fun z => rfl) h
  cases h

def slices_Compact_string_vo_v0 : q36T → List AV := (fun x => [.own 0, .own 1, .int .i64 x.1])
def slices_Compact_string_vo_s0 : q36T → St := (fun x => [.arr .str x.2.1, .arr .str x.2.2])
def slices_Compact_string_vo_e0 : (q36T ⊕ (Int × (List ByteArray))) → Out × List AV × St := (Sum.elim (fun z => ((.exit 0), [.own 0, .own 1, .int .i64 z.1], [.arr .str z.2.1, .arr .str z.2.2])) (fun z => (.ret, [.own 0, .own 1, .int .i64 z.1], [.gone, .arr .str z.2])))

theorem slices_Compact_string_vo_bx0 (x : q36T) : exec G56 ⟨1, 61, slices_Compact_string_vo_loops⟩ (loopBody Try.f73 0) (bodyK ⟨1, 61, slices_Compact_string_vo_loops⟩ [0, 2, 3] [none, some .str]) (setEs (deads 61) [0, 2, 3] (slices_Compact_string_vo_v0 x)) (slices_Compact_string_vo_s0 x) = slices_Compact_string_vo_b0 x (Sum.elim (fun y => some ⟨.norm, slices_Compact_string_vo_v0 y, slices_Compact_string_vo_s0 y⟩) fun z => some ⟨(slices_Compact_string_vo_e0 z).1, (slices_Compact_string_vo_e0 z).2.1, (slices_Compact_string_vo_e0 z).2.2⟩) := by
  kernel_rfl

theorem slices_Compact_string_vo_lo0 : ∀ sp, (slices_Compact_string_vo_loops 0) = some sp → LoopOk G56 ⟨1, 61, slices_Compact_string_vo_loops⟩ sp (loopBody Try.f73 0) := by
  intro sp hsp vals st k r h
  cases hsp
  dsimp only at h
  rcases onPats_inv2 h with ⟨p, q, rfl, rfl, h⟩ | h
  · exact loop_runs2 slices_Compact_string_vo_bp0 slices_Compact_string_vo_v0 slices_Compact_string_vo_s0 slices_Compact_string_vo_e0 (fun z => by rcases z with z | z <;> (intro h; cases h)) slices_Compact_string_vo_bx0 Fuel (p.2.2.1, q.1, q.2.1) _ k r (fun z => by rcases z with z | z <;> rfl) h
  cases h

theorem slices_Compact_string_vo_y (a0 : (List ByteArray)) : execFn G56 slices_Compact_string_vo_loops Try.f73 [.own 0] [.arr .str a0] = slices_Compact_string_vo_k a0 (Sum.elim (fun (y : (List ByteArray)) => some ⟨.ret, [.own 0], [.arr .str y]⟩) (fun (y : (List ByteArray)) => some ⟨.ret, [.own 1], [.gone, .arr .str y]⟩)) := by rw [slices_Compact_string_vo_e]; kernel_rfl

theorem slices_Compact_string_vo_l : LoopsOk G56 ⟨1, 61, slices_Compact_string_vo_loops⟩ (Try.f73.body.getD .skip) :=
  loopsOk_of (ids := [2, 0]) (by kernel_rfl) (by kernel_rfl) ⟨slices_Compact_string_vo_lo2, ⟨slices_Compact_string_vo_lo0, trivial⟩⟩

theorem slices_Compact_string_c : Contract Try.prog 73 slices_Compact_string_g := by
  refine told G56_ok follows Try.func73 (c := Try.f73.body.getD .skip) (by kernel_rfl) ?_
  intro args s k r hk
  unfold slices_Compact_string_g at hk
  rcases onPats_inv hk with ⟨p, q, rfl, rfl⟩ | hk
  · exact ⟨slices_Compact_string_vo_loops, slices_Compact_string_vo_q q.1, slices_Compact_string_vo_y q.1, slices_Compact_string_vo_l⟩
  cases hk

def G57 : Glob := G56.add 73 slices_Compact_string_g

theorem G57_ok : GlobOk Try.prog G57 := G56_ok.add ⟨Try.f73, Try.func73, by kernel_rfl, by kernel_rfl⟩ slices_Compact_string_c



def impl_keysOf_loops : Nat → Option LoopSpec
  | 0 => some ⟨[3, 6, 7, 8], [some .str], fun vals st k => onPats [.own 0, .lst tVersion, .int .i64, .int .i64] [.arr .str] vals st (fun p q => loopK impl_keysOf_b0 Fuel (p.2.1, p.2.2.1, p.2.2.2.1, q.1) (fun z => k (.exit 0) [.own 0, .lst tVersion z.1, .int .i64 z.2.1, .int .i64 z.2.2.1] [.arr .str z.2.2.2]))
      (none)⟩
  | _ => none

def impl_keysOf_v0 : q21T → List AV := (fun x => [.own 0, .lst tVersion x.1, .int .i64 x.2.1, .int .i64 x.2.2.1])
def impl_keysOf_s0 : q21T → St := (fun x => [.arr .str x.2.2.2])
def impl_keysOf_e0 : q21T → Out × List AV × St := (fun z => ((.exit 0), [.own 0, .lst tVersion z.1, .int .i64 z.2.1, .int .i64 z.2.2.1], [.arr .str z.2.2.2]))

theorem impl_keysOf_bx0 (x : q21T) : exec G57 ⟨0, 22, impl_keysOf_loops⟩ (loopBody Try.f71 0) (bodyK ⟨0, 22, impl_keysOf_loops⟩ [3, 6, 7, 8] [some .str]) (setEs (deads 22) [3, 6, 7, 8] (impl_keysOf_v0 x)) (impl_keysOf_s0 x) = impl_keysOf_b0 x (Sum.elim (fun y => some ⟨.norm, impl_keysOf_v0 y, impl_keysOf_s0 y⟩) fun z => some ⟨(impl_keysOf_e0 z).1, (impl_keysOf_e0 z).2.1, (impl_keysOf_e0 z).2.2⟩) := by
  kernel_rfl

theorem impl_keysOf_lo0 : ∀ sp, (impl_keysOf_loops 0) = some sp → LoopOk G57 ⟨0, 22, impl_keysOf_loops⟩ sp (loopBody Try.f71 0) := by
  intro sp hsp vals st k r h
  cases hsp
  dsimp only at h
  rcases onPats_inv2 h with ⟨p, q, rfl, rfl, h⟩ | h
  · exact loop_runs2 impl_keysOf_bp0 impl_keysOf_v0 impl_keysOf_s0 impl_keysOf_e0 (fun z => by (intro h; cases h)) impl_keysOf_bx0 Fuel (p.2.1, p.2.2.1, p.2.2.2.1, q.1) _ k r (fun z => rfl) h
  cases h

theorem impl_keysOf_y (a0 : (List dVersion)) : execFn G57 impl_keysOf_loops Try.f71 [.lst tVersion a0] [] = impl_keysOf_k a0 (fun (y : (List ByteArray)) => some ⟨.ret, [.own 0], [.arr .str y]⟩) := by rw [impl_keysOf_e]; kernel_rfl

theorem impl_keysOf_l : LoopsOk G57 ⟨0, 22, impl_keysOf_loops⟩ (Try.f71.body.getD .skip) :=
  loopsOk_of (ids := [0]) (by kernel_rfl) (by kernel_rfl) ⟨impl_keysOf_lo0, trivial⟩

theorem impl_keysOf_c : Contract Try.prog 71 impl_keysOf_g := by
  refine told G57_ok follows Try.func71 (c := Try.f71.body.getD .skip) (by kernel_rfl) ?_
  intro args s k r hk
  unfold impl_keysOf_g at hk
  rcases onPats_inv hk with ⟨p, q, rfl, rfl⟩ | hk
  · exact ⟨impl_keysOf_loops, impl_keysOf_q p.1, impl_keysOf_y p.1, impl_keysOf_l⟩
  cases hk

def G58 : Glob := G57.add 71 impl_keysOf_g

theorem G58_ok : GlobOk Try.prog G58 := G57_ok.add ⟨Try.f71, Try.func71, by kernel_rfl, by kernel_rfl⟩ impl_keysOf_c



def impl_lastAt_loops : Nat → Option LoopSpec
  | 0 => some ⟨[0, 1, 2, 7, 10, 11, 12], [], fun vals st k => onPats [.lst tVersion, .str, .int .i64, .int .i64, .lst tVersion, .int .i64, .int .i64] [] vals st (fun p q => loopK impl_lastAt_b0 Fuel (p.1, p.2.1, p.2.2.1, p.2.2.2.1, p.2.2.2.2.1, p.2.2.2.2.2.1, p.2.2.2.2.2.2.1) (fun z => k (.exit 0) [.lst tVersion z.1, .str z.2.1, .int .i64 z.2.2.1, .int .i64 z.2.2.2.1, .lst tVersion z.2.2.2.2.1, .int .i64 z.2.2.2.2.2.1, .int .i64 z.2.2.2.2.2.2] []))
      (none)⟩
  | 2000005 => some ⟨[0, 2, 4, 6, 8, 10, 12, 14, 16, 18, 20, 22, 24, 26, 28, 30, 32, 34, 36, 38, 40, 42, 44, 46], [], fun _ _ _ => none⟩
  | _ => none

def impl_lastAt_v0 : q16T → List AV := (fun x => [.lst tVersion x.1, .str x.2.1, .int .i64 x.2.2.1, .int .i64 x.2.2.2.1, .lst tVersion x.2.2.2.2.1, .int .i64 x.2.2.2.2.2.1, .int .i64 x.2.2.2.2.2.2])
def impl_lastAt_s0 : q16T → St := (fun x => [])
def impl_lastAt_e0 : q16T → Out × List AV × St := (fun z => ((.exit 0), [.lst tVersion z.1, .str z.2.1, .int .i64 z.2.2.1, .int .i64 z.2.2.2.1, .lst tVersion z.2.2.2.2.1, .int .i64 z.2.2.2.2.2.1, .int .i64 z.2.2.2.2.2.2], []))

theorem impl_lastAt_bx0 (x : q16T) : exec G58 ⟨0, 44, impl_lastAt_loops⟩ (loopBody Try.f185 0) (bodyK ⟨0, 44, impl_lastAt_loops⟩ [0, 1, 2, 7, 10, 11, 12] []) (setEs (deads 44) [0, 1, 2, 7, 10, 11, 12] (impl_lastAt_v0 x)) (impl_lastAt_s0 x) = impl_lastAt_b0 x (Sum.elim (fun y => some ⟨.norm, impl_lastAt_v0 y, impl_lastAt_s0 y⟩) fun z => some ⟨(impl_lastAt_e0 z).1, (impl_lastAt_e0 z).2.1, (impl_lastAt_e0 z).2.2⟩) := by
  kernel_rfl

theorem impl_lastAt_lo0 : ∀ sp, (impl_lastAt_loops 0) = some sp → LoopOk G58 ⟨0, 44, impl_lastAt_loops⟩ sp (loopBody Try.f185 0) := by
  intro sp hsp vals st k r h
  cases hsp
  dsimp only at h
  rcases onPats_inv2 h with ⟨p, q, rfl, rfl, h⟩ | h
  · exact loop_runs2 impl_lastAt_bp0 impl_lastAt_v0 impl_lastAt_s0 impl_lastAt_e0 (fun z => by (intro h; cases h)) impl_lastAt_bx0 Fuel (p.1, p.2.1, p.2.2.1, p.2.2.2.1, p.2.2.2.2.1, p.2.2.2.2.2.1, p.2.2.2.2.2.2.1) _ k r (fun z => rfl) h
  cases h

theorem impl_lastAt_y (a0 : (List dVersion)) (a1 : ByteArray) (a2 : Int) : execFn G58 impl_lastAt_loops Try.f185 [.lst tVersion a0, .str a1, .int .i64 a2] [] = impl_lastAt_k a0 a1 a2 (fun (y : Int) => some ⟨.ret, [.int .i64 y], []⟩) := by rw [impl_lastAt_e]; kernel_rfl

theorem impl_lastAt_l : LoopsOk G58 ⟨0, 44, impl_lastAt_loops⟩ (Try.f185.body.getD .skip) :=
  loopsOk_of (ids := [0]) (by kernel_rfl) (by kernel_rfl) ⟨impl_lastAt_lo0, trivial⟩

theorem impl_lastAt_c : Contract Try.prog 185 impl_lastAt_g := by
  refine told G58_ok follows Try.func185 (c := Try.f185.body.getD .skip) (by kernel_rfl) ?_
  intro args s k r hk
  unfold impl_lastAt_g at hk
  rcases onPats_inv hk with ⟨p, q, rfl, rfl⟩ | hk
  · exact ⟨impl_lastAt_loops, impl_lastAt_q p.1 p.2.1 p.2.2.1, impl_lastAt_y p.1 p.2.1 p.2.2.1, impl_lastAt_l⟩
  cases hk

def G59 : Glob := G58.add 185 impl_lastAt_g

theorem G59_ok : GlobOk Try.prog G59 := G58_ok.add ⟨Try.f185, Try.func185, by kernel_rfl, by kernel_rfl⟩ impl_lastAt_c



def impl_SeenAt_loops : Nat → Option LoopSpec
  | _ => none

theorem impl_SeenAt_y (a0 : (List dVersion)) (a1 : ByteArray) (a2 : Int) : execFn G59 impl_SeenAt_loops Try.f120 [.lst tVersion a0, .str a1, .int .i64 a2] [] = impl_SeenAt_k a0 a1 a2 (fun (y : (ByteArray × Bool)) => some ⟨.ret, [.tup [.str y.1, .bool y.2]], []⟩) := by rw [impl_SeenAt_e]; kernel_rfl

theorem impl_SeenAt_l : LoopsOk G59 ⟨0, 27, impl_SeenAt_loops⟩ (Try.f120.body.getD .skip) :=
  loopsOk_of (ids := []) (by kernel_rfl) (by kernel_rfl) trivial

theorem impl_SeenAt_c : Contract Try.prog 120 impl_SeenAt_g := by
  refine told G59_ok follows Try.func120 (c := Try.f120.body.getD .skip) (by kernel_rfl) ?_
  intro args s k r hk
  unfold impl_SeenAt_g at hk
  rcases onPats_inv hk with ⟨p, q, rfl, rfl⟩ | hk
  · exact ⟨impl_SeenAt_loops, impl_SeenAt_q p.1 p.2.1 p.2.2.1, impl_SeenAt_y p.1 p.2.1 p.2.2.1, impl_SeenAt_l⟩
  cases hk

def G60 : Glob := G59.add 120 impl_SeenAt_g

theorem G60_ok : GlobOk Try.prog G60 := G59_ok.add ⟨Try.f120, Try.func120, by kernel_rfl, by kernel_rfl⟩ impl_SeenAt_c



def impl_InRange_loops : Nat → Option LoopSpec
  | _ => none

theorem impl_InRange_y (a0 : ByteArray) (a1 : ByteArray) (a2 : ByteArray) : execFn G60 impl_InRange_loops Try.f74 [.agg [.str a0, .str a1], .str a2] [] = impl_InRange_k (a0, a1) a2 (fun (y : Bool) => some ⟨.ret, [.bool y], []⟩) := by rw [impl_InRange_e]; kernel_rfl

theorem impl_InRange_l : LoopsOk G60 ⟨0, 15, impl_InRange_loops⟩ (Try.f74.body.getD .skip) :=
  loopsOk_of (ids := []) (by kernel_rfl) (by kernel_rfl) trivial

theorem impl_InRange_c : Contract Try.prog 74 impl_InRange_g := by
  refine told G60_ok follows Try.func74 (c := Try.f74.body.getD .skip) (by kernel_rfl) ?_
  intro args s k r hk
  unfold impl_InRange_g at hk
  rcases onPats_inv hk with ⟨p, q, rfl, rfl⟩ | hk
  · exact ⟨impl_InRange_loops, impl_InRange_q p.1.1 p.1.2.1 p.2.1, impl_InRange_y p.1.1 p.1.2.1 p.2.1, impl_InRange_l⟩
  cases hk

def G61 : Glob := G60.add 74 impl_InRange_g

theorem G61_ok : GlobOk Try.prog G61 := G60_ok.add ⟨Try.f74, Try.func74, by kernel_rfl, by kernel_rfl⟩ impl_InRange_c



def impl_ScanAt_loops : Nat → Option LoopSpec
  | 0 => some ⟨[0, 2, 4, 7, 13, 14, 15], [none, none, none, some tRange], fun vals st k => onPats [.lst tVersion, .int .i64, .bp 0 0, .own 1, .own 2, .int .i64, .int .i64] [.box [.str, .str], .arr tRange, .arr .str] vals st (fun p q => loopK impl_ScanAt_b0 Fuel (p.1, p.2.1, p.2.2.2.2.2.1, p.2.2.2.2.2.2.1, q.1.1, q.1.2.1, q.2.1, q.2.2.1) (fun z => k (.exit 0) [.lst tVersion z.1, .int .i64 z.2.1, .bp 0 0, .own 1, .own 2, .int .i64 z.2.2.1, .int .i64 z.2.2.2.1] [.box [.str z.2.2.2.2.1, .str z.2.2.2.2.2.1], .arr tRange z.2.2.2.2.2.2.1, .arr .str z.2.2.2.2.2.2.2]))
      (none)⟩
  | _ => none

def impl_ScanAt_v0 : q23T → List AV := (fun x => [.lst tVersion x.1, .int .i64 x.2.1, .bp 0 0, .own 1, .own 2, .int .i64 x.2.2.1, .int .i64 x.2.2.2.1])
def impl_ScanAt_s0 : q23T → St := (fun x => [.box [.str x.2.2.2.2.1, .str x.2.2.2.2.2.1], .arr tRange x.2.2.2.2.2.2.1, .arr .str x.2.2.2.2.2.2.2])
def impl_ScanAt_e0 : q23T → Out × List AV × St := (fun z => ((.exit 0), [.lst tVersion z.1, .int .i64 z.2.1, .bp 0 0, .own 1, .own 2, .int .i64 z.2.2.1, .int .i64 z.2.2.2.1], [.box [.str z.2.2.2.2.1, .str z.2.2.2.2.2.1], .arr tRange z.2.2.2.2.2.2.1, .arr .str z.2.2.2.2.2.2.2]))

theorem impl_ScanAt_bx0 (x : q23T) : exec G61 ⟨0, 40, impl_ScanAt_loops⟩ (loopBody Try.f203 0) (bodyK ⟨0, 40, impl_ScanAt_loops⟩ [0, 2, 4, 7, 13, 14, 15] [none, none, none, some tRange]) (setEs (deads 40) [0, 2, 4, 7, 13, 14, 15] (impl_ScanAt_v0 x)) (impl_ScanAt_s0 x) = impl_ScanAt_b0 x (Sum.elim (fun y => some ⟨.norm, impl_ScanAt_v0 y, impl_ScanAt_s0 y⟩) fun z => some ⟨(impl_ScanAt_e0 z).1, (impl_ScanAt_e0 z).2.1, (impl_ScanAt_e0 z).2.2⟩) := by
  kernel_rfl

theorem impl_ScanAt_lo0 : ∀ sp, (impl_ScanAt_loops 0) = some sp → LoopOk G61 ⟨0, 40, impl_ScanAt_loops⟩ sp (loopBody Try.f203 0) := by
  intro sp hsp vals st k r h
  cases hsp
  dsimp only at h
  rcases onPats_inv2 h with ⟨p, q, rfl, rfl, h⟩ | h
  · exact loop_runs2 impl_ScanAt_bp0 impl_ScanAt_v0 impl_ScanAt_s0 impl_ScanAt_e0 (fun z => by (intro h; cases h)) impl_ScanAt_bx0 Fuel (p.1, p.2.1, p.2.2.2.2.2.1, p.2.2.2.2.2.2.1, q.1.1, q.1.2.1, q.2.1, q.2.2.1) _ k r (fun z => rfl) h
  cases h

theorem impl_ScanAt_y (a0 : (List dVersion)) (a1 : ByteArray) (a2 : ByteArray) (a3 : Int) : execFn G61 impl_ScanAt_loops Try.f203 [.lst tVersion a0, .agg [.str a1, .str a2], .int .i64 a3] [] = impl_ScanAt_k a0 (a1, a2) a3 (fun (y : (List dRange)) => some ⟨.ret, [.own 0], [.arr tRange y]⟩) := by rw [impl_ScanAt_e]; kernel_rfl

theorem impl_ScanAt_l : LoopsOk G61 ⟨0, 40, impl_ScanAt_loops⟩ (Try.f203.body.getD .skip) :=
  loopsOk_of (ids := [0]) (by kernel_rfl) (by kernel_rfl) ⟨impl_ScanAt_lo0, trivial⟩

theorem impl_ScanAt_c : Contract Try.prog 203 impl_ScanAt_g := by
  refine told G61_ok follows Try.func203 (c := Try.f203.body.getD .skip) (by kernel_rfl) ?_
  intro args s k r hk
  unfold impl_ScanAt_g at hk
  rcases onPats_inv hk with ⟨p, q, rfl, rfl⟩ | hk
  · exact ⟨impl_ScanAt_loops, impl_ScanAt_q p.1 p.2.1.1 p.2.1.2.1 p.2.2.1, impl_ScanAt_y p.1 p.2.1.1 p.2.1.2.1 p.2.2.1, impl_ScanAt_l⟩
  cases hk

def G62 : Glob := G61.add 203 impl_ScanAt_g

theorem G62_ok : GlobOk Try.prog G62 := G61_ok.add ⟨Try.f203, Try.func203, by kernel_rfl, by kernel_rfl⟩ impl_ScanAt_c



def slices_Equal_Pair_loops : Nat → Option LoopSpec
  | 0 => some ⟨[0, 1, 4, 12, 13], [], fun vals st k => onPats [.lst tRange, .lst tRange, .bool, .int .i64, .int .i64] [] vals st (fun p q => loopK slices_Equal_Pair_b0 Fuel (p.1, p.2.1, p.2.2.1, p.2.2.2.1, p.2.2.2.2.1) (Sum.elim (fun z => k .ret [.lst tRange z.1, .lst tRange z.2.1, .bool z.2.2.1, .int .i64 z.2.2.2.1, .int .i64 z.2.2.2.2] []) (fun z => k (.exit 0) [.lst tRange z.1, .lst tRange z.2.1, .bool z.2.2.1, .int .i64 z.2.2.2.1, .int .i64 z.2.2.2.2] [])))
      (none)⟩
  | 2000006 => some ⟨[0, 2, 4, 6, 8, 10, 12, 14, 16], [], fun _ _ _ => none⟩
  | _ => none

def slices_Equal_Pair_v0 : q4T → List AV := (fun x => [.lst tRange x.1, .lst tRange x.2.1, .bool x.2.2.1, .int .i64 x.2.2.2.1, .int .i64 x.2.2.2.2])
def slices_Equal_Pair_s0 : q4T → St := (fun x => [])
def slices_Equal_Pair_e0 : (q4T ⊕ q4T) → Out × List AV × St := (Sum.elim (fun z => (.ret, [.lst tRange z.1, .lst tRange z.2.1, .bool z.2.2.1, .int .i64 z.2.2.2.1, .int .i64 z.2.2.2.2], [])) (fun z => ((.exit 0), [.lst tRange z.1, .lst tRange z.2.1, .bool z.2.2.1, .int .i64 z.2.2.2.1, .int .i64 z.2.2.2.2], [])))

theorem slices_Equal_Pair_bx0 (x : q4T) : exec G62 ⟨0, 26, slices_Equal_Pair_loops⟩ (loopBody Try.f202 0) (bodyK ⟨0, 26, slices_Equal_Pair_loops⟩ [0, 1, 4, 12, 13] []) (setEs (deads 26) [0, 1, 4, 12, 13] (slices_Equal_Pair_v0 x)) (slices_Equal_Pair_s0 x) = slices_Equal_Pair_b0 x (Sum.elim (fun y => some ⟨.norm, slices_Equal_Pair_v0 y, slices_Equal_Pair_s0 y⟩) fun z => some ⟨(slices_Equal_Pair_e0 z).1, (slices_Equal_Pair_e0 z).2.1, (slices_Equal_Pair_e0 z).2.2⟩) := by
  kernel_rfl

theorem slices_Equal_Pair_lo0 : ∀ sp, (slices_Equal_Pair_loops 0) = some sp → LoopOk G62 ⟨0, 26, slices_Equal_Pair_loops⟩ sp (loopBody Try.f202 0) := by
  intro sp hsp vals st k r h
  cases hsp
  dsimp only at h
  rcases onPats_inv2 h with ⟨p, q, rfl, rfl, h⟩ | h
  · exact loop_runs2 slices_Equal_Pair_bp0 slices_Equal_Pair_v0 slices_Equal_Pair_s0 slices_Equal_Pair_e0 (fun z => by rcases z with z | z <;> (intro h; cases h)) slices_Equal_Pair_bx0 Fuel (p.1, p.2.1, p.2.2.1, p.2.2.2.1, p.2.2.2.2.1) _ k r (fun z => by rcases z with z | z <;> rfl) h
  cases h

theorem slices_Equal_Pair_y (a0 : (List dRange)) (a1 : (List dRange)) : execFn G62 slices_Equal_Pair_loops Try.f202 [.lst tRange a0, .lst tRange a1] [] = slices_Equal_Pair_k a0 a1 (fun (y : Bool) => some ⟨.ret, [.bool y], []⟩) := by rw [slices_Equal_Pair_e]; kernel_rfl

theorem slices_Equal_Pair_l : LoopsOk G62 ⟨0, 26, slices_Equal_Pair_loops⟩ (Try.f202.body.getD .skip) :=
  loopsOk_of (ids := [0]) (by kernel_rfl) (by kernel_rfl) ⟨slices_Equal_Pair_lo0, trivial⟩

theorem slices_Equal_Pair_c : Contract Try.prog 202 slices_Equal_Pair_g := by
  refine told G62_ok follows Try.func202 (c := Try.f202.body.getD .skip) (by kernel_rfl) ?_
  intro args s k r hk
  unfold slices_Equal_Pair_g at hk
  rcases onPats_inv hk with ⟨p, q, rfl, rfl⟩ | hk
  · exact ⟨slices_Equal_Pair_loops, slices_Equal_Pair_q p.1 p.2.1, slices_Equal_Pair_y p.1 p.2.1, slices_Equal_Pair_l⟩
  cases hk

def G63 : Glob := G62.add 202 slices_Equal_Pair_g

theorem G63_ok : GlobOk Try.prog G63 := G62_ok.add ⟨Try.f202, Try.func202, by kernel_rfl, by kernel_rfl⟩ slices_Equal_Pair_c



def impl_SameFrom_1_loops : Nat → Option LoopSpec
  | 2000001 => some ⟨[0, 4, 8, 12, 3, 7, 11, 15, 17, 18], [], fun _ _ _ => none⟩
  | _ => none

theorem impl_SameFrom_1_y (a0 : Int) (a1 : (List dVersion)) (a2 : (List dVersion)) : execFn G63 impl_SameFrom_1_loops Try.f201 [.int .i64 a0, .bp 0 0, .bp 1 0] [.box [.lst tVersion a1], .box [.lst tVersion a2]] = impl_SameFrom_1_k a0 a1 a2 (fun (y : q31T) => some ⟨.ret, [.bool y.1], [.box [.lst tVersion y.2.1], .box [.lst tVersion y.2.2]]⟩) := by rw [impl_SameFrom_1_e]; kernel_rfl

theorem impl_SameFrom_1_l : LoopsOk G63 ⟨2, 14, impl_SameFrom_1_loops⟩ (Try.f201.body.getD .skip) :=
  loopsOk_of (ids := []) (by kernel_rfl) (by kernel_rfl) trivial

theorem impl_SameFrom_1_c : Contract Try.prog 201 impl_SameFrom_1_g := by
  refine told G63_ok follows Try.func201 (c := Try.f201.body.getD .skip) (by kernel_rfl) ?_
  intro args s k r hk
  unfold impl_SameFrom_1_g at hk
  rcases onPats_inv hk with ⟨p, q, rfl, rfl⟩ | hk
  · exact ⟨impl_SameFrom_1_loops, impl_SameFrom_1_q p.1 q.1.1 q.2.1.1, impl_SameFrom_1_y p.1 q.1.1 q.2.1.1, impl_SameFrom_1_l⟩
  cases hk

def G64 : Glob := G63.add 201 impl_SameFrom_1_g

theorem G64_ok : GlobOk Try.prog G64 := G63_ok.add ⟨Try.f201, Try.func201, by kernel_rfl, by kernel_rfl⟩ impl_SameFrom_1_c



def impl_SameFrom_loops : Nat → Option LoopSpec
  | 0 => some ⟨[2, 6, 7, 14, 15, 16], [], fun vals st k => onPats [.int .i64, .bool, .fn 201 [.bp 0 0, .bp 1 0], .own 2, .int .i64, .int .i64] [.box [.lst tVersion], .box [.lst tVersion], .arr tVersion] vals st (fun p q => loopK impl_SameFrom_b0 Fuel (p.1, p.2.1, p.2.2.2.2.1, p.2.2.2.2.2.1, q.1.1, q.2.1.1, q.2.2.1) (Sum.elim (fun z => k .ret [.int .i64 z.1, .bool z.2.1, .fn 201 [.bp 0 0, .bp 1 0], .own 2, .int .i64 z.2.2.1, .int .i64 z.2.2.2.1] [.box [.lst tVersion z.2.2.2.2.1], .box [.lst tVersion z.2.2.2.2.2.1], .arr tVersion z.2.2.2.2.2.2]) (fun z => k (.exit 0) [.int .i64 z.1, .bool z.2.1, .fn 201 [.bp 0 0, .bp 1 0], .own 2, .int .i64 z.2.2.1, .int .i64 z.2.2.2.1] [.box [.lst tVersion z.2.2.2.2.1], .box [.lst tVersion z.2.2.2.2.2.1], .arr tVersion z.2.2.2.2.2.2])))
      (none)⟩
  | _ => none

def impl_SameFrom_v0 : q37T → List AV := (fun x => [.int .i64 x.1, .bool x.2.1, .fn 201 [.bp 0 0, .bp 1 0], .own 2, .int .i64 x.2.2.1, .int .i64 x.2.2.2.1])
def impl_SameFrom_s0 : q37T → St := (fun x => [.box [.lst tVersion x.2.2.2.2.1], .box [.lst tVersion x.2.2.2.2.2.1], .arr tVersion x.2.2.2.2.2.2])
def impl_SameFrom_e0 : (q37T ⊕ q37T) → Out × List AV × St := (Sum.elim (fun z => (.ret, [.int .i64 z.1, .bool z.2.1, .fn 201 [.bp 0 0, .bp 1 0], .own 2, .int .i64 z.2.2.1, .int .i64 z.2.2.2.1], [.box [.lst tVersion z.2.2.2.2.1], .box [.lst tVersion z.2.2.2.2.2.1], .arr tVersion z.2.2.2.2.2.2])) (fun z => ((.exit 0), [.int .i64 z.1, .bool z.2.1, .fn 201 [.bp 0 0, .bp 1 0], .own 2, .int .i64 z.2.2.1, .int .i64 z.2.2.2.1], [.box [.lst tVersion z.2.2.2.2.1], .box [.lst tVersion z.2.2.2.2.2.1], .arr tVersion z.2.2.2.2.2.2])))

theorem impl_SameFrom_bx0 (x : q37T) : exec G64 ⟨0, 35, impl_SameFrom_loops⟩ (loopBody Try.f145 0) (bodyK ⟨0, 35, impl_SameFrom_loops⟩ [2, 6, 7, 14, 15, 16] []) (setEs (deads 35) [2, 6, 7, 14, 15, 16] (impl_SameFrom_v0 x)) (impl_SameFrom_s0 x) = impl_SameFrom_b0 x (Sum.elim (fun y => some ⟨.norm, impl_SameFrom_v0 y, impl_SameFrom_s0 y⟩) fun z => some ⟨(impl_SameFrom_e0 z).1, (impl_SameFrom_e0 z).2.1, (impl_SameFrom_e0 z).2.2⟩) := by
  kernel_rfl

theorem impl_SameFrom_lo0 : ∀ sp, (impl_SameFrom_loops 0) = some sp → LoopOk G64 ⟨0, 35, impl_SameFrom_loops⟩ sp (loopBody Try.f145 0) := by
  intro sp hsp vals st k r h
  cases hsp
  dsimp only at h
  rcases onPats_inv2 h with ⟨p, q, rfl, rfl, h⟩ | h
  · exact loop_runs2 impl_SameFrom_bp0 impl_SameFrom_v0 impl_SameFrom_s0 impl_SameFrom_e0 (fun z => by rcases z with z | z <;> (intro h; cases h)) impl_SameFrom_bx0 Fuel (p.1, p.2.1, p.2.2.2.2.1, p.2.2.2.2.2.1, q.1.1, q.2.1.1, q.2.2.1) _ k r (fun z => by rcases z with z | z <;> rfl) h
  cases h

theorem impl_SameFrom_y (a0 : (List dVersion)) (a1 : (List dVersion)) (a2 : Int) : execFn G64 impl_SameFrom_loops Try.f145 [.lst tVersion a0, .lst tVersion a1, .int .i64 a2] [] = impl_SameFrom_k a0 a1 a2 (fun (y : Bool) => some ⟨.ret, [.bool y], []⟩) := by rw [impl_SameFrom_e]; kernel_rfl

theorem impl_SameFrom_l : LoopsOk G64 ⟨0, 35, impl_SameFrom_loops⟩ (Try.f145.body.getD .skip) :=
  loopsOk_of (ids := [0]) (by kernel_rfl) (by kernel_rfl) ⟨impl_SameFrom_lo0, trivial⟩

theorem impl_SameFrom_c : Contract Try.prog 145 impl_SameFrom_g := by
  refine told G64_ok follows Try.func145 (c := Try.f145.body.getD .skip) (by kernel_rfl) ?_
  intro args s k r hk
  unfold impl_SameFrom_g at hk
  rcases onPats_inv hk with ⟨p, q, rfl, rfl⟩ | hk
  · exact ⟨impl_SameFrom_loops, impl_SameFrom_q p.1 p.2.1 p.2.2.1, impl_SameFrom_y p.1 p.2.1 p.2.2.1, impl_SameFrom_l⟩
  cases hk

def G65 : Glob := G64.add 145 impl_SameFrom_g

theorem G65_ok : GlobOk Try.prog G65 := G64_ok.add ⟨Try.f145, Try.func145, by kernel_rfl, by kernel_rfl⟩ impl_SameFrom_c



def impl_LikeBase_loops : Nat → Option LoopSpec
  | _ => none

theorem impl_LikeBase_y (a0 : (List dVersion)) (a1 : (List dTxn)) (a2 : (List dTxn)) (a3 : Int) (a4 : Int) (a5 : (List dVersion)) (a6 : (List dTxn)) (a7 : (List dTxn)) (a8 : Int) (a9 : Int) : execFn G65 impl_LikeBase_loops Try.f62 [.agg [.lst tVersion a0, .lst tTxn a1, .lst tTxn a2, .int .i64 a3, .int .i64 a4], .agg [.lst tVersion a5, .lst tTxn a6, .lst tTxn a7, .int .i64 a8, .int .i64 a9]] [] = impl_LikeBase_k (a0, (a1, (a2, (a3, a4)))) (a5, (a6, (a7, (a8, a9)))) (fun (y : Bool) => some ⟨.ret, [.bool y], []⟩) := by rw [impl_LikeBase_e]; kernel_rfl

theorem impl_LikeBase_l : LoopsOk G65 ⟨0, 33, impl_LikeBase_loops⟩ (Try.f62.body.getD .skip) :=
  loopsOk_of (ids := []) (by kernel_rfl) (by kernel_rfl) trivial

theorem impl_LikeBase_c : Contract Try.prog 62 impl_LikeBase_g := by
  refine told G65_ok follows Try.func62 (c := Try.f62.body.getD .skip) (by kernel_rfl) ?_
  intro args s k r hk
  unfold impl_LikeBase_g at hk
  rcases onPats_inv hk with ⟨p, q, rfl, rfl⟩ | hk
  · exact ⟨impl_LikeBase_loops, impl_LikeBase_q p.1.1 p.1.2.1 p.1.2.2.1 p.1.2.2.2.1 p.1.2.2.2.2.1 p.2.1.1 p.2.1.2.1 p.2.1.2.2.1 p.2.1.2.2.2.1 p.2.1.2.2.2.2.1, impl_LikeBase_y p.1.1 p.1.2.1 p.1.2.2.1 p.1.2.2.2.1 p.1.2.2.2.2.1 p.2.1.1 p.2.1.2.1 p.2.1.2.2.1 p.2.1.2.2.2.1 p.2.1.2.2.2.2.1, impl_LikeBase_l⟩
  cases hk

def G66 : Glob := G65.add 62 impl_LikeBase_g

theorem G66_ok : GlobOk Try.prog G66 := G65_ok.add ⟨Try.f62, Try.func62, by kernel_rfl, by kernel_rfl⟩ impl_LikeBase_c



def laws_eqVersion_loops : Nat → Option LoopSpec
  | _ => none

theorem laws_eqVersion_y (a0 : ByteArray) (a1 : ByteArray) (a2 : Bool) (a3 : Int) (a4 : ByteArray) (a5 : ByteArray) (a6 : Bool) (a7 : Int) : execFn G66 laws_eqVersion_loops Try.f78 [.agg [.str a0, .str a1, .bool a2, .int .i64 a3], .agg [.str a4, .str a5, .bool a6, .int .i64 a7]] [] = laws_eqVersion_k (a0, (a1, (a2, a3))) (a4, (a5, (a6, a7))) (fun (y : Bool) => some ⟨.ret, [.bool y], []⟩) := by rw [laws_eqVersion_e]; kernel_rfl

theorem laws_eqVersion_l : LoopsOk G66 ⟨0, 25, laws_eqVersion_loops⟩ (Try.f78.body.getD .skip) :=
  loopsOk_of (ids := []) (by kernel_rfl) (by kernel_rfl) trivial

theorem laws_eqVersion_c : Contract Try.prog 78 laws_eqVersion_g := by
  refine told G66_ok follows Try.func78 (c := Try.f78.body.getD .skip) (by kernel_rfl) ?_
  intro args s k r hk
  unfold laws_eqVersion_g at hk
  rcases onPats_inv hk with ⟨p, q, rfl, rfl⟩ | hk
  · exact ⟨laws_eqVersion_loops, laws_eqVersion_q p.1.1 p.1.2.1 p.1.2.2.1 p.1.2.2.2.1 p.2.1.1 p.2.1.2.1 p.2.1.2.2.1 p.2.1.2.2.2.1, laws_eqVersion_y p.1.1 p.1.2.1 p.1.2.2.1 p.1.2.2.2.1 p.2.1.1 p.2.1.2.1 p.2.1.2.2.1 p.2.1.2.2.2.1, laws_eqVersion_l⟩
  cases hk

def G67 : Glob := G66.add 78 laws_eqVersion_g

theorem G67_ok : GlobOk Try.prog G67 := G66_ok.add ⟨Try.f78, Try.func78, by kernel_rfl, by kernel_rfl⟩ laws_eqVersion_c



def laws_eqVersionS_loops : Nat → Option LoopSpec
  | 0 => some ⟨[0, 1, 4, 5], [], fun vals st k => onPats [.lst tVersion, .lst tVersion, .bool, .int .i64] [] vals st (fun p q => loopK laws_eqVersionS_b0 Fuel (p.1, p.2.1, p.2.2.1, p.2.2.2.1) (Sum.elim (fun z => k .ret [.lst tVersion z.1, .lst tVersion z.2.1, .bool z.2.2.1, .int .i64 z.2.2.2] []) (fun z => k (.exit 0) [.lst tVersion z.1, .lst tVersion z.2.1, .bool z.2.2.1, .int .i64 z.2.2.2] [])))
      (none)⟩
  | 2000006 => some ⟨[0, 2, 4, 6, 8, 10, 12, 14, 16, 18], [], fun _ _ _ => none⟩
  | _ => none

def laws_eqVersionS_v0 : q13T → List AV := (fun x => [.lst tVersion x.1, .lst tVersion x.2.1, .bool x.2.2.1, .int .i64 x.2.2.2])
def laws_eqVersionS_s0 : q13T → St := (fun x => [])
def laws_eqVersionS_e0 : (q13T ⊕ q13T) → Out × List AV × St := (Sum.elim (fun z => (.ret, [.lst tVersion z.1, .lst tVersion z.2.1, .bool z.2.2.1, .int .i64 z.2.2.2], [])) (fun z => ((.exit 0), [.lst tVersion z.1, .lst tVersion z.2.1, .bool z.2.2.1, .int .i64 z.2.2.2], [])))

theorem laws_eqVersionS_bx0 (x : q13T) : exec G67 ⟨0, 27, laws_eqVersionS_loops⟩ (loopBody Try.f19 0) (bodyK ⟨0, 27, laws_eqVersionS_loops⟩ [0, 1, 4, 5] []) (setEs (deads 27) [0, 1, 4, 5] (laws_eqVersionS_v0 x)) (laws_eqVersionS_s0 x) = laws_eqVersionS_b0 x (Sum.elim (fun y => some ⟨.norm, laws_eqVersionS_v0 y, laws_eqVersionS_s0 y⟩) fun z => some ⟨(laws_eqVersionS_e0 z).1, (laws_eqVersionS_e0 z).2.1, (laws_eqVersionS_e0 z).2.2⟩) := by
  kernel_rfl

theorem laws_eqVersionS_lo0 : ∀ sp, (laws_eqVersionS_loops 0) = some sp → LoopOk G67 ⟨0, 27, laws_eqVersionS_loops⟩ sp (loopBody Try.f19 0) := by
  intro sp hsp vals st k r h
  cases hsp
  dsimp only at h
  rcases onPats_inv2 h with ⟨p, q, rfl, rfl, h⟩ | h
  · exact loop_runs2 laws_eqVersionS_bp0 laws_eqVersionS_v0 laws_eqVersionS_s0 laws_eqVersionS_e0 (fun z => by rcases z with z | z <;> (intro h; cases h)) laws_eqVersionS_bx0 Fuel (p.1, p.2.1, p.2.2.1, p.2.2.2.1) _ k r (fun z => by rcases z with z | z <;> rfl) h
  cases h

theorem laws_eqVersionS_y (a0 : (List dVersion)) (a1 : (List dVersion)) : execFn G67 laws_eqVersionS_loops Try.f19 [.lst tVersion a0, .lst tVersion a1] [] = laws_eqVersionS_k a0 a1 (fun (y : Bool) => some ⟨.ret, [.bool y], []⟩) := by rw [laws_eqVersionS_e]; kernel_rfl

theorem laws_eqVersionS_l : LoopsOk G67 ⟨0, 27, laws_eqVersionS_loops⟩ (Try.f19.body.getD .skip) :=
  loopsOk_of (ids := [0]) (by kernel_rfl) (by kernel_rfl) ⟨laws_eqVersionS_lo0, trivial⟩

theorem laws_eqVersionS_c : Contract Try.prog 19 laws_eqVersionS_g := by
  refine told G67_ok follows Try.func19 (c := Try.f19.body.getD .skip) (by kernel_rfl) ?_
  intro args s k r hk
  unfold laws_eqVersionS_g at hk
  rcases onPats_inv hk with ⟨p, q, rfl, rfl⟩ | hk
  · exact ⟨laws_eqVersionS_loops, laws_eqVersionS_q p.1 p.2.1, laws_eqVersionS_y p.1 p.2.1, laws_eqVersionS_l⟩
  cases hk

def G68 : Glob := G67.add 19 laws_eqVersionS_g

theorem G68_ok : GlobOk Try.prog G68 := G67_ok.add ⟨Try.f19, Try.func19, by kernel_rfl, by kernel_rfl⟩ laws_eqVersionS_c



def laws_eqRange_loops : Nat → Option LoopSpec
  | _ => none

theorem laws_eqRange_y (a0 : ByteArray) (a1 : ByteArray) (a2 : ByteArray) (a3 : ByteArray) : execFn G68 laws_eqRange_loops Try.f149 [.agg [.str a0, .str a1], .agg [.str a2, .str a3]] [] = laws_eqRange_k (a0, a1) (a2, a3) (fun (y : Bool) => some ⟨.ret, [.bool y], []⟩) := by rw [laws_eqRange_e]; kernel_rfl

theorem laws_eqRange_l : LoopsOk G68 ⟨0, 15, laws_eqRange_loops⟩ (Try.f149.body.getD .skip) :=
  loopsOk_of (ids := []) (by kernel_rfl) (by kernel_rfl) trivial

theorem laws_eqRange_c : Contract Try.prog 149 laws_eqRange_g := by
  refine told G68_ok follows Try.func149 (c := Try.f149.body.getD .skip) (by kernel_rfl) ?_
  intro args s k r hk
  unfold laws_eqRange_g at hk
  rcases onPats_inv hk with ⟨p, q, rfl, rfl⟩ | hk
  · exact ⟨laws_eqRange_loops, laws_eqRange_q p.1.1 p.1.2.1 p.2.1.1 p.2.1.2.1, laws_eqRange_y p.1.1 p.1.2.1 p.2.1.1 p.2.1.2.1, laws_eqRange_l⟩
  cases hk

def G69 : Glob := G68.add 149 laws_eqRange_g

theorem G69_ok : GlobOk Try.prog G69 := G68_ok.add ⟨Try.f149, Try.func149, by kernel_rfl, by kernel_rfl⟩ laws_eqRange_c



def laws_eqRangeS_loops : Nat → Option LoopSpec
  | 0 => some ⟨[0, 1, 4, 5], [], fun vals st k => onPats [.lst tRange, .lst tRange, .bool, .int .i64] [] vals st (fun p q => loopK laws_eqRangeS_b0 Fuel (p.1, p.2.1, p.2.2.1, p.2.2.2.1) (Sum.elim (fun z => k .ret [.lst tRange z.1, .lst tRange z.2.1, .bool z.2.2.1, .int .i64 z.2.2.2] []) (fun z => k (.exit 0) [.lst tRange z.1, .lst tRange z.2.1, .bool z.2.2.1, .int .i64 z.2.2.2] [])))
      (none)⟩
  | 2000006 => some ⟨[0, 2, 4, 6, 8, 10, 12, 14, 16, 18], [], fun _ _ _ => none⟩
  | _ => none

def laws_eqRangeS_v0 : q5T → List AV := (fun x => [.lst tRange x.1, .lst tRange x.2.1, .bool x.2.2.1, .int .i64 x.2.2.2])
def laws_eqRangeS_s0 : q5T → St := (fun x => [])
def laws_eqRangeS_e0 : (q5T ⊕ q5T) → Out × List AV × St := (Sum.elim (fun z => (.ret, [.lst tRange z.1, .lst tRange z.2.1, .bool z.2.2.1, .int .i64 z.2.2.2], [])) (fun z => ((.exit 0), [.lst tRange z.1, .lst tRange z.2.1, .bool z.2.2.1, .int .i64 z.2.2.2], [])))

theorem laws_eqRangeS_bx0 (x : q5T) : exec G69 ⟨0, 27, laws_eqRangeS_loops⟩ (loopBody Try.f76 0) (bodyK ⟨0, 27, laws_eqRangeS_loops⟩ [0, 1, 4, 5] []) (setEs (deads 27) [0, 1, 4, 5] (laws_eqRangeS_v0 x)) (laws_eqRangeS_s0 x) = laws_eqRangeS_b0 x (Sum.elim (fun y => some ⟨.norm, laws_eqRangeS_v0 y, laws_eqRangeS_s0 y⟩) fun z => some ⟨(laws_eqRangeS_e0 z).1, (laws_eqRangeS_e0 z).2.1, (laws_eqRangeS_e0 z).2.2⟩) := by
  kernel_rfl

theorem laws_eqRangeS_lo0 : ∀ sp, (laws_eqRangeS_loops 0) = some sp → LoopOk G69 ⟨0, 27, laws_eqRangeS_loops⟩ sp (loopBody Try.f76 0) := by
  intro sp hsp vals st k r h
  cases hsp
  dsimp only at h
  rcases onPats_inv2 h with ⟨p, q, rfl, rfl, h⟩ | h
  · exact loop_runs2 laws_eqRangeS_bp0 laws_eqRangeS_v0 laws_eqRangeS_s0 laws_eqRangeS_e0 (fun z => by rcases z with z | z <;> (intro h; cases h)) laws_eqRangeS_bx0 Fuel (p.1, p.2.1, p.2.2.1, p.2.2.2.1) _ k r (fun z => by rcases z with z | z <;> rfl) h
  cases h

theorem laws_eqRangeS_y (a0 : (List dRange)) (a1 : (List dRange)) : execFn G69 laws_eqRangeS_loops Try.f76 [.lst tRange a0, .lst tRange a1] [] = laws_eqRangeS_k a0 a1 (fun (y : Bool) => some ⟨.ret, [.bool y], []⟩) := by rw [laws_eqRangeS_e]; kernel_rfl

theorem laws_eqRangeS_l : LoopsOk G69 ⟨0, 27, laws_eqRangeS_loops⟩ (Try.f76.body.getD .skip) :=
  loopsOk_of (ids := [0]) (by kernel_rfl) (by kernel_rfl) ⟨laws_eqRangeS_lo0, trivial⟩

theorem laws_eqRangeS_c : Contract Try.prog 76 laws_eqRangeS_g := by
  refine told G69_ok follows Try.func76 (c := Try.f76.body.getD .skip) (by kernel_rfl) ?_
  intro args s k r hk
  unfold laws_eqRangeS_g at hk
  rcases onPats_inv hk with ⟨p, q, rfl, rfl⟩ | hk
  · exact ⟨laws_eqRangeS_loops, laws_eqRangeS_q p.1 p.2.1, laws_eqRangeS_y p.1 p.2.1, laws_eqRangeS_l⟩
  cases hk

def G70 : Glob := G69.add 76 laws_eqRangeS_g

theorem G70_ok : GlobOk Try.prog G70 := G69_ok.add ⟨Try.f76, Try.func76, by kernel_rfl, by kernel_rfl⟩ laws_eqRangeS_c



def laws_eqWrite_loops : Nat → Option LoopSpec
  | _ => none

theorem laws_eqWrite_y (a0 : ByteArray) (a1 : ByteArray) (a2 : Bool) (a3 : ByteArray) (a4 : ByteArray) (a5 : Bool) : execFn G70 laws_eqWrite_loops Try.f150 [.agg [.str a0, .str a1, .bool a2], .agg [.str a3, .str a4, .bool a5]] [] = laws_eqWrite_k (a0, (a1, a2)) (a3, (a4, a5)) (fun (y : Bool) => some ⟨.ret, [.bool y], []⟩) := by rw [laws_eqWrite_e]; kernel_rfl

theorem laws_eqWrite_l : LoopsOk G70 ⟨0, 20, laws_eqWrite_loops⟩ (Try.f150.body.getD .skip) :=
  loopsOk_of (ids := []) (by kernel_rfl) (by kernel_rfl) trivial

theorem laws_eqWrite_c : Contract Try.prog 150 laws_eqWrite_g := by
  refine told G70_ok follows Try.func150 (c := Try.f150.body.getD .skip) (by kernel_rfl) ?_
  intro args s k r hk
  unfold laws_eqWrite_g at hk
  rcases onPats_inv hk with ⟨p, q, rfl, rfl⟩ | hk
  · exact ⟨laws_eqWrite_loops, laws_eqWrite_q p.1.1 p.1.2.1 p.1.2.2.1 p.2.1.1 p.2.1.2.1 p.2.1.2.2.1, laws_eqWrite_y p.1.1 p.1.2.1 p.1.2.2.1 p.2.1.1 p.2.1.2.1 p.2.1.2.2.1, laws_eqWrite_l⟩
  cases hk

def G71 : Glob := G70.add 150 laws_eqWrite_g

theorem G71_ok : GlobOk Try.prog G71 := G70_ok.add ⟨Try.f150, Try.func150, by kernel_rfl, by kernel_rfl⟩ laws_eqWrite_c



def laws_eqWriteS_loops : Nat → Option LoopSpec
  | 0 => some ⟨[0, 1, 4, 5], [], fun vals st k => onPats [.lst tWrite, .lst tWrite, .bool, .int .i64] [] vals st (fun p q => loopK laws_eqWriteS_b0 Fuel (p.1, p.2.1, p.2.2.1, p.2.2.2.1) (Sum.elim (fun z => k .ret [.lst tWrite z.1, .lst tWrite z.2.1, .bool z.2.2.1, .int .i64 z.2.2.2] []) (fun z => k (.exit 0) [.lst tWrite z.1, .lst tWrite z.2.1, .bool z.2.2.1, .int .i64 z.2.2.2] [])))
      (none)⟩
  | 2000006 => some ⟨[0, 2, 4, 6, 8, 10, 12, 14, 16, 18], [], fun _ _ _ => none⟩
  | _ => none

def laws_eqWriteS_v0 : q25T → List AV := (fun x => [.lst tWrite x.1, .lst tWrite x.2.1, .bool x.2.2.1, .int .i64 x.2.2.2])
def laws_eqWriteS_s0 : q25T → St := (fun x => [])
def laws_eqWriteS_e0 : (q25T ⊕ q25T) → Out × List AV × St := (Sum.elim (fun z => (.ret, [.lst tWrite z.1, .lst tWrite z.2.1, .bool z.2.2.1, .int .i64 z.2.2.2], [])) (fun z => ((.exit 0), [.lst tWrite z.1, .lst tWrite z.2.1, .bool z.2.2.1, .int .i64 z.2.2.2], [])))

theorem laws_eqWriteS_bx0 (x : q25T) : exec G71 ⟨0, 27, laws_eqWriteS_loops⟩ (loopBody Try.f77 0) (bodyK ⟨0, 27, laws_eqWriteS_loops⟩ [0, 1, 4, 5] []) (setEs (deads 27) [0, 1, 4, 5] (laws_eqWriteS_v0 x)) (laws_eqWriteS_s0 x) = laws_eqWriteS_b0 x (Sum.elim (fun y => some ⟨.norm, laws_eqWriteS_v0 y, laws_eqWriteS_s0 y⟩) fun z => some ⟨(laws_eqWriteS_e0 z).1, (laws_eqWriteS_e0 z).2.1, (laws_eqWriteS_e0 z).2.2⟩) := by
  kernel_rfl

theorem laws_eqWriteS_lo0 : ∀ sp, (laws_eqWriteS_loops 0) = some sp → LoopOk G71 ⟨0, 27, laws_eqWriteS_loops⟩ sp (loopBody Try.f77 0) := by
  intro sp hsp vals st k r h
  cases hsp
  dsimp only at h
  rcases onPats_inv2 h with ⟨p, q, rfl, rfl, h⟩ | h
  · exact loop_runs2 laws_eqWriteS_bp0 laws_eqWriteS_v0 laws_eqWriteS_s0 laws_eqWriteS_e0 (fun z => by rcases z with z | z <;> (intro h; cases h)) laws_eqWriteS_bx0 Fuel (p.1, p.2.1, p.2.2.1, p.2.2.2.1) _ k r (fun z => by rcases z with z | z <;> rfl) h
  cases h

theorem laws_eqWriteS_y (a0 : (List dWrite)) (a1 : (List dWrite)) : execFn G71 laws_eqWriteS_loops Try.f77 [.lst tWrite a0, .lst tWrite a1] [] = laws_eqWriteS_k a0 a1 (fun (y : Bool) => some ⟨.ret, [.bool y], []⟩) := by rw [laws_eqWriteS_e]; kernel_rfl

theorem laws_eqWriteS_l : LoopsOk G71 ⟨0, 27, laws_eqWriteS_loops⟩ (Try.f77.body.getD .skip) :=
  loopsOk_of (ids := [0]) (by kernel_rfl) (by kernel_rfl) ⟨laws_eqWriteS_lo0, trivial⟩

theorem laws_eqWriteS_c : Contract Try.prog 77 laws_eqWriteS_g := by
  refine told G71_ok follows Try.func77 (c := Try.f77.body.getD .skip) (by kernel_rfl) ?_
  intro args s k r hk
  unfold laws_eqWriteS_g at hk
  rcases onPats_inv hk with ⟨p, q, rfl, rfl⟩ | hk
  · exact ⟨laws_eqWriteS_loops, laws_eqWriteS_q p.1 p.2.1, laws_eqWriteS_y p.1 p.2.1, laws_eqWriteS_l⟩
  cases hk

def G72 : Glob := G71.add 77 laws_eqWriteS_g

theorem G72_ok : GlobOk Try.prog G72 := G71_ok.add ⟨Try.f77, Try.func77, by kernel_rfl, by kernel_rfl⟩ laws_eqWriteS_c



def laws_eqTxn_loops : Nat → Option LoopSpec
  | _ => none

theorem laws_eqTxn_y (a0 : Int) (a1 : Int) (a2 : Int) (a3 : Int) (a4 : (List dRange)) (a5 : (List dWrite)) (a6 : Bool) (a7 : ByteArray) (a8 : Int) (a9 : Int) (a10 : Int) (a11 : Int) (a12 : (List dRange)) (a13 : (List dWrite)) (a14 : Bool) (a15 : ByteArray) : execFn G72 laws_eqTxn_loops Try.f18 [.agg [.int .i64 a0, .int .i64 a1, .int .i64 a2, .int .i64 a3, .lst tRange a4, .lst tWrite a5, .bool a6, .str a7], .agg [.int .i64 a8, .int .i64 a9, .int .i64 a10, .int .i64 a11, .lst tRange a12, .lst tWrite a13, .bool a14, .str a15]] [] = laws_eqTxn_k (a0, (a1, (a2, (a3, (a4, (a5, (a6, a7))))))) (a8, (a9, (a10, (a11, (a12, (a13, (a14, a15))))))) (fun (y : Bool) => some ⟨.ret, [.bool y], []⟩) := by rw [laws_eqTxn_e]; kernel_rfl

theorem laws_eqTxn_l : LoopsOk G72 ⟨0, 47, laws_eqTxn_loops⟩ (Try.f18.body.getD .skip) :=
  loopsOk_of (ids := []) (by kernel_rfl) (by kernel_rfl) trivial

theorem laws_eqTxn_c : Contract Try.prog 18 laws_eqTxn_g := by
  refine told G72_ok follows Try.func18 (c := Try.f18.body.getD .skip) (by kernel_rfl) ?_
  intro args s k r hk
  unfold laws_eqTxn_g at hk
  rcases onPats_inv hk with ⟨p, q, rfl, rfl⟩ | hk
  · exact ⟨laws_eqTxn_loops, laws_eqTxn_q p.1.1 p.1.2.1 p.1.2.2.1 p.1.2.2.2.1 p.1.2.2.2.2.1 p.1.2.2.2.2.2.1 p.1.2.2.2.2.2.2.1 p.1.2.2.2.2.2.2.2.1 p.2.1.1 p.2.1.2.1 p.2.1.2.2.1 p.2.1.2.2.2.1 p.2.1.2.2.2.2.1 p.2.1.2.2.2.2.2.1 p.2.1.2.2.2.2.2.2.1 p.2.1.2.2.2.2.2.2.2.1, laws_eqTxn_y p.1.1 p.1.2.1 p.1.2.2.1 p.1.2.2.2.1 p.1.2.2.2.2.1 p.1.2.2.2.2.2.1 p.1.2.2.2.2.2.2.1 p.1.2.2.2.2.2.2.2.1 p.2.1.1 p.2.1.2.1 p.2.1.2.2.1 p.2.1.2.2.2.1 p.2.1.2.2.2.2.1 p.2.1.2.2.2.2.2.1 p.2.1.2.2.2.2.2.2.1 p.2.1.2.2.2.2.2.2.2.1, laws_eqTxn_l⟩
  cases hk

def G73 : Glob := G72.add 18 laws_eqTxn_g

theorem G73_ok : GlobOk Try.prog G73 := G72_ok.add ⟨Try.f18, Try.func18, by kernel_rfl, by kernel_rfl⟩ laws_eqTxn_c



def laws_eqTxnS_loops : Nat → Option LoopSpec
  | 0 => some ⟨[0, 1, 4, 5], [], fun vals st k => onPats [.lst tTxn, .lst tTxn, .bool, .int .i64] [] vals st (fun p q => loopK laws_eqTxnS_b0 Fuel (p.1, p.2.1, p.2.2.1, p.2.2.2.1) (Sum.elim (fun z => k .ret [.lst tTxn z.1, .lst tTxn z.2.1, .bool z.2.2.1, .int .i64 z.2.2.2] []) (fun z => k (.exit 0) [.lst tTxn z.1, .lst tTxn z.2.1, .bool z.2.2.1, .int .i64 z.2.2.2] [])))
      (none)⟩
  | 2000006 => some ⟨[0, 2, 4, 6, 8, 10, 12, 14, 16, 18], [], fun _ _ _ => none⟩
  | _ => none

def laws_eqTxnS_v0 : q9T → List AV := (fun x => [.lst tTxn x.1, .lst tTxn x.2.1, .bool x.2.2.1, .int .i64 x.2.2.2])
def laws_eqTxnS_s0 : q9T → St := (fun x => [])
def laws_eqTxnS_e0 : (q9T ⊕ q9T) → Out × List AV × St := (Sum.elim (fun z => (.ret, [.lst tTxn z.1, .lst tTxn z.2.1, .bool z.2.2.1, .int .i64 z.2.2.2], [])) (fun z => ((.exit 0), [.lst tTxn z.1, .lst tTxn z.2.1, .bool z.2.2.1, .int .i64 z.2.2.2], [])))

theorem laws_eqTxnS_bx0 (x : q9T) : exec G73 ⟨0, 27, laws_eqTxnS_loops⟩ (loopBody Try.f134 0) (bodyK ⟨0, 27, laws_eqTxnS_loops⟩ [0, 1, 4, 5] []) (setEs (deads 27) [0, 1, 4, 5] (laws_eqTxnS_v0 x)) (laws_eqTxnS_s0 x) = laws_eqTxnS_b0 x (Sum.elim (fun y => some ⟨.norm, laws_eqTxnS_v0 y, laws_eqTxnS_s0 y⟩) fun z => some ⟨(laws_eqTxnS_e0 z).1, (laws_eqTxnS_e0 z).2.1, (laws_eqTxnS_e0 z).2.2⟩) := by
  kernel_rfl

theorem laws_eqTxnS_lo0 : ∀ sp, (laws_eqTxnS_loops 0) = some sp → LoopOk G73 ⟨0, 27, laws_eqTxnS_loops⟩ sp (loopBody Try.f134 0) := by
  intro sp hsp vals st k r h
  cases hsp
  dsimp only at h
  rcases onPats_inv2 h with ⟨p, q, rfl, rfl, h⟩ | h
  · exact loop_runs2 laws_eqTxnS_bp0 laws_eqTxnS_v0 laws_eqTxnS_s0 laws_eqTxnS_e0 (fun z => by rcases z with z | z <;> (intro h; cases h)) laws_eqTxnS_bx0 Fuel (p.1, p.2.1, p.2.2.1, p.2.2.2.1) _ k r (fun z => by rcases z with z | z <;> rfl) h
  cases h

theorem laws_eqTxnS_y (a0 : (List dTxn)) (a1 : (List dTxn)) : execFn G73 laws_eqTxnS_loops Try.f134 [.lst tTxn a0, .lst tTxn a1] [] = laws_eqTxnS_k a0 a1 (fun (y : Bool) => some ⟨.ret, [.bool y], []⟩) := by rw [laws_eqTxnS_e]; kernel_rfl

theorem laws_eqTxnS_l : LoopsOk G73 ⟨0, 27, laws_eqTxnS_loops⟩ (Try.f134.body.getD .skip) :=
  loopsOk_of (ids := [0]) (by kernel_rfl) (by kernel_rfl) ⟨laws_eqTxnS_lo0, trivial⟩

theorem laws_eqTxnS_c : Contract Try.prog 134 laws_eqTxnS_g := by
  refine told G73_ok follows Try.func134 (c := Try.f134.body.getD .skip) (by kernel_rfl) ?_
  intro args s k r hk
  unfold laws_eqTxnS_g at hk
  rcases onPats_inv hk with ⟨p, q, rfl, rfl⟩ | hk
  · exact ⟨laws_eqTxnS_loops, laws_eqTxnS_q p.1 p.2.1, laws_eqTxnS_y p.1 p.2.1, laws_eqTxnS_l⟩
  cases hk

def G74 : Glob := G73.add 134 laws_eqTxnS_g

theorem G74_ok : GlobOk Try.prog G74 := G73_ok.add ⟨Try.f134, Try.func134, by kernel_rfl, by kernel_rfl⟩ laws_eqTxnS_c



def laws_eqBase_loops : Nat → Option LoopSpec
  | _ => none

theorem laws_eqBase_y (a0 : (List dVersion)) (a1 : (List dTxn)) (a2 : (List dTxn)) (a3 : Int) (a4 : Int) (a5 : (List dVersion)) (a6 : (List dTxn)) (a7 : (List dTxn)) (a8 : Int) (a9 : Int) : execFn G74 laws_eqBase_loops Try.f63 [.agg [.lst tVersion a0, .lst tTxn a1, .lst tTxn a2, .int .i64 a3, .int .i64 a4], .agg [.lst tVersion a5, .lst tTxn a6, .lst tTxn a7, .int .i64 a8, .int .i64 a9]] [] = laws_eqBase_k (a0, (a1, (a2, (a3, a4)))) (a5, (a6, (a7, (a8, a9)))) (fun (y : Bool) => some ⟨.ret, [.bool y], []⟩) := by rw [laws_eqBase_e]; kernel_rfl

theorem laws_eqBase_l : LoopsOk G74 ⟨0, 33, laws_eqBase_loops⟩ (Try.f63.body.getD .skip) :=
  loopsOk_of (ids := []) (by kernel_rfl) (by kernel_rfl) trivial

theorem laws_eqBase_c : Contract Try.prog 63 laws_eqBase_g := by
  refine told G74_ok follows Try.func63 (c := Try.f63.body.getD .skip) (by kernel_rfl) ?_
  intro args s k r hk
  unfold laws_eqBase_g at hk
  rcases onPats_inv hk with ⟨p, q, rfl, rfl⟩ | hk
  · exact ⟨laws_eqBase_loops, laws_eqBase_q p.1.1 p.1.2.1 p.1.2.2.1 p.1.2.2.2.1 p.1.2.2.2.2.1 p.2.1.1 p.2.1.2.1 p.2.1.2.2.1 p.2.1.2.2.2.1 p.2.1.2.2.2.2.1, laws_eqBase_y p.1.1 p.1.2.1 p.1.2.2.1 p.1.2.2.2.1 p.1.2.2.2.2.1 p.2.1.1 p.2.1.2.1 p.2.1.2.2.1 p.2.1.2.2.2.1 p.2.1.2.2.2.2.1, laws_eqBase_l⟩
  cases hk

def G75 : Glob := G74.add 63 laws_eqBase_g

theorem G75_ok : GlobOk Try.prog G75 := G74_ok.add ⟨Try.f63, Try.func63, by kernel_rfl, by kernel_rfl⟩ laws_eqBase_c



def laws_FnExactLikeBase_loops : Nat → Option LoopSpec
  | _ => none

theorem laws_FnExactLikeBase_y (a0 : (List dVersion)) (a1 : (List dTxn)) (a2 : (List dTxn)) (a3 : Int) (a4 : Int) (a5 : (List dVersion)) (a6 : (List dTxn)) (a7 : (List dTxn)) (a8 : Int) (a9 : Int) : execFn G75 laws_FnExactLikeBase_loops Try.f8 [.agg [.lst tVersion a0, .lst tTxn a1, .lst tTxn a2, .int .i64 a3, .int .i64 a4], .agg [.lst tVersion a5, .lst tTxn a6, .lst tTxn a7, .int .i64 a8, .int .i64 a9]] [] = laws_FnExactLikeBase_k (a0, (a1, (a2, (a3, a4)))) (a5, (a6, (a7, (a8, a9)))) (fun (y : Bool) => some ⟨.ret, [.bool y], []⟩) := by rw [laws_FnExactLikeBase_e]; kernel_rfl

theorem laws_FnExactLikeBase_l : LoopsOk G75 ⟨0, 45, laws_FnExactLikeBase_loops⟩ (Try.f8.body.getD .skip) :=
  loopsOk_of (ids := []) (by kernel_rfl) (by kernel_rfl) trivial

theorem laws_FnExactLikeBase_c : Contract Try.prog 8 laws_FnExactLikeBase_g := by
  refine told G75_ok follows Try.func8 (c := Try.f8.body.getD .skip) (by kernel_rfl) ?_
  intro args s k r hk
  unfold laws_FnExactLikeBase_g at hk
  rcases onPats_inv hk with ⟨p, q, rfl, rfl⟩ | hk
  · exact ⟨laws_FnExactLikeBase_loops, laws_FnExactLikeBase_q p.1.1 p.1.2.1 p.1.2.2.1 p.1.2.2.2.1 p.1.2.2.2.2.1 p.2.1.1 p.2.1.2.1 p.2.1.2.2.1 p.2.1.2.2.2.1 p.2.1.2.2.2.2.1, laws_FnExactLikeBase_y p.1.1 p.1.2.1 p.1.2.2.1 p.1.2.2.2.1 p.1.2.2.2.2.1 p.2.1.1 p.2.1.2.1 p.2.1.2.2.1 p.2.1.2.2.2.1 p.2.1.2.2.2.2.1, laws_FnExactLikeBase_l⟩
  cases hk

def G76 : Glob := G75.add 8 laws_FnExactLikeBase_g

theorem G76_ok : GlobOk Try.prog G76 := G75_ok.add ⟨Try.f8, Try.func8, by kernel_rfl, by kernel_rfl⟩ laws_FnExactLikeBase_c

end

end Go.VE
