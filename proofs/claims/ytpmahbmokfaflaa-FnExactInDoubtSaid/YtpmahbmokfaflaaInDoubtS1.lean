/- Each function told by its native program; written by gen.py. -/

import Derived.Test.YtpmahbmokfaflaaInDoubtS0

namespace Go.VE

open Go.Proofs

noncomputable section

set_option linter.unusedVariables false
set_option linter.unusedSimpArgs false
set_option maxRecDepth 100000




def laws_szVersion_loops : Nat → Option LoopSpec
  | _ => none

theorem laws_szVersion_y (a0 : ByteArray) (a1 : ByteArray) (a2 : Bool) (a3 : Int) (a4 : Int) : execFn G0 laws_szVersion_loops Try.f192 [.agg [.str a0, .str a1, .bool a2, .int .i64 a3], .int .i64 a4] [] = laws_szVersion_k (a0, (a1, (a2, a3))) a4 (fun (y : Int) => some ⟨.ret, [.int .i64 y], []⟩) := by rw [laws_szVersion_e]; kernel_rfl

theorem laws_szVersion_l : LoopsOk G0 ⟨0, 20, laws_szVersion_loops⟩ (Try.f192.body.getD .skip) :=
  loopsOk_of (ids := []) (by kernel_rfl) (by kernel_rfl) trivial

theorem laws_szVersion_c : Contract Try.prog 192 laws_szVersion_g := by
  refine told G0_ok follows Try.func192 (c := Try.f192.body.getD .skip) (by kernel_rfl) ?_
  intro args s k r hk
  unfold laws_szVersion_g at hk
  rcases onPats_inv hk with ⟨p, q, rfl, rfl⟩ | hk
  · exact ⟨laws_szVersion_loops, laws_szVersion_q p.1.1 p.1.2.1 p.1.2.2.1 p.1.2.2.2.1 p.2.1, laws_szVersion_y p.1.1 p.1.2.1 p.1.2.2.1 p.1.2.2.2.1 p.2.1, laws_szVersion_l⟩
  cases hk

def G1 : Glob := G0.add 192 laws_szVersion_g

theorem G1_ok : GlobOk Try.prog G1 := G0_ok.add ⟨Try.f192, Try.func192, by kernel_rfl, by kernel_rfl⟩ laws_szVersion_c



def laws_szVersionS_loops : Nat → Option LoopSpec
  | 0 => some ⟨[0, 1, 4, 5], [], fun vals st k => onPats [.lst tVersion, .int .i64, .int .i64, .int .i64] [] vals st (fun p q => loopK laws_szVersionS_b0 Fuel (p.1, p.2.1, p.2.2.1, p.2.2.2.1) (Sum.elim (fun z => k .ret [.lst tVersion z.1, .int .i64 z.2.1, .int .i64 z.2.2.1, .int .i64 z.2.2.2] []) (fun z => k (.exit 0) [.lst tVersion z.1, .int .i64 z.2.1, .int .i64 z.2.2.1, .int .i64 z.2.2.2] [])))
      (none)⟩
  | _ => none

def laws_szVersionS_v0 : ((List dVersion) × Int × Int × Int) → List AV := (fun x => [.lst tVersion x.1, .int .i64 x.2.1, .int .i64 x.2.2.1, .int .i64 x.2.2.2])
def laws_szVersionS_s0 : ((List dVersion) × Int × Int × Int) → St := (fun x => [])
def laws_szVersionS_e0 : (((List dVersion) × Int × Int × Int) ⊕ ((List dVersion) × Int × Int × Int)) → Out × List AV × St := (Sum.elim (fun z => (.ret, [.lst tVersion z.1, .int .i64 z.2.1, .int .i64 z.2.2.1, .int .i64 z.2.2.2], [])) (fun z => ((.exit 0), [.lst tVersion z.1, .int .i64 z.2.1, .int .i64 z.2.2.1, .int .i64 z.2.2.2], [])))

theorem laws_szVersionS_bx0 (x : ((List dVersion) × Int × Int × Int)) : exec G1 ⟨0, 27, laws_szVersionS_loops⟩ (loopBody Try.f110 0) (bodyK ⟨0, 27, laws_szVersionS_loops⟩ [0, 1, 4, 5] []) (setEs (deads 27) [0, 1, 4, 5] (laws_szVersionS_v0 x)) (laws_szVersionS_s0 x) = laws_szVersionS_b0 x (Sum.elim (fun y => some ⟨.norm, laws_szVersionS_v0 y, laws_szVersionS_s0 y⟩) fun z => some ⟨(laws_szVersionS_e0 z).1, (laws_szVersionS_e0 z).2.1, (laws_szVersionS_e0 z).2.2⟩) := by
  kernel_rfl

theorem laws_szVersionS_lo0 : ∀ sp, (laws_szVersionS_loops 0) = some sp → LoopOk G1 ⟨0, 27, laws_szVersionS_loops⟩ sp (loopBody Try.f110 0) := by
  intro sp hsp vals st k r h
  cases hsp
  dsimp only at h
  rcases onPats_inv2 h with ⟨p, q, rfl, rfl, h⟩ | h
  · exact loop_runs2 laws_szVersionS_bp0 laws_szVersionS_v0 laws_szVersionS_s0 laws_szVersionS_e0 (fun z => by rcases z with z | z <;> (intro h; cases h)) laws_szVersionS_bx0 Fuel (p.1, p.2.1, p.2.2.1, p.2.2.2.1) _ k r (fun z => by rcases z with z | z <;> rfl) h
  cases h

theorem laws_szVersionS_y (a0 : (List dVersion)) (a1 : Int) : execFn G1 laws_szVersionS_loops Try.f110 [.lst tVersion a0, .int .i64 a1] [] = laws_szVersionS_k a0 a1 (fun (y : Int) => some ⟨.ret, [.int .i64 y], []⟩) := by rw [laws_szVersionS_e]; kernel_rfl

theorem laws_szVersionS_l : LoopsOk G1 ⟨0, 27, laws_szVersionS_loops⟩ (Try.f110.body.getD .skip) :=
  loopsOk_of (ids := [0]) (by kernel_rfl) (by kernel_rfl) ⟨laws_szVersionS_lo0, trivial⟩

theorem laws_szVersionS_c : Contract Try.prog 110 laws_szVersionS_g := by
  refine told G1_ok follows Try.func110 (c := Try.f110.body.getD .skip) (by kernel_rfl) ?_
  intro args s k r hk
  unfold laws_szVersionS_g at hk
  rcases onPats_inv hk with ⟨p, q, rfl, rfl⟩ | hk
  · exact ⟨laws_szVersionS_loops, laws_szVersionS_q p.1 p.2.1, laws_szVersionS_y p.1 p.2.1, laws_szVersionS_l⟩
  cases hk

def G2 : Glob := G1.add 110 laws_szVersionS_g

theorem G2_ok : GlobOk Try.prog G2 := G1_ok.add ⟨Try.f110, Try.func110, by kernel_rfl, by kernel_rfl⟩ laws_szVersionS_c



def laws_szRange_loops : Nat → Option LoopSpec
  | _ => none

theorem laws_szRange_y (a0 : ByteArray) (a1 : ByteArray) (a2 : Int) : execFn G2 laws_szRange_loops Try.f246 [.agg [.str a0, .str a1], .int .i64 a2] [] = laws_szRange_k (a0, a1) a2 (fun (y : Int) => some ⟨.ret, [.int .i64 y], []⟩) := by rw [laws_szRange_e]; kernel_rfl

theorem laws_szRange_l : LoopsOk G2 ⟨0, 20, laws_szRange_loops⟩ (Try.f246.body.getD .skip) :=
  loopsOk_of (ids := []) (by kernel_rfl) (by kernel_rfl) trivial

theorem laws_szRange_c : Contract Try.prog 246 laws_szRange_g := by
  refine told G2_ok follows Try.func246 (c := Try.f246.body.getD .skip) (by kernel_rfl) ?_
  intro args s k r hk
  unfold laws_szRange_g at hk
  rcases onPats_inv hk with ⟨p, q, rfl, rfl⟩ | hk
  · exact ⟨laws_szRange_loops, laws_szRange_q p.1.1 p.1.2.1 p.2.1, laws_szRange_y p.1.1 p.1.2.1 p.2.1, laws_szRange_l⟩
  cases hk

def G3 : Glob := G2.add 246 laws_szRange_g

theorem G3_ok : GlobOk Try.prog G3 := G2_ok.add ⟨Try.f246, Try.func246, by kernel_rfl, by kernel_rfl⟩ laws_szRange_c



def laws_szRangeS_loops : Nat → Option LoopSpec
  | 0 => some ⟨[0, 1, 4, 5], [], fun vals st k => onPats [.lst tRange, .int .i64, .int .i64, .int .i64] [] vals st (fun p q => loopK laws_szRangeS_b0 Fuel (p.1, p.2.1, p.2.2.1, p.2.2.2.1) (Sum.elim (fun z => k .ret [.lst tRange z.1, .int .i64 z.2.1, .int .i64 z.2.2.1, .int .i64 z.2.2.2] []) (fun z => k (.exit 0) [.lst tRange z.1, .int .i64 z.2.1, .int .i64 z.2.2.1, .int .i64 z.2.2.2] [])))
      (none)⟩
  | _ => none

def laws_szRangeS_v0 : ((List dRange) × Int × Int × Int) → List AV := (fun x => [.lst tRange x.1, .int .i64 x.2.1, .int .i64 x.2.2.1, .int .i64 x.2.2.2])
def laws_szRangeS_s0 : ((List dRange) × Int × Int × Int) → St := (fun x => [])
def laws_szRangeS_e0 : (((List dRange) × Int × Int × Int) ⊕ ((List dRange) × Int × Int × Int)) → Out × List AV × St := (Sum.elim (fun z => (.ret, [.lst tRange z.1, .int .i64 z.2.1, .int .i64 z.2.2.1, .int .i64 z.2.2.2], [])) (fun z => ((.exit 0), [.lst tRange z.1, .int .i64 z.2.1, .int .i64 z.2.2.1, .int .i64 z.2.2.2], [])))

theorem laws_szRangeS_bx0 (x : ((List dRange) × Int × Int × Int)) : exec G3 ⟨0, 27, laws_szRangeS_loops⟩ (loopBody Try.f180 0) (bodyK ⟨0, 27, laws_szRangeS_loops⟩ [0, 1, 4, 5] []) (setEs (deads 27) [0, 1, 4, 5] (laws_szRangeS_v0 x)) (laws_szRangeS_s0 x) = laws_szRangeS_b0 x (Sum.elim (fun y => some ⟨.norm, laws_szRangeS_v0 y, laws_szRangeS_s0 y⟩) fun z => some ⟨(laws_szRangeS_e0 z).1, (laws_szRangeS_e0 z).2.1, (laws_szRangeS_e0 z).2.2⟩) := by
  kernel_rfl

theorem laws_szRangeS_lo0 : ∀ sp, (laws_szRangeS_loops 0) = some sp → LoopOk G3 ⟨0, 27, laws_szRangeS_loops⟩ sp (loopBody Try.f180 0) := by
  intro sp hsp vals st k r h
  cases hsp
  dsimp only at h
  rcases onPats_inv2 h with ⟨p, q, rfl, rfl, h⟩ | h
  · exact loop_runs2 laws_szRangeS_bp0 laws_szRangeS_v0 laws_szRangeS_s0 laws_szRangeS_e0 (fun z => by rcases z with z | z <;> (intro h; cases h)) laws_szRangeS_bx0 Fuel (p.1, p.2.1, p.2.2.1, p.2.2.2.1) _ k r (fun z => by rcases z with z | z <;> rfl) h
  cases h

theorem laws_szRangeS_y (a0 : (List dRange)) (a1 : Int) : execFn G3 laws_szRangeS_loops Try.f180 [.lst tRange a0, .int .i64 a1] [] = laws_szRangeS_k a0 a1 (fun (y : Int) => some ⟨.ret, [.int .i64 y], []⟩) := by rw [laws_szRangeS_e]; kernel_rfl

theorem laws_szRangeS_l : LoopsOk G3 ⟨0, 27, laws_szRangeS_loops⟩ (Try.f180.body.getD .skip) :=
  loopsOk_of (ids := [0]) (by kernel_rfl) (by kernel_rfl) ⟨laws_szRangeS_lo0, trivial⟩

theorem laws_szRangeS_c : Contract Try.prog 180 laws_szRangeS_g := by
  refine told G3_ok follows Try.func180 (c := Try.f180.body.getD .skip) (by kernel_rfl) ?_
  intro args s k r hk
  unfold laws_szRangeS_g at hk
  rcases onPats_inv hk with ⟨p, q, rfl, rfl⟩ | hk
  · exact ⟨laws_szRangeS_loops, laws_szRangeS_q p.1 p.2.1, laws_szRangeS_y p.1 p.2.1, laws_szRangeS_l⟩
  cases hk

def G4 : Glob := G3.add 180 laws_szRangeS_g

theorem G4_ok : GlobOk Try.prog G4 := G3_ok.add ⟨Try.f180, Try.func180, by kernel_rfl, by kernel_rfl⟩ laws_szRangeS_c



def laws_szWrite_loops : Nat → Option LoopSpec
  | _ => none

theorem laws_szWrite_y (a0 : ByteArray) (a1 : ByteArray) (a2 : Bool) (a3 : Int) : execFn G4 laws_szWrite_loops Try.f247 [.agg [.str a0, .str a1, .bool a2], .int .i64 a3] [] = laws_szWrite_k (a0, (a1, a2)) a3 (fun (y : Int) => some ⟨.ret, [.int .i64 y], []⟩) := by rw [laws_szWrite_e]; kernel_rfl

theorem laws_szWrite_l : LoopsOk G4 ⟨0, 20, laws_szWrite_loops⟩ (Try.f247.body.getD .skip) :=
  loopsOk_of (ids := []) (by kernel_rfl) (by kernel_rfl) trivial

theorem laws_szWrite_c : Contract Try.prog 247 laws_szWrite_g := by
  refine told G4_ok follows Try.func247 (c := Try.f247.body.getD .skip) (by kernel_rfl) ?_
  intro args s k r hk
  unfold laws_szWrite_g at hk
  rcases onPats_inv hk with ⟨p, q, rfl, rfl⟩ | hk
  · exact ⟨laws_szWrite_loops, laws_szWrite_q p.1.1 p.1.2.1 p.1.2.2.1 p.2.1, laws_szWrite_y p.1.1 p.1.2.1 p.1.2.2.1 p.2.1, laws_szWrite_l⟩
  cases hk

def G5 : Glob := G4.add 247 laws_szWrite_g

theorem G5_ok : GlobOk Try.prog G5 := G4_ok.add ⟨Try.f247, Try.func247, by kernel_rfl, by kernel_rfl⟩ laws_szWrite_c



def laws_szWriteS_loops : Nat → Option LoopSpec
  | 0 => some ⟨[0, 1, 4, 5], [], fun vals st k => onPats [.lst tWrite, .int .i64, .int .i64, .int .i64] [] vals st (fun p q => loopK laws_szWriteS_b0 Fuel (p.1, p.2.1, p.2.2.1, p.2.2.2.1) (Sum.elim (fun z => k .ret [.lst tWrite z.1, .int .i64 z.2.1, .int .i64 z.2.2.1, .int .i64 z.2.2.2] []) (fun z => k (.exit 0) [.lst tWrite z.1, .int .i64 z.2.1, .int .i64 z.2.2.1, .int .i64 z.2.2.2] [])))
      (none)⟩
  | _ => none

def laws_szWriteS_v0 : ((List dWrite) × Int × Int × Int) → List AV := (fun x => [.lst tWrite x.1, .int .i64 x.2.1, .int .i64 x.2.2.1, .int .i64 x.2.2.2])
def laws_szWriteS_s0 : ((List dWrite) × Int × Int × Int) → St := (fun x => [])
def laws_szWriteS_e0 : (((List dWrite) × Int × Int × Int) ⊕ ((List dWrite) × Int × Int × Int)) → Out × List AV × St := (Sum.elim (fun z => (.ret, [.lst tWrite z.1, .int .i64 z.2.1, .int .i64 z.2.2.1, .int .i64 z.2.2.2], [])) (fun z => ((.exit 0), [.lst tWrite z.1, .int .i64 z.2.1, .int .i64 z.2.2.1, .int .i64 z.2.2.2], [])))

theorem laws_szWriteS_bx0 (x : ((List dWrite) × Int × Int × Int)) : exec G5 ⟨0, 27, laws_szWriteS_loops⟩ (loopBody Try.f181 0) (bodyK ⟨0, 27, laws_szWriteS_loops⟩ [0, 1, 4, 5] []) (setEs (deads 27) [0, 1, 4, 5] (laws_szWriteS_v0 x)) (laws_szWriteS_s0 x) = laws_szWriteS_b0 x (Sum.elim (fun y => some ⟨.norm, laws_szWriteS_v0 y, laws_szWriteS_s0 y⟩) fun z => some ⟨(laws_szWriteS_e0 z).1, (laws_szWriteS_e0 z).2.1, (laws_szWriteS_e0 z).2.2⟩) := by
  kernel_rfl

theorem laws_szWriteS_lo0 : ∀ sp, (laws_szWriteS_loops 0) = some sp → LoopOk G5 ⟨0, 27, laws_szWriteS_loops⟩ sp (loopBody Try.f181 0) := by
  intro sp hsp vals st k r h
  cases hsp
  dsimp only at h
  rcases onPats_inv2 h with ⟨p, q, rfl, rfl, h⟩ | h
  · exact loop_runs2 laws_szWriteS_bp0 laws_szWriteS_v0 laws_szWriteS_s0 laws_szWriteS_e0 (fun z => by rcases z with z | z <;> (intro h; cases h)) laws_szWriteS_bx0 Fuel (p.1, p.2.1, p.2.2.1, p.2.2.2.1) _ k r (fun z => by rcases z with z | z <;> rfl) h
  cases h

theorem laws_szWriteS_y (a0 : (List dWrite)) (a1 : Int) : execFn G5 laws_szWriteS_loops Try.f181 [.lst tWrite a0, .int .i64 a1] [] = laws_szWriteS_k a0 a1 (fun (y : Int) => some ⟨.ret, [.int .i64 y], []⟩) := by rw [laws_szWriteS_e]; kernel_rfl

theorem laws_szWriteS_l : LoopsOk G5 ⟨0, 27, laws_szWriteS_loops⟩ (Try.f181.body.getD .skip) :=
  loopsOk_of (ids := [0]) (by kernel_rfl) (by kernel_rfl) ⟨laws_szWriteS_lo0, trivial⟩

theorem laws_szWriteS_c : Contract Try.prog 181 laws_szWriteS_g := by
  refine told G5_ok follows Try.func181 (c := Try.f181.body.getD .skip) (by kernel_rfl) ?_
  intro args s k r hk
  unfold laws_szWriteS_g at hk
  rcases onPats_inv hk with ⟨p, q, rfl, rfl⟩ | hk
  · exact ⟨laws_szWriteS_loops, laws_szWriteS_q p.1 p.2.1, laws_szWriteS_y p.1 p.2.1, laws_szWriteS_l⟩
  cases hk

def G6 : Glob := G5.add 181 laws_szWriteS_g

theorem G6_ok : GlobOk Try.prog G6 := G5_ok.add ⟨Try.f181, Try.func181, by kernel_rfl, by kernel_rfl⟩ laws_szWriteS_c



def laws_szTxn_loops : Nat → Option LoopSpec
  | _ => none

theorem laws_szTxn_y (a0 : Int) (a1 : Int) (a2 : Int) (a3 : Int) (a4 : (List dRange)) (a5 : (List dWrite)) (a6 : Bool) (a7 : ByteArray) (a8 : Int) : execFn G6 laws_szTxn_loops Try.f93 [.agg [.int .i64 a0, .int .i64 a1, .int .i64 a2, .int .i64 a3, .lst tRange a4, .lst tWrite a5, .bool a6, .str a7], .int .i64 a8] [] = laws_szTxn_k (a0, (a1, (a2, (a3, (a4, (a5, (a6, a7))))))) a8 (fun (y : Int) => some ⟨.ret, [.int .i64 y], []⟩) := by rw [laws_szTxn_e]; kernel_rfl

theorem laws_szTxn_l : LoopsOk G6 ⟨0, 25, laws_szTxn_loops⟩ (Try.f93.body.getD .skip) :=
  loopsOk_of (ids := []) (by kernel_rfl) (by kernel_rfl) trivial

theorem laws_szTxn_c : Contract Try.prog 93 laws_szTxn_g := by
  refine told G6_ok follows Try.func93 (c := Try.f93.body.getD .skip) (by kernel_rfl) ?_
  intro args s k r hk
  unfold laws_szTxn_g at hk
  rcases onPats_inv hk with ⟨p, q, rfl, rfl⟩ | hk
  · exact ⟨laws_szTxn_loops, laws_szTxn_q p.1.1 p.1.2.1 p.1.2.2.1 p.1.2.2.2.1 p.1.2.2.2.2.1 p.1.2.2.2.2.2.1 p.1.2.2.2.2.2.2.1 p.1.2.2.2.2.2.2.2.1 p.2.1, laws_szTxn_y p.1.1 p.1.2.1 p.1.2.2.1 p.1.2.2.2.1 p.1.2.2.2.2.1 p.1.2.2.2.2.2.1 p.1.2.2.2.2.2.2.1 p.1.2.2.2.2.2.2.2.1 p.2.1, laws_szTxn_l⟩
  cases hk

def G7 : Glob := G6.add 93 laws_szTxn_g

theorem G7_ok : GlobOk Try.prog G7 := G6_ok.add ⟨Try.f93, Try.func93, by kernel_rfl, by kernel_rfl⟩ laws_szTxn_c



def laws_szTxnS_loops : Nat → Option LoopSpec
  | 0 => some ⟨[0, 1, 4, 5], [], fun vals st k => onPats [.lst tTxn, .int .i64, .int .i64, .int .i64] [] vals st (fun p q => loopK laws_szTxnS_b0 Fuel (p.1, p.2.1, p.2.2.1, p.2.2.2.1) (Sum.elim (fun z => k .ret [.lst tTxn z.1, .int .i64 z.2.1, .int .i64 z.2.2.1, .int .i64 z.2.2.2] []) (fun z => k (.exit 0) [.lst tTxn z.1, .int .i64 z.2.1, .int .i64 z.2.2.1, .int .i64 z.2.2.2] [])))
      (none)⟩
  | _ => none

def laws_szTxnS_v0 : ((List dTxn) × Int × Int × Int) → List AV := (fun x => [.lst tTxn x.1, .int .i64 x.2.1, .int .i64 x.2.2.1, .int .i64 x.2.2.2])
def laws_szTxnS_s0 : ((List dTxn) × Int × Int × Int) → St := (fun x => [])
def laws_szTxnS_e0 : (((List dTxn) × Int × Int × Int) ⊕ ((List dTxn) × Int × Int × Int)) → Out × List AV × St := (Sum.elim (fun z => (.ret, [.lst tTxn z.1, .int .i64 z.2.1, .int .i64 z.2.2.1, .int .i64 z.2.2.2], [])) (fun z => ((.exit 0), [.lst tTxn z.1, .int .i64 z.2.1, .int .i64 z.2.2.1, .int .i64 z.2.2.2], [])))

theorem laws_szTxnS_bx0 (x : ((List dTxn) × Int × Int × Int)) : exec G7 ⟨0, 27, laws_szTxnS_loops⟩ (loopBody Try.f46 0) (bodyK ⟨0, 27, laws_szTxnS_loops⟩ [0, 1, 4, 5] []) (setEs (deads 27) [0, 1, 4, 5] (laws_szTxnS_v0 x)) (laws_szTxnS_s0 x) = laws_szTxnS_b0 x (Sum.elim (fun y => some ⟨.norm, laws_szTxnS_v0 y, laws_szTxnS_s0 y⟩) fun z => some ⟨(laws_szTxnS_e0 z).1, (laws_szTxnS_e0 z).2.1, (laws_szTxnS_e0 z).2.2⟩) := by
  kernel_rfl

theorem laws_szTxnS_lo0 : ∀ sp, (laws_szTxnS_loops 0) = some sp → LoopOk G7 ⟨0, 27, laws_szTxnS_loops⟩ sp (loopBody Try.f46 0) := by
  intro sp hsp vals st k r h
  cases hsp
  dsimp only at h
  rcases onPats_inv2 h with ⟨p, q, rfl, rfl, h⟩ | h
  · exact loop_runs2 laws_szTxnS_bp0 laws_szTxnS_v0 laws_szTxnS_s0 laws_szTxnS_e0 (fun z => by rcases z with z | z <;> (intro h; cases h)) laws_szTxnS_bx0 Fuel (p.1, p.2.1, p.2.2.1, p.2.2.2.1) _ k r (fun z => by rcases z with z | z <;> rfl) h
  cases h

theorem laws_szTxnS_y (a0 : (List dTxn)) (a1 : Int) : execFn G7 laws_szTxnS_loops Try.f46 [.lst tTxn a0, .int .i64 a1] [] = laws_szTxnS_k a0 a1 (fun (y : Int) => some ⟨.ret, [.int .i64 y], []⟩) := by rw [laws_szTxnS_e]; kernel_rfl

theorem laws_szTxnS_l : LoopsOk G7 ⟨0, 27, laws_szTxnS_loops⟩ (Try.f46.body.getD .skip) :=
  loopsOk_of (ids := [0]) (by kernel_rfl) (by kernel_rfl) ⟨laws_szTxnS_lo0, trivial⟩

theorem laws_szTxnS_c : Contract Try.prog 46 laws_szTxnS_g := by
  refine told G7_ok follows Try.func46 (c := Try.f46.body.getD .skip) (by kernel_rfl) ?_
  intro args s k r hk
  unfold laws_szTxnS_g at hk
  rcases onPats_inv hk with ⟨p, q, rfl, rfl⟩ | hk
  · exact ⟨laws_szTxnS_loops, laws_szTxnS_q p.1 p.2.1, laws_szTxnS_y p.1 p.2.1, laws_szTxnS_l⟩
  cases hk

def G8 : Glob := G7.add 46 laws_szTxnS_g

theorem G8_ok : GlobOk Try.prog G8 := G7_ok.add ⟨Try.f46, Try.func46, by kernel_rfl, by kernel_rfl⟩ laws_szTxnS_c



def laws_szBase_loops : Nat → Option LoopSpec
  | _ => none

theorem laws_szBase_y (a0 : (List dVersion)) (a1 : (List dTxn)) (a2 : (List dTxn)) (a3 : Int) (a4 : Int) (a5 : Int) : execFn G8 laws_szBase_loops Try.f45 [.agg [.lst tVersion a0, .lst tTxn a1, .lst tTxn a2, .int .i64 a3, .int .i64 a4], .int .i64 a5] [] = laws_szBase_k (a0, (a1, (a2, (a3, a4)))) a5 (fun (y : Int) => some ⟨.ret, [.int .i64 y], []⟩) := by rw [laws_szBase_e]; kernel_rfl

theorem laws_szBase_l : LoopsOk G8 ⟨0, 24, laws_szBase_loops⟩ (Try.f45.body.getD .skip) :=
  loopsOk_of (ids := []) (by kernel_rfl) (by kernel_rfl) trivial

theorem laws_szBase_c : Contract Try.prog 45 laws_szBase_g := by
  refine told G8_ok follows Try.func45 (c := Try.f45.body.getD .skip) (by kernel_rfl) ?_
  intro args s k r hk
  unfold laws_szBase_g at hk
  rcases onPats_inv hk with ⟨p, q, rfl, rfl⟩ | hk
  · exact ⟨laws_szBase_loops, laws_szBase_q p.1.1 p.1.2.1 p.1.2.2.1 p.1.2.2.2.1 p.1.2.2.2.2.1 p.2.1, laws_szBase_y p.1.1 p.1.2.1 p.1.2.2.1 p.1.2.2.2.1 p.1.2.2.2.2.1 p.2.1, laws_szBase_l⟩
  cases hk

def G9 : Glob := G8.add 45 laws_szBase_g

theorem G9_ok : GlobOk Try.prog G9 := G8_ok.add ⟨Try.f45, Try.func45, by kernel_rfl, by kernel_rfl⟩ laws_szBase_c



def laws_szEngine_loops : Nat → Option LoopSpec
  | _ => none

theorem laws_szEngine_y (a0 : (List dVersion)) (a1 : (List dTxn)) (a2 : (List dTxn)) (a3 : Int) (a4 : Int) (a5 : (List dTxn)) (a6 : Int) : execFn G9 laws_szEngine_loops Try.f23 [.agg [.lst tVersion a0, .lst tTxn a1, .lst tTxn a2, .int .i64 a3, .int .i64 a4, .lst tTxn a5], .int .i64 a6] [] = laws_szEngine_k ((a0, (a1, (a2, (a3, a4)))), a5) a6 (fun (y : Int) => some ⟨.ret, [.int .i64 y], []⟩) := by rw [laws_szEngine_e]; kernel_rfl

theorem laws_szEngine_l : LoopsOk G9 ⟨0, 18, laws_szEngine_loops⟩ (Try.f23.body.getD .skip) :=
  loopsOk_of (ids := []) (by kernel_rfl) (by kernel_rfl) trivial

theorem laws_szEngine_c : Contract Try.prog 23 laws_szEngine_g := by
  refine told G9_ok follows Try.func23 (c := Try.f23.body.getD .skip) (by kernel_rfl) ?_
  intro args s k r hk
  unfold laws_szEngine_g at hk
  rcases onPats_inv hk with ⟨p, q, rfl, rfl⟩ | hk
  · exact ⟨laws_szEngine_loops, laws_szEngine_q p.1.1 p.1.2.1 p.1.2.2.1 p.1.2.2.2.1 p.1.2.2.2.2.1 p.1.2.2.2.2.2.1 p.2.1, laws_szEngine_y p.1.1 p.1.2.1 p.1.2.2.1 p.1.2.2.2.1 p.1.2.2.2.2.1 p.1.2.2.2.2.2.1 p.2.1, laws_szEngine_l⟩
  cases hk

def G10 : Glob := G9.add 23 laws_szEngine_g

theorem G10_ok : GlobOk Try.prog G10 := G9_ok.add ⟨Try.f23, Try.func23, by kernel_rfl, by kernel_rfl⟩ laws_szEngine_c



def laws_szStringS_loops : Nat → Option LoopSpec
  | 0 => some ⟨[0, 1, 4, 5], [], fun vals st k => onPats [.lst .str, .int .i64, .int .i64, .int .i64] [] vals st (fun p q => loopK laws_szStringS_b0 Fuel (p.1, p.2.1, p.2.2.1, p.2.2.2.1) (Sum.elim (fun z => k .ret [.lst .str z.1, .int .i64 z.2.1, .int .i64 z.2.2.1, .int .i64 z.2.2.2] []) (fun z => k (.exit 0) [.lst .str z.1, .int .i64 z.2.1, .int .i64 z.2.2.1, .int .i64 z.2.2.2] [])))
      (none)⟩
  | _ => none

def laws_szStringS_v0 : ((List ByteArray) × Int × Int × Int) → List AV := (fun x => [.lst .str x.1, .int .i64 x.2.1, .int .i64 x.2.2.1, .int .i64 x.2.2.2])
def laws_szStringS_s0 : ((List ByteArray) × Int × Int × Int) → St := (fun x => [])
def laws_szStringS_e0 : (((List ByteArray) × Int × Int × Int) ⊕ ((List ByteArray) × Int × Int × Int)) → Out × List AV × St := (Sum.elim (fun z => (.ret, [.lst .str z.1, .int .i64 z.2.1, .int .i64 z.2.2.1, .int .i64 z.2.2.2], [])) (fun z => ((.exit 0), [.lst .str z.1, .int .i64 z.2.1, .int .i64 z.2.2.1, .int .i64 z.2.2.2], [])))

theorem laws_szStringS_bx0 (x : ((List ByteArray) × Int × Int × Int)) : exec G10 ⟨0, 28, laws_szStringS_loops⟩ (loopBody Try.f158 0) (bodyK ⟨0, 28, laws_szStringS_loops⟩ [0, 1, 4, 5] []) (setEs (deads 28) [0, 1, 4, 5] (laws_szStringS_v0 x)) (laws_szStringS_s0 x) = laws_szStringS_b0 x (Sum.elim (fun y => some ⟨.norm, laws_szStringS_v0 y, laws_szStringS_s0 y⟩) fun z => some ⟨(laws_szStringS_e0 z).1, (laws_szStringS_e0 z).2.1, (laws_szStringS_e0 z).2.2⟩) := by
  kernel_rfl

theorem laws_szStringS_lo0 : ∀ sp, (laws_szStringS_loops 0) = some sp → LoopOk G10 ⟨0, 28, laws_szStringS_loops⟩ sp (loopBody Try.f158 0) := by
  intro sp hsp vals st k r h
  cases hsp
  dsimp only at h
  rcases onPats_inv2 h with ⟨p, q, rfl, rfl, h⟩ | h
  · exact loop_runs2 laws_szStringS_bp0 laws_szStringS_v0 laws_szStringS_s0 laws_szStringS_e0 (fun z => by rcases z with z | z <;> (intro h; cases h)) laws_szStringS_bx0 Fuel (p.1, p.2.1, p.2.2.1, p.2.2.2.1) _ k r (fun z => by rcases z with z | z <;> rfl) h
  cases h

theorem laws_szStringS_y (a0 : (List ByteArray)) (a1 : Int) : execFn G10 laws_szStringS_loops Try.f158 [.lst .str a0, .int .i64 a1] [] = laws_szStringS_k a0 a1 (fun (y : Int) => some ⟨.ret, [.int .i64 y], []⟩) := by rw [laws_szStringS_e]; kernel_rfl

theorem laws_szStringS_l : LoopsOk G10 ⟨0, 28, laws_szStringS_loops⟩ (Try.f158.body.getD .skip) :=
  loopsOk_of (ids := [0]) (by kernel_rfl) (by kernel_rfl) ⟨laws_szStringS_lo0, trivial⟩

theorem laws_szStringS_c : Contract Try.prog 158 laws_szStringS_g := by
  refine told G10_ok follows Try.func158 (c := Try.f158.body.getD .skip) (by kernel_rfl) ?_
  intro args s k r hk
  unfold laws_szStringS_g at hk
  rcases onPats_inv hk with ⟨p, q, rfl, rfl⟩ | hk
  · exact ⟨laws_szStringS_loops, laws_szStringS_q p.1 p.2.1, laws_szStringS_y p.1 p.2.1, laws_szStringS_l⟩
  cases hk

def G11 : Glob := G10.add 158 laws_szStringS_g

theorem G11_ok : GlobOk Try.prog G11 := G10_ok.add ⟨Try.f158, Try.func158, by kernel_rfl, by kernel_rfl⟩ laws_szStringS_c



def laws_szPut_loops : Nat → Option LoopSpec
  | _ => none

theorem laws_szPut_y (a0 : Int) (a1 : ByteArray) (a2 : Int) : execFn G11 laws_szPut_loops Try.f228 [.agg [.int .i64 a0, .str a1], .int .i64 a2] [] = laws_szPut_k (a0, a1) a2 (fun (y : Int) => some ⟨.ret, [.int .i64 y], []⟩) := by rw [laws_szPut_e]; kernel_rfl

theorem laws_szPut_l : LoopsOk G11 ⟨0, 13, laws_szPut_loops⟩ (Try.f228.body.getD .skip) :=
  loopsOk_of (ids := []) (by kernel_rfl) (by kernel_rfl) trivial

theorem laws_szPut_c : Contract Try.prog 228 laws_szPut_g := by
  refine told G11_ok follows Try.func228 (c := Try.f228.body.getD .skip) (by kernel_rfl) ?_
  intro args s k r hk
  unfold laws_szPut_g at hk
  rcases onPats_inv hk with ⟨p, q, rfl, rfl⟩ | hk
  · exact ⟨laws_szPut_loops, laws_szPut_q p.1.1 p.1.2.1 p.2.1, laws_szPut_y p.1.1 p.1.2.1 p.2.1, laws_szPut_l⟩
  cases hk

def G12 : Glob := G11.add 228 laws_szPut_g

theorem G12_ok : GlobOk Try.prog G12 := G11_ok.add ⟨Try.f228, Try.func228, by kernel_rfl, by kernel_rfl⟩ laws_szPut_c



def laws_szPutS_loops : Nat → Option LoopSpec
  | 0 => some ⟨[0, 1, 4, 5], [], fun vals st k => onPats [.lst tPut, .int .i64, .int .i64, .int .i64] [] vals st (fun p q => loopK laws_szPutS_b0 Fuel (p.1, p.2.1, p.2.2.1, p.2.2.2.1) (Sum.elim (fun z => k .ret [.lst tPut z.1, .int .i64 z.2.1, .int .i64 z.2.2.1, .int .i64 z.2.2.2] []) (fun z => k (.exit 0) [.lst tPut z.1, .int .i64 z.2.1, .int .i64 z.2.2.1, .int .i64 z.2.2.2] [])))
      (none)⟩
  | _ => none

def laws_szPutS_v0 : ((List dPut) × Int × Int × Int) → List AV := (fun x => [.lst tPut x.1, .int .i64 x.2.1, .int .i64 x.2.2.1, .int .i64 x.2.2.2])
def laws_szPutS_s0 : ((List dPut) × Int × Int × Int) → St := (fun x => [])
def laws_szPutS_e0 : (((List dPut) × Int × Int × Int) ⊕ ((List dPut) × Int × Int × Int)) → Out × List AV × St := (Sum.elim (fun z => (.ret, [.lst tPut z.1, .int .i64 z.2.1, .int .i64 z.2.2.1, .int .i64 z.2.2.2], [])) (fun z => ((.exit 0), [.lst tPut z.1, .int .i64 z.2.1, .int .i64 z.2.2.1, .int .i64 z.2.2.2], [])))

theorem laws_szPutS_bx0 (x : ((List dPut) × Int × Int × Int)) : exec G12 ⟨0, 27, laws_szPutS_loops⟩ (loopBody Try.f159 0) (bodyK ⟨0, 27, laws_szPutS_loops⟩ [0, 1, 4, 5] []) (setEs (deads 27) [0, 1, 4, 5] (laws_szPutS_v0 x)) (laws_szPutS_s0 x) = laws_szPutS_b0 x (Sum.elim (fun y => some ⟨.norm, laws_szPutS_v0 y, laws_szPutS_s0 y⟩) fun z => some ⟨(laws_szPutS_e0 z).1, (laws_szPutS_e0 z).2.1, (laws_szPutS_e0 z).2.2⟩) := by
  kernel_rfl

theorem laws_szPutS_lo0 : ∀ sp, (laws_szPutS_loops 0) = some sp → LoopOk G12 ⟨0, 27, laws_szPutS_loops⟩ sp (loopBody Try.f159 0) := by
  intro sp hsp vals st k r h
  cases hsp
  dsimp only at h
  rcases onPats_inv2 h with ⟨p, q, rfl, rfl, h⟩ | h
  · exact loop_runs2 laws_szPutS_bp0 laws_szPutS_v0 laws_szPutS_s0 laws_szPutS_e0 (fun z => by rcases z with z | z <;> (intro h; cases h)) laws_szPutS_bx0 Fuel (p.1, p.2.1, p.2.2.1, p.2.2.2.1) _ k r (fun z => by rcases z with z | z <;> rfl) h
  cases h

theorem laws_szPutS_y (a0 : (List dPut)) (a1 : Int) : execFn G12 laws_szPutS_loops Try.f159 [.lst tPut a0, .int .i64 a1] [] = laws_szPutS_k a0 a1 (fun (y : Int) => some ⟨.ret, [.int .i64 y], []⟩) := by rw [laws_szPutS_e]; kernel_rfl

theorem laws_szPutS_l : LoopsOk G12 ⟨0, 27, laws_szPutS_loops⟩ (Try.f159.body.getD .skip) :=
  loopsOk_of (ids := [0]) (by kernel_rfl) (by kernel_rfl) ⟨laws_szPutS_lo0, trivial⟩

theorem laws_szPutS_c : Contract Try.prog 159 laws_szPutS_g := by
  refine told G12_ok follows Try.func159 (c := Try.f159.body.getD .skip) (by kernel_rfl) ?_
  intro args s k r hk
  unfold laws_szPutS_g at hk
  rcases onPats_inv hk with ⟨p, q, rfl, rfl⟩ | hk
  · exact ⟨laws_szPutS_loops, laws_szPutS_q p.1 p.2.1, laws_szPutS_y p.1 p.2.1, laws_szPutS_l⟩
  cases hk

def G13 : Glob := G12.add 159 laws_szPutS_g

theorem G13_ok : GlobOk Try.prog G13 := G12_ok.add ⟨Try.f159, Try.func159, by kernel_rfl, by kernel_rfl⟩ laws_szPutS_c



def laws_szDisk_loops : Nat → Option LoopSpec
  | _ => none

theorem laws_szDisk_y (a0 : (List ByteArray)) (a1 : (List dPut)) (a2 : Int) : execFn G13 laws_szDisk_loops Try.f72 [.agg [.lst .str a0, .lst tPut a1], .int .i64 a2] [] = laws_szDisk_k (a0, a1) a2 (fun (y : Int) => some ⟨.ret, [.int .i64 y], []⟩) := by rw [laws_szDisk_e]; kernel_rfl

theorem laws_szDisk_l : LoopsOk G13 ⟨0, 18, laws_szDisk_loops⟩ (Try.f72.body.getD .skip) :=
  loopsOk_of (ids := []) (by kernel_rfl) (by kernel_rfl) trivial

theorem laws_szDisk_c : Contract Try.prog 72 laws_szDisk_g := by
  refine told G13_ok follows Try.func72 (c := Try.f72.body.getD .skip) (by kernel_rfl) ?_
  intro args s k r hk
  unfold laws_szDisk_g at hk
  rcases onPats_inv hk with ⟨p, q, rfl, rfl⟩ | hk
  · exact ⟨laws_szDisk_loops, laws_szDisk_q p.1.1 p.1.2.1 p.2.1, laws_szDisk_y p.1.1 p.1.2.1 p.2.1, laws_szDisk_l⟩
  cases hk

def G14 : Glob := G13.add 72 laws_szDisk_g

theorem G14_ok : GlobOk Try.prog G14 := G13_ok.add ⟨Try.f72, Try.func72, by kernel_rfl, by kernel_rfl⟩ laws_szDisk_c



def laws_szStore_loops : Nat → Option LoopSpec
  | _ => none

theorem laws_szStore_y (a0 : (List dVersion)) (a1 : (List dTxn)) (a2 : (List dTxn)) (a3 : Int) (a4 : Int) (a5 : (List dTxn)) (a6 : (List ByteArray)) (a7 : (List dPut)) (a8 : Int) : execFn G14 laws_szStore_loops Try.f14 [.agg [.lst tVersion a0, .lst tTxn a1, .lst tTxn a2, .int .i64 a3, .int .i64 a4, .lst tTxn a5, .lst .str a6, .lst tPut a7], .int .i64 a8] [] = laws_szStore_k (((a0, (a1, (a2, (a3, a4)))), a5), (a6, a7)) a8 (fun (y : Int) => some ⟨.ret, [.int .i64 y], []⟩) := by rw [laws_szStore_e]; kernel_rfl

theorem laws_szStore_l : LoopsOk G14 ⟨0, 18, laws_szStore_loops⟩ (Try.f14.body.getD .skip) :=
  loopsOk_of (ids := []) (by kernel_rfl) (by kernel_rfl) trivial

theorem laws_szStore_c : Contract Try.prog 14 laws_szStore_g := by
  refine told G14_ok follows Try.func14 (c := Try.f14.body.getD .skip) (by kernel_rfl) ?_
  intro args s k r hk
  unfold laws_szStore_g at hk
  rcases onPats_inv hk with ⟨p, q, rfl, rfl⟩ | hk
  · exact ⟨laws_szStore_loops, laws_szStore_q p.1.1 p.1.2.1 p.1.2.2.1 p.1.2.2.2.1 p.1.2.2.2.2.1 p.1.2.2.2.2.2.1 p.1.2.2.2.2.2.2.1 p.1.2.2.2.2.2.2.2.1 p.2.1, laws_szStore_y p.1.1 p.1.2.1 p.1.2.2.1 p.1.2.2.2.1 p.1.2.2.2.2.1 p.1.2.2.2.2.2.1 p.1.2.2.2.2.2.2.1 p.1.2.2.2.2.2.2.2.1 p.2.1, laws_szStore_l⟩
  cases hk

def G15 : Glob := G14.add 14 laws_szStore_g

theorem G15_ok : GlobOk Try.prog G15 := G14_ok.add ⟨Try.f14, Try.func14, by kernel_rfl, by kernel_rfl⟩ laws_szStore_c



def laws_toVersion_loops : Nat → Option LoopSpec
  | _ => none

theorem laws_toVersion_y (a0 : ByteArray) (a1 : ByteArray) (a2 : Bool) (a3 : Int) : execFn G15 laws_toVersion_loops Try.f194 [.agg [.str a0, .str a1, .bool a2, .int .i64 a3]] [] = laws_toVersion_k (a0, (a1, (a2, a3))) (fun (y : (ByteArray × ByteArray × Bool × Int)) => some ⟨.ret, [.agg [.str y.1, .str y.2.1, .bool y.2.2.1, .int .i64 y.2.2.2]], []⟩) := by rw [laws_toVersion_e]; kernel_rfl

theorem laws_toVersion_l : LoopsOk G15 ⟨0, 17, laws_toVersion_loops⟩ (Try.f194.body.getD .skip) :=
  loopsOk_of (ids := []) (by kernel_rfl) (by kernel_rfl) trivial

theorem laws_toVersion_c : Contract Try.prog 194 laws_toVersion_g := by
  refine told G15_ok follows Try.func194 (c := Try.f194.body.getD .skip) (by kernel_rfl) ?_
  intro args s k r hk
  unfold laws_toVersion_g at hk
  rcases onPats_inv hk with ⟨p, q, rfl, rfl⟩ | hk
  · exact ⟨laws_toVersion_loops, laws_toVersion_q p.1.1 p.1.2.1 p.1.2.2.1 p.1.2.2.2.1, laws_toVersion_y p.1.1 p.1.2.1 p.1.2.2.1 p.1.2.2.2.1, laws_toVersion_l⟩
  cases hk

def G16 : Glob := G15.add 194 laws_toVersion_g

theorem G16_ok : GlobOk Try.prog G16 := G15_ok.add ⟨Try.f194, Try.func194, by kernel_rfl, by kernel_rfl⟩ laws_toVersion_c



def laws_toVersionS_loops : Nat → Option LoopSpec
  | 0 => some ⟨[0, 3, 4], [], fun vals st k => onPats [.lst tVersion, .own 0, .int .i64] [.arr tVersion] vals st (fun p q => loopK laws_toVersionS_b0 Fuel (p.1, p.2.2.1, q.1) (fun z => k (.exit 0) [.lst tVersion z.1, .own 0, .int .i64 z.2.1] [.arr tVersion z.2.2]))
      (none)⟩
  | _ => none

def laws_toVersionS_v0 : ((List dVersion) × Int × (List dVersion)) → List AV := (fun x => [.lst tVersion x.1, .own 0, .int .i64 x.2.1])
def laws_toVersionS_s0 : ((List dVersion) × Int × (List dVersion)) → St := (fun x => [.arr tVersion x.2.2])
def laws_toVersionS_e0 : ((List dVersion) × Int × (List dVersion)) → Out × List AV × St := (fun z => ((.exit 0), [.lst tVersion z.1, .own 0, .int .i64 z.2.1], [.arr tVersion z.2.2]))

theorem laws_toVersionS_bx0 (x : ((List dVersion) × Int × (List dVersion))) : exec G16 ⟨0, 23, laws_toVersionS_loops⟩ (loopBody Try.f115 0) (bodyK ⟨0, 23, laws_toVersionS_loops⟩ [0, 3, 4] []) (setEs (deads 23) [0, 3, 4] (laws_toVersionS_v0 x)) (laws_toVersionS_s0 x) = laws_toVersionS_b0 x (Sum.elim (fun y => some ⟨.norm, laws_toVersionS_v0 y, laws_toVersionS_s0 y⟩) fun z => some ⟨(laws_toVersionS_e0 z).1, (laws_toVersionS_e0 z).2.1, (laws_toVersionS_e0 z).2.2⟩) := by
  kernel_rfl

theorem laws_toVersionS_lo0 : ∀ sp, (laws_toVersionS_loops 0) = some sp → LoopOk G16 ⟨0, 23, laws_toVersionS_loops⟩ sp (loopBody Try.f115 0) := by
  intro sp hsp vals st k r h
  cases hsp
  dsimp only at h
  rcases onPats_inv2 h with ⟨p, q, rfl, rfl, h⟩ | h
  · exact loop_runs2 laws_toVersionS_bp0 laws_toVersionS_v0 laws_toVersionS_s0 laws_toVersionS_e0 (fun z => by (intro h; cases h)) laws_toVersionS_bx0 Fuel (p.1, p.2.2.1, q.1) _ k r (fun z => rfl) h
  cases h

theorem laws_toVersionS_y (a0 : (List dVersion)) : execFn G16 laws_toVersionS_loops Try.f115 [.lst tVersion a0] [] = laws_toVersionS_k a0 (fun (y : (List dVersion)) => some ⟨.ret, [.own 0], [.arr tVersion y]⟩) := by rw [laws_toVersionS_e]; kernel_rfl

theorem laws_toVersionS_l : LoopsOk G16 ⟨0, 23, laws_toVersionS_loops⟩ (Try.f115.body.getD .skip) :=
  loopsOk_of (ids := [0]) (by kernel_rfl) (by kernel_rfl) ⟨laws_toVersionS_lo0, trivial⟩

theorem laws_toVersionS_c : Contract Try.prog 115 laws_toVersionS_g := by
  refine told G16_ok follows Try.func115 (c := Try.f115.body.getD .skip) (by kernel_rfl) ?_
  intro args s k r hk
  unfold laws_toVersionS_g at hk
  rcases onPats_inv hk with ⟨p, q, rfl, rfl⟩ | hk
  · exact ⟨laws_toVersionS_loops, laws_toVersionS_q p.1, laws_toVersionS_y p.1, laws_toVersionS_l⟩
  cases hk

def G17 : Glob := G16.add 115 laws_toVersionS_g

theorem G17_ok : GlobOk Try.prog G17 := G16_ok.add ⟨Try.f115, Try.func115, by kernel_rfl, by kernel_rfl⟩ laws_toVersionS_c



def laws_toRange_loops : Nat → Option LoopSpec
  | _ => none

theorem laws_toRange_y (a0 : ByteArray) (a1 : ByteArray) : execFn G17 laws_toRange_loops Try.f248 [.agg [.str a0, .str a1]] [] = laws_toRange_k (a0, a1) (fun (y : (ByteArray × ByteArray)) => some ⟨.ret, [.agg [.str y.1, .str y.2]], []⟩) := by rw [laws_toRange_e]; kernel_rfl

theorem laws_toRange_l : LoopsOk G17 ⟨0, 11, laws_toRange_loops⟩ (Try.f248.body.getD .skip) :=
  loopsOk_of (ids := []) (by kernel_rfl) (by kernel_rfl) trivial

theorem laws_toRange_c : Contract Try.prog 248 laws_toRange_g := by
  refine told G17_ok follows Try.func248 (c := Try.f248.body.getD .skip) (by kernel_rfl) ?_
  intro args s k r hk
  unfold laws_toRange_g at hk
  rcases onPats_inv hk with ⟨p, q, rfl, rfl⟩ | hk
  · exact ⟨laws_toRange_loops, laws_toRange_q p.1.1 p.1.2.1, laws_toRange_y p.1.1 p.1.2.1, laws_toRange_l⟩
  cases hk

def G18 : Glob := G17.add 248 laws_toRange_g

theorem G18_ok : GlobOk Try.prog G18 := G17_ok.add ⟨Try.f248, Try.func248, by kernel_rfl, by kernel_rfl⟩ laws_toRange_c



def laws_toRangeS_loops : Nat → Option LoopSpec
  | 0 => some ⟨[0, 3, 4], [], fun vals st k => onPats [.lst tRange, .own 0, .int .i64] [.arr tRange] vals st (fun p q => loopK laws_toRangeS_b0 Fuel (p.1, p.2.2.1, q.1) (fun z => k (.exit 0) [.lst tRange z.1, .own 0, .int .i64 z.2.1] [.arr tRange z.2.2]))
      (none)⟩
  | _ => none

def laws_toRangeS_v0 : ((List dRange) × Int × (List dRange)) → List AV := (fun x => [.lst tRange x.1, .own 0, .int .i64 x.2.1])
def laws_toRangeS_s0 : ((List dRange) × Int × (List dRange)) → St := (fun x => [.arr tRange x.2.2])
def laws_toRangeS_e0 : ((List dRange) × Int × (List dRange)) → Out × List AV × St := (fun z => ((.exit 0), [.lst tRange z.1, .own 0, .int .i64 z.2.1], [.arr tRange z.2.2]))

theorem laws_toRangeS_bx0 (x : ((List dRange) × Int × (List dRange))) : exec G18 ⟨0, 23, laws_toRangeS_loops⟩ (loopBody Try.f182 0) (bodyK ⟨0, 23, laws_toRangeS_loops⟩ [0, 3, 4] []) (setEs (deads 23) [0, 3, 4] (laws_toRangeS_v0 x)) (laws_toRangeS_s0 x) = laws_toRangeS_b0 x (Sum.elim (fun y => some ⟨.norm, laws_toRangeS_v0 y, laws_toRangeS_s0 y⟩) fun z => some ⟨(laws_toRangeS_e0 z).1, (laws_toRangeS_e0 z).2.1, (laws_toRangeS_e0 z).2.2⟩) := by
  kernel_rfl

theorem laws_toRangeS_lo0 : ∀ sp, (laws_toRangeS_loops 0) = some sp → LoopOk G18 ⟨0, 23, laws_toRangeS_loops⟩ sp (loopBody Try.f182 0) := by
  intro sp hsp vals st k r h
  cases hsp
  dsimp only at h
  rcases onPats_inv2 h with ⟨p, q, rfl, rfl, h⟩ | h
  · exact loop_runs2 laws_toRangeS_bp0 laws_toRangeS_v0 laws_toRangeS_s0 laws_toRangeS_e0 (fun z => by (intro h; cases h)) laws_toRangeS_bx0 Fuel (p.1, p.2.2.1, q.1) _ k r (fun z => rfl) h
  cases h

theorem laws_toRangeS_y (a0 : (List dRange)) : execFn G18 laws_toRangeS_loops Try.f182 [.lst tRange a0] [] = laws_toRangeS_k a0 (fun (y : (List dRange)) => some ⟨.ret, [.own 0], [.arr tRange y]⟩) := by rw [laws_toRangeS_e]; kernel_rfl

theorem laws_toRangeS_l : LoopsOk G18 ⟨0, 23, laws_toRangeS_loops⟩ (Try.f182.body.getD .skip) :=
  loopsOk_of (ids := [0]) (by kernel_rfl) (by kernel_rfl) ⟨laws_toRangeS_lo0, trivial⟩

theorem laws_toRangeS_c : Contract Try.prog 182 laws_toRangeS_g := by
  refine told G18_ok follows Try.func182 (c := Try.f182.body.getD .skip) (by kernel_rfl) ?_
  intro args s k r hk
  unfold laws_toRangeS_g at hk
  rcases onPats_inv hk with ⟨p, q, rfl, rfl⟩ | hk
  · exact ⟨laws_toRangeS_loops, laws_toRangeS_q p.1, laws_toRangeS_y p.1, laws_toRangeS_l⟩
  cases hk

def G19 : Glob := G18.add 182 laws_toRangeS_g

theorem G19_ok : GlobOk Try.prog G19 := G18_ok.add ⟨Try.f182, Try.func182, by kernel_rfl, by kernel_rfl⟩ laws_toRangeS_c



def laws_toWrite_loops : Nat → Option LoopSpec
  | _ => none

theorem laws_toWrite_y (a0 : ByteArray) (a1 : ByteArray) (a2 : Bool) : execFn G19 laws_toWrite_loops Try.f249 [.agg [.str a0, .str a1, .bool a2]] [] = laws_toWrite_k (a0, (a1, a2)) (fun (y : (ByteArray × ByteArray × Bool)) => some ⟨.ret, [.agg [.str y.1, .str y.2.1, .bool y.2.2]], []⟩) := by rw [laws_toWrite_e]; kernel_rfl

theorem laws_toWrite_l : LoopsOk G19 ⟨0, 14, laws_toWrite_loops⟩ (Try.f249.body.getD .skip) :=
  loopsOk_of (ids := []) (by kernel_rfl) (by kernel_rfl) trivial

theorem laws_toWrite_c : Contract Try.prog 249 laws_toWrite_g := by
  refine told G19_ok follows Try.func249 (c := Try.f249.body.getD .skip) (by kernel_rfl) ?_
  intro args s k r hk
  unfold laws_toWrite_g at hk
  rcases onPats_inv hk with ⟨p, q, rfl, rfl⟩ | hk
  · exact ⟨laws_toWrite_loops, laws_toWrite_q p.1.1 p.1.2.1 p.1.2.2.1, laws_toWrite_y p.1.1 p.1.2.1 p.1.2.2.1, laws_toWrite_l⟩
  cases hk

def G20 : Glob := G19.add 249 laws_toWrite_g

theorem G20_ok : GlobOk Try.prog G20 := G19_ok.add ⟨Try.f249, Try.func249, by kernel_rfl, by kernel_rfl⟩ laws_toWrite_c



def laws_toWriteS_loops : Nat → Option LoopSpec
  | 0 => some ⟨[0, 3, 4], [], fun vals st k => onPats [.lst tWrite, .own 0, .int .i64] [.arr tWrite] vals st (fun p q => loopK laws_toWriteS_b0 Fuel (p.1, p.2.2.1, q.1) (fun z => k (.exit 0) [.lst tWrite z.1, .own 0, .int .i64 z.2.1] [.arr tWrite z.2.2]))
      (none)⟩
  | _ => none

def laws_toWriteS_v0 : ((List dWrite) × Int × (List dWrite)) → List AV := (fun x => [.lst tWrite x.1, .own 0, .int .i64 x.2.1])
def laws_toWriteS_s0 : ((List dWrite) × Int × (List dWrite)) → St := (fun x => [.arr tWrite x.2.2])
def laws_toWriteS_e0 : ((List dWrite) × Int × (List dWrite)) → Out × List AV × St := (fun z => ((.exit 0), [.lst tWrite z.1, .own 0, .int .i64 z.2.1], [.arr tWrite z.2.2]))

theorem laws_toWriteS_bx0 (x : ((List dWrite) × Int × (List dWrite))) : exec G20 ⟨0, 23, laws_toWriteS_loops⟩ (loopBody Try.f183 0) (bodyK ⟨0, 23, laws_toWriteS_loops⟩ [0, 3, 4] []) (setEs (deads 23) [0, 3, 4] (laws_toWriteS_v0 x)) (laws_toWriteS_s0 x) = laws_toWriteS_b0 x (Sum.elim (fun y => some ⟨.norm, laws_toWriteS_v0 y, laws_toWriteS_s0 y⟩) fun z => some ⟨(laws_toWriteS_e0 z).1, (laws_toWriteS_e0 z).2.1, (laws_toWriteS_e0 z).2.2⟩) := by
  kernel_rfl

theorem laws_toWriteS_lo0 : ∀ sp, (laws_toWriteS_loops 0) = some sp → LoopOk G20 ⟨0, 23, laws_toWriteS_loops⟩ sp (loopBody Try.f183 0) := by
  intro sp hsp vals st k r h
  cases hsp
  dsimp only at h
  rcases onPats_inv2 h with ⟨p, q, rfl, rfl, h⟩ | h
  · exact loop_runs2 laws_toWriteS_bp0 laws_toWriteS_v0 laws_toWriteS_s0 laws_toWriteS_e0 (fun z => by (intro h; cases h)) laws_toWriteS_bx0 Fuel (p.1, p.2.2.1, q.1) _ k r (fun z => rfl) h
  cases h

theorem laws_toWriteS_y (a0 : (List dWrite)) : execFn G20 laws_toWriteS_loops Try.f183 [.lst tWrite a0] [] = laws_toWriteS_k a0 (fun (y : (List dWrite)) => some ⟨.ret, [.own 0], [.arr tWrite y]⟩) := by rw [laws_toWriteS_e]; kernel_rfl

theorem laws_toWriteS_l : LoopsOk G20 ⟨0, 23, laws_toWriteS_loops⟩ (Try.f183.body.getD .skip) :=
  loopsOk_of (ids := [0]) (by kernel_rfl) (by kernel_rfl) ⟨laws_toWriteS_lo0, trivial⟩

theorem laws_toWriteS_c : Contract Try.prog 183 laws_toWriteS_g := by
  refine told G20_ok follows Try.func183 (c := Try.f183.body.getD .skip) (by kernel_rfl) ?_
  intro args s k r hk
  unfold laws_toWriteS_g at hk
  rcases onPats_inv hk with ⟨p, q, rfl, rfl⟩ | hk
  · exact ⟨laws_toWriteS_loops, laws_toWriteS_q p.1, laws_toWriteS_y p.1, laws_toWriteS_l⟩
  cases hk

def G21 : Glob := G20.add 183 laws_toWriteS_g

theorem G21_ok : GlobOk Try.prog G21 := G20_ok.add ⟨Try.f183, Try.func183, by kernel_rfl, by kernel_rfl⟩ laws_toWriteS_c



def laws_toTxn_loops : Nat → Option LoopSpec
  | _ => none

theorem laws_toTxn_y (a0 : Int) (a1 : Int) (a2 : Int) (a3 : Int) (a4 : (List dRange)) (a5 : (List dWrite)) (a6 : Bool) (a7 : ByteArray) : execFn G21 laws_toTxn_loops Try.f98 [.agg [.int .i64 a0, .int .i64 a1, .int .i64 a2, .int .i64 a3, .lst tRange a4, .lst tWrite a5, .bool a6, .str a7]] [] = laws_toTxn_k (a0, (a1, (a2, (a3, (a4, (a5, (a6, a7))))))) (fun (y : (Int × Int × Int × Int × Bool × ByteArray × (List dRange) × (List dWrite))) => some ⟨.ret, [.agg [.int .i64 y.1, .int .i64 y.2.1, .int .i64 y.2.2.1, .int .i64 y.2.2.2.1, .own 0, .own 1, .bool y.2.2.2.2.1, .str y.2.2.2.2.2.1]], [.arr tRange y.2.2.2.2.2.2.1, .arr tWrite y.2.2.2.2.2.2.2]⟩) := by rw [laws_toTxn_e]; kernel_rfl

theorem laws_toTxn_l : LoopsOk G21 ⟨0, 31, laws_toTxn_loops⟩ (Try.f98.body.getD .skip) :=
  loopsOk_of (ids := []) (by kernel_rfl) (by kernel_rfl) trivial

theorem laws_toTxn_c : Contract Try.prog 98 laws_toTxn_g := by
  refine told G21_ok follows Try.func98 (c := Try.f98.body.getD .skip) (by kernel_rfl) ?_
  intro args s k r hk
  unfold laws_toTxn_g at hk
  rcases onPats_inv hk with ⟨p, q, rfl, rfl⟩ | hk
  · exact ⟨laws_toTxn_loops, laws_toTxn_q p.1.1 p.1.2.1 p.1.2.2.1 p.1.2.2.2.1 p.1.2.2.2.2.1 p.1.2.2.2.2.2.1 p.1.2.2.2.2.2.2.1 p.1.2.2.2.2.2.2.2.1, laws_toTxn_y p.1.1 p.1.2.1 p.1.2.2.1 p.1.2.2.2.1 p.1.2.2.2.2.1 p.1.2.2.2.2.2.1 p.1.2.2.2.2.2.2.1 p.1.2.2.2.2.2.2.2.1, laws_toTxn_l⟩
  cases hk

def G22 : Glob := G21.add 98 laws_toTxn_g

theorem G22_ok : GlobOk Try.prog G22 := G21_ok.add ⟨Try.f98, Try.func98, by kernel_rfl, by kernel_rfl⟩ laws_toTxn_c



def laws_toTxnS_loops : Nat → Option LoopSpec
  | 0 => some ⟨[0, 3, 4], [], fun vals st k => onPats [.lst tTxn, .own 0, .int .i64] [.dep tTxn 0] vals st (fun p q => loopK laws_toTxnS_b0 Fuel (p.1, p.2.2.1, q.1) (fun z => k (.exit 0) [.lst tTxn z.1, .own 0, .int .i64 z.2.1] [.dep tTxn z.2.2 0]))
      (none)⟩
  | _ => none

def laws_toTxnS_v0 : ((List dTxn) × Int × (List dTxn)) → List AV := (fun x => [.lst tTxn x.1, .own 0, .int .i64 x.2.1])
def laws_toTxnS_s0 : ((List dTxn) × Int × (List dTxn)) → St := (fun x => [.dep tTxn x.2.2 0])
def laws_toTxnS_e0 : ((List dTxn) × Int × (List dTxn)) → Out × List AV × St := (fun z => ((.exit 0), [.lst tTxn z.1, .own 0, .int .i64 z.2.1], [.dep tTxn z.2.2 0]))

theorem laws_toTxnS_bx0 (x : ((List dTxn) × Int × (List dTxn))) : exec G22 ⟨0, 23, laws_toTxnS_loops⟩ (loopBody Try.f49 0) (bodyK ⟨0, 23, laws_toTxnS_loops⟩ [0, 3, 4] []) (setEs (deads 23) [0, 3, 4] (laws_toTxnS_v0 x)) (laws_toTxnS_s0 x) = laws_toTxnS_b0 x (Sum.elim (fun y => some ⟨.norm, laws_toTxnS_v0 y, laws_toTxnS_s0 y⟩) fun z => some ⟨(laws_toTxnS_e0 z).1, (laws_toTxnS_e0 z).2.1, (laws_toTxnS_e0 z).2.2⟩) := by
  kernel_rfl

theorem laws_toTxnS_lo0 : ∀ sp, (laws_toTxnS_loops 0) = some sp → LoopOk G22 ⟨0, 23, laws_toTxnS_loops⟩ sp (loopBody Try.f49 0) := by
  intro sp hsp vals st k r h
  cases hsp
  dsimp only at h
  rcases onPats_inv2 h with ⟨p, q, rfl, rfl, h⟩ | h
  · exact loop_runs2 laws_toTxnS_bp0 laws_toTxnS_v0 laws_toTxnS_s0 laws_toTxnS_e0 (fun z => by (intro h; cases h)) laws_toTxnS_bx0 Fuel (p.1, p.2.2.1, q.1) _ k r (fun z => rfl) h
  cases h

theorem laws_toTxnS_y (a0 : (List dTxn)) : execFn G22 laws_toTxnS_loops Try.f49 [.lst tTxn a0] [] = laws_toTxnS_k a0 (fun (y : (List dTxn)) => some ⟨.ret, [.own 0], [.dep tTxn y 0]⟩) := by rw [laws_toTxnS_e]; kernel_rfl

theorem laws_toTxnS_l : LoopsOk G22 ⟨0, 23, laws_toTxnS_loops⟩ (Try.f49.body.getD .skip) :=
  loopsOk_of (ids := [0]) (by kernel_rfl) (by kernel_rfl) ⟨laws_toTxnS_lo0, trivial⟩

theorem laws_toTxnS_c : Contract Try.prog 49 laws_toTxnS_g := by
  refine told G22_ok follows Try.func49 (c := Try.f49.body.getD .skip) (by kernel_rfl) ?_
  intro args s k r hk
  unfold laws_toTxnS_g at hk
  rcases onPats_inv hk with ⟨p, q, rfl, rfl⟩ | hk
  · exact ⟨laws_toTxnS_loops, laws_toTxnS_q p.1, laws_toTxnS_y p.1, laws_toTxnS_l⟩
  cases hk

def G23 : Glob := G22.add 49 laws_toTxnS_g

theorem G23_ok : GlobOk Try.prog G23 := G22_ok.add ⟨Try.f49, Try.func49, by kernel_rfl, by kernel_rfl⟩ laws_toTxnS_c



def laws_toBase_loops : Nat → Option LoopSpec
  | _ => none

theorem laws_toBase_y (a0 : (List dVersion)) (a1 : (List dTxn)) (a2 : (List dTxn)) (a3 : Int) (a4 : Int) : execFn G23 laws_toBase_loops Try.f48 [.agg [.lst tVersion a0, .lst tTxn a1, .lst tTxn a2, .int .i64 a3, .int .i64 a4]] [] = laws_toBase_k (a0, (a1, (a2, (a3, a4)))) (fun (y : (Int × Int × (List dVersion) × (List dTxn) × (List dTxn))) => some ⟨.ret, [.agg [.own 0, .own 1, .own 2, .int .i64 y.1, .int .i64 y.2.1]], [.arr tVersion y.2.2.1, .dep tTxn y.2.2.2.1 0, .dep tTxn y.2.2.2.2 0]⟩) := by rw [laws_toBase_e]; kernel_rfl

theorem laws_toBase_l : LoopsOk G23 ⟨0, 23, laws_toBase_loops⟩ (Try.f48.body.getD .skip) :=
  loopsOk_of (ids := []) (by kernel_rfl) (by kernel_rfl) trivial

theorem laws_toBase_c : Contract Try.prog 48 laws_toBase_g := by
  refine told G23_ok follows Try.func48 (c := Try.f48.body.getD .skip) (by kernel_rfl) ?_
  intro args s k r hk
  unfold laws_toBase_g at hk
  rcases onPats_inv hk with ⟨p, q, rfl, rfl⟩ | hk
  · exact ⟨laws_toBase_loops, laws_toBase_q p.1.1 p.1.2.1 p.1.2.2.1 p.1.2.2.2.1 p.1.2.2.2.2.1, laws_toBase_y p.1.1 p.1.2.1 p.1.2.2.1 p.1.2.2.2.1 p.1.2.2.2.2.1, laws_toBase_l⟩
  cases hk

def G24 : Glob := G23.add 48 laws_toBase_g

theorem G24_ok : GlobOk Try.prog G24 := G23_ok.add ⟨Try.f48, Try.func48, by kernel_rfl, by kernel_rfl⟩ laws_toBase_c



def laws_toEngine_loops : Nat → Option LoopSpec
  | _ => none

theorem laws_toEngine_y (a0 : (List dVersion)) (a1 : (List dTxn)) (a2 : (List dTxn)) (a3 : Int) (a4 : Int) (a5 : (List dTxn)) : execFn G24 laws_toEngine_loops Try.f25 [.agg [.lst tVersion a0, .lst tTxn a1, .lst tTxn a2, .int .i64 a3, .int .i64 a4, .lst tTxn a5]] [] = laws_toEngine_k ((a0, (a1, (a2, (a3, a4)))), a5) (fun (y : (Int × Int × (List dVersion) × (List dTxn) × (List dTxn) × (List dTxn))) => some ⟨.ret, [.agg [.own 0, .own 1, .own 2, .int .i64 y.1, .int .i64 y.2.1, .own 3]], [.arr tVersion y.2.2.1, .dep tTxn y.2.2.2.1 0, .dep tTxn y.2.2.2.2.1 0, .dep tTxn y.2.2.2.2.2 0]⟩) := by rw [laws_toEngine_e]; kernel_rfl

theorem laws_toEngine_l : LoopsOk G24 ⟨0, 13, laws_toEngine_loops⟩ (Try.f25.body.getD .skip) :=
  loopsOk_of (ids := []) (by kernel_rfl) (by kernel_rfl) trivial

theorem laws_toEngine_c : Contract Try.prog 25 laws_toEngine_g := by
  refine told G24_ok follows Try.func25 (c := Try.f25.body.getD .skip) (by kernel_rfl) ?_
  intro args s k r hk
  unfold laws_toEngine_g at hk
  rcases onPats_inv hk with ⟨p, q, rfl, rfl⟩ | hk
  · exact ⟨laws_toEngine_loops, laws_toEngine_q p.1.1 p.1.2.1 p.1.2.2.1 p.1.2.2.2.1 p.1.2.2.2.2.1 p.1.2.2.2.2.2.1, laws_toEngine_y p.1.1 p.1.2.1 p.1.2.2.1 p.1.2.2.2.1 p.1.2.2.2.2.1 p.1.2.2.2.2.2.1, laws_toEngine_l⟩
  cases hk

def G25 : Glob := G24.add 25 laws_toEngine_g

theorem G25_ok : GlobOk Try.prog G25 := G24_ok.add ⟨Try.f25, Try.func25, by kernel_rfl, by kernel_rfl⟩ laws_toEngine_c



def laws_toStringS_loops : Nat → Option LoopSpec
  | 0 => some ⟨[0, 3, 4], [], fun vals st k => onPats [.lst .str, .own 0, .int .i64] [.arr .str] vals st (fun p q => loopK laws_toStringS_b0 Fuel (p.1, p.2.2.1, q.1) (fun z => k (.exit 0) [.lst .str z.1, .own 0, .int .i64 z.2.1] [.arr .str z.2.2]))
      (none)⟩
  | _ => none

def laws_toStringS_v0 : ((List ByteArray) × Int × (List ByteArray)) → List AV := (fun x => [.lst .str x.1, .own 0, .int .i64 x.2.1])
def laws_toStringS_s0 : ((List ByteArray) × Int × (List ByteArray)) → St := (fun x => [.arr .str x.2.2])
def laws_toStringS_e0 : ((List ByteArray) × Int × (List ByteArray)) → Out × List AV × St := (fun z => ((.exit 0), [.lst .str z.1, .own 0, .int .i64 z.2.1], [.arr .str z.2.2]))

theorem laws_toStringS_bx0 (x : ((List ByteArray) × Int × (List ByteArray))) : exec G25 ⟨0, 22, laws_toStringS_loops⟩ (loopBody Try.f160 0) (bodyK ⟨0, 22, laws_toStringS_loops⟩ [0, 3, 4] []) (setEs (deads 22) [0, 3, 4] (laws_toStringS_v0 x)) (laws_toStringS_s0 x) = laws_toStringS_b0 x (Sum.elim (fun y => some ⟨.norm, laws_toStringS_v0 y, laws_toStringS_s0 y⟩) fun z => some ⟨(laws_toStringS_e0 z).1, (laws_toStringS_e0 z).2.1, (laws_toStringS_e0 z).2.2⟩) := by
  kernel_rfl

theorem laws_toStringS_lo0 : ∀ sp, (laws_toStringS_loops 0) = some sp → LoopOk G25 ⟨0, 22, laws_toStringS_loops⟩ sp (loopBody Try.f160 0) := by
  intro sp hsp vals st k r h
  cases hsp
  dsimp only at h
  rcases onPats_inv2 h with ⟨p, q, rfl, rfl, h⟩ | h
  · exact loop_runs2 laws_toStringS_bp0 laws_toStringS_v0 laws_toStringS_s0 laws_toStringS_e0 (fun z => by (intro h; cases h)) laws_toStringS_bx0 Fuel (p.1, p.2.2.1, q.1) _ k r (fun z => rfl) h
  cases h

theorem laws_toStringS_y (a0 : (List ByteArray)) : execFn G25 laws_toStringS_loops Try.f160 [.lst .str a0] [] = laws_toStringS_k a0 (fun (y : (List ByteArray)) => some ⟨.ret, [.own 0], [.arr .str y]⟩) := by rw [laws_toStringS_e]; kernel_rfl

theorem laws_toStringS_l : LoopsOk G25 ⟨0, 22, laws_toStringS_loops⟩ (Try.f160.body.getD .skip) :=
  loopsOk_of (ids := [0]) (by kernel_rfl) (by kernel_rfl) ⟨laws_toStringS_lo0, trivial⟩

theorem laws_toStringS_c : Contract Try.prog 160 laws_toStringS_g := by
  refine told G25_ok follows Try.func160 (c := Try.f160.body.getD .skip) (by kernel_rfl) ?_
  intro args s k r hk
  unfold laws_toStringS_g at hk
  rcases onPats_inv hk with ⟨p, q, rfl, rfl⟩ | hk
  · exact ⟨laws_toStringS_loops, laws_toStringS_q p.1, laws_toStringS_y p.1, laws_toStringS_l⟩
  cases hk

def G26 : Glob := G25.add 160 laws_toStringS_g

theorem G26_ok : GlobOk Try.prog G26 := G25_ok.add ⟨Try.f160, Try.func160, by kernel_rfl, by kernel_rfl⟩ laws_toStringS_c



def laws_toPut_loops : Nat → Option LoopSpec
  | _ => none

theorem laws_toPut_y (a0 : Int) (a1 : ByteArray) : execFn G26 laws_toPut_loops Try.f229 [.agg [.int .i64 a0, .str a1]] [] = laws_toPut_k (a0, a1) (fun (y : (Int × ByteArray)) => some ⟨.ret, [.agg [.int .i64 y.1, .str y.2]], []⟩) := by rw [laws_toPut_e]; kernel_rfl

theorem laws_toPut_l : LoopsOk G26 ⟨0, 11, laws_toPut_loops⟩ (Try.f229.body.getD .skip) :=
  loopsOk_of (ids := []) (by kernel_rfl) (by kernel_rfl) trivial

theorem laws_toPut_c : Contract Try.prog 229 laws_toPut_g := by
  refine told G26_ok follows Try.func229 (c := Try.f229.body.getD .skip) (by kernel_rfl) ?_
  intro args s k r hk
  unfold laws_toPut_g at hk
  rcases onPats_inv hk with ⟨p, q, rfl, rfl⟩ | hk
  · exact ⟨laws_toPut_loops, laws_toPut_q p.1.1 p.1.2.1, laws_toPut_y p.1.1 p.1.2.1, laws_toPut_l⟩
  cases hk

def G27 : Glob := G26.add 229 laws_toPut_g

theorem G27_ok : GlobOk Try.prog G27 := G26_ok.add ⟨Try.f229, Try.func229, by kernel_rfl, by kernel_rfl⟩ laws_toPut_c



def laws_toPutS_loops : Nat → Option LoopSpec
  | 0 => some ⟨[0, 3, 4], [], fun vals st k => onPats [.lst tPut, .own 0, .int .i64] [.arr tPut] vals st (fun p q => loopK laws_toPutS_b0 Fuel (p.1, p.2.2.1, q.1) (fun z => k (.exit 0) [.lst tPut z.1, .own 0, .int .i64 z.2.1] [.arr tPut z.2.2]))
      (none)⟩
  | _ => none

def laws_toPutS_v0 : ((List dPut) × Int × (List dPut)) → List AV := (fun x => [.lst tPut x.1, .own 0, .int .i64 x.2.1])
def laws_toPutS_s0 : ((List dPut) × Int × (List dPut)) → St := (fun x => [.arr tPut x.2.2])
def laws_toPutS_e0 : ((List dPut) × Int × (List dPut)) → Out × List AV × St := (fun z => ((.exit 0), [.lst tPut z.1, .own 0, .int .i64 z.2.1], [.arr tPut z.2.2]))

theorem laws_toPutS_bx0 (x : ((List dPut) × Int × (List dPut))) : exec G27 ⟨0, 23, laws_toPutS_loops⟩ (loopBody Try.f161 0) (bodyK ⟨0, 23, laws_toPutS_loops⟩ [0, 3, 4] []) (setEs (deads 23) [0, 3, 4] (laws_toPutS_v0 x)) (laws_toPutS_s0 x) = laws_toPutS_b0 x (Sum.elim (fun y => some ⟨.norm, laws_toPutS_v0 y, laws_toPutS_s0 y⟩) fun z => some ⟨(laws_toPutS_e0 z).1, (laws_toPutS_e0 z).2.1, (laws_toPutS_e0 z).2.2⟩) := by
  kernel_rfl

theorem laws_toPutS_lo0 : ∀ sp, (laws_toPutS_loops 0) = some sp → LoopOk G27 ⟨0, 23, laws_toPutS_loops⟩ sp (loopBody Try.f161 0) := by
  intro sp hsp vals st k r h
  cases hsp
  dsimp only at h
  rcases onPats_inv2 h with ⟨p, q, rfl, rfl, h⟩ | h
  · exact loop_runs2 laws_toPutS_bp0 laws_toPutS_v0 laws_toPutS_s0 laws_toPutS_e0 (fun z => by (intro h; cases h)) laws_toPutS_bx0 Fuel (p.1, p.2.2.1, q.1) _ k r (fun z => rfl) h
  cases h

theorem laws_toPutS_y (a0 : (List dPut)) : execFn G27 laws_toPutS_loops Try.f161 [.lst tPut a0] [] = laws_toPutS_k a0 (fun (y : (List dPut)) => some ⟨.ret, [.own 0], [.arr tPut y]⟩) := by rw [laws_toPutS_e]; kernel_rfl

theorem laws_toPutS_l : LoopsOk G27 ⟨0, 23, laws_toPutS_loops⟩ (Try.f161.body.getD .skip) :=
  loopsOk_of (ids := [0]) (by kernel_rfl) (by kernel_rfl) ⟨laws_toPutS_lo0, trivial⟩

theorem laws_toPutS_c : Contract Try.prog 161 laws_toPutS_g := by
  refine told G27_ok follows Try.func161 (c := Try.f161.body.getD .skip) (by kernel_rfl) ?_
  intro args s k r hk
  unfold laws_toPutS_g at hk
  rcases onPats_inv hk with ⟨p, q, rfl, rfl⟩ | hk
  · exact ⟨laws_toPutS_loops, laws_toPutS_q p.1, laws_toPutS_y p.1, laws_toPutS_l⟩
  cases hk

def G28 : Glob := G27.add 161 laws_toPutS_g

theorem G28_ok : GlobOk Try.prog G28 := G27_ok.add ⟨Try.f161, Try.func161, by kernel_rfl, by kernel_rfl⟩ laws_toPutS_c



def laws_toDisk_loops : Nat → Option LoopSpec
  | _ => none

theorem laws_toDisk_y (a0 : (List ByteArray)) (a1 : (List dPut)) : execFn G28 laws_toDisk_loops Try.f73 [.agg [.lst .str a0, .lst tPut a1]] [] = laws_toDisk_k (a0, a1) (fun (y : ((List ByteArray) × (List dPut))) => some ⟨.ret, [.agg [.own 0, .own 1]], [.arr .str y.1, .arr tPut y.2]⟩) := by rw [laws_toDisk_e]; kernel_rfl

theorem laws_toDisk_l : LoopsOk G28 ⟨0, 13, laws_toDisk_loops⟩ (Try.f73.body.getD .skip) :=
  loopsOk_of (ids := []) (by kernel_rfl) (by kernel_rfl) trivial

theorem laws_toDisk_c : Contract Try.prog 73 laws_toDisk_g := by
  refine told G28_ok follows Try.func73 (c := Try.f73.body.getD .skip) (by kernel_rfl) ?_
  intro args s k r hk
  unfold laws_toDisk_g at hk
  rcases onPats_inv hk with ⟨p, q, rfl, rfl⟩ | hk
  · exact ⟨laws_toDisk_loops, laws_toDisk_q p.1.1 p.1.2.1, laws_toDisk_y p.1.1 p.1.2.1, laws_toDisk_l⟩
  cases hk

def G29 : Glob := G28.add 73 laws_toDisk_g

theorem G29_ok : GlobOk Try.prog G29 := G28_ok.add ⟨Try.f73, Try.func73, by kernel_rfl, by kernel_rfl⟩ laws_toDisk_c



def laws_toStore_loops : Nat → Option LoopSpec
  | _ => none

theorem laws_toStore_y (a0 : (List dVersion)) (a1 : (List dTxn)) (a2 : (List dTxn)) (a3 : Int) (a4 : Int) (a5 : (List dTxn)) (a6 : (List ByteArray)) (a7 : (List dPut)) : execFn G29 laws_toStore_loops Try.f16 [.agg [.lst tVersion a0, .lst tTxn a1, .lst tTxn a2, .int .i64 a3, .int .i64 a4, .lst tTxn a5, .lst .str a6, .lst tPut a7]] [] = laws_toStore_k (((a0, (a1, (a2, (a3, a4)))), a5), (a6, a7)) (fun (y : (Int × Int × (List dVersion) × (List dTxn) × (List dTxn) × (List dTxn) × (List ByteArray) × (List dPut))) => some ⟨.ret, [.agg [.own 0, .own 1, .own 2, .int .i64 y.1, .int .i64 y.2.1, .own 3, .own 4, .own 5]], [.arr tVersion y.2.2.1, .dep tTxn y.2.2.2.1 0, .dep tTxn y.2.2.2.2.1 0, .dep tTxn y.2.2.2.2.2.1 0, .arr .str y.2.2.2.2.2.2.1, .arr tPut y.2.2.2.2.2.2.2]⟩) := by rw [laws_toStore_e]; kernel_rfl

theorem laws_toStore_l : LoopsOk G29 ⟨0, 13, laws_toStore_loops⟩ (Try.f16.body.getD .skip) :=
  loopsOk_of (ids := []) (by kernel_rfl) (by kernel_rfl) trivial

theorem laws_toStore_c : Contract Try.prog 16 laws_toStore_g := by
  refine told G29_ok follows Try.func16 (c := Try.f16.body.getD .skip) (by kernel_rfl) ?_
  intro args s k r hk
  unfold laws_toStore_g at hk
  rcases onPats_inv hk with ⟨p, q, rfl, rfl⟩ | hk
  · exact ⟨laws_toStore_loops, laws_toStore_q p.1.1 p.1.2.1 p.1.2.2.1 p.1.2.2.2.1 p.1.2.2.2.2.1 p.1.2.2.2.2.2.1 p.1.2.2.2.2.2.2.1 p.1.2.2.2.2.2.2.2.1, laws_toStore_y p.1.1 p.1.2.1 p.1.2.2.1 p.1.2.2.2.1 p.1.2.2.2.2.1 p.1.2.2.2.2.2.1 p.1.2.2.2.2.2.2.1 p.1.2.2.2.2.2.2.2.1, laws_toStore_l⟩
  cases hk

def G30 : Glob := G29.add 16 laws_toStore_g

theorem G30_ok : GlobOk Try.prog G30 := G29_ok.add ⟨Try.f16, Try.func16, by kernel_rfl, by kernel_rfl⟩ laws_toStore_c



def spec_InDoubt_loops : Nat → Option LoopSpec
  | 0 => some ⟨[1, 3, 4], [], fun vals st k => onPats [.bp 0 0, .own 1, .int .i64] [.box [.lst tVersion, .lst tTxn, .lst tTxn, .int .i64, .int .i64, .lst tTxn, .lst .str, .lst tPut], .arr .str] vals st (fun p q => loopK spec_InDoubt_b0 Fuel (p.2.2.1, q.1.1, q.1.2.1, q.1.2.2.1, q.1.2.2.2.1, q.1.2.2.2.2.1, q.1.2.2.2.2.2.1, q.1.2.2.2.2.2.2.1, q.1.2.2.2.2.2.2.2.1, q.2.1) (fun z => k (.exit 0) [.bp 0 0, .own 1, .int .i64 z.1] [.box [.lst tVersion z.2.1, .lst tTxn z.2.2.1, .lst tTxn z.2.2.2.1, .int .i64 z.2.2.2.2.1, .int .i64 z.2.2.2.2.2.1, .lst tTxn z.2.2.2.2.2.2.1, .lst .str z.2.2.2.2.2.2.2.1, .lst tPut z.2.2.2.2.2.2.2.2.1], .arr .str z.2.2.2.2.2.2.2.2.2]))
      (none)⟩
  | _ => none

def spec_InDoubt_v0 : (Int × (List dVersion) × (List dTxn) × (List dTxn) × Int × Int × (List dTxn) × (List ByteArray) × (List dPut) × (List ByteArray)) → List AV := (fun x => [.bp 0 0, .own 1, .int .i64 x.1])
def spec_InDoubt_s0 : (Int × (List dVersion) × (List dTxn) × (List dTxn) × Int × Int × (List dTxn) × (List ByteArray) × (List dPut) × (List ByteArray)) → St := (fun x => [.box [.lst tVersion x.2.1, .lst tTxn x.2.2.1, .lst tTxn x.2.2.2.1, .int .i64 x.2.2.2.2.1, .int .i64 x.2.2.2.2.2.1, .lst tTxn x.2.2.2.2.2.2.1, .lst .str x.2.2.2.2.2.2.2.1, .lst tPut x.2.2.2.2.2.2.2.2.1], .arr .str x.2.2.2.2.2.2.2.2.2])
def spec_InDoubt_e0 : (Int × (List dVersion) × (List dTxn) × (List dTxn) × Int × Int × (List dTxn) × (List ByteArray) × (List dPut) × (List ByteArray)) → Out × List AV × St := (fun z => ((.exit 0), [.bp 0 0, .own 1, .int .i64 z.1], [.box [.lst tVersion z.2.1, .lst tTxn z.2.2.1, .lst tTxn z.2.2.2.1, .int .i64 z.2.2.2.2.1, .int .i64 z.2.2.2.2.2.1, .lst tTxn z.2.2.2.2.2.2.1, .lst .str z.2.2.2.2.2.2.2.1, .lst tPut z.2.2.2.2.2.2.2.2.1], .arr .str z.2.2.2.2.2.2.2.2.2]))

theorem spec_InDoubt_bx0 (x : (Int × (List dVersion) × (List dTxn) × (List dTxn) × Int × Int × (List dTxn) × (List ByteArray) × (List dPut) × (List ByteArray))) : exec G30.shallow ⟨0, 27, spec_InDoubt_loops⟩ (loopBody Try.f15 0) (bodyK ⟨0, 27, spec_InDoubt_loops⟩ [1, 3, 4] []) (setEs (deads 27) [1, 3, 4] (spec_InDoubt_v0 x)) (spec_InDoubt_s0 x) = spec_InDoubt_b0 x (Sum.elim (fun y => some ⟨.norm, spec_InDoubt_v0 y, spec_InDoubt_s0 y⟩) fun z => some ⟨(spec_InDoubt_e0 z).1, (spec_InDoubt_e0 z).2.1, (spec_InDoubt_e0 z).2.2⟩) := by
  kernel_rfl

theorem spec_InDoubt_lo0 : ∀ sp, (spec_InDoubt_loops 0) = some sp → LoopOk G30.shallow ⟨0, 27, spec_InDoubt_loops⟩ sp (loopBody Try.f15 0) := by
  intro sp hsp vals st k r h
  cases hsp
  dsimp only at h
  rcases onPats_inv2 h with ⟨p, q, rfl, rfl, h⟩ | h
  · exact loop_runs2 spec_InDoubt_bp0 spec_InDoubt_v0 spec_InDoubt_s0 spec_InDoubt_e0 (fun z => by (intro h; cases h)) spec_InDoubt_bx0 Fuel (p.2.2.1, q.1.1, q.1.2.1, q.1.2.2.1, q.1.2.2.2.1, q.1.2.2.2.2.1, q.1.2.2.2.2.2.1, q.1.2.2.2.2.2.2.1, q.1.2.2.2.2.2.2.2.1, q.2.1) _ k r (fun z => rfl) h
  cases h

theorem spec_InDoubt_y (a0 : (List dVersion)) (a1 : (List dTxn)) (a2 : (List dTxn)) (a3 : Int) (a4 : Int) (a5 : (List dTxn)) (a6 : (List ByteArray)) (a7 : (List dPut)) : execFn G30.shallow spec_InDoubt_loops Try.f15 [.agg [.lst tVersion a0, .lst tTxn a1, .lst tTxn a2, .int .i64 a3, .int .i64 a4, .lst tTxn a5, .lst .str a6, .lst tPut a7]] [] = spec_InDoubt_k (((a0, (a1, (a2, (a3, a4)))), a5), (a6, a7)) (fun (y : (List ByteArray)) => some ⟨.ret, [.own 0], [.arr .str y]⟩) := by rw [spec_InDoubt_e]; kernel_rfl

theorem spec_InDoubt_l : LoopsOk G30.shallow ⟨0, 27, spec_InDoubt_loops⟩ (Try.f15.body.getD .skip) :=
  loopsOk_of (ids := [0]) (by kernel_rfl) (by kernel_rfl) ⟨spec_InDoubt_lo0, trivial⟩

theorem spec_InDoubt_c : Contract Try.prog 15 spec_InDoubt_g := by
  refine told G30_ok.shallow follows Try.func15 (c := Try.f15.body.getD .skip) (by kernel_rfl) ?_
  intro args s k r hk
  unfold spec_InDoubt_g at hk
  rcases onPats_inv hk with ⟨p, q, rfl, rfl⟩ | hk
  · exact ⟨spec_InDoubt_loops, spec_InDoubt_q p.1.1 p.1.2.1 p.1.2.2.1 p.1.2.2.2.1 p.1.2.2.2.2.1 p.1.2.2.2.2.2.1 p.1.2.2.2.2.2.2.1 p.1.2.2.2.2.2.2.2.1, spec_InDoubt_y p.1.1 p.1.2.1 p.1.2.2.1 p.1.2.2.2.1 p.1.2.2.2.2.1 p.1.2.2.2.2.2.1 p.1.2.2.2.2.2.2.1 p.1.2.2.2.2.2.2.2.1, spec_InDoubt_l⟩
  cases hk

def G31 : Glob := G30.add 15 spec_InDoubt_g

theorem G31_ok : GlobOk Try.prog G31 := G30_ok.add ⟨Try.f15, Try.func15, by kernel_rfl, by kernel_rfl⟩ spec_InDoubt_c



def impl_InDoubt_loops : Nat → Option LoopSpec
  | 0 => some ⟨[3, 9, 10, 11], [some .str], fun vals st k => onPats [.own 0, .lst tTxn, .int .i64, .int .i64] [.arr .str] vals st (fun p q => loopK impl_InDoubt_b0 Fuel (p.2.1, p.2.2.1, p.2.2.2.1, q.1) (fun z => k (.exit 0) [.own 0, .lst tTxn z.1, .int .i64 z.2.1, .int .i64 z.2.2.1] [.arr .str z.2.2.2]))
      (none)⟩
  | _ => none

def impl_InDoubt_v0 : ((List dTxn) × Int × Int × (List ByteArray)) → List AV := (fun x => [.own 0, .lst tTxn x.1, .int .i64 x.2.1, .int .i64 x.2.2.1])
def impl_InDoubt_s0 : ((List dTxn) × Int × Int × (List ByteArray)) → St := (fun x => [.arr .str x.2.2.2])
def impl_InDoubt_e0 : ((List dTxn) × Int × Int × (List ByteArray)) → Out × List AV × St := (fun z => ((.exit 0), [.own 0, .lst tTxn z.1, .int .i64 z.2.1, .int .i64 z.2.2.1], [.arr .str z.2.2.2]))

theorem impl_InDoubt_bx0 (x : ((List dTxn) × Int × Int × (List ByteArray))) : exec G31 ⟨0, 22, impl_InDoubt_loops⟩ (loopBody Try.f17 0) (bodyK ⟨0, 22, impl_InDoubt_loops⟩ [3, 9, 10, 11] [some .str]) (setEs (deads 22) [3, 9, 10, 11] (impl_InDoubt_v0 x)) (impl_InDoubt_s0 x) = impl_InDoubt_b0 x (Sum.elim (fun y => some ⟨.norm, impl_InDoubt_v0 y, impl_InDoubt_s0 y⟩) fun z => some ⟨(impl_InDoubt_e0 z).1, (impl_InDoubt_e0 z).2.1, (impl_InDoubt_e0 z).2.2⟩) := by
  kernel_rfl

theorem impl_InDoubt_lo0 : ∀ sp, (impl_InDoubt_loops 0) = some sp → LoopOk G31 ⟨0, 22, impl_InDoubt_loops⟩ sp (loopBody Try.f17 0) := by
  intro sp hsp vals st k r h
  cases hsp
  dsimp only at h
  rcases onPats_inv2 h with ⟨p, q, rfl, rfl, h⟩ | h
  · exact loop_runs2 impl_InDoubt_bp0 impl_InDoubt_v0 impl_InDoubt_s0 impl_InDoubt_e0 (fun z => by (intro h; cases h)) impl_InDoubt_bx0 Fuel (p.2.1, p.2.2.1, p.2.2.2.1, q.1) _ k r (fun z => rfl) h
  cases h

theorem impl_InDoubt_y (a0 : (List dVersion)) (a1 : (List dTxn)) (a2 : (List dTxn)) (a3 : Int) (a4 : Int) (a5 : (List dTxn)) (a6 : (List ByteArray)) (a7 : (List dPut)) : execFn G31 impl_InDoubt_loops Try.f17 [.agg [.lst tVersion a0, .lst tTxn a1, .lst tTxn a2, .int .i64 a3, .int .i64 a4, .lst tTxn a5, .lst .str a6, .lst tPut a7]] [] = impl_InDoubt_k (((a0, (a1, (a2, (a3, a4)))), a5), (a6, a7)) (fun (y : (List ByteArray)) => some ⟨.ret, [.own 0], [.arr .str y]⟩) := by rw [impl_InDoubt_e]; kernel_rfl

theorem impl_InDoubt_l : LoopsOk G31 ⟨0, 22, impl_InDoubt_loops⟩ (Try.f17.body.getD .skip) :=
  loopsOk_of (ids := [0]) (by kernel_rfl) (by kernel_rfl) ⟨impl_InDoubt_lo0, trivial⟩

theorem impl_InDoubt_c : Contract Try.prog 17 impl_InDoubt_g := by
  refine told G31_ok follows Try.func17 (c := Try.f17.body.getD .skip) (by kernel_rfl) ?_
  intro args s k r hk
  unfold impl_InDoubt_g at hk
  rcases onPats_inv hk with ⟨p, q, rfl, rfl⟩ | hk
  · exact ⟨impl_InDoubt_loops, impl_InDoubt_q p.1.1 p.1.2.1 p.1.2.2.1 p.1.2.2.2.1 p.1.2.2.2.2.1 p.1.2.2.2.2.2.1 p.1.2.2.2.2.2.2.1 p.1.2.2.2.2.2.2.2.1, impl_InDoubt_y p.1.1 p.1.2.1 p.1.2.2.1 p.1.2.2.2.1 p.1.2.2.2.2.1 p.1.2.2.2.2.2.1 p.1.2.2.2.2.2.2.1 p.1.2.2.2.2.2.2.2.1, impl_InDoubt_l⟩
  cases hk

def G32 : Glob := G31.add 17 impl_InDoubt_g

theorem G32_ok : GlobOk Try.prog G32 := G31_ok.add ⟨Try.f17, Try.func17, by kernel_rfl, by kernel_rfl⟩ impl_InDoubt_c



def laws_eqStringS_loops : Nat → Option LoopSpec
  | 0 => some ⟨[0, 1, 4, 5], [], fun vals st k => onPats [.lst .str, .lst .str, .bool, .int .i64] [] vals st (fun p q => loopK laws_eqStringS_b0 Fuel (p.1, p.2.1, p.2.2.1, p.2.2.2.1) (Sum.elim (fun z => k .ret [.lst .str z.1, .lst .str z.2.1, .bool z.2.2.1, .int .i64 z.2.2.2] []) (fun z => k (.exit 0) [.lst .str z.1, .lst .str z.2.1, .bool z.2.2.1, .int .i64 z.2.2.2] [])))
      (none)⟩
  | 2000006 => some ⟨[0, 2, 4, 6, 8, 10, 12, 14, 16], [], fun _ _ _ => none⟩
  | _ => none

def laws_eqStringS_v0 : ((List ByteArray) × (List ByteArray) × Bool × Int) → List AV := (fun x => [.lst .str x.1, .lst .str x.2.1, .bool x.2.2.1, .int .i64 x.2.2.2])
def laws_eqStringS_s0 : ((List ByteArray) × (List ByteArray) × Bool × Int) → St := (fun x => [])
def laws_eqStringS_e0 : (((List ByteArray) × (List ByteArray) × Bool × Int) ⊕ ((List ByteArray) × (List ByteArray) × Bool × Int)) → Out × List AV × St := (Sum.elim (fun z => (.ret, [.lst .str z.1, .lst .str z.2.1, .bool z.2.2.1, .int .i64 z.2.2.2], [])) (fun z => ((.exit 0), [.lst .str z.1, .lst .str z.2.1, .bool z.2.2.1, .int .i64 z.2.2.2], [])))

theorem laws_eqStringS_bx0 (x : ((List ByteArray) × (List ByteArray) × Bool × Int)) : exec G32 ⟨0, 26, laws_eqStringS_loops⟩ (loopBody Try.f18 0) (bodyK ⟨0, 26, laws_eqStringS_loops⟩ [0, 1, 4, 5] []) (setEs (deads 26) [0, 1, 4, 5] (laws_eqStringS_v0 x)) (laws_eqStringS_s0 x) = laws_eqStringS_b0 x (Sum.elim (fun y => some ⟨.norm, laws_eqStringS_v0 y, laws_eqStringS_s0 y⟩) fun z => some ⟨(laws_eqStringS_e0 z).1, (laws_eqStringS_e0 z).2.1, (laws_eqStringS_e0 z).2.2⟩) := by
  kernel_rfl

theorem laws_eqStringS_lo0 : ∀ sp, (laws_eqStringS_loops 0) = some sp → LoopOk G32 ⟨0, 26, laws_eqStringS_loops⟩ sp (loopBody Try.f18 0) := by
  intro sp hsp vals st k r h
  cases hsp
  dsimp only at h
  rcases onPats_inv2 h with ⟨p, q, rfl, rfl, h⟩ | h
  · exact loop_runs2 laws_eqStringS_bp0 laws_eqStringS_v0 laws_eqStringS_s0 laws_eqStringS_e0 (fun z => by rcases z with z | z <;> (intro h; cases h)) laws_eqStringS_bx0 Fuel (p.1, p.2.1, p.2.2.1, p.2.2.2.1) _ k r (fun z => by rcases z with z | z <;> rfl) h
  cases h

theorem laws_eqStringS_y (a0 : (List ByteArray)) (a1 : (List ByteArray)) : execFn G32 laws_eqStringS_loops Try.f18 [.lst .str a0, .lst .str a1] [] = laws_eqStringS_k a0 a1 (fun (y : Bool) => some ⟨.ret, [.bool y], []⟩) := by rw [laws_eqStringS_e]; kernel_rfl

theorem laws_eqStringS_l : LoopsOk G32 ⟨0, 26, laws_eqStringS_loops⟩ (Try.f18.body.getD .skip) :=
  loopsOk_of (ids := [0]) (by kernel_rfl) (by kernel_rfl) ⟨laws_eqStringS_lo0, trivial⟩

theorem laws_eqStringS_c : Contract Try.prog 18 laws_eqStringS_g := by
  refine told G32_ok follows Try.func18 (c := Try.f18.body.getD .skip) (by kernel_rfl) ?_
  intro args s k r hk
  unfold laws_eqStringS_g at hk
  rcases onPats_inv hk with ⟨p, q, rfl, rfl⟩ | hk
  · exact ⟨laws_eqStringS_loops, laws_eqStringS_q p.1 p.2.1, laws_eqStringS_y p.1 p.2.1, laws_eqStringS_l⟩
  cases hk

def G33 : Glob := G32.add 18 laws_eqStringS_g

theorem G33_ok : GlobOk Try.prog G33 := G32_ok.add ⟨Try.f18, Try.func18, by kernel_rfl, by kernel_rfl⟩ laws_eqStringS_c



def laws_eqVersion_loops : Nat → Option LoopSpec
  | _ => none

theorem laws_eqVersion_y (a0 : ByteArray) (a1 : ByteArray) (a2 : Bool) (a3 : Int) (a4 : ByteArray) (a5 : ByteArray) (a6 : Bool) (a7 : Int) : execFn G33 laws_eqVersion_loops Try.f198 [.agg [.str a0, .str a1, .bool a2, .int .i64 a3], .agg [.str a4, .str a5, .bool a6, .int .i64 a7]] [] = laws_eqVersion_k (a0, (a1, (a2, a3))) (a4, (a5, (a6, a7))) (fun (y : Bool) => some ⟨.ret, [.bool y], []⟩) := by rw [laws_eqVersion_e]; kernel_rfl

theorem laws_eqVersion_l : LoopsOk G33 ⟨0, 25, laws_eqVersion_loops⟩ (Try.f198.body.getD .skip) :=
  loopsOk_of (ids := []) (by kernel_rfl) (by kernel_rfl) trivial

theorem laws_eqVersion_c : Contract Try.prog 198 laws_eqVersion_g := by
  refine told G33_ok follows Try.func198 (c := Try.f198.body.getD .skip) (by kernel_rfl) ?_
  intro args s k r hk
  unfold laws_eqVersion_g at hk
  rcases onPats_inv hk with ⟨p, q, rfl, rfl⟩ | hk
  · exact ⟨laws_eqVersion_loops, laws_eqVersion_q p.1.1 p.1.2.1 p.1.2.2.1 p.1.2.2.2.1 p.2.1.1 p.2.1.2.1 p.2.1.2.2.1 p.2.1.2.2.2.1, laws_eqVersion_y p.1.1 p.1.2.1 p.1.2.2.1 p.1.2.2.2.1 p.2.1.1 p.2.1.2.1 p.2.1.2.2.1 p.2.1.2.2.2.1, laws_eqVersion_l⟩
  cases hk

def G34 : Glob := G33.add 198 laws_eqVersion_g

theorem G34_ok : GlobOk Try.prog G34 := G33_ok.add ⟨Try.f198, Try.func198, by kernel_rfl, by kernel_rfl⟩ laws_eqVersion_c



def laws_eqVersionS_loops : Nat → Option LoopSpec
  | 0 => some ⟨[0, 1, 4, 5], [], fun vals st k => onPats [.lst tVersion, .lst tVersion, .bool, .int .i64] [] vals st (fun p q => loopK laws_eqVersionS_b0 Fuel (p.1, p.2.1, p.2.2.1, p.2.2.2.1) (Sum.elim (fun z => k .ret [.lst tVersion z.1, .lst tVersion z.2.1, .bool z.2.2.1, .int .i64 z.2.2.2] []) (fun z => k (.exit 0) [.lst tVersion z.1, .lst tVersion z.2.1, .bool z.2.2.1, .int .i64 z.2.2.2] [])))
      (none)⟩
  | 2000006 => some ⟨[0, 2, 4, 6, 8, 10, 12, 14, 16, 18], [], fun _ _ _ => none⟩
  | _ => none

def laws_eqVersionS_v0 : ((List dVersion) × (List dVersion) × Bool × Int) → List AV := (fun x => [.lst tVersion x.1, .lst tVersion x.2.1, .bool x.2.2.1, .int .i64 x.2.2.2])
def laws_eqVersionS_s0 : ((List dVersion) × (List dVersion) × Bool × Int) → St := (fun x => [])
def laws_eqVersionS_e0 : (((List dVersion) × (List dVersion) × Bool × Int) ⊕ ((List dVersion) × (List dVersion) × Bool × Int)) → Out × List AV × St := (Sum.elim (fun z => (.ret, [.lst tVersion z.1, .lst tVersion z.2.1, .bool z.2.2.1, .int .i64 z.2.2.2], [])) (fun z => ((.exit 0), [.lst tVersion z.1, .lst tVersion z.2.1, .bool z.2.2.1, .int .i64 z.2.2.2], [])))

theorem laws_eqVersionS_bx0 (x : ((List dVersion) × (List dVersion) × Bool × Int)) : exec G34 ⟨0, 27, laws_eqVersionS_loops⟩ (loopBody Try.f121 0) (bodyK ⟨0, 27, laws_eqVersionS_loops⟩ [0, 1, 4, 5] []) (setEs (deads 27) [0, 1, 4, 5] (laws_eqVersionS_v0 x)) (laws_eqVersionS_s0 x) = laws_eqVersionS_b0 x (Sum.elim (fun y => some ⟨.norm, laws_eqVersionS_v0 y, laws_eqVersionS_s0 y⟩) fun z => some ⟨(laws_eqVersionS_e0 z).1, (laws_eqVersionS_e0 z).2.1, (laws_eqVersionS_e0 z).2.2⟩) := by
  kernel_rfl

theorem laws_eqVersionS_lo0 : ∀ sp, (laws_eqVersionS_loops 0) = some sp → LoopOk G34 ⟨0, 27, laws_eqVersionS_loops⟩ sp (loopBody Try.f121 0) := by
  intro sp hsp vals st k r h
  cases hsp
  dsimp only at h
  rcases onPats_inv2 h with ⟨p, q, rfl, rfl, h⟩ | h
  · exact loop_runs2 laws_eqVersionS_bp0 laws_eqVersionS_v0 laws_eqVersionS_s0 laws_eqVersionS_e0 (fun z => by rcases z with z | z <;> (intro h; cases h)) laws_eqVersionS_bx0 Fuel (p.1, p.2.1, p.2.2.1, p.2.2.2.1) _ k r (fun z => by rcases z with z | z <;> rfl) h
  cases h

theorem laws_eqVersionS_y (a0 : (List dVersion)) (a1 : (List dVersion)) : execFn G34 laws_eqVersionS_loops Try.f121 [.lst tVersion a0, .lst tVersion a1] [] = laws_eqVersionS_k a0 a1 (fun (y : Bool) => some ⟨.ret, [.bool y], []⟩) := by rw [laws_eqVersionS_e]; kernel_rfl

theorem laws_eqVersionS_l : LoopsOk G34 ⟨0, 27, laws_eqVersionS_loops⟩ (Try.f121.body.getD .skip) :=
  loopsOk_of (ids := [0]) (by kernel_rfl) (by kernel_rfl) ⟨laws_eqVersionS_lo0, trivial⟩

theorem laws_eqVersionS_c : Contract Try.prog 121 laws_eqVersionS_g := by
  refine told G34_ok follows Try.func121 (c := Try.f121.body.getD .skip) (by kernel_rfl) ?_
  intro args s k r hk
  unfold laws_eqVersionS_g at hk
  rcases onPats_inv hk with ⟨p, q, rfl, rfl⟩ | hk
  · exact ⟨laws_eqVersionS_loops, laws_eqVersionS_q p.1 p.2.1, laws_eqVersionS_y p.1 p.2.1, laws_eqVersionS_l⟩
  cases hk

def G35 : Glob := G34.add 121 laws_eqVersionS_g

theorem G35_ok : GlobOk Try.prog G35 := G34_ok.add ⟨Try.f121, Try.func121, by kernel_rfl, by kernel_rfl⟩ laws_eqVersionS_c



def laws_eqRange_loops : Nat → Option LoopSpec
  | _ => none

theorem laws_eqRange_y (a0 : ByteArray) (a1 : ByteArray) (a2 : ByteArray) (a3 : ByteArray) : execFn G35 laws_eqRange_loops Try.f250 [.agg [.str a0, .str a1], .agg [.str a2, .str a3]] [] = laws_eqRange_k (a0, a1) (a2, a3) (fun (y : Bool) => some ⟨.ret, [.bool y], []⟩) := by rw [laws_eqRange_e]; kernel_rfl

theorem laws_eqRange_l : LoopsOk G35 ⟨0, 15, laws_eqRange_loops⟩ (Try.f250.body.getD .skip) :=
  loopsOk_of (ids := []) (by kernel_rfl) (by kernel_rfl) trivial

theorem laws_eqRange_c : Contract Try.prog 250 laws_eqRange_g := by
  refine told G35_ok follows Try.func250 (c := Try.f250.body.getD .skip) (by kernel_rfl) ?_
  intro args s k r hk
  unfold laws_eqRange_g at hk
  rcases onPats_inv hk with ⟨p, q, rfl, rfl⟩ | hk
  · exact ⟨laws_eqRange_loops, laws_eqRange_q p.1.1 p.1.2.1 p.2.1.1 p.2.1.2.1, laws_eqRange_y p.1.1 p.1.2.1 p.2.1.1 p.2.1.2.1, laws_eqRange_l⟩
  cases hk

def G36 : Glob := G35.add 250 laws_eqRange_g

theorem G36_ok : GlobOk Try.prog G36 := G35_ok.add ⟨Try.f250, Try.func250, by kernel_rfl, by kernel_rfl⟩ laws_eqRange_c



def laws_eqRangeS_loops : Nat → Option LoopSpec
  | 0 => some ⟨[0, 1, 4, 5], [], fun vals st k => onPats [.lst tRange, .lst tRange, .bool, .int .i64] [] vals st (fun p q => loopK laws_eqRangeS_b0 Fuel (p.1, p.2.1, p.2.2.1, p.2.2.2.1) (Sum.elim (fun z => k .ret [.lst tRange z.1, .lst tRange z.2.1, .bool z.2.2.1, .int .i64 z.2.2.2] []) (fun z => k (.exit 0) [.lst tRange z.1, .lst tRange z.2.1, .bool z.2.2.1, .int .i64 z.2.2.2] [])))
      (none)⟩
  | 2000006 => some ⟨[0, 2, 4, 6, 8, 10, 12, 14, 16, 18], [], fun _ _ _ => none⟩
  | _ => none

def laws_eqRangeS_v0 : ((List dRange) × (List dRange) × Bool × Int) → List AV := (fun x => [.lst tRange x.1, .lst tRange x.2.1, .bool x.2.2.1, .int .i64 x.2.2.2])
def laws_eqRangeS_s0 : ((List dRange) × (List dRange) × Bool × Int) → St := (fun x => [])
def laws_eqRangeS_e0 : (((List dRange) × (List dRange) × Bool × Int) ⊕ ((List dRange) × (List dRange) × Bool × Int)) → Out × List AV × St := (Sum.elim (fun z => (.ret, [.lst tRange z.1, .lst tRange z.2.1, .bool z.2.2.1, .int .i64 z.2.2.2], [])) (fun z => ((.exit 0), [.lst tRange z.1, .lst tRange z.2.1, .bool z.2.2.1, .int .i64 z.2.2.2], [])))

theorem laws_eqRangeS_bx0 (x : ((List dRange) × (List dRange) × Bool × Int)) : exec G36 ⟨0, 27, laws_eqRangeS_loops⟩ (loopBody Try.f184 0) (bodyK ⟨0, 27, laws_eqRangeS_loops⟩ [0, 1, 4, 5] []) (setEs (deads 27) [0, 1, 4, 5] (laws_eqRangeS_v0 x)) (laws_eqRangeS_s0 x) = laws_eqRangeS_b0 x (Sum.elim (fun y => some ⟨.norm, laws_eqRangeS_v0 y, laws_eqRangeS_s0 y⟩) fun z => some ⟨(laws_eqRangeS_e0 z).1, (laws_eqRangeS_e0 z).2.1, (laws_eqRangeS_e0 z).2.2⟩) := by
  kernel_rfl

theorem laws_eqRangeS_lo0 : ∀ sp, (laws_eqRangeS_loops 0) = some sp → LoopOk G36 ⟨0, 27, laws_eqRangeS_loops⟩ sp (loopBody Try.f184 0) := by
  intro sp hsp vals st k r h
  cases hsp
  dsimp only at h
  rcases onPats_inv2 h with ⟨p, q, rfl, rfl, h⟩ | h
  · exact loop_runs2 laws_eqRangeS_bp0 laws_eqRangeS_v0 laws_eqRangeS_s0 laws_eqRangeS_e0 (fun z => by rcases z with z | z <;> (intro h; cases h)) laws_eqRangeS_bx0 Fuel (p.1, p.2.1, p.2.2.1, p.2.2.2.1) _ k r (fun z => by rcases z with z | z <;> rfl) h
  cases h

theorem laws_eqRangeS_y (a0 : (List dRange)) (a1 : (List dRange)) : execFn G36 laws_eqRangeS_loops Try.f184 [.lst tRange a0, .lst tRange a1] [] = laws_eqRangeS_k a0 a1 (fun (y : Bool) => some ⟨.ret, [.bool y], []⟩) := by rw [laws_eqRangeS_e]; kernel_rfl

theorem laws_eqRangeS_l : LoopsOk G36 ⟨0, 27, laws_eqRangeS_loops⟩ (Try.f184.body.getD .skip) :=
  loopsOk_of (ids := [0]) (by kernel_rfl) (by kernel_rfl) ⟨laws_eqRangeS_lo0, trivial⟩

theorem laws_eqRangeS_c : Contract Try.prog 184 laws_eqRangeS_g := by
  refine told G36_ok follows Try.func184 (c := Try.f184.body.getD .skip) (by kernel_rfl) ?_
  intro args s k r hk
  unfold laws_eqRangeS_g at hk
  rcases onPats_inv hk with ⟨p, q, rfl, rfl⟩ | hk
  · exact ⟨laws_eqRangeS_loops, laws_eqRangeS_q p.1 p.2.1, laws_eqRangeS_y p.1 p.2.1, laws_eqRangeS_l⟩
  cases hk

def G37 : Glob := G36.add 184 laws_eqRangeS_g

theorem G37_ok : GlobOk Try.prog G37 := G36_ok.add ⟨Try.f184, Try.func184, by kernel_rfl, by kernel_rfl⟩ laws_eqRangeS_c



def laws_eqWrite_loops : Nat → Option LoopSpec
  | _ => none

theorem laws_eqWrite_y (a0 : ByteArray) (a1 : ByteArray) (a2 : Bool) (a3 : ByteArray) (a4 : ByteArray) (a5 : Bool) : execFn G37 laws_eqWrite_loops Try.f251 [.agg [.str a0, .str a1, .bool a2], .agg [.str a3, .str a4, .bool a5]] [] = laws_eqWrite_k (a0, (a1, a2)) (a3, (a4, a5)) (fun (y : Bool) => some ⟨.ret, [.bool y], []⟩) := by rw [laws_eqWrite_e]; kernel_rfl

theorem laws_eqWrite_l : LoopsOk G37 ⟨0, 20, laws_eqWrite_loops⟩ (Try.f251.body.getD .skip) :=
  loopsOk_of (ids := []) (by kernel_rfl) (by kernel_rfl) trivial

theorem laws_eqWrite_c : Contract Try.prog 251 laws_eqWrite_g := by
  refine told G37_ok follows Try.func251 (c := Try.f251.body.getD .skip) (by kernel_rfl) ?_
  intro args s k r hk
  unfold laws_eqWrite_g at hk
  rcases onPats_inv hk with ⟨p, q, rfl, rfl⟩ | hk
  · exact ⟨laws_eqWrite_loops, laws_eqWrite_q p.1.1 p.1.2.1 p.1.2.2.1 p.2.1.1 p.2.1.2.1 p.2.1.2.2.1, laws_eqWrite_y p.1.1 p.1.2.1 p.1.2.2.1 p.2.1.1 p.2.1.2.1 p.2.1.2.2.1, laws_eqWrite_l⟩
  cases hk

def G38 : Glob := G37.add 251 laws_eqWrite_g

theorem G38_ok : GlobOk Try.prog G38 := G37_ok.add ⟨Try.f251, Try.func251, by kernel_rfl, by kernel_rfl⟩ laws_eqWrite_c



def laws_eqWriteS_loops : Nat → Option LoopSpec
  | 0 => some ⟨[0, 1, 4, 5], [], fun vals st k => onPats [.lst tWrite, .lst tWrite, .bool, .int .i64] [] vals st (fun p q => loopK laws_eqWriteS_b0 Fuel (p.1, p.2.1, p.2.2.1, p.2.2.2.1) (Sum.elim (fun z => k .ret [.lst tWrite z.1, .lst tWrite z.2.1, .bool z.2.2.1, .int .i64 z.2.2.2] []) (fun z => k (.exit 0) [.lst tWrite z.1, .lst tWrite z.2.1, .bool z.2.2.1, .int .i64 z.2.2.2] [])))
      (none)⟩
  | 2000006 => some ⟨[0, 2, 4, 6, 8, 10, 12, 14, 16, 18], [], fun _ _ _ => none⟩
  | _ => none

def laws_eqWriteS_v0 : ((List dWrite) × (List dWrite) × Bool × Int) → List AV := (fun x => [.lst tWrite x.1, .lst tWrite x.2.1, .bool x.2.2.1, .int .i64 x.2.2.2])
def laws_eqWriteS_s0 : ((List dWrite) × (List dWrite) × Bool × Int) → St := (fun x => [])
def laws_eqWriteS_e0 : (((List dWrite) × (List dWrite) × Bool × Int) ⊕ ((List dWrite) × (List dWrite) × Bool × Int)) → Out × List AV × St := (Sum.elim (fun z => (.ret, [.lst tWrite z.1, .lst tWrite z.2.1, .bool z.2.2.1, .int .i64 z.2.2.2], [])) (fun z => ((.exit 0), [.lst tWrite z.1, .lst tWrite z.2.1, .bool z.2.2.1, .int .i64 z.2.2.2], [])))

theorem laws_eqWriteS_bx0 (x : ((List dWrite) × (List dWrite) × Bool × Int)) : exec G38 ⟨0, 27, laws_eqWriteS_loops⟩ (loopBody Try.f185 0) (bodyK ⟨0, 27, laws_eqWriteS_loops⟩ [0, 1, 4, 5] []) (setEs (deads 27) [0, 1, 4, 5] (laws_eqWriteS_v0 x)) (laws_eqWriteS_s0 x) = laws_eqWriteS_b0 x (Sum.elim (fun y => some ⟨.norm, laws_eqWriteS_v0 y, laws_eqWriteS_s0 y⟩) fun z => some ⟨(laws_eqWriteS_e0 z).1, (laws_eqWriteS_e0 z).2.1, (laws_eqWriteS_e0 z).2.2⟩) := by
  kernel_rfl

theorem laws_eqWriteS_lo0 : ∀ sp, (laws_eqWriteS_loops 0) = some sp → LoopOk G38 ⟨0, 27, laws_eqWriteS_loops⟩ sp (loopBody Try.f185 0) := by
  intro sp hsp vals st k r h
  cases hsp
  dsimp only at h
  rcases onPats_inv2 h with ⟨p, q, rfl, rfl, h⟩ | h
  · exact loop_runs2 laws_eqWriteS_bp0 laws_eqWriteS_v0 laws_eqWriteS_s0 laws_eqWriteS_e0 (fun z => by rcases z with z | z <;> (intro h; cases h)) laws_eqWriteS_bx0 Fuel (p.1, p.2.1, p.2.2.1, p.2.2.2.1) _ k r (fun z => by rcases z with z | z <;> rfl) h
  cases h

theorem laws_eqWriteS_y (a0 : (List dWrite)) (a1 : (List dWrite)) : execFn G38 laws_eqWriteS_loops Try.f185 [.lst tWrite a0, .lst tWrite a1] [] = laws_eqWriteS_k a0 a1 (fun (y : Bool) => some ⟨.ret, [.bool y], []⟩) := by rw [laws_eqWriteS_e]; kernel_rfl

theorem laws_eqWriteS_l : LoopsOk G38 ⟨0, 27, laws_eqWriteS_loops⟩ (Try.f185.body.getD .skip) :=
  loopsOk_of (ids := [0]) (by kernel_rfl) (by kernel_rfl) ⟨laws_eqWriteS_lo0, trivial⟩

theorem laws_eqWriteS_c : Contract Try.prog 185 laws_eqWriteS_g := by
  refine told G38_ok follows Try.func185 (c := Try.f185.body.getD .skip) (by kernel_rfl) ?_
  intro args s k r hk
  unfold laws_eqWriteS_g at hk
  rcases onPats_inv hk with ⟨p, q, rfl, rfl⟩ | hk
  · exact ⟨laws_eqWriteS_loops, laws_eqWriteS_q p.1 p.2.1, laws_eqWriteS_y p.1 p.2.1, laws_eqWriteS_l⟩
  cases hk

def G39 : Glob := G38.add 185 laws_eqWriteS_g

theorem G39_ok : GlobOk Try.prog G39 := G38_ok.add ⟨Try.f185, Try.func185, by kernel_rfl, by kernel_rfl⟩ laws_eqWriteS_c



def laws_eqTxn_loops : Nat → Option LoopSpec
  | _ => none

theorem laws_eqTxn_y (a0 : Int) (a1 : Int) (a2 : Int) (a3 : Int) (a4 : (List dRange)) (a5 : (List dWrite)) (a6 : Bool) (a7 : ByteArray) (a8 : Int) (a9 : Int) (a10 : Int) (a11 : Int) (a12 : (List dRange)) (a13 : (List dWrite)) (a14 : Bool) (a15 : ByteArray) : execFn G39 laws_eqTxn_loops Try.f104 [.agg [.int .i64 a0, .int .i64 a1, .int .i64 a2, .int .i64 a3, .lst tRange a4, .lst tWrite a5, .bool a6, .str a7], .agg [.int .i64 a8, .int .i64 a9, .int .i64 a10, .int .i64 a11, .lst tRange a12, .lst tWrite a13, .bool a14, .str a15]] [] = laws_eqTxn_k (a0, (a1, (a2, (a3, (a4, (a5, (a6, a7))))))) (a8, (a9, (a10, (a11, (a12, (a13, (a14, a15))))))) (fun (y : Bool) => some ⟨.ret, [.bool y], []⟩) := by rw [laws_eqTxn_e]; kernel_rfl

theorem laws_eqTxn_l : LoopsOk G39 ⟨0, 47, laws_eqTxn_loops⟩ (Try.f104.body.getD .skip) :=
  loopsOk_of (ids := []) (by kernel_rfl) (by kernel_rfl) trivial

theorem laws_eqTxn_c : Contract Try.prog 104 laws_eqTxn_g := by
  refine told G39_ok follows Try.func104 (c := Try.f104.body.getD .skip) (by kernel_rfl) ?_
  intro args s k r hk
  unfold laws_eqTxn_g at hk
  rcases onPats_inv hk with ⟨p, q, rfl, rfl⟩ | hk
  · exact ⟨laws_eqTxn_loops, laws_eqTxn_q p.1.1 p.1.2.1 p.1.2.2.1 p.1.2.2.2.1 p.1.2.2.2.2.1 p.1.2.2.2.2.2.1 p.1.2.2.2.2.2.2.1 p.1.2.2.2.2.2.2.2.1 p.2.1.1 p.2.1.2.1 p.2.1.2.2.1 p.2.1.2.2.2.1 p.2.1.2.2.2.2.1 p.2.1.2.2.2.2.2.1 p.2.1.2.2.2.2.2.2.1 p.2.1.2.2.2.2.2.2.2.1, laws_eqTxn_y p.1.1 p.1.2.1 p.1.2.2.1 p.1.2.2.2.1 p.1.2.2.2.2.1 p.1.2.2.2.2.2.1 p.1.2.2.2.2.2.2.1 p.1.2.2.2.2.2.2.2.1 p.2.1.1 p.2.1.2.1 p.2.1.2.2.1 p.2.1.2.2.2.1 p.2.1.2.2.2.2.1 p.2.1.2.2.2.2.2.1 p.2.1.2.2.2.2.2.2.1 p.2.1.2.2.2.2.2.2.2.1, laws_eqTxn_l⟩
  cases hk

def G40 : Glob := G39.add 104 laws_eqTxn_g

theorem G40_ok : GlobOk Try.prog G40 := G39_ok.add ⟨Try.f104, Try.func104, by kernel_rfl, by kernel_rfl⟩ laws_eqTxn_c



def laws_eqTxnS_loops : Nat → Option LoopSpec
  | 0 => some ⟨[0, 1, 4, 5], [], fun vals st k => onPats [.lst tTxn, .lst tTxn, .bool, .int .i64] [] vals st (fun p q => loopK laws_eqTxnS_b0 Fuel (p.1, p.2.1, p.2.2.1, p.2.2.2.1) (Sum.elim (fun z => k .ret [.lst tTxn z.1, .lst tTxn z.2.1, .bool z.2.2.1, .int .i64 z.2.2.2] []) (fun z => k (.exit 0) [.lst tTxn z.1, .lst tTxn z.2.1, .bool z.2.2.1, .int .i64 z.2.2.2] [])))
      (none)⟩
  | 2000006 => some ⟨[0, 2, 4, 6, 8, 10, 12, 14, 16, 18], [], fun _ _ _ => none⟩
  | _ => none

def laws_eqTxnS_v0 : ((List dTxn) × (List dTxn) × Bool × Int) → List AV := (fun x => [.lst tTxn x.1, .lst tTxn x.2.1, .bool x.2.2.1, .int .i64 x.2.2.2])
def laws_eqTxnS_s0 : ((List dTxn) × (List dTxn) × Bool × Int) → St := (fun x => [])
def laws_eqTxnS_e0 : (((List dTxn) × (List dTxn) × Bool × Int) ⊕ ((List dTxn) × (List dTxn) × Bool × Int)) → Out × List AV × St := (Sum.elim (fun z => (.ret, [.lst tTxn z.1, .lst tTxn z.2.1, .bool z.2.2.1, .int .i64 z.2.2.2], [])) (fun z => ((.exit 0), [.lst tTxn z.1, .lst tTxn z.2.1, .bool z.2.2.1, .int .i64 z.2.2.2], [])))

theorem laws_eqTxnS_bx0 (x : ((List dTxn) × (List dTxn) × Bool × Int)) : exec G40 ⟨0, 27, laws_eqTxnS_loops⟩ (loopBody Try.f52 0) (bodyK ⟨0, 27, laws_eqTxnS_loops⟩ [0, 1, 4, 5] []) (setEs (deads 27) [0, 1, 4, 5] (laws_eqTxnS_v0 x)) (laws_eqTxnS_s0 x) = laws_eqTxnS_b0 x (Sum.elim (fun y => some ⟨.norm, laws_eqTxnS_v0 y, laws_eqTxnS_s0 y⟩) fun z => some ⟨(laws_eqTxnS_e0 z).1, (laws_eqTxnS_e0 z).2.1, (laws_eqTxnS_e0 z).2.2⟩) := by
  kernel_rfl

theorem laws_eqTxnS_lo0 : ∀ sp, (laws_eqTxnS_loops 0) = some sp → LoopOk G40 ⟨0, 27, laws_eqTxnS_loops⟩ sp (loopBody Try.f52 0) := by
  intro sp hsp vals st k r h
  cases hsp
  dsimp only at h
  rcases onPats_inv2 h with ⟨p, q, rfl, rfl, h⟩ | h
  · exact loop_runs2 laws_eqTxnS_bp0 laws_eqTxnS_v0 laws_eqTxnS_s0 laws_eqTxnS_e0 (fun z => by rcases z with z | z <;> (intro h; cases h)) laws_eqTxnS_bx0 Fuel (p.1, p.2.1, p.2.2.1, p.2.2.2.1) _ k r (fun z => by rcases z with z | z <;> rfl) h
  cases h

theorem laws_eqTxnS_y (a0 : (List dTxn)) (a1 : (List dTxn)) : execFn G40 laws_eqTxnS_loops Try.f52 [.lst tTxn a0, .lst tTxn a1] [] = laws_eqTxnS_k a0 a1 (fun (y : Bool) => some ⟨.ret, [.bool y], []⟩) := by rw [laws_eqTxnS_e]; kernel_rfl

theorem laws_eqTxnS_l : LoopsOk G40 ⟨0, 27, laws_eqTxnS_loops⟩ (Try.f52.body.getD .skip) :=
  loopsOk_of (ids := [0]) (by kernel_rfl) (by kernel_rfl) ⟨laws_eqTxnS_lo0, trivial⟩

theorem laws_eqTxnS_c : Contract Try.prog 52 laws_eqTxnS_g := by
  refine told G40_ok follows Try.func52 (c := Try.f52.body.getD .skip) (by kernel_rfl) ?_
  intro args s k r hk
  unfold laws_eqTxnS_g at hk
  rcases onPats_inv hk with ⟨p, q, rfl, rfl⟩ | hk
  · exact ⟨laws_eqTxnS_loops, laws_eqTxnS_q p.1 p.2.1, laws_eqTxnS_y p.1 p.2.1, laws_eqTxnS_l⟩
  cases hk

def G41 : Glob := G40.add 52 laws_eqTxnS_g

theorem G41_ok : GlobOk Try.prog G41 := G40_ok.add ⟨Try.f52, Try.func52, by kernel_rfl, by kernel_rfl⟩ laws_eqTxnS_c



def laws_eqBase_loops : Nat → Option LoopSpec
  | _ => none

theorem laws_eqBase_y (a0 : (List dVersion)) (a1 : (List dTxn)) (a2 : (List dTxn)) (a3 : Int) (a4 : Int) (a5 : (List dVersion)) (a6 : (List dTxn)) (a7 : (List dTxn)) (a8 : Int) (a9 : Int) : execFn G41 laws_eqBase_loops Try.f51 [.agg [.lst tVersion a0, .lst tTxn a1, .lst tTxn a2, .int .i64 a3, .int .i64 a4], .agg [.lst tVersion a5, .lst tTxn a6, .lst tTxn a7, .int .i64 a8, .int .i64 a9]] [] = laws_eqBase_k (a0, (a1, (a2, (a3, a4)))) (a5, (a6, (a7, (a8, a9)))) (fun (y : Bool) => some ⟨.ret, [.bool y], []⟩) := by rw [laws_eqBase_e]; kernel_rfl

theorem laws_eqBase_l : LoopsOk G41 ⟨0, 33, laws_eqBase_loops⟩ (Try.f51.body.getD .skip) :=
  loopsOk_of (ids := []) (by kernel_rfl) (by kernel_rfl) trivial

theorem laws_eqBase_c : Contract Try.prog 51 laws_eqBase_g := by
  refine told G41_ok follows Try.func51 (c := Try.f51.body.getD .skip) (by kernel_rfl) ?_
  intro args s k r hk
  unfold laws_eqBase_g at hk
  rcases onPats_inv hk with ⟨p, q, rfl, rfl⟩ | hk
  · exact ⟨laws_eqBase_loops, laws_eqBase_q p.1.1 p.1.2.1 p.1.2.2.1 p.1.2.2.2.1 p.1.2.2.2.2.1 p.2.1.1 p.2.1.2.1 p.2.1.2.2.1 p.2.1.2.2.2.1 p.2.1.2.2.2.2.1, laws_eqBase_y p.1.1 p.1.2.1 p.1.2.2.1 p.1.2.2.2.1 p.1.2.2.2.2.1 p.2.1.1 p.2.1.2.1 p.2.1.2.2.1 p.2.1.2.2.2.1 p.2.1.2.2.2.2.1, laws_eqBase_l⟩
  cases hk

def G42 : Glob := G41.add 51 laws_eqBase_g

theorem G42_ok : GlobOk Try.prog G42 := G41_ok.add ⟨Try.f51, Try.func51, by kernel_rfl, by kernel_rfl⟩ laws_eqBase_c



def laws_eqEngine_loops : Nat → Option LoopSpec
  | _ => none

theorem laws_eqEngine_y (a0 : (List dVersion)) (a1 : (List dTxn)) (a2 : (List dTxn)) (a3 : Int) (a4 : Int) (a5 : (List dTxn)) (a6 : (List dVersion)) (a7 : (List dTxn)) (a8 : (List dTxn)) (a9 : Int) (a10 : Int) (a11 : (List dTxn)) : execFn G42 laws_eqEngine_loops Try.f27 [.agg [.lst tVersion a0, .lst tTxn a1, .lst tTxn a2, .int .i64 a3, .int .i64 a4, .lst tTxn a5], .agg [.lst tVersion a6, .lst tTxn a7, .lst tTxn a8, .int .i64 a9, .int .i64 a10, .lst tTxn a11]] [] = laws_eqEngine_k ((a0, (a1, (a2, (a3, a4)))), a5) ((a6, (a7, (a8, (a9, a10)))), a11) (fun (y : Bool) => some ⟨.ret, [.bool y], []⟩) := by rw [laws_eqEngine_e]; kernel_rfl

theorem laws_eqEngine_l : LoopsOk G42 ⟨0, 17, laws_eqEngine_loops⟩ (Try.f27.body.getD .skip) :=
  loopsOk_of (ids := []) (by kernel_rfl) (by kernel_rfl) trivial

theorem laws_eqEngine_c : Contract Try.prog 27 laws_eqEngine_g := by
  refine told G42_ok follows Try.func27 (c := Try.f27.body.getD .skip) (by kernel_rfl) ?_
  intro args s k r hk
  unfold laws_eqEngine_g at hk
  rcases onPats_inv hk with ⟨p, q, rfl, rfl⟩ | hk
  · exact ⟨laws_eqEngine_loops, laws_eqEngine_q p.1.1 p.1.2.1 p.1.2.2.1 p.1.2.2.2.1 p.1.2.2.2.2.1 p.1.2.2.2.2.2.1 p.2.1.1 p.2.1.2.1 p.2.1.2.2.1 p.2.1.2.2.2.1 p.2.1.2.2.2.2.1 p.2.1.2.2.2.2.2.1, laws_eqEngine_y p.1.1 p.1.2.1 p.1.2.2.1 p.1.2.2.2.1 p.1.2.2.2.2.1 p.1.2.2.2.2.2.1 p.2.1.1 p.2.1.2.1 p.2.1.2.2.1 p.2.1.2.2.2.1 p.2.1.2.2.2.2.1 p.2.1.2.2.2.2.2.1, laws_eqEngine_l⟩
  cases hk

def G43 : Glob := G42.add 27 laws_eqEngine_g

theorem G43_ok : GlobOk Try.prog G43 := G42_ok.add ⟨Try.f27, Try.func27, by kernel_rfl, by kernel_rfl⟩ laws_eqEngine_c



def laws_eqPut_loops : Nat → Option LoopSpec
  | _ => none

theorem laws_eqPut_y (a0 : Int) (a1 : ByteArray) (a2 : Int) (a3 : ByteArray) : execFn G43 laws_eqPut_loops Try.f230 [.agg [.int .i64 a0, .str a1], .agg [.int .i64 a2, .str a3]] [] = laws_eqPut_k (a0, a1) (a2, a3) (fun (y : Bool) => some ⟨.ret, [.bool y], []⟩) := by rw [laws_eqPut_e]; kernel_rfl

theorem laws_eqPut_l : LoopsOk G43 ⟨0, 15, laws_eqPut_loops⟩ (Try.f230.body.getD .skip) :=
  loopsOk_of (ids := []) (by kernel_rfl) (by kernel_rfl) trivial

theorem laws_eqPut_c : Contract Try.prog 230 laws_eqPut_g := by
  refine told G43_ok follows Try.func230 (c := Try.f230.body.getD .skip) (by kernel_rfl) ?_
  intro args s k r hk
  unfold laws_eqPut_g at hk
  rcases onPats_inv hk with ⟨p, q, rfl, rfl⟩ | hk
  · exact ⟨laws_eqPut_loops, laws_eqPut_q p.1.1 p.1.2.1 p.2.1.1 p.2.1.2.1, laws_eqPut_y p.1.1 p.1.2.1 p.2.1.1 p.2.1.2.1, laws_eqPut_l⟩
  cases hk

def G44 : Glob := G43.add 230 laws_eqPut_g

theorem G44_ok : GlobOk Try.prog G44 := G43_ok.add ⟨Try.f230, Try.func230, by kernel_rfl, by kernel_rfl⟩ laws_eqPut_c



def laws_eqPutS_loops : Nat → Option LoopSpec
  | 0 => some ⟨[0, 1, 4, 5], [], fun vals st k => onPats [.lst tPut, .lst tPut, .bool, .int .i64] [] vals st (fun p q => loopK laws_eqPutS_b0 Fuel (p.1, p.2.1, p.2.2.1, p.2.2.2.1) (Sum.elim (fun z => k .ret [.lst tPut z.1, .lst tPut z.2.1, .bool z.2.2.1, .int .i64 z.2.2.2] []) (fun z => k (.exit 0) [.lst tPut z.1, .lst tPut z.2.1, .bool z.2.2.1, .int .i64 z.2.2.2] [])))
      (none)⟩
  | 2000006 => some ⟨[0, 2, 4, 6, 8, 10, 12, 14, 16, 18], [], fun _ _ _ => none⟩
  | _ => none

def laws_eqPutS_v0 : ((List dPut) × (List dPut) × Bool × Int) → List AV := (fun x => [.lst tPut x.1, .lst tPut x.2.1, .bool x.2.2.1, .int .i64 x.2.2.2])
def laws_eqPutS_s0 : ((List dPut) × (List dPut) × Bool × Int) → St := (fun x => [])
def laws_eqPutS_e0 : (((List dPut) × (List dPut) × Bool × Int) ⊕ ((List dPut) × (List dPut) × Bool × Int)) → Out × List AV × St := (Sum.elim (fun z => (.ret, [.lst tPut z.1, .lst tPut z.2.1, .bool z.2.2.1, .int .i64 z.2.2.2], [])) (fun z => ((.exit 0), [.lst tPut z.1, .lst tPut z.2.1, .bool z.2.2.1, .int .i64 z.2.2.2], [])))

theorem laws_eqPutS_bx0 (x : ((List dPut) × (List dPut) × Bool × Int)) : exec G44 ⟨0, 27, laws_eqPutS_loops⟩ (loopBody Try.f162 0) (bodyK ⟨0, 27, laws_eqPutS_loops⟩ [0, 1, 4, 5] []) (setEs (deads 27) [0, 1, 4, 5] (laws_eqPutS_v0 x)) (laws_eqPutS_s0 x) = laws_eqPutS_b0 x (Sum.elim (fun y => some ⟨.norm, laws_eqPutS_v0 y, laws_eqPutS_s0 y⟩) fun z => some ⟨(laws_eqPutS_e0 z).1, (laws_eqPutS_e0 z).2.1, (laws_eqPutS_e0 z).2.2⟩) := by
  kernel_rfl

theorem laws_eqPutS_lo0 : ∀ sp, (laws_eqPutS_loops 0) = some sp → LoopOk G44 ⟨0, 27, laws_eqPutS_loops⟩ sp (loopBody Try.f162 0) := by
  intro sp hsp vals st k r h
  cases hsp
  dsimp only at h
  rcases onPats_inv2 h with ⟨p, q, rfl, rfl, h⟩ | h
  · exact loop_runs2 laws_eqPutS_bp0 laws_eqPutS_v0 laws_eqPutS_s0 laws_eqPutS_e0 (fun z => by rcases z with z | z <;> (intro h; cases h)) laws_eqPutS_bx0 Fuel (p.1, p.2.1, p.2.2.1, p.2.2.2.1) _ k r (fun z => by rcases z with z | z <;> rfl) h
  cases h

theorem laws_eqPutS_y (a0 : (List dPut)) (a1 : (List dPut)) : execFn G44 laws_eqPutS_loops Try.f162 [.lst tPut a0, .lst tPut a1] [] = laws_eqPutS_k a0 a1 (fun (y : Bool) => some ⟨.ret, [.bool y], []⟩) := by rw [laws_eqPutS_e]; kernel_rfl

theorem laws_eqPutS_l : LoopsOk G44 ⟨0, 27, laws_eqPutS_loops⟩ (Try.f162.body.getD .skip) :=
  loopsOk_of (ids := [0]) (by kernel_rfl) (by kernel_rfl) ⟨laws_eqPutS_lo0, trivial⟩

theorem laws_eqPutS_c : Contract Try.prog 162 laws_eqPutS_g := by
  refine told G44_ok follows Try.func162 (c := Try.f162.body.getD .skip) (by kernel_rfl) ?_
  intro args s k r hk
  unfold laws_eqPutS_g at hk
  rcases onPats_inv hk with ⟨p, q, rfl, rfl⟩ | hk
  · exact ⟨laws_eqPutS_loops, laws_eqPutS_q p.1 p.2.1, laws_eqPutS_y p.1 p.2.1, laws_eqPutS_l⟩
  cases hk

def G45 : Glob := G44.add 162 laws_eqPutS_g

theorem G45_ok : GlobOk Try.prog G45 := G44_ok.add ⟨Try.f162, Try.func162, by kernel_rfl, by kernel_rfl⟩ laws_eqPutS_c



def laws_eqDisk_loops : Nat → Option LoopSpec
  | _ => none

theorem laws_eqDisk_y (a0 : (List ByteArray)) (a1 : (List dPut)) (a2 : (List ByteArray)) (a3 : (List dPut)) : execFn G45 laws_eqDisk_loops Try.f74 [.agg [.lst .str a0, .lst tPut a1], .agg [.lst .str a2, .lst tPut a3]] [] = laws_eqDisk_k (a0, a1) (a2, a3) (fun (y : Bool) => some ⟨.ret, [.bool y], []⟩) := by rw [laws_eqDisk_e]; kernel_rfl

theorem laws_eqDisk_l : LoopsOk G45 ⟨0, 17, laws_eqDisk_loops⟩ (Try.f74.body.getD .skip) :=
  loopsOk_of (ids := []) (by kernel_rfl) (by kernel_rfl) trivial

theorem laws_eqDisk_c : Contract Try.prog 74 laws_eqDisk_g := by
  refine told G45_ok follows Try.func74 (c := Try.f74.body.getD .skip) (by kernel_rfl) ?_
  intro args s k r hk
  unfold laws_eqDisk_g at hk
  rcases onPats_inv hk with ⟨p, q, rfl, rfl⟩ | hk
  · exact ⟨laws_eqDisk_loops, laws_eqDisk_q p.1.1 p.1.2.1 p.2.1.1 p.2.1.2.1, laws_eqDisk_y p.1.1 p.1.2.1 p.2.1.1 p.2.1.2.1, laws_eqDisk_l⟩
  cases hk

def G46 : Glob := G45.add 74 laws_eqDisk_g

theorem G46_ok : GlobOk Try.prog G46 := G45_ok.add ⟨Try.f74, Try.func74, by kernel_rfl, by kernel_rfl⟩ laws_eqDisk_c



def laws_eqStore_loops : Nat → Option LoopSpec
  | _ => none

theorem laws_eqStore_y (a0 : (List dVersion)) (a1 : (List dTxn)) (a2 : (List dTxn)) (a3 : Int) (a4 : Int) (a5 : (List dTxn)) (a6 : (List ByteArray)) (a7 : (List dPut)) (a8 : (List dVersion)) (a9 : (List dTxn)) (a10 : (List dTxn)) (a11 : Int) (a12 : Int) (a13 : (List dTxn)) (a14 : (List ByteArray)) (a15 : (List dPut)) : execFn G46 laws_eqStore_loops Try.f19 [.agg [.lst tVersion a0, .lst tTxn a1, .lst tTxn a2, .int .i64 a3, .int .i64 a4, .lst tTxn a5, .lst .str a6, .lst tPut a7], .agg [.lst tVersion a8, .lst tTxn a9, .lst tTxn a10, .int .i64 a11, .int .i64 a12, .lst tTxn a13, .lst .str a14, .lst tPut a15]] [] = laws_eqStore_k (((a0, (a1, (a2, (a3, a4)))), a5), (a6, a7)) (((a8, (a9, (a10, (a11, a12)))), a13), (a14, a15)) (fun (y : Bool) => some ⟨.ret, [.bool y], []⟩) := by rw [laws_eqStore_e]; kernel_rfl

theorem laws_eqStore_l : LoopsOk G46 ⟨0, 17, laws_eqStore_loops⟩ (Try.f19.body.getD .skip) :=
  loopsOk_of (ids := []) (by kernel_rfl) (by kernel_rfl) trivial

theorem laws_eqStore_c : Contract Try.prog 19 laws_eqStore_g := by
  refine told G46_ok follows Try.func19 (c := Try.f19.body.getD .skip) (by kernel_rfl) ?_
  intro args s k r hk
  unfold laws_eqStore_g at hk
  rcases onPats_inv hk with ⟨p, q, rfl, rfl⟩ | hk
  · exact ⟨laws_eqStore_loops, laws_eqStore_q p.1.1 p.1.2.1 p.1.2.2.1 p.1.2.2.2.1 p.1.2.2.2.2.1 p.1.2.2.2.2.2.1 p.1.2.2.2.2.2.2.1 p.1.2.2.2.2.2.2.2.1 p.2.1.1 p.2.1.2.1 p.2.1.2.2.1 p.2.1.2.2.2.1 p.2.1.2.2.2.2.1 p.2.1.2.2.2.2.2.1 p.2.1.2.2.2.2.2.2.1 p.2.1.2.2.2.2.2.2.2.1, laws_eqStore_y p.1.1 p.1.2.1 p.1.2.2.1 p.1.2.2.2.1 p.1.2.2.2.2.1 p.1.2.2.2.2.2.1 p.1.2.2.2.2.2.2.1 p.1.2.2.2.2.2.2.2.1 p.2.1.1 p.2.1.2.1 p.2.1.2.2.1 p.2.1.2.2.2.1 p.2.1.2.2.2.2.1 p.2.1.2.2.2.2.2.1 p.2.1.2.2.2.2.2.2.1 p.2.1.2.2.2.2.2.2.2.1, laws_eqStore_l⟩
  cases hk

def G47 : Glob := G46.add 19 laws_eqStore_g

theorem G47_ok : GlobOk Try.prog G47 := G46_ok.add ⟨Try.f19, Try.func19, by kernel_rfl, by kernel_rfl⟩ laws_eqStore_c



def laws_markText_loops : Nat → Option LoopSpec
  | 0 => some ⟨[0, 3], [], fun vals st k => onPats [.int .i64, .str] [] vals st (fun p q => loopK laws_markText_b0 Fuel (p.1, p.2.1) (fun z => k (.exit 0) [.int .i64 z.1, .str z.2] []))
      (none)⟩
  | _ => none

def laws_markText_v0 : (Int × ByteArray) → List AV := (fun x => [.int .i64 x.1, .str x.2])
def laws_markText_s0 : (Int × ByteArray) → St := (fun x => [])
def laws_markText_e0 : (Int × ByteArray) → Out × List AV × St := (fun z => ((.exit 0), [.int .i64 z.1, .str z.2], []))

theorem laws_markText_bx0 (x : (Int × ByteArray)) : exec G47 ⟨0, 20, laws_markText_loops⟩ (loopBody Try.f76 0) (bodyK ⟨0, 20, laws_markText_loops⟩ [0, 3] []) (setEs (deads 20) [0, 3] (laws_markText_v0 x)) (laws_markText_s0 x) = laws_markText_b0 x (Sum.elim (fun y => some ⟨.norm, laws_markText_v0 y, laws_markText_s0 y⟩) fun z => some ⟨(laws_markText_e0 z).1, (laws_markText_e0 z).2.1, (laws_markText_e0 z).2.2⟩) := by
  kernel_rfl

theorem laws_markText_lo0 : ∀ sp, (laws_markText_loops 0) = some sp → LoopOk G47 ⟨0, 20, laws_markText_loops⟩ sp (loopBody Try.f76 0) := by
  intro sp hsp vals st k r h
  cases hsp
  dsimp only at h
  rcases onPats_inv2 h with ⟨p, q, rfl, rfl, h⟩ | h
  · exact loop_runs2 laws_markText_bp0 laws_markText_v0 laws_markText_s0 laws_markText_e0 (fun z => by (intro h; cases h)) laws_markText_bx0 Fuel (p.1, p.2.1) _ k r (fun z => rfl) h
  cases h

theorem laws_markText_y (a0 : Int) : execFn G47 laws_markText_loops Try.f76 [.int .i64 a0] [] = laws_markText_k a0 (fun (y : ByteArray) => some ⟨.ret, [.str y], []⟩) := by rw [laws_markText_e]; kernel_rfl

theorem laws_markText_l : LoopsOk G47 ⟨0, 20, laws_markText_loops⟩ (Try.f76.body.getD .skip) :=
  loopsOk_of (ids := [0]) (by kernel_rfl) (by kernel_rfl) ⟨laws_markText_lo0, trivial⟩

theorem laws_markText_c : Contract Try.prog 76 laws_markText_g := by
  refine told G47_ok follows Try.func76 (c := Try.f76.body.getD .skip) (by kernel_rfl) ?_
  intro args s k r hk
  unfold laws_markText_g at hk
  rcases onPats_inv hk with ⟨p, q, rfl, rfl⟩ | hk
  · exact ⟨laws_markText_loops, laws_markText_q p.1, laws_markText_y p.1, laws_markText_l⟩
  cases hk

def G48 : Glob := G47.add 76 laws_markText_g

theorem G48_ok : GlobOk Try.prog G48 := G47_ok.add ⟨Try.f76, Try.func76, by kernel_rfl, by kernel_rfl⟩ laws_markText_c



def laws_markVersionS_vo_loops : Nat → Option LoopSpec
  | 0 => some ⟨[0, 1, 5], [], fun vals st k => onPats [.own 0, .int .i64, .int .i64] [.arr tVersion] vals st (fun p q => loopK laws_markVersionS_vo_b0 Fuel (p.2.1, p.2.2.1, q.1) (fun z => k (.exit 0) [.own 0, .int .i64 z.1, .int .i64 z.2.1] [.arr tVersion z.2.2]))
      (none)⟩
  | _ => none

def laws_markVersionS_vo_v0 : (Int × Int × (List dVersion)) → List AV := (fun x => [.own 0, .int .i64 x.1, .int .i64 x.2.1])
def laws_markVersionS_vo_s0 : (Int × Int × (List dVersion)) → St := (fun x => [.arr tVersion x.2.2])
def laws_markVersionS_vo_e0 : (Int × Int × (List dVersion)) → Out × List AV × St := (fun z => ((.exit 0), [.own 0, .int .i64 z.1, .int .i64 z.2.1], [.arr tVersion z.2.2]))

theorem laws_markVersionS_vo_bx0 (x : (Int × Int × (List dVersion))) : exec G48 ⟨1, 45, laws_markVersionS_vo_loops⟩ (loopBody Try.f122 0) (bodyK ⟨1, 45, laws_markVersionS_vo_loops⟩ [0, 1, 5] []) (setEs (deads 45) [0, 1, 5] (laws_markVersionS_vo_v0 x)) (laws_markVersionS_vo_s0 x) = laws_markVersionS_vo_b0 x (Sum.elim (fun y => some ⟨.norm, laws_markVersionS_vo_v0 y, laws_markVersionS_vo_s0 y⟩) fun z => some ⟨(laws_markVersionS_vo_e0 z).1, (laws_markVersionS_vo_e0 z).2.1, (laws_markVersionS_vo_e0 z).2.2⟩) := by
  kernel_rfl

theorem laws_markVersionS_vo_lo0 : ∀ sp, (laws_markVersionS_vo_loops 0) = some sp → LoopOk G48 ⟨1, 45, laws_markVersionS_vo_loops⟩ sp (loopBody Try.f122 0) := by
  intro sp hsp vals st k r h
  cases hsp
  dsimp only at h
  rcases onPats_inv2 h with ⟨p, q, rfl, rfl, h⟩ | h
  · exact loop_runs2 laws_markVersionS_vo_bp0 laws_markVersionS_vo_v0 laws_markVersionS_vo_s0 laws_markVersionS_vo_e0 (fun z => by (intro h; cases h)) laws_markVersionS_vo_bx0 Fuel (p.2.1, p.2.2.1, q.1) _ k r (fun z => rfl) h
  cases h

theorem laws_markVersionS_vo_y (a0 : Int) (a1 : (List dVersion)) : execFn G48 laws_markVersionS_vo_loops Try.f122 [.own 0, .int .i64 a0] [.arr tVersion a1] = laws_markVersionS_vo_k a0 a1 (fun (y : (Int × (List dVersion))) => some ⟨.ret, [.int .i64 y.1], [.arr tVersion y.2]⟩) := by rw [laws_markVersionS_vo_e]; kernel_rfl

theorem laws_markVersionS_vo_l : LoopsOk G48 ⟨1, 45, laws_markVersionS_vo_loops⟩ (Try.f122.body.getD .skip) :=
  loopsOk_of (ids := [0]) (by kernel_rfl) (by kernel_rfl) ⟨laws_markVersionS_vo_lo0, trivial⟩

theorem laws_markVersionS_c : Contract Try.prog 122 laws_markVersionS_g := by
  refine told G48_ok follows Try.func122 (c := Try.f122.body.getD .skip) (by kernel_rfl) ?_
  intro args s k r hk
  unfold laws_markVersionS_g at hk
  rcases onPats_inv hk with ⟨p, q, rfl, rfl⟩ | hk
  · exact ⟨laws_markVersionS_vo_loops, laws_markVersionS_vo_q p.2.1 q.1, laws_markVersionS_vo_y p.2.1 q.1, laws_markVersionS_vo_l⟩
  cases hk

def G49 : Glob := G48.add 122 laws_markVersionS_g

theorem G49_ok : GlobOk Try.prog G49 := G48_ok.add ⟨Try.f122, Try.func122, by kernel_rfl, by kernel_rfl⟩ laws_markVersionS_c



def laws_markRangeS_vo_loops : Nat → Option LoopSpec
  | 0 => some ⟨[0, 1, 5], [], fun vals st k => onPats [.own 0, .int .i64, .int .i64] [.arr tRange] vals st (fun p q => loopK laws_markRangeS_vo_b0 Fuel (p.2.1, p.2.2.1, q.1) (fun z => k (.exit 0) [.own 0, .int .i64 z.1, .int .i64 z.2.1] [.arr tRange z.2.2]))
      (none)⟩
  | _ => none

def laws_markRangeS_vo_v0 : (Int × Int × (List dRange)) → List AV := (fun x => [.own 0, .int .i64 x.1, .int .i64 x.2.1])
def laws_markRangeS_vo_s0 : (Int × Int × (List dRange)) → St := (fun x => [.arr tRange x.2.2])
def laws_markRangeS_vo_e0 : (Int × Int × (List dRange)) → Out × List AV × St := (fun z => ((.exit 0), [.own 0, .int .i64 z.1, .int .i64 z.2.1], [.arr tRange z.2.2]))

theorem laws_markRangeS_vo_bx0 (x : (Int × Int × (List dRange))) : exec G49 ⟨1, 29, laws_markRangeS_vo_loops⟩ (loopBody Try.f123 0) (bodyK ⟨1, 29, laws_markRangeS_vo_loops⟩ [0, 1, 5] []) (setEs (deads 29) [0, 1, 5] (laws_markRangeS_vo_v0 x)) (laws_markRangeS_vo_s0 x) = laws_markRangeS_vo_b0 x (Sum.elim (fun y => some ⟨.norm, laws_markRangeS_vo_v0 y, laws_markRangeS_vo_s0 y⟩) fun z => some ⟨(laws_markRangeS_vo_e0 z).1, (laws_markRangeS_vo_e0 z).2.1, (laws_markRangeS_vo_e0 z).2.2⟩) := by
  kernel_rfl

theorem laws_markRangeS_vo_lo0 : ∀ sp, (laws_markRangeS_vo_loops 0) = some sp → LoopOk G49 ⟨1, 29, laws_markRangeS_vo_loops⟩ sp (loopBody Try.f123 0) := by
  intro sp hsp vals st k r h
  cases hsp
  dsimp only at h
  rcases onPats_inv2 h with ⟨p, q, rfl, rfl, h⟩ | h
  · exact loop_runs2 laws_markRangeS_vo_bp0 laws_markRangeS_vo_v0 laws_markRangeS_vo_s0 laws_markRangeS_vo_e0 (fun z => by (intro h; cases h)) laws_markRangeS_vo_bx0 Fuel (p.2.1, p.2.2.1, q.1) _ k r (fun z => rfl) h
  cases h

theorem laws_markRangeS_vo_y (a0 : Int) (a1 : (List dRange)) : execFn G49 laws_markRangeS_vo_loops Try.f123 [.own 0, .int .i64 a0] [.arr tRange a1] = laws_markRangeS_vo_k a0 a1 (fun (y : (Int × (List dRange))) => some ⟨.ret, [.int .i64 y.1], [.arr tRange y.2]⟩) := by rw [laws_markRangeS_vo_e]; kernel_rfl

theorem laws_markRangeS_vo_l : LoopsOk G49 ⟨1, 29, laws_markRangeS_vo_loops⟩ (Try.f123.body.getD .skip) :=
  loopsOk_of (ids := [0]) (by kernel_rfl) (by kernel_rfl) ⟨laws_markRangeS_vo_lo0, trivial⟩

theorem laws_markRangeS_c : Contract Try.prog 123 laws_markRangeS_g := by
  refine told G49_ok follows Try.func123 (c := Try.f123.body.getD .skip) (by kernel_rfl) ?_
  intro args s k r hk
  unfold laws_markRangeS_g at hk
  rcases onPats_inv hk with ⟨p, q, rfl, rfl⟩ | hk
  · exact ⟨laws_markRangeS_vo_loops, laws_markRangeS_vo_q p.2.1 q.1, laws_markRangeS_vo_y p.2.1 q.1, laws_markRangeS_vo_l⟩
  cases hk

def G50 : Glob := G49.add 123 laws_markRangeS_g

theorem G50_ok : GlobOk Try.prog G50 := G49_ok.add ⟨Try.f123, Try.func123, by kernel_rfl, by kernel_rfl⟩ laws_markRangeS_c



def laws_markWriteS_vo_loops : Nat → Option LoopSpec
  | 0 => some ⟨[0, 1, 5], [], fun vals st k => onPats [.own 0, .int .i64, .int .i64] [.arr tWrite] vals st (fun p q => loopK laws_markWriteS_vo_b0 Fuel (p.2.1, p.2.2.1, q.1) (fun z => k (.exit 0) [.own 0, .int .i64 z.1, .int .i64 z.2.1] [.arr tWrite z.2.2]))
      (none)⟩
  | _ => none

def laws_markWriteS_vo_v0 : (Int × Int × (List dWrite)) → List AV := (fun x => [.own 0, .int .i64 x.1, .int .i64 x.2.1])
def laws_markWriteS_vo_s0 : (Int × Int × (List dWrite)) → St := (fun x => [.arr tWrite x.2.2])
def laws_markWriteS_vo_e0 : (Int × Int × (List dWrite)) → Out × List AV × St := (fun z => ((.exit 0), [.own 0, .int .i64 z.1, .int .i64 z.2.1], [.arr tWrite z.2.2]))

theorem laws_markWriteS_vo_bx0 (x : (Int × Int × (List dWrite))) : exec G50 ⟨1, 38, laws_markWriteS_vo_loops⟩ (loopBody Try.f124 0) (bodyK ⟨1, 38, laws_markWriteS_vo_loops⟩ [0, 1, 5] []) (setEs (deads 38) [0, 1, 5] (laws_markWriteS_vo_v0 x)) (laws_markWriteS_vo_s0 x) = laws_markWriteS_vo_b0 x (Sum.elim (fun y => some ⟨.norm, laws_markWriteS_vo_v0 y, laws_markWriteS_vo_s0 y⟩) fun z => some ⟨(laws_markWriteS_vo_e0 z).1, (laws_markWriteS_vo_e0 z).2.1, (laws_markWriteS_vo_e0 z).2.2⟩) := by
  kernel_rfl

theorem laws_markWriteS_vo_lo0 : ∀ sp, (laws_markWriteS_vo_loops 0) = some sp → LoopOk G50 ⟨1, 38, laws_markWriteS_vo_loops⟩ sp (loopBody Try.f124 0) := by
  intro sp hsp vals st k r h
  cases hsp
  dsimp only at h
  rcases onPats_inv2 h with ⟨p, q, rfl, rfl, h⟩ | h
  · exact loop_runs2 laws_markWriteS_vo_bp0 laws_markWriteS_vo_v0 laws_markWriteS_vo_s0 laws_markWriteS_vo_e0 (fun z => by (intro h; cases h)) laws_markWriteS_vo_bx0 Fuel (p.2.1, p.2.2.1, q.1) _ k r (fun z => rfl) h
  cases h

theorem laws_markWriteS_vo_y (a0 : Int) (a1 : (List dWrite)) : execFn G50 laws_markWriteS_vo_loops Try.f124 [.own 0, .int .i64 a0] [.arr tWrite a1] = laws_markWriteS_vo_k a0 a1 (fun (y : (Int × (List dWrite))) => some ⟨.ret, [.int .i64 y.1], [.arr tWrite y.2]⟩) := by rw [laws_markWriteS_vo_e]; kernel_rfl

theorem laws_markWriteS_vo_l : LoopsOk G50 ⟨1, 38, laws_markWriteS_vo_loops⟩ (Try.f124.body.getD .skip) :=
  loopsOk_of (ids := [0]) (by kernel_rfl) (by kernel_rfl) ⟨laws_markWriteS_vo_lo0, trivial⟩

theorem laws_markWriteS_c : Contract Try.prog 124 laws_markWriteS_g := by
  refine told G50_ok follows Try.func124 (c := Try.f124.body.getD .skip) (by kernel_rfl) ?_
  intro args s k r hk
  unfold laws_markWriteS_g at hk
  rcases onPats_inv hk with ⟨p, q, rfl, rfl⟩ | hk
  · exact ⟨laws_markWriteS_vo_loops, laws_markWriteS_vo_q p.2.1 q.1, laws_markWriteS_vo_y p.2.1 q.1, laws_markWriteS_vo_l⟩
  cases hk

def G51 : Glob := G50.add 124 laws_markWriteS_g

theorem G51_ok : GlobOk Try.prog G51 := G50_ok.add ⟨Try.f124, Try.func124, by kernel_rfl, by kernel_rfl⟩ laws_markWriteS_c



def laws_markTxnS_vd_loops : Nat → Option LoopSpec
  | 5000003 => some ⟨[0, 1, 5], [], fun vals st k => onPats [.own 0, .int .i64, .int .i64] [.dep tTxn 0] vals st (fun p q => laws_markTxnS_vd_j5000003 (p.2.1, p.2.2.1, q.1) (fun z => k .norm [.own 0, .int .i64 z.1, .int .i64 z.2.1] [.dep tTxn z.2.2 0]))
      (none)⟩
  | 5000017 => some ⟨[0, 1, 5], [], fun vals st k => onPats [.own 0, .int .i64, .int .i64] [.dep tTxn 0] vals st (fun p q => laws_markTxnS_vd_j5000017 (p.2.1, p.2.2.1, q.1) (fun z => k .norm [.own 0, .int .i64 z.1, .int .i64 z.2.1] [.dep tTxn z.2.2 0]))
      (none)⟩
  | 5000015 => some ⟨[0, 1, 5], [], fun vals st k => onPats [.own 0, .int .i64, .int .i64] [.dep tTxn 0] vals st (fun p q => laws_markTxnS_vd_j5000015 (p.2.1, p.2.2.1, q.1) (fun z => k .norm [.own 0, .int .i64 z.1, .int .i64 z.2.1] [.dep tTxn z.2.2 0]))
      (none)⟩
  | 5000011 => some ⟨[0, 1, 5], [], fun vals st k => onPats [.own 0, .int .i64, .int .i64] [.dep tTxn 0] vals st (fun p q => laws_markTxnS_vd_j5000011 (p.2.1, p.2.2.1, q.1) (fun z => k .norm [.own 0, .int .i64 z.1, .int .i64 z.2.1] [.dep tTxn z.2.2 0]))
      (none)⟩
  | 5000009 => some ⟨[0, 1, 5], [], fun vals st k => onPats [.own 0, .int .i64, .int .i64] [.dep tTxn 0] vals st (fun p q => laws_markTxnS_vd_j5000009 (p.2.1, p.2.2.1, q.1) (fun z => k .norm [.own 0, .int .i64 z.1, .int .i64 z.2.1] [.dep tTxn z.2.2 0]))
      (none)⟩
  | 5000007 => some ⟨[0, 1, 5], [], fun vals st k => onPats [.own 0, .int .i64, .int .i64] [.dep tTxn 0] vals st (fun p q => laws_markTxnS_vd_j5000007 (p.2.1, p.2.2.1, q.1) (fun z => k .norm [.own 0, .int .i64 z.1, .int .i64 z.2.1] [.dep tTxn z.2.2 0]))
      (none)⟩
  | 5000005 => some ⟨[0, 1, 5], [], fun vals st k => onPats [.own 0, .int .i64, .int .i64] [.dep tTxn 0] vals st (fun p q => laws_markTxnS_vd_j5000005 (p.2.1, p.2.2.1, q.1) (fun z => k .norm [.own 0, .int .i64 z.1, .int .i64 z.2.1] [.dep tTxn z.2.2 0]))
      (none)⟩
  | 0 => some ⟨[0, 1, 5], [], fun vals st k => onPats [.own 0, .int .i64, .int .i64] [.dep tTxn 0] vals st (fun p q => loopK laws_markTxnS_vd_b0 Fuel (p.2.1, p.2.2.1, q.1) (fun z => k (.exit 0) [.own 0, .int .i64 z.1, .int .i64 z.2.1] [.dep tTxn z.2.2 0]))
      (none)⟩
  | _ => none

def laws_markTxnS_vd_jv5000003 : (Int × Int × (List dTxn)) → List AV := (fun x => [.own 0, .int .i64 x.1, .int .i64 x.2.1])
def laws_markTxnS_vd_js5000003 : (Int × Int × (List dTxn)) → St := (fun x => [.dep tTxn x.2.2 0])
def laws_markTxnS_vd_je5000003 : (Int × Int × (List dTxn)) → Out × List AV × St := (fun z => (.norm, [.own 0, .int .i64 z.1, .int .i64 z.2.1], [.dep tTxn z.2.2 0]))

theorem laws_markTxnS_vd_jx5000003 (x : (Int × Int × (List dTxn))) : exec G51 ⟨1, 72, laws_markTxnS_vd_loops⟩ (loopBody Try.f54 5000003) (bodyK ⟨1, 72, laws_markTxnS_vd_loops⟩ [0, 1, 5] []) (setEs (deads 72) [0, 1, 5] (laws_markTxnS_vd_jv5000003 x)) (laws_markTxnS_vd_js5000003 x) = laws_markTxnS_vd_j5000003 x (fun z => some ⟨(laws_markTxnS_vd_je5000003 z).1, (laws_markTxnS_vd_je5000003 z).2.1, (laws_markTxnS_vd_je5000003 z).2.2⟩) := by
  kernel_rfl

theorem laws_markTxnS_vd_lo5000003 : ∀ sp, (laws_markTxnS_vd_loops 5000003) = some sp → CutOk G51 ⟨1, 72, laws_markTxnS_vd_loops⟩ sp (loopBody Try.f54 5000003) := by
  intro sp hsp vals st k r h
  cases hsp
  dsimp only at h
  rcases onPats_inv2 h with ⟨p, q, rfl, rfl, h⟩ | h
  · exact cut_runs laws_markTxnS_vd_jp5000003 laws_markTxnS_vd_jv5000003 laws_markTxnS_vd_js5000003 laws_markTxnS_vd_je5000003 laws_markTxnS_vd_jx5000003 (p.2.1, p.2.2.1, q.1) _ k r (fun z => rfl) h
  cases h

def laws_markTxnS_vd_jv5000017 : (Int × Int × (List dTxn)) → List AV := (fun x => [.own 0, .int .i64 x.1, .int .i64 x.2.1])
def laws_markTxnS_vd_js5000017 : (Int × Int × (List dTxn)) → St := (fun x => [.dep tTxn x.2.2 0])
def laws_markTxnS_vd_je5000017 : (Int × Int × (List dTxn)) → Out × List AV × St := (fun z => (.norm, [.own 0, .int .i64 z.1, .int .i64 z.2.1], [.dep tTxn z.2.2 0]))

theorem laws_markTxnS_vd_jx5000017 (x : (Int × Int × (List dTxn))) : exec G51 ⟨1, 72, laws_markTxnS_vd_loops⟩ (loopBody Try.f54 5000017) (bodyK ⟨1, 72, laws_markTxnS_vd_loops⟩ [0, 1, 5] []) (setEs (deads 72) [0, 1, 5] (laws_markTxnS_vd_jv5000017 x)) (laws_markTxnS_vd_js5000017 x) = laws_markTxnS_vd_j5000017 x (fun z => some ⟨(laws_markTxnS_vd_je5000017 z).1, (laws_markTxnS_vd_je5000017 z).2.1, (laws_markTxnS_vd_je5000017 z).2.2⟩) := by
  kernel_rfl

theorem laws_markTxnS_vd_lo5000017 : ∀ sp, (laws_markTxnS_vd_loops 5000017) = some sp → CutOk G51 ⟨1, 72, laws_markTxnS_vd_loops⟩ sp (loopBody Try.f54 5000017) := by
  intro sp hsp vals st k r h
  cases hsp
  dsimp only at h
  rcases onPats_inv2 h with ⟨p, q, rfl, rfl, h⟩ | h
  · exact cut_runs laws_markTxnS_vd_jp5000017 laws_markTxnS_vd_jv5000017 laws_markTxnS_vd_js5000017 laws_markTxnS_vd_je5000017 laws_markTxnS_vd_jx5000017 (p.2.1, p.2.2.1, q.1) _ k r (fun z => rfl) h
  cases h

def laws_markTxnS_vd_jv5000015 : (Int × Int × (List dTxn)) → List AV := (fun x => [.own 0, .int .i64 x.1, .int .i64 x.2.1])
def laws_markTxnS_vd_js5000015 : (Int × Int × (List dTxn)) → St := (fun x => [.dep tTxn x.2.2 0])
def laws_markTxnS_vd_je5000015 : (Int × Int × (List dTxn)) → Out × List AV × St := (fun z => (.norm, [.own 0, .int .i64 z.1, .int .i64 z.2.1], [.dep tTxn z.2.2 0]))

theorem laws_markTxnS_vd_jx5000015 (x : (Int × Int × (List dTxn))) : exec G51 ⟨1, 72, laws_markTxnS_vd_loops⟩ (loopBody Try.f54 5000015) (bodyK ⟨1, 72, laws_markTxnS_vd_loops⟩ [0, 1, 5] []) (setEs (deads 72) [0, 1, 5] (laws_markTxnS_vd_jv5000015 x)) (laws_markTxnS_vd_js5000015 x) = laws_markTxnS_vd_j5000015 x (fun z => some ⟨(laws_markTxnS_vd_je5000015 z).1, (laws_markTxnS_vd_je5000015 z).2.1, (laws_markTxnS_vd_je5000015 z).2.2⟩) := by
  kernel_rfl

theorem laws_markTxnS_vd_lo5000015 : ∀ sp, (laws_markTxnS_vd_loops 5000015) = some sp → CutOk G51 ⟨1, 72, laws_markTxnS_vd_loops⟩ sp (loopBody Try.f54 5000015) := by
  intro sp hsp vals st k r h
  cases hsp
  dsimp only at h
  rcases onPats_inv2 h with ⟨p, q, rfl, rfl, h⟩ | h
  · exact cut_runs laws_markTxnS_vd_jp5000015 laws_markTxnS_vd_jv5000015 laws_markTxnS_vd_js5000015 laws_markTxnS_vd_je5000015 laws_markTxnS_vd_jx5000015 (p.2.1, p.2.2.1, q.1) _ k r (fun z => rfl) h
  cases h

def laws_markTxnS_vd_jv5000011 : (Int × Int × (List dTxn)) → List AV := (fun x => [.own 0, .int .i64 x.1, .int .i64 x.2.1])
def laws_markTxnS_vd_js5000011 : (Int × Int × (List dTxn)) → St := (fun x => [.dep tTxn x.2.2 0])
def laws_markTxnS_vd_je5000011 : (Int × Int × (List dTxn)) → Out × List AV × St := (fun z => (.norm, [.own 0, .int .i64 z.1, .int .i64 z.2.1], [.dep tTxn z.2.2 0]))

theorem laws_markTxnS_vd_jx5000011 (x : (Int × Int × (List dTxn))) : exec G51 ⟨1, 72, laws_markTxnS_vd_loops⟩ (loopBody Try.f54 5000011) (bodyK ⟨1, 72, laws_markTxnS_vd_loops⟩ [0, 1, 5] []) (setEs (deads 72) [0, 1, 5] (laws_markTxnS_vd_jv5000011 x)) (laws_markTxnS_vd_js5000011 x) = laws_markTxnS_vd_j5000011 x (fun z => some ⟨(laws_markTxnS_vd_je5000011 z).1, (laws_markTxnS_vd_je5000011 z).2.1, (laws_markTxnS_vd_je5000011 z).2.2⟩) := by
  kernel_rfl

theorem laws_markTxnS_vd_lo5000011 : ∀ sp, (laws_markTxnS_vd_loops 5000011) = some sp → CutOk G51 ⟨1, 72, laws_markTxnS_vd_loops⟩ sp (loopBody Try.f54 5000011) := by
  intro sp hsp vals st k r h
  cases hsp
  dsimp only at h
  rcases onPats_inv2 h with ⟨p, q, rfl, rfl, h⟩ | h
  · exact cut_runs laws_markTxnS_vd_jp5000011 laws_markTxnS_vd_jv5000011 laws_markTxnS_vd_js5000011 laws_markTxnS_vd_je5000011 laws_markTxnS_vd_jx5000011 (p.2.1, p.2.2.1, q.1) _ k r (fun z => rfl) h
  cases h

def laws_markTxnS_vd_jv5000009 : (Int × Int × (List dTxn)) → List AV := (fun x => [.own 0, .int .i64 x.1, .int .i64 x.2.1])
def laws_markTxnS_vd_js5000009 : (Int × Int × (List dTxn)) → St := (fun x => [.dep tTxn x.2.2 0])
def laws_markTxnS_vd_je5000009 : (Int × Int × (List dTxn)) → Out × List AV × St := (fun z => (.norm, [.own 0, .int .i64 z.1, .int .i64 z.2.1], [.dep tTxn z.2.2 0]))

theorem laws_markTxnS_vd_jx5000009 (x : (Int × Int × (List dTxn))) : exec G51 ⟨1, 72, laws_markTxnS_vd_loops⟩ (loopBody Try.f54 5000009) (bodyK ⟨1, 72, laws_markTxnS_vd_loops⟩ [0, 1, 5] []) (setEs (deads 72) [0, 1, 5] (laws_markTxnS_vd_jv5000009 x)) (laws_markTxnS_vd_js5000009 x) = laws_markTxnS_vd_j5000009 x (fun z => some ⟨(laws_markTxnS_vd_je5000009 z).1, (laws_markTxnS_vd_je5000009 z).2.1, (laws_markTxnS_vd_je5000009 z).2.2⟩) := by
  kernel_rfl

theorem laws_markTxnS_vd_lo5000009 : ∀ sp, (laws_markTxnS_vd_loops 5000009) = some sp → CutOk G51 ⟨1, 72, laws_markTxnS_vd_loops⟩ sp (loopBody Try.f54 5000009) := by
  intro sp hsp vals st k r h
  cases hsp
  dsimp only at h
  rcases onPats_inv2 h with ⟨p, q, rfl, rfl, h⟩ | h
  · exact cut_runs laws_markTxnS_vd_jp5000009 laws_markTxnS_vd_jv5000009 laws_markTxnS_vd_js5000009 laws_markTxnS_vd_je5000009 laws_markTxnS_vd_jx5000009 (p.2.1, p.2.2.1, q.1) _ k r (fun z => rfl) h
  cases h

def laws_markTxnS_vd_jv5000007 : (Int × Int × (List dTxn)) → List AV := (fun x => [.own 0, .int .i64 x.1, .int .i64 x.2.1])
def laws_markTxnS_vd_js5000007 : (Int × Int × (List dTxn)) → St := (fun x => [.dep tTxn x.2.2 0])
def laws_markTxnS_vd_je5000007 : (Int × Int × (List dTxn)) → Out × List AV × St := (fun z => (.norm, [.own 0, .int .i64 z.1, .int .i64 z.2.1], [.dep tTxn z.2.2 0]))

theorem laws_markTxnS_vd_jx5000007 (x : (Int × Int × (List dTxn))) : exec G51 ⟨1, 72, laws_markTxnS_vd_loops⟩ (loopBody Try.f54 5000007) (bodyK ⟨1, 72, laws_markTxnS_vd_loops⟩ [0, 1, 5] []) (setEs (deads 72) [0, 1, 5] (laws_markTxnS_vd_jv5000007 x)) (laws_markTxnS_vd_js5000007 x) = laws_markTxnS_vd_j5000007 x (fun z => some ⟨(laws_markTxnS_vd_je5000007 z).1, (laws_markTxnS_vd_je5000007 z).2.1, (laws_markTxnS_vd_je5000007 z).2.2⟩) := by
  kernel_rfl

theorem laws_markTxnS_vd_lo5000007 : ∀ sp, (laws_markTxnS_vd_loops 5000007) = some sp → CutOk G51 ⟨1, 72, laws_markTxnS_vd_loops⟩ sp (loopBody Try.f54 5000007) := by
  intro sp hsp vals st k r h
  cases hsp
  dsimp only at h
  rcases onPats_inv2 h with ⟨p, q, rfl, rfl, h⟩ | h
  · exact cut_runs laws_markTxnS_vd_jp5000007 laws_markTxnS_vd_jv5000007 laws_markTxnS_vd_js5000007 laws_markTxnS_vd_je5000007 laws_markTxnS_vd_jx5000007 (p.2.1, p.2.2.1, q.1) _ k r (fun z => rfl) h
  cases h

def laws_markTxnS_vd_jv5000005 : (Int × Int × (List dTxn)) → List AV := (fun x => [.own 0, .int .i64 x.1, .int .i64 x.2.1])
def laws_markTxnS_vd_js5000005 : (Int × Int × (List dTxn)) → St := (fun x => [.dep tTxn x.2.2 0])
def laws_markTxnS_vd_je5000005 : (Int × Int × (List dTxn)) → Out × List AV × St := (fun z => (.norm, [.own 0, .int .i64 z.1, .int .i64 z.2.1], [.dep tTxn z.2.2 0]))

theorem laws_markTxnS_vd_jx5000005 (x : (Int × Int × (List dTxn))) : exec G51 ⟨1, 72, laws_markTxnS_vd_loops⟩ (loopBody Try.f54 5000005) (bodyK ⟨1, 72, laws_markTxnS_vd_loops⟩ [0, 1, 5] []) (setEs (deads 72) [0, 1, 5] (laws_markTxnS_vd_jv5000005 x)) (laws_markTxnS_vd_js5000005 x) = laws_markTxnS_vd_j5000005 x (fun z => some ⟨(laws_markTxnS_vd_je5000005 z).1, (laws_markTxnS_vd_je5000005 z).2.1, (laws_markTxnS_vd_je5000005 z).2.2⟩) := by
  kernel_rfl

theorem laws_markTxnS_vd_lo5000005 : ∀ sp, (laws_markTxnS_vd_loops 5000005) = some sp → CutOk G51 ⟨1, 72, laws_markTxnS_vd_loops⟩ sp (loopBody Try.f54 5000005) := by
  intro sp hsp vals st k r h
  cases hsp
  dsimp only at h
  rcases onPats_inv2 h with ⟨p, q, rfl, rfl, h⟩ | h
  · exact cut_runs laws_markTxnS_vd_jp5000005 laws_markTxnS_vd_jv5000005 laws_markTxnS_vd_js5000005 laws_markTxnS_vd_je5000005 laws_markTxnS_vd_jx5000005 (p.2.1, p.2.2.1, q.1) _ k r (fun z => rfl) h
  cases h

def laws_markTxnS_vd_v0 : (Int × Int × (List dTxn)) → List AV := (fun x => [.own 0, .int .i64 x.1, .int .i64 x.2.1])
def laws_markTxnS_vd_s0 : (Int × Int × (List dTxn)) → St := (fun x => [.dep tTxn x.2.2 0])
def laws_markTxnS_vd_e0 : (Int × Int × (List dTxn)) → Out × List AV × St := (fun z => ((.exit 0), [.own 0, .int .i64 z.1, .int .i64 z.2.1], [.dep tTxn z.2.2 0]))

theorem laws_markTxnS_vd_bx0 (x : (Int × Int × (List dTxn))) : exec G51 ⟨1, 72, laws_markTxnS_vd_loops⟩ (loopBody Try.f54 0) (bodyK ⟨1, 72, laws_markTxnS_vd_loops⟩ [0, 1, 5] []) (setEs (deads 72) [0, 1, 5] (laws_markTxnS_vd_v0 x)) (laws_markTxnS_vd_s0 x) = laws_markTxnS_vd_b0 x (Sum.elim (fun y => some ⟨.norm, laws_markTxnS_vd_v0 y, laws_markTxnS_vd_s0 y⟩) fun z => some ⟨(laws_markTxnS_vd_e0 z).1, (laws_markTxnS_vd_e0 z).2.1, (laws_markTxnS_vd_e0 z).2.2⟩) := by
  kernel_rfl

theorem laws_markTxnS_vd_lo0 : ∀ sp, (laws_markTxnS_vd_loops 0) = some sp → LoopOk G51 ⟨1, 72, laws_markTxnS_vd_loops⟩ sp (loopBody Try.f54 0) := by
  intro sp hsp vals st k r h
  cases hsp
  dsimp only at h
  rcases onPats_inv2 h with ⟨p, q, rfl, rfl, h⟩ | h
  · exact loop_runs2 laws_markTxnS_vd_bp0 laws_markTxnS_vd_v0 laws_markTxnS_vd_s0 laws_markTxnS_vd_e0 (fun z => by (intro h; cases h)) laws_markTxnS_vd_bx0 Fuel (p.2.1, p.2.2.1, q.1) _ k r (fun z => rfl) h
  cases h

theorem laws_markTxnS_vd_y (a0 : Int) (a1 : (List dTxn)) : execFn G51 laws_markTxnS_vd_loops Try.f54 [.own 0, .int .i64 a0] [.dep tTxn a1 0] = laws_markTxnS_vd_k a0 a1 (fun (y : (Int × (List dTxn))) => some ⟨.ret, [.int .i64 y.1], [.dep tTxn y.2 0]⟩) := by rw [laws_markTxnS_vd_e]; kernel_rfl

theorem laws_markTxnS_vd_l : LoopsOk G51 ⟨1, 72, laws_markTxnS_vd_loops⟩ (Try.f54.body.getD .skip) :=
  loopsOk_of (ids := [5000003, 5000017, 5000015, 5000011, 5000009, 5000007, 5000005, 0]) (by kernel_rfl) (by kernel_rfl) ⟨laws_markTxnS_vd_lo5000003, ⟨laws_markTxnS_vd_lo5000017, ⟨laws_markTxnS_vd_lo5000015, ⟨laws_markTxnS_vd_lo5000011, ⟨laws_markTxnS_vd_lo5000009, ⟨laws_markTxnS_vd_lo5000007, ⟨laws_markTxnS_vd_lo5000005, ⟨laws_markTxnS_vd_lo0, trivial⟩⟩⟩⟩⟩⟩⟩⟩

theorem laws_markTxnS_c : Contract Try.prog 54 laws_markTxnS_g := by
  refine told G51_ok follows Try.func54 (c := Try.f54.body.getD .skip) (by kernel_rfl) ?_
  intro args s k r hk
  unfold laws_markTxnS_g at hk
  rcases onPats_inv hk with ⟨p, q, rfl, rfl⟩ | hk
  · exact ⟨laws_markTxnS_vd_loops, laws_markTxnS_vd_q p.2.1 q.1, laws_markTxnS_vd_y p.2.1 q.1, laws_markTxnS_vd_l⟩
  cases hk

def G52 : Glob := G51.add 54 laws_markTxnS_g

theorem G52_ok : GlobOk Try.prog G52 := G51_ok.add ⟨Try.f54, Try.func54, by kernel_rfl, by kernel_rfl⟩ laws_markTxnS_c



def laws_markBase_vAodd_loops : Nat → Option LoopSpec
  | _ => none

theorem laws_markBase_vAodd_y (a0 : Int) (a1 : Int) (a2 : Int) (a3 : (List dVersion)) (a4 : (List dTxn)) (a5 : (List dTxn)) : execFn G52 laws_markBase_vAodd_loops Try.f53 [.agg [.own 0, .own 1, .own 2, .int .i64 a0, .int .i64 a1], .int .i64 a2] [.arr tVersion a3, .dep tTxn a4 0, .dep tTxn a5 0] = laws_markBase_vAodd_k a0 a1 a2 a3 a4 a5 (fun (y : (Int × (List dVersion) × (List dTxn) × (List dTxn))) => some ⟨.ret, [.int .i64 y.1], [.arr tVersion y.2.1, .dep tTxn y.2.2.1 0, .dep tTxn y.2.2.2 0]⟩) := by rw [laws_markBase_vAodd_e]; kernel_rfl

theorem laws_markBase_vAodd_l : LoopsOk G52 ⟨3, 18, laws_markBase_vAodd_loops⟩ (Try.f53.body.getD .skip) :=
  loopsOk_of (ids := []) (by kernel_rfl) (by kernel_rfl) trivial

theorem laws_markBase_c : Contract Try.prog 53 laws_markBase_g := by
  refine told G52_ok follows Try.func53 (c := Try.f53.body.getD .skip) (by kernel_rfl) ?_
  intro args s k r hk
  unfold laws_markBase_g at hk
  rcases onPats_inv hk with ⟨p, q, rfl, rfl⟩ | hk
  · exact ⟨laws_markBase_vAodd_loops, laws_markBase_vAodd_q p.1.2.2.2.1 p.1.2.2.2.2.1 p.2.1 q.1 q.2.1 q.2.2.1, laws_markBase_vAodd_y p.1.2.2.2.1 p.1.2.2.2.2.1 p.2.1 q.1 q.2.1 q.2.2.1, laws_markBase_vAodd_l⟩
  cases hk

def G53 : Glob := G52.add 53 laws_markBase_g

theorem G53_ok : GlobOk Try.prog G53 := G52_ok.add ⟨Try.f53, Try.func53, by kernel_rfl, by kernel_rfl⟩ laws_markBase_c



def laws_markEngine_vAoddd_loops : Nat → Option LoopSpec
  | _ => none

theorem laws_markEngine_vAoddd_y (a0 : Int) (a1 : Int) (a2 : Int) (a3 : (List dVersion)) (a4 : (List dTxn)) (a5 : (List dTxn)) (a6 : (List dTxn)) : execFn G53 laws_markEngine_vAoddd_loops Try.f66 [.agg [.own 0, .own 1, .own 2, .int .i64 a0, .int .i64 a1, .own 3], .int .i64 a2] [.arr tVersion a3, .dep tTxn a4 0, .dep tTxn a5 0, .dep tTxn a6 0] = laws_markEngine_vAoddd_k a0 a1 a2 a3 a4 a5 a6 (fun (y : (Int × (List dVersion) × (List dTxn) × (List dTxn) × (List dTxn))) => some ⟨.ret, [.int .i64 y.1], [.arr tVersion y.2.1, .dep tTxn y.2.2.1 0, .dep tTxn y.2.2.2.1 0, .dep tTxn y.2.2.2.2 0]⟩) := by rw [laws_markEngine_vAoddd_e]; kernel_rfl

theorem laws_markEngine_vAoddd_l : LoopsOk G53 ⟨4, 14, laws_markEngine_vAoddd_loops⟩ (Try.f66.body.getD .skip) :=
  loopsOk_of (ids := []) (by kernel_rfl) (by kernel_rfl) trivial

theorem laws_markEngine_c : Contract Try.prog 66 laws_markEngine_g := by
  refine told G53_ok follows Try.func66 (c := Try.f66.body.getD .skip) (by kernel_rfl) ?_
  intro args s k r hk
  unfold laws_markEngine_g at hk
  rcases onPats_inv hk with ⟨p, q, rfl, rfl⟩ | hk
  · exact ⟨laws_markEngine_vAoddd_loops, laws_markEngine_vAoddd_q p.1.2.2.2.1 p.1.2.2.2.2.1 p.2.1 q.1 q.2.1 q.2.2.1 q.2.2.2.1, laws_markEngine_vAoddd_y p.1.2.2.2.1 p.1.2.2.2.2.1 p.2.1 q.1 q.2.1 q.2.2.1 q.2.2.2.1, laws_markEngine_vAoddd_l⟩
  cases hk

def G54 : Glob := G53.add 66 laws_markEngine_g

theorem G54_ok : GlobOk Try.prog G54 := G53_ok.add ⟨Try.f66, Try.func66, by kernel_rfl, by kernel_rfl⟩ laws_markEngine_c



def laws_markStringS_vo_loops : Nat → Option LoopSpec
  | 0 => some ⟨[0, 1, 5], [], fun vals st k => onPats [.own 0, .int .i64, .int .i64] [.arr .str] vals st (fun p q => loopK laws_markStringS_vo_b0 Fuel (p.2.1, p.2.2.1, q.1) (fun z => k (.exit 0) [.own 0, .int .i64 z.1, .int .i64 z.2.1] [.arr .str z.2.2]))
      (none)⟩
  | _ => none

def laws_markStringS_vo_v0 : (Int × Int × (List ByteArray)) → List AV := (fun x => [.own 0, .int .i64 x.1, .int .i64 x.2.1])
def laws_markStringS_vo_s0 : (Int × Int × (List ByteArray)) → St := (fun x => [.arr .str x.2.2])
def laws_markStringS_vo_e0 : (Int × Int × (List ByteArray)) → Out × List AV × St := (fun z => ((.exit 0), [.own 0, .int .i64 z.1, .int .i64 z.2.1], [.arr .str z.2.2]))

theorem laws_markStringS_vo_bx0 (x : (Int × Int × (List ByteArray))) : exec G54 ⟨1, 20, laws_markStringS_vo_loops⟩ (loopBody Try.f21 0) (bodyK ⟨1, 20, laws_markStringS_vo_loops⟩ [0, 1, 5] []) (setEs (deads 20) [0, 1, 5] (laws_markStringS_vo_v0 x)) (laws_markStringS_vo_s0 x) = laws_markStringS_vo_b0 x (Sum.elim (fun y => some ⟨.norm, laws_markStringS_vo_v0 y, laws_markStringS_vo_s0 y⟩) fun z => some ⟨(laws_markStringS_vo_e0 z).1, (laws_markStringS_vo_e0 z).2.1, (laws_markStringS_vo_e0 z).2.2⟩) := by
  kernel_rfl

theorem laws_markStringS_vo_lo0 : ∀ sp, (laws_markStringS_vo_loops 0) = some sp → LoopOk G54 ⟨1, 20, laws_markStringS_vo_loops⟩ sp (loopBody Try.f21 0) := by
  intro sp hsp vals st k r h
  cases hsp
  dsimp only at h
  rcases onPats_inv2 h with ⟨p, q, rfl, rfl, h⟩ | h
  · exact loop_runs2 laws_markStringS_vo_bp0 laws_markStringS_vo_v0 laws_markStringS_vo_s0 laws_markStringS_vo_e0 (fun z => by (intro h; cases h)) laws_markStringS_vo_bx0 Fuel (p.2.1, p.2.2.1, q.1) _ k r (fun z => rfl) h
  cases h

theorem laws_markStringS_vo_y (a0 : Int) (a1 : (List ByteArray)) : execFn G54 laws_markStringS_vo_loops Try.f21 [.own 0, .int .i64 a0] [.arr .str a1] = laws_markStringS_vo_k a0 a1 (fun (y : (Int × (List ByteArray))) => some ⟨.ret, [.int .i64 y.1], [.arr .str y.2]⟩) := by rw [laws_markStringS_vo_e]; kernel_rfl

theorem laws_markStringS_vo_l : LoopsOk G54 ⟨1, 20, laws_markStringS_vo_loops⟩ (Try.f21.body.getD .skip) :=
  loopsOk_of (ids := [0]) (by kernel_rfl) (by kernel_rfl) ⟨laws_markStringS_vo_lo0, trivial⟩

theorem laws_markStringS_c : Contract Try.prog 21 laws_markStringS_g := by
  refine told G54_ok follows Try.func21 (c := Try.f21.body.getD .skip) (by kernel_rfl) ?_
  intro args s k r hk
  unfold laws_markStringS_g at hk
  rcases onPats_inv hk with ⟨p, q, rfl, rfl⟩ | hk
  · exact ⟨laws_markStringS_vo_loops, laws_markStringS_vo_q p.2.1 q.1, laws_markStringS_vo_y p.2.1 q.1, laws_markStringS_vo_l⟩
  cases hk

def G55 : Glob := G54.add 21 laws_markStringS_g

theorem G55_ok : GlobOk Try.prog G55 := G54_ok.add ⟨Try.f21, Try.func21, by kernel_rfl, by kernel_rfl⟩ laws_markStringS_c



def laws_markPutS_vo_loops : Nat → Option LoopSpec
  | 0 => some ⟨[0, 1, 5], [], fun vals st k => onPats [.own 0, .int .i64, .int .i64] [.arr tPut] vals st (fun p q => loopK laws_markPutS_vo_b0 Fuel (p.2.1, p.2.2.1, q.1) (fun z => k (.exit 0) [.own 0, .int .i64 z.1, .int .i64 z.2.1] [.arr tPut z.2.2]))
      (none)⟩
  | _ => none

def laws_markPutS_vo_v0 : (Int × Int × (List dPut)) → List AV := (fun x => [.own 0, .int .i64 x.1, .int .i64 x.2.1])
def laws_markPutS_vo_s0 : (Int × Int × (List dPut)) → St := (fun x => [.arr tPut x.2.2])
def laws_markPutS_vo_e0 : (Int × Int × (List dPut)) → Out × List AV × St := (fun z => ((.exit 0), [.own 0, .int .i64 z.1, .int .i64 z.2.1], [.arr tPut z.2.2]))

theorem laws_markPutS_vo_bx0 (x : (Int × Int × (List dPut))) : exec G55 ⟨1, 28, laws_markPutS_vo_loops⟩ (loopBody Try.f163 0) (bodyK ⟨1, 28, laws_markPutS_vo_loops⟩ [0, 1, 5] []) (setEs (deads 28) [0, 1, 5] (laws_markPutS_vo_v0 x)) (laws_markPutS_vo_s0 x) = laws_markPutS_vo_b0 x (Sum.elim (fun y => some ⟨.norm, laws_markPutS_vo_v0 y, laws_markPutS_vo_s0 y⟩) fun z => some ⟨(laws_markPutS_vo_e0 z).1, (laws_markPutS_vo_e0 z).2.1, (laws_markPutS_vo_e0 z).2.2⟩) := by
  kernel_rfl

theorem laws_markPutS_vo_lo0 : ∀ sp, (laws_markPutS_vo_loops 0) = some sp → LoopOk G55 ⟨1, 28, laws_markPutS_vo_loops⟩ sp (loopBody Try.f163 0) := by
  intro sp hsp vals st k r h
  cases hsp
  dsimp only at h
  rcases onPats_inv2 h with ⟨p, q, rfl, rfl, h⟩ | h
  · exact loop_runs2 laws_markPutS_vo_bp0 laws_markPutS_vo_v0 laws_markPutS_vo_s0 laws_markPutS_vo_e0 (fun z => by (intro h; cases h)) laws_markPutS_vo_bx0 Fuel (p.2.1, p.2.2.1, q.1) _ k r (fun z => rfl) h
  cases h

theorem laws_markPutS_vo_y (a0 : Int) (a1 : (List dPut)) : execFn G55 laws_markPutS_vo_loops Try.f163 [.own 0, .int .i64 a0] [.arr tPut a1] = laws_markPutS_vo_k a0 a1 (fun (y : (Int × (List dPut))) => some ⟨.ret, [.int .i64 y.1], [.arr tPut y.2]⟩) := by rw [laws_markPutS_vo_e]; kernel_rfl

theorem laws_markPutS_vo_l : LoopsOk G55 ⟨1, 28, laws_markPutS_vo_loops⟩ (Try.f163.body.getD .skip) :=
  loopsOk_of (ids := [0]) (by kernel_rfl) (by kernel_rfl) ⟨laws_markPutS_vo_lo0, trivial⟩

theorem laws_markPutS_c : Contract Try.prog 163 laws_markPutS_g := by
  refine told G55_ok follows Try.func163 (c := Try.f163.body.getD .skip) (by kernel_rfl) ?_
  intro args s k r hk
  unfold laws_markPutS_g at hk
  rcases onPats_inv hk with ⟨p, q, rfl, rfl⟩ | hk
  · exact ⟨laws_markPutS_vo_loops, laws_markPutS_vo_q p.2.1 q.1, laws_markPutS_vo_y p.2.1 q.1, laws_markPutS_vo_l⟩
  cases hk

def G56 : Glob := G55.add 163 laws_markPutS_g

theorem G56_ok : GlobOk Try.prog G56 := G55_ok.add ⟨Try.f163, Try.func163, by kernel_rfl, by kernel_rfl⟩ laws_markPutS_c



def laws_markDisk_va_loops : Nat → Option LoopSpec
  | _ => none

theorem laws_markDisk_va_y (a0 : Int) (a1 : (List ByteArray)) (a2 : (List dPut)) : execFn G56 laws_markDisk_va_loops Try.f75 [.agg [.own 0, .own 1], .int .i64 a0] [.arr .str a1, .arr tPut a2] = laws_markDisk_va_k a0 a1 a2 (fun (y : (Int × (List ByteArray) × (List dPut))) => some ⟨.ret, [.int .i64 y.1], [.arr .str y.2.1, .arr tPut y.2.2]⟩) := by rw [laws_markDisk_va_e]; kernel_rfl

theorem laws_markDisk_va_l : LoopsOk G56 ⟨2, 14, laws_markDisk_va_loops⟩ (Try.f75.body.getD .skip) :=
  loopsOk_of (ids := []) (by kernel_rfl) (by kernel_rfl) trivial

theorem laws_markDisk_c : Contract Try.prog 75 laws_markDisk_g := by
  refine told G56_ok follows Try.func75 (c := Try.f75.body.getD .skip) (by kernel_rfl) ?_
  intro args s k r hk
  unfold laws_markDisk_g at hk
  rcases onPats_inv hk with ⟨p, q, rfl, rfl⟩ | hk
  · exact ⟨laws_markDisk_va_loops, laws_markDisk_va_q p.2.1 q.1 q.2.1, laws_markDisk_va_y p.2.1 q.1 q.2.1, laws_markDisk_va_l⟩
  cases hk

def G57 : Glob := G56.add 75 laws_markDisk_g

theorem G57_ok : GlobOk Try.prog G57 := G56_ok.add ⟨Try.f75, Try.func75, by kernel_rfl, by kernel_rfl⟩ laws_markDisk_c



def laws_markStore_vAodddoo_loops : Nat → Option LoopSpec
  | _ => none

theorem laws_markStore_vAodddoo_y (a0 : Int) (a1 : Int) (a2 : Int) (a3 : (List dVersion)) (a4 : (List dTxn)) (a5 : (List dTxn)) (a6 : (List dTxn)) (a7 : (List ByteArray)) (a8 : (List dPut)) : execFn G57 laws_markStore_vAodddoo_loops Try.f20 [.agg [.own 0, .own 1, .own 2, .int .i64 a0, .int .i64 a1, .own 3, .own 4, .own 5], .int .i64 a2] [.arr tVersion a3, .dep tTxn a4 0, .dep tTxn a5 0, .dep tTxn a6 0, .arr .str a7, .arr tPut a8] = laws_markStore_vAodddoo_k a0 a1 a2 a3 a4 a5 a6 a7 a8 (fun (y : (Int × (List dVersion) × (List dTxn) × (List dTxn) × (List dTxn) × (List ByteArray) × (List dPut))) => some ⟨.ret, [.int .i64 y.1], [.arr tVersion y.2.1, .dep tTxn y.2.2.1 0, .dep tTxn y.2.2.2.1 0, .dep tTxn y.2.2.2.2.1 0, .arr .str y.2.2.2.2.2.1, .arr tPut y.2.2.2.2.2.2]⟩) := by rw [laws_markStore_vAodddoo_e]; kernel_rfl

theorem laws_markStore_vAodddoo_l : LoopsOk G57 ⟨6, 14, laws_markStore_vAodddoo_loops⟩ (Try.f20.body.getD .skip) :=
  loopsOk_of (ids := []) (by kernel_rfl) (by kernel_rfl) trivial

theorem laws_markStore_c : Contract Try.prog 20 laws_markStore_g := by
  refine told G57_ok follows Try.func20 (c := Try.f20.body.getD .skip) (by kernel_rfl) ?_
  intro args s k r hk
  unfold laws_markStore_g at hk
  rcases onPats_inv hk with ⟨p, q, rfl, rfl⟩ | hk
  · exact ⟨laws_markStore_vAodddoo_loops, laws_markStore_vAodddoo_q p.1.2.2.2.1 p.1.2.2.2.2.1 p.2.1 q.1 q.2.1 q.2.2.1 q.2.2.2.1 q.2.2.2.2.1 q.2.2.2.2.2.1, laws_markStore_vAodddoo_y p.1.2.2.2.1 p.1.2.2.2.2.1 p.2.1 q.1 q.2.1 q.2.2.1 q.2.2.2.1 q.2.2.2.2.1 q.2.2.2.2.2.1, laws_markStore_vAodddoo_l⟩
  cases hk

def G58 : Glob := G57.add 20 laws_markStore_g

theorem G58_ok : GlobOk Try.prog G58 := G57_ok.add ⟨Try.f20, Try.func20, by kernel_rfl, by kernel_rfl⟩ laws_markStore_c



def laws_heldStringS_loops : Nat → Option LoopSpec
  | 0 => some ⟨[0, 1, 4, 5], [], fun vals st k => onPats [.lst .str, .int .i64, .int .i64, .int .i64] [] vals st (fun p q => loopK laws_heldStringS_b0 Fuel (p.1, p.2.1, p.2.2.1, p.2.2.2.1) (Sum.elim (fun z => k .ret [.lst .str z.1, .int .i64 z.2.1, .int .i64 z.2.2.1, .int .i64 z.2.2.2] []) (fun z => k (.exit 0) [.lst .str z.1, .int .i64 z.2.1, .int .i64 z.2.2.1, .int .i64 z.2.2.2] [])))
      (none)⟩
  | _ => none

def laws_heldStringS_v0 : ((List ByteArray) × Int × Int × Int) → List AV := (fun x => [.lst .str x.1, .int .i64 x.2.1, .int .i64 x.2.2.1, .int .i64 x.2.2.2])
def laws_heldStringS_s0 : ((List ByteArray) × Int × Int × Int) → St := (fun x => [])
def laws_heldStringS_e0 : (((List ByteArray) × Int × Int × Int) ⊕ ((List ByteArray) × Int × Int × Int)) → Out × List AV × St := (Sum.elim (fun z => (.ret, [.lst .str z.1, .int .i64 z.2.1, .int .i64 z.2.2.1, .int .i64 z.2.2.2], [])) (fun z => ((.exit 0), [.lst .str z.1, .int .i64 z.2.1, .int .i64 z.2.2.1, .int .i64 z.2.2.2], [])))

theorem laws_heldStringS_bx0 (x : ((List ByteArray) × Int × Int × Int)) : exec G58 ⟨0, 22, laws_heldStringS_loops⟩ (loopBody Try.f22 0) (bodyK ⟨0, 22, laws_heldStringS_loops⟩ [0, 1, 4, 5] []) (setEs (deads 22) [0, 1, 4, 5] (laws_heldStringS_v0 x)) (laws_heldStringS_s0 x) = laws_heldStringS_b0 x (Sum.elim (fun y => some ⟨.norm, laws_heldStringS_v0 y, laws_heldStringS_s0 y⟩) fun z => some ⟨(laws_heldStringS_e0 z).1, (laws_heldStringS_e0 z).2.1, (laws_heldStringS_e0 z).2.2⟩) := by
  kernel_rfl

theorem laws_heldStringS_lo0 : ∀ sp, (laws_heldStringS_loops 0) = some sp → LoopOk G58 ⟨0, 22, laws_heldStringS_loops⟩ sp (loopBody Try.f22 0) := by
  intro sp hsp vals st k r h
  cases hsp
  dsimp only at h
  rcases onPats_inv2 h with ⟨p, q, rfl, rfl, h⟩ | h
  · exact loop_runs2 laws_heldStringS_bp0 laws_heldStringS_v0 laws_heldStringS_s0 laws_heldStringS_e0 (fun z => by rcases z with z | z <;> (intro h; cases h)) laws_heldStringS_bx0 Fuel (p.1, p.2.1, p.2.2.1, p.2.2.2.1) _ k r (fun z => by rcases z with z | z <;> rfl) h
  cases h

theorem laws_heldStringS_y (a0 : (List ByteArray)) (a1 : Int) : execFn G58 laws_heldStringS_loops Try.f22 [.lst .str a0, .int .i64 a1] [] = laws_heldStringS_k a0 a1 (fun (y : Int) => some ⟨.ret, [.int .i64 y], []⟩) := by rw [laws_heldStringS_e]; kernel_rfl

theorem laws_heldStringS_l : LoopsOk G58 ⟨0, 22, laws_heldStringS_loops⟩ (Try.f22.body.getD .skip) :=
  loopsOk_of (ids := [0]) (by kernel_rfl) (by kernel_rfl) ⟨laws_heldStringS_lo0, trivial⟩

theorem laws_heldStringS_c : Contract Try.prog 22 laws_heldStringS_g := by
  refine told G58_ok follows Try.func22 (c := Try.f22.body.getD .skip) (by kernel_rfl) ?_
  intro args s k r hk
  unfold laws_heldStringS_g at hk
  rcases onPats_inv hk with ⟨p, q, rfl, rfl⟩ | hk
  · exact ⟨laws_heldStringS_loops, laws_heldStringS_q p.1 p.2.1, laws_heldStringS_y p.1 p.2.1, laws_heldStringS_l⟩
  cases hk

def G59 : Glob := G58.add 22 laws_heldStringS_g

theorem G59_ok : GlobOk Try.prog G59 := G58_ok.add ⟨Try.f22, Try.func22, by kernel_rfl, by kernel_rfl⟩ laws_heldStringS_c



def laws_FnExactInDoubt_loops : Nat → Option LoopSpec
  | 5000016 => some ⟨[1, 2, 4, 6], [], fun vals st k => onPats [.bp 0 0, .bool, .own 1, .own 2] [.box [.lst tVersion, .lst tTxn, .lst tTxn, .int .i64, .int .i64, .lst tTxn, .lst .str, .lst tPut], .arr .str, .arr .str] vals st (fun p q => laws_FnExactInDoubt_j5000016 (p.2.1, q.1.1, q.1.2.1, q.1.2.2.1, q.1.2.2.2.1, q.1.2.2.2.2.1, q.1.2.2.2.2.2.1, q.1.2.2.2.2.2.2.1, q.1.2.2.2.2.2.2.2.1, q.2.1, q.2.2.1) (fun z => k .ret [.bp 0 0, .bool z.1, .own 1, .own 2] [.box [.lst tVersion z.2.1, .lst tTxn z.2.2.1, .lst tTxn z.2.2.2.1, .int .i64 z.2.2.2.2.1, .int .i64 z.2.2.2.2.2.1, .lst tTxn z.2.2.2.2.2.2.1, .lst .str z.2.2.2.2.2.2.2.1, .lst tPut z.2.2.2.2.2.2.2.2.1], .arr .str z.2.2.2.2.2.2.2.2.2.1, .arr .str z.2.2.2.2.2.2.2.2.2.2]))
      (none)⟩
  | _ => none

def laws_FnExactInDoubt_jv5000016 : (Bool × (List dVersion) × (List dTxn) × (List dTxn) × Int × Int × (List dTxn) × (List ByteArray) × (List dPut) × (List ByteArray) × (List ByteArray)) → List AV := (fun x => [.bp 0 0, .bool x.1, .own 1, .own 2])
def laws_FnExactInDoubt_js5000016 : (Bool × (List dVersion) × (List dTxn) × (List dTxn) × Int × Int × (List dTxn) × (List ByteArray) × (List dPut) × (List ByteArray) × (List ByteArray)) → St := (fun x => [.box [.lst tVersion x.2.1, .lst tTxn x.2.2.1, .lst tTxn x.2.2.2.1, .int .i64 x.2.2.2.2.1, .int .i64 x.2.2.2.2.2.1, .lst tTxn x.2.2.2.2.2.2.1, .lst .str x.2.2.2.2.2.2.2.1, .lst tPut x.2.2.2.2.2.2.2.2.1], .arr .str x.2.2.2.2.2.2.2.2.2.1, .arr .str x.2.2.2.2.2.2.2.2.2.2])
def laws_FnExactInDoubt_je5000016 : (Bool × (List dVersion) × (List dTxn) × (List dTxn) × Int × Int × (List dTxn) × (List ByteArray) × (List dPut) × (List ByteArray) × (List ByteArray)) → Out × List AV × St := (fun z => (.ret, [.bp 0 0, .bool z.1, .own 1, .own 2], [.box [.lst tVersion z.2.1, .lst tTxn z.2.2.1, .lst tTxn z.2.2.2.1, .int .i64 z.2.2.2.2.1, .int .i64 z.2.2.2.2.2.1, .lst tTxn z.2.2.2.2.2.2.1, .lst .str z.2.2.2.2.2.2.2.1, .lst tPut z.2.2.2.2.2.2.2.2.1], .arr .str z.2.2.2.2.2.2.2.2.2.1, .arr .str z.2.2.2.2.2.2.2.2.2.2]))

theorem laws_FnExactInDoubt_jx5000016 (x : (Bool × (List dVersion) × (List dTxn) × (List dTxn) × Int × Int × (List dTxn) × (List ByteArray) × (List dPut) × (List ByteArray) × (List ByteArray))) : exec G59 ⟨0, 69, laws_FnExactInDoubt_loops⟩ (loopBody Try.f3 5000016) (bodyK ⟨0, 69, laws_FnExactInDoubt_loops⟩ [1, 2, 4, 6] []) (setEs (deads 69) [1, 2, 4, 6] (laws_FnExactInDoubt_jv5000016 x)) (laws_FnExactInDoubt_js5000016 x) = laws_FnExactInDoubt_j5000016 x (fun z => some ⟨(laws_FnExactInDoubt_je5000016 z).1, (laws_FnExactInDoubt_je5000016 z).2.1, (laws_FnExactInDoubt_je5000016 z).2.2⟩) := by
  kernel_rfl

theorem laws_FnExactInDoubt_lo5000016 : ∀ sp, (laws_FnExactInDoubt_loops 5000016) = some sp → CutOk G59 ⟨0, 69, laws_FnExactInDoubt_loops⟩ sp (loopBody Try.f3 5000016) := by
  intro sp hsp vals st k r h
  cases hsp
  dsimp only at h
  rcases onPats_inv2 h with ⟨p, q, rfl, rfl, h⟩ | h
  · exact cut_runs laws_FnExactInDoubt_jp5000016 laws_FnExactInDoubt_jv5000016 laws_FnExactInDoubt_js5000016 laws_FnExactInDoubt_je5000016 laws_FnExactInDoubt_jx5000016 (p.2.1, q.1.1, q.1.2.1, q.1.2.2.1, q.1.2.2.2.1, q.1.2.2.2.2.1, q.1.2.2.2.2.2.1, q.1.2.2.2.2.2.2.1, q.1.2.2.2.2.2.2.2.1, q.2.1, q.2.2.1) _ k r (fun z => rfl) h
  cases h

theorem laws_FnExactInDoubt_y (a0 : (List dVersion)) (a1 : (List dTxn)) (a2 : (List dTxn)) (a3 : Int) (a4 : Int) (a5 : (List dTxn)) (a6 : (List ByteArray)) (a7 : (List dPut)) : execFn G59 laws_FnExactInDoubt_loops Try.f3 [.agg [.lst tVersion a0, .lst tTxn a1, .lst tTxn a2, .int .i64 a3, .int .i64 a4, .lst tTxn a5, .lst .str a6, .lst tPut a7]] [] = laws_FnExactInDoubt_k (((a0, (a1, (a2, (a3, a4)))), a5), (a6, a7)) (fun (y : Bool) => some ⟨.ret, [.bool y], []⟩) := by rw [laws_FnExactInDoubt_e]; kernel_rfl

theorem laws_FnExactInDoubt_l : LoopsOk G59 ⟨0, 69, laws_FnExactInDoubt_loops⟩ (Try.f3.body.getD .skip) :=
  loopsOk_of (ids := [5000016]) (by kernel_rfl) (by kernel_rfl) ⟨laws_FnExactInDoubt_lo5000016, trivial⟩

theorem laws_FnExactInDoubt_c : Contract Try.prog 3 laws_FnExactInDoubt_g := by
  refine told G59_ok follows Try.func3 (c := Try.f3.body.getD .skip) (by kernel_rfl) ?_
  intro args s k r hk
  unfold laws_FnExactInDoubt_g at hk
  rcases onPats_inv hk with ⟨p, q, rfl, rfl⟩ | hk
  · exact ⟨laws_FnExactInDoubt_loops, laws_FnExactInDoubt_q p.1.1 p.1.2.1 p.1.2.2.1 p.1.2.2.2.1 p.1.2.2.2.2.1 p.1.2.2.2.2.2.1 p.1.2.2.2.2.2.2.1 p.1.2.2.2.2.2.2.2.1, laws_FnExactInDoubt_y p.1.1 p.1.2.1 p.1.2.2.1 p.1.2.2.2.1 p.1.2.2.2.2.1 p.1.2.2.2.2.2.1 p.1.2.2.2.2.2.2.1 p.1.2.2.2.2.2.2.2.1, laws_FnExactInDoubt_l⟩
  cases hk

def G60 : Glob := G59.add 3 laws_FnExactInDoubt_g

theorem G60_ok : GlobOk Try.prog G60 := G59_ok.add ⟨Try.f3, Try.func3, by kernel_rfl, by kernel_rfl⟩ laws_FnExactInDoubt_c

end

end Go.VE
